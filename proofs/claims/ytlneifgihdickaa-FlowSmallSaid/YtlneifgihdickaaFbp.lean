/- Fbp: distances found wave by wave, in plain Lean. No program in sight. -/
import Derived.Test.YtlneifgihdickaaFlp
namespace Go.Fx
/-- How many are not reached yet. -/
def noneC (out : List Int) : Nat := (out.filter (fun x => decide (x < 0))).length
theorem noneC_set : ∀ {out : List Int} {v : Nat} {x y : Int}, out[v]? = some x → x < 0 → 0 ≤ y → noneC (out.set v y) + 1 = noneC out
  | [], _, _, _, h, _, _ => by simp at h
  | a :: l, 0, x, y, h, h1, h2 => by
    simp at h
    subst h
    unfold noneC
    rw [List.set_cons_zero, List.filter_cons, List.filter_cons, if_neg (by simp; omega), if_pos (by simp; omega), List.length_cons]
  | a :: l, v + 1, x, y, h, h1, h2 => by
    have ih := noneC_set (out := l) (v := v) (y := y) (by simpa using h) h1 h2
    unfold noneC at ih ⊢
    rw [List.set_cons_succ, List.filter_cons, List.filter_cons]
    split
    · rw [List.length_cons, List.length_cons]; omega
    · exact ih
/-- Between two instructions: the queue. -/
structure Bfs (E : Nat → Nat → Prop) (n : Nat) (out : List Int) (Q : List Nat) (b : Int) : Prop where
  len : out.length = n
  at0 : out[0]? = some 0
  low : ∀ {v : Nat} {x : Int}, out[v]? = some x → x = -1 ∨ (x = 0 ∧ v = 0) ∨ (0 < x ∧ ∃ u, E u v ∧ out[u]? = some (x - 1))
  top : ∀ {v : Nat} {x : Int}, out[v]? = some x → x ≤ b + 1
  b0 : 0 ≤ b
  q : ∃ Q1 Q2, Q = Q1 ++ Q2 ∧ (∀ v ∈ Q1, out[v]? = some b) ∧ ∀ v ∈ Q2, out[v]? = some (b + 1)
  done : ∀ {u : Nat} {x : Int}, out[u]? = some x → 0 ≤ x → u ∉ Q → ∀ v, E u v → ∃ y, out[v]? = some y ∧ 0 ≤ y ∧ y ≤ x + 1
/-- While the edges of i are told: those of P were. -/
structure BfsI (E : Nat → Nat → Prop) (n : Nat) (out : List Int) (Q : List Nat) (b : Int) (i : Nat) (P : List Nat) : Prop where
  len : out.length = n
  at0 : out[0]? = some 0
  low : ∀ {v : Nat} {x : Int}, out[v]? = some x → x = -1 ∨ (x = 0 ∧ v = 0) ∨ (0 < x ∧ ∃ u, E u v ∧ out[u]? = some (x - 1))
  top : ∀ {v : Nat} {x : Int}, out[v]? = some x → x ≤ b + 1
  b0 : 0 ≤ b
  q : ∃ Q1 Q2, Q = Q1 ++ Q2 ∧ (∀ v ∈ Q1, out[v]? = some b) ∧ ∀ v ∈ Q2, out[v]? = some (b + 1)
  it : out[i]? = some b
  done : ∀ {u : Nat} {x : Int}, out[u]? = some x → 0 ≤ x → u ∉ Q → u ≠ i → ∀ v, E u v → ∃ y, out[v]? = some y ∧ 0 ≤ y ∧ y ≤ x + 1
  pr : ∀ v ∈ P, ∃ y, out[v]? = some y ∧ 0 ≤ y ∧ y ≤ b + 1
section
variable {E : Nat → Nat → Prop} {n : Nat} {out : List Int} {Q P : List Nat} {b : Int} {i v : Nat}
theorem Bfs.begin (hn : 0 < n) : Bfs E n ((List.replicate n (-1 : Int)).set 0 0) [0] 0 := by
  have hg : ∀ k, ((List.replicate n (-1 : Int)).set 0 0)[k]? = if k = 0 then some 0 else if k < n then some (-1) else none := fun k => by
    rw [List.getElem?_set]
    by_cases hk : k = 0
    · subst hk; simp [hn]
    · rw [if_neg (fun e => hk e.symm), if_neg hk, List.getElem?_replicate]
  refine ⟨by simp, by rw [hg, if_pos rfl], fun {v x} h => ?_, fun {v x} h => ?_, by omega, ⟨[0], [], rfl, fun v hv => ?_, by simp⟩, fun {u x} h hx hu => ?_⟩
  · rw [hg] at h
    split at h
    · cases h; exact .inr (.inl ⟨rfl, by assumption⟩)
    · split at h <;> cases h
      exact .inl rfl
  · rw [hg] at h
    split at h
    · cases h; omega
    · split at h <;> cases h
      omega
  · obtain rfl : v = 0 := by simpa using hv
    rw [hg, if_pos rfl]
  · rw [hg, if_neg (by simpa using hu)] at h
    split at h <;> cases h
    omega
theorem Bfs.pop (h : Bfs E n out (i :: Q) b) : ∃ b', b' ≤ b + 1 ∧ BfsI E n out Q b' i [] := by
  obtain ⟨Q1, Q2, hq, h1, h2⟩ := h.q
  have hd : ∀ {u : Nat} {x : Int}, out[u]? = some x → 0 ≤ x → u ∉ Q → u ≠ i → ∀ v, E u v → ∃ y, out[v]? = some y ∧ 0 ≤ y ∧ y ≤ x + 1 := fun hu hx hq hi => h.done hu hx (by simp only [List.mem_cons, not_or]; exact ⟨hi, hq⟩)
  cases Q1 with
  | nil =>
    rw [List.nil_append] at hq
    subst hq
    exact ⟨b + 1, by omega, h.len, h.at0, h.low, fun hx => by have := h.top hx; omega, by have := h.b0; omega, ⟨Q, [], by simp, fun v hv => h2 v (List.mem_cons_of_mem _ hv), by simp⟩, h2 i (List.mem_cons_self ..), hd, by simp⟩
  | cons a Q1 =>
    rw [List.cons_append] at hq
    injection hq with e1 e2
    subst e1
    exact ⟨b, by omega, h.len, h.at0, h.low, h.top, h.b0, ⟨Q1, Q2, e2, fun v hv => h1 v (List.mem_cons_of_mem _ hv), h2⟩, h1 i (List.mem_cons_self ..), hd, by simp⟩
theorem BfsI.skip {y : Int} (h : BfsI E n out Q b i P) (hv : out[v]? = some y) (hy : 0 ≤ y) : BfsI E n out Q b i (P ++ [v]) :=
  ⟨h.len, h.at0, h.low, h.top, h.b0, h.q, h.it, h.done, fun u hu => (List.mem_append.1 hu).elim (h.pr u) (fun e => by
    obtain rfl : u = v := by simpa using e
    exact ⟨y, hv, hy, h.top hv⟩)⟩
theorem BfsI.put {y : Int} (h : BfsI E n out Q b i P) (hv : out[v]? = some y) (hy : y < 0) (he : E i v) : BfsI E n (out.set v (b + 1)) (Q ++ [v]) b i (P ++ [v]) := by
  have hvl := (List.getElem?_eq_some_iff.1 hv).1
  have hb := h.b0
  have hiv : i ≠ v := fun e => by
    subst e
    have := h.it
    rw [hv] at this
    injection this with this
    omega
  have hne : ∀ {u : Nat} {x : Int}, out[u]? = some x → 0 ≤ x → (out.set v (b + 1))[u]? = some x := fun {u x} hu hx => by
    rw [List.getElem?_set_ne (fun e => by
      subst e
      rw [hv] at hu
      injection hu with hu
      omega)]
    exact hu
  have hinv : ∀ {u : Nat} {x : Int}, (out.set v (b + 1))[u]? = some x → (u = v ∧ x = b + 1) ∨ (u ≠ v ∧ out[u]? = some x) := fun {u x} hu => by
    by_cases e : v = u
    · subst e
      rw [List.getElem?_set_self hvl] at hu
      injection hu with hu
      exact .inl ⟨rfl, hu.symm⟩
    · rw [List.getElem?_set_ne e] at hu
      exact .inr ⟨fun e2 => e e2.symm, hu⟩
  have hdn : ∀ {x : Int} {v' : Nat}, (∃ y, out[v']? = some y ∧ 0 ≤ y ∧ y ≤ x + 1) → ∃ y, (out.set v (b + 1))[v']? = some y ∧ 0 ≤ y ∧ y ≤ x + 1 := fun {x v'} ⟨y, h1, h2, h3⟩ => ⟨y, hne h1 h2, h2, h3⟩
  obtain ⟨Q1, Q2, hq, h1, h2⟩ := h.q
  refine ⟨by rw [List.length_set]; exact h.len, hne h.at0 (by omega), fun {u x} hu => ?_, fun {u x} hu => ?_, h.b0, ⟨Q1, Q2 ++ [v], by rw [hq, List.append_assoc], fun u hu => hne (h1 u hu) (by omega), fun u hu => ?_⟩, hne h.it (by omega), fun {u x} hu hx hq' hi v' e => ?_, fun u hu => ?_⟩
  · rcases hinv hu with ⟨rfl, rfl⟩ | ⟨_, hu⟩
    · exact .inr (.inr ⟨by omega, i, he, by rw [hne h.it (by omega)]; congr 1; omega⟩)
    · rcases h.low hu with h3 | h3 | ⟨h3, u', h4, h5⟩
      · exact .inl h3
      · exact .inr (.inl h3)
      · exact .inr (.inr ⟨h3, u', h4, hne h5 (by omega)⟩)
  · rcases hinv hu with ⟨rfl, rfl⟩ | ⟨_, hu⟩
    · omega
    · exact h.top hu
  · rcases List.mem_append.1 hu with hu | hu
    · exact hne (h2 u hu) (by omega)
    · obtain rfl : u = v := by simpa using hu
      exact List.getElem?_set_self hvl
  · rw [List.mem_append, not_or] at hq'
    rcases hinv hu with ⟨rfl, rfl⟩ | ⟨_, hu⟩
    · exact absurd (List.mem_singleton.2 rfl) hq'.2
    · exact hdn (h.done hu hx hq'.1 hi v' e)
  · rcases List.mem_append.1 hu with hu | hu
    · exact hdn (h.pr u hu)
    · obtain rfl : u = v := by simpa using hu
      exact ⟨b + 1, List.getElem?_set_self hvl, by omega, by omega⟩
theorem BfsI.finish (h : BfsI E n out Q b i P) (hP : ∀ v, E i v → v ∈ P) : Bfs E n out Q b :=
  ⟨h.len, h.at0, h.low, h.top, h.b0, h.q, fun {u x} hu hx hq v e => by
    by_cases hui : u = i
    · subst hui
      have h1 := h.it
      rw [hu] at h1
      injection h1 with h1
      subst h1
      exact h.pr v (hP v e)
    · exact h.done hu hx hq hui v e⟩
theorem Bfs.end_ (h : Bfs E n out [] b) : IsD E n 0 out := ⟨h.len, h.at0, h.low, fun hx h0 e => h.done hx h0 (by simp) _ e⟩
end
end Go.Fx
