/- Fdc: the dominators of an instruction, one after the other; ways as lists; a program in which an instruction fails. Plain Lean, no program in sight. -/
import Derived.Test.YtlneifgihdickaaFnp
namespace Go.Fx
open Go.RowKit Go.Proofs Go.Proofs.Ytlneifgihdickaa
section
variable {E : Nat → Nat → Prop} {n i j k c : Nat}
/-- How many dominate each one. -/
theorem dom_cnt (hE : ∀ i, Rch E i → i < n) : ∃ cnt : Nat → Nat, (∀ i k, Nea E i k → cnt k + 1 = cnt i) ∧ (∀ i, Rch E i → 1 ≤ cnt i ∧ cnt i ≤ n) := by
  classical
  have hD : ∀ k i, k < n → Rch E i → ((fun k i => decide (Dom E k i)) k i = true ↔ Dom E k i) := fun _ _ _ _ => by simp
  refine ⟨cntT (fun k i => decide (Dom E k i)) n, fun i k h => h.cnt hD hE, fun i hi => ⟨?_, ?_⟩⟩
  · refine List.length_pos_of_mem (a := i) ?_
    rw [List.mem_filter, List.mem_range]
    exact ⟨hE i hi, by simp [Dom.self hi]⟩
  · unfold cntT
    have := List.length_filter_le (fun k => decide (Dom E k i)) (List.range n)
    rwa [List.length_range] at this
theorem dom_zero_iff (h0 : Rch E 0) : Dom E k 0 ↔ k = 0 := by
  constructor
  · intro h
    exact (Dom.anti h (Dom.zero h.rch)).symm
  · rintro rfl; exact Dom.self h0
theorem nea_iff (h : Nea E c j) : Dom E k c ↔ k = c ∨ Dom E k j := by
  constructor
  · exact h.2.2 k
  · rintro (rfl | h1)
    · exact Dom.self h.2.1.1
    · exact h1.trans h.2.1
theorem nea_not (h : Nea E c j) : ¬ Dom E c j := fun h1 => h.1 (Dom.anti h1 h.2.1)
/-- What was seen of the dominators, before c. -/
def SeeD (E : Nat → Nat → Prop) (k i c : Nat) : Prop := Dom E k i ∧ ¬ Dom E k c
theorem see_start : ¬ SeeD E k i i := fun h => h.2 h.1
theorem see_next (hc : Dom E c i) (h : Nea E c j) : SeeD E k i j ↔ SeeD E k i c ∨ c = k := by
  unfold SeeD
  rw [nea_iff (k := k) h]
  constructor
  · rintro ⟨h1, h2⟩
    by_cases e : c = k
    · exact .inr e
    · exact .inl ⟨h1, fun h3 => h3.elim (fun e2 => e e2.symm) h2⟩
  · rintro (⟨h1, h2⟩ | rfl)
    · exact ⟨h1, fun h3 => h2 (.inr h3)⟩
    · exact ⟨hc, nea_not h⟩
theorem see_end (hc : Dom E 0 i) : Dom E k i ↔ SeeD E k i 0 ∨ 0 = k := by
  unfold SeeD
  rw [dom_zero_iff (k := k) hc.rch]
  constructor
  · intro h
    by_cases e : 0 = k
    · exact .inr e
    · exact .inl ⟨h, fun e2 => e e2.symm⟩
  · rintro (h | rfl)
    · exact h.1
    · exact hc
/-- The next one of the chain of dominators. -/
theorem isN_at {d : List Int} (h : IsN E n d) (hc : Rch E c) (hn : c < n) : (c = 0 ∧ d[c]? = some (-1)) ∨ (∃ j : Nat, j < n ∧ d[c]? = some (j : Int) ∧ Nea E c j) := by
  by_cases h0 : c = 0
  · exact .inl ⟨h0, h.none_ hn (.inl h0)⟩
  · obtain ⟨j, h1, h2, h3⟩ := h.some_ hn h0 hc
    exact .inr ⟨j, h1, h2, h3⟩
theorem isN_sign {d : List Int} {x : Int} (h : IsN E n d) (hi : i < n) (hx : d[i]? = some x) : (0 ≤ x ↔ Rch E i ∧ 0 < i) := by
  by_cases h0 : i = 0 ∨ ¬ Rch E i
  · have h1 := h.none_ hi h0
    rw [hx] at h1
    obtain rfl := Option.some.inj h1
    constructor
    · intro h2; omega
    · rintro ⟨h2, h3⟩
      rcases h0 with h0 | h0
      · omega
      · exact absurd h2 h0
  · have h1 : i ≠ 0 := fun e => h0 (.inl e)
    have h2 : Rch E i := by
      by_cases hc : Rch E i
      · exact hc
      · exact absurd (.inr hc) h0
    obtain ⟨j, _, h3, _⟩ := h.some_ hi h1 h2
    rw [hx] at h3
    obtain rfl := Option.some.inj h3
    exact ⟨fun _ => ⟨h2, by omega⟩, fun _ => by omega⟩
/-- A way, place by place. -/
structure Pth (E : Nat → Nat → Prop) (W : List Nat) : Prop where
  st : W[0]? = some 0
  go : ∀ (j u v : Nat), W[j]? = some u → W[j + 1]? = some v → E u v
theorem Pth.one : Pth E [0] := ⟨rfl, fun j u v _ h => by cases j <;> cases h⟩
theorem Pth.snoc {W : List Nat} {m u v : Nat} (h : Pth E W) (hm : W.length = m + 1) (hu : W[m]? = some u) (he : E u v) : Pth E (W ++ [v]) := by
  refine ⟨by rw [List.getElem?_append_left (by omega)]; exact h.st, fun j a b ha hb => ?_⟩
  have hj := (List.getElem?_eq_some_iff.1 hb).1
  rw [List.length_append, List.length_singleton] at hj
  rw [List.getElem?_append_left (by omega)] at ha
  by_cases e : j + 1 = W.length
  · rw [List.getElem?_append_right (by omega), e, Nat.sub_self] at hb
    obtain rfl : v = b := by simpa using hb
    have : j = m := by omega
    subst this
    rw [hu] at ha
    obtain rfl := Option.some.inj ha
    exact he
  · rw [List.getElem?_append_left (by omega)] at hb
    exact h.go j a b ha hb
theorem Pth.rch {W : List Nat} (h : Pth E W) : ∀ {j u : Nat}, W[j]? = some u → Rch E u
  | 0, u, hu => by
    rw [h.st] at hu
    obtain rfl := Option.some.inj hu
    exact .start trivial
  | j + 1, v, hv => by
    have hj := (List.getElem?_eq_some_iff.1 hv).1
    obtain ⟨u, hu⟩ : ∃ u, W[j]? = some u := ⟨_, List.getElem?_eq_getElem (by omega)⟩
    exact .step (Pth.rch h hu) (h.go j u v hu hv) trivial
theorem Pth.rwo {W : List Nat} (h : Pth E W) : ∀ {j u : Nat}, W[j]? = some u → (∀ x ∈ W.take (j + 1), x ≠ k) → Rwo E k u
  | 0, u, hu, hk => by
    have h1 := hk u (List.mem_of_getElem? (i := 0) (by rw [List.getElem?_take, if_pos (by omega)]; exact hu))
    rw [h.st] at hu
    obtain rfl := Option.some.inj hu
    exact .start h1
  | j + 1, v, hv, hk => by
    have hj := (List.getElem?_eq_some_iff.1 hv).1
    obtain ⟨u, hu⟩ : ∃ u, W[j]? = some u := ⟨_, List.getElem?_eq_getElem (by omega)⟩
    refine .step (Pth.rwo h hu (fun x hx => hk x ?_)) (h.go j u v hu hv) (hk v (List.mem_of_getElem? (i := j + 1) (by rw [List.getElem?_take, if_pos (by omega)]; exact hv)))
    rw [take_snoc hv]
    exact List.mem_append_left _ hx
/-- What dominates the last place was on the way before. -/
theorem Pth.dom {W : List Nat} {m u : Nat} (h : Pth E W) (hu : W[m]? = some u) (hd : Dom E k u) (hku : k ≠ u) : k ∈ W.take m := by
  by_cases hk : k ∈ W.take m
  · exact hk
  · exfalso
    refine hd.2 (h.rwo hu (fun x hx => ?_))
    rw [take_snoc hu] at hx
    rcases List.mem_append.1 hx with h1 | h1
    · exact fun e => hk (by rw [← e]; exact h1)
    · obtain rfl := List.mem_singleton.1 h1
      exact fun e => hku e.symm
theorem Pth.dist {W : List Nat} {d : List Int} (h : Pth E W) (hd : IsD E n 0 d) : ∀ {j u : Nat}, W[j]? = some u → ∃ y, d[u]? = some y ∧ 0 ≤ y ∧ y ≤ (j : Int)
  | 0, u, hu => by
    rw [h.st] at hu
    obtain rfl := Option.some.inj hu
    exact ⟨0, hd.at_b, by omega, by omega⟩
  | j + 1, v, hv => by
    have hj := (List.getElem?_eq_some_iff.1 hv).1
    obtain ⟨u, hu⟩ : ∃ u, W[j]? = some u := ⟨_, List.getElem?_eq_getElem (by omega)⟩
    obtain ⟨y, h1, h2, h3⟩ := Pth.dist h hd hu
    obtain ⟨z, h4, h5, h6⟩ := hd.go h1 h2 (h.go j u v hu hv)
    exact ⟨z, h4, h5, by omega⟩
theorem Pth.to_ {W : List Nat} (h : Pth E W) {j u : Nat} (hu : W[j]? = some u) : ∀ (q : Nat) {v : Nat}, W[j + q]? = some v → Way E (fun _ => True) u v
  | 0, v, hv => by
    rw [Nat.add_zero, hu] at hv
    obtain rfl := Option.some.inj hv
    exact .start trivial
  | q + 1, v, hv => by
    have hj := (List.getElem?_eq_some_iff.1 hv).1
    obtain ⟨x, hx⟩ : ∃ x, W[j + q]? = some x := ⟨_, List.getElem?_eq_getElem (by omega)⟩
    exact .step (Pth.to_ h hu q hx) (h.go (j + q) x v hx hv) trivial
end
/-- All on the way can end, if the last one is a Halt. -/
theorem Pth.ends {p : List Ins} {W : List Nat} {m u : Nat} {x : Ins} (h : Pth (EdP p) W) (hm : W.length = m + 1) (hu : W[m]? = some u) (hx : p[u]? = some x) (ho : x.op = 1) {j v : Nat} (hv : W[j]? = some v) : EnW p v := by
  have hj := (List.getElem?_eq_some_iff.1 hv).1
  exact ⟨u, x, hx, ho, h.to_ hv (m - j) (by rw [show j + (m - j) = m by omega]; exact hu)⟩
/-- An instruction fails. -/
def fail0 : Ins := ⟨2, 0, 0, 0, 0⟩
theorem fail_right {p : List Ins} (hp : RightP p) (k : Nat) : RightP (p.set k fail0) := by
  have hm : ∀ x ∈ p.set k fail0, x ∈ p ∨ x = fail0 := fun x hx => List.mem_or_eq_of_mem_set hx
  refine ⟨by rw [List.length_set]; exact hp.pos, by rw [List.length_set]; exact hp.max, fun x hx => ?_, fun x hx ht => ?_, fun {x} hx => ?_⟩
  · rcases hm x hx with h | h
    · exact hp.one x h
    · rw [h]; decide
  · rw [List.length_set]
    rcases hm x hx with h | h
    · exact hp.tgt x h ht
    · rw [h] at ht; exact absurd ht (by decide)
  · rw [List.length_set] at hx
    by_cases hk : k = p.length - 1
    · subst hk
      rw [List.getElem?_set_self (by have := hp.pos; omega)] at hx
      obtain rfl := Option.some.inj hx
      decide
    · rw [List.getElem?_set_ne hk] at hx
      exact hp.last hx
theorem fail_ed {p : List Ins} {k u v : Nat} : EdP (p.set k fail0) u v → u ≠ k ∧ EdP p u v := by
  intro h
  obtain ⟨x, hx, h1⟩ := edF_mem.1 h
  by_cases e : k = u
  · subst e
    have hk := (List.getElem?_eq_some_iff.1 hx).1
    rw [List.length_set] at hk
    rw [List.getElem?_set_self hk] at hx
    obtain rfl := Option.some.inj hx
    rcases h1 with ⟨h1, _⟩ | ⟨h1, _⟩ <;> exact absurd h1 (by decide)
  · rw [List.getElem?_set_ne e] at hx
    exact ⟨fun e2 => e e2.symm, edF_mem.2 ⟨x, hx, h1⟩⟩
theorem fail_ed' {p : List Ins} {k u v : Nat} (hu : u ≠ k) (h : EdP p u v) : EdP (p.set k fail0) u v := by
  obtain ⟨x, hx, h1⟩ := edF_mem.1 h
  exact edF_mem.2 ⟨x, by rw [List.getElem?_set_ne (fun e => hu e.symm)]; exact hx, h1⟩
/-- What is reached when k fails: what is reached without k. -/
theorem fail_rch {p : List Ins} {k i : Nat} (hik : i ≠ k) : Rch (EdP (p.set k fail0)) i ↔ Rwo (EdP p) k i := by
  constructor
  · intro h
    induction h with
    | start _ => exact .start hik
    | @step u v _ e _ ih =>
      obtain ⟨h1, h2⟩ := fail_ed e
      exact .step (ih h1) h2 hik
  · intro h
    exact Way.mono h (fun u v hu e => fail_ed' hu e) (fun _ _ => trivial)
theorem fail_le {p : List Ins} {k i : Nat} (h : Rch (EdP (p.set k fail0)) i) : Rch (EdP p) i := Way.mono h (fun _ _ _ e => (fail_ed e).2) (fun _ _ => trivial)
end Go.Fx
