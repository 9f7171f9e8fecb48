/- Flw: ways in a graph, in plain Lean: distances, what is reached, what dominates. No program in sight. Flc: the nearest dominator, told by counts, in plain Lean. No program in sight. Flp: where control goes in a right program, in plain Lean. No program in sight. -/
import Derived.WalkKit
import Derived.Test.YtlneifgihdickaaCpl
namespace Go.Fx
/-- A list of numbers tells the distances from a place b (-1: there is no way), in a graph over the numbers below n. -/
structure IsD (E : Nat → Nat → Prop) (n b : Nat) (d : List Int) : Prop where
  len : d.length = n
  at_b : d[b]? = some 0
  low : ∀ {v : Nat} {x : Int}, d[v]? = some x → x = -1 ∨ (x = 0 ∧ v = b) ∨ (0 < x ∧ ∃ u, E u v ∧ d[u]? = some (x - 1))
  go : ∀ {u v : Nat} {x : Int}, d[u]? = some x → 0 ≤ x → E u v → ∃ y, d[v]? = some y ∧ 0 ≤ y ∧ y ≤ x + 1
theorem IsD.le {E : Nat → Nat → Prop} {n b : Nat} {d d' : List Int} (h : IsD E n b d) (h' : IsD E n b d') : ∀ (m : Nat) {v : Nat}, d[v]? = some (m : Int) → ∃ y, d'[v]? = some y ∧ 0 ≤ y ∧ y ≤ (m : Int)
  | 0, v, hv => by
    rcases h.low hv with h1 | ⟨-, rfl⟩ | ⟨h1, -⟩
    · omega
    · exact ⟨0, h'.at_b, by omega, by omega⟩
    · omega
  | m + 1, v, hv => by
    rcases h.low hv with h1 | ⟨h1, -⟩ | ⟨-, u, he, hu⟩
    · omega
    · omega
    · obtain ⟨y, hy, h0, hl⟩ := IsD.le h h' m (v := u) (by rw [hu]; congr 1; omega)
      obtain ⟨z, hz, h1, h2⟩ := h'.go hy h0 he
      exact ⟨z, hz, h1, by omega⟩
theorem IsD.unique {E : Nat → Nat → Prop} {n b : Nat} {d d' : List Int} (h : IsD E n b d) (h' : IsD E n b d') : d = d' := by
  refine List.ext_getElem? (fun v => ?_)
  by_cases hv : v < n
  · have e1 := List.getElem?_eq_getElem (l := d) (i := v) (by rw [h.len]; exact hv)
    have e2 := List.getElem?_eq_getElem (l := d') (i := v) (by rw [h'.len]; exact hv)
    obtain ⟨x, hx⟩ : ∃ x, d[v]? = some x := ⟨_, e1⟩
    obtain ⟨y, hy⟩ : ∃ y, d'[v]? = some y := ⟨_, e2⟩
    rw [hx, hy]
    have x0 : x = -1 ∨ 0 ≤ x := by rcases h.low hx with h1 | ⟨h1, -⟩ | ⟨h1, -⟩ <;> omega
    have y0 : y = -1 ∨ 0 ≤ y := by rcases h'.low hy with h1 | ⟨h1, -⟩ | ⟨h1, -⟩ <;> omega
    have l1 : 0 ≤ x → 0 ≤ y ∧ y ≤ x := fun h0 => by
      obtain ⟨z, hz, h1, h2⟩ := IsD.le h h' x.toNat (v := v) (by rw [hx]; congr 1; omega)
      rw [hy] at hz; injection hz with hz; omega
    have l2 : 0 ≤ y → 0 ≤ x ∧ x ≤ y := fun h0 => by
      obtain ⟨z, hz, h1, h2⟩ := IsD.le h' h y.toNat (v := v) (by rw [hy]; congr 1; omega)
      rw [hx] at hz; injection hz with hz; omega
    congr 1
    omega
  · rw [List.getElem?_eq_none (by rw [h.len]; omega), List.getElem?_eq_none (by rw [h'.len]; omega)]
/-- A place is reached from b by a way on which all places are good. -/
inductive Way (E : Nat → Nat → Prop) (ok : Nat → Prop) (b : Nat) : Nat → Prop
  | start : ok b → Way E ok b b
  | step {u v : Nat} : Way E ok b u → E u v → ok v → Way E ok b v
theorem Way.ok_last {E : Nat → Nat → Prop} {ok : Nat → Prop} {b v : Nat} (h : Way E ok b v) : ok v := by
  cases h with
  | start h => exact h
  | step _ _ h => exact h
theorem Way.mono {E E' : Nat → Nat → Prop} {ok ok' : Nat → Prop} {b v : Nat} (h : Way E ok b v) (he : ∀ u v, ok u → E u v → E' u v) (ho : ∀ v, ok v → ok' v) : Way E' ok' b v := by
  induction h with
  | start h => exact .start (ho _ h)
  | step hu e h ih => exact .step ih (he _ _ hu.ok_last e) (ho _ h)
/-- All places that are reached. -/
theorem IsD.way {E : Nat → Nat → Prop} {n b : Nat} {d : List Int} (h : IsD E n b d) : ∀ (m : Nat) {v : Nat}, d[v]? = some (m : Int) → Way E (fun _ => True) b v
  | 0, v, hv => by
    rcases h.low hv with h1 | ⟨-, rfl⟩ | ⟨h1, -⟩
    · omega
    · exact .start trivial
    · omega
  | m + 1, v, hv => by
    rcases h.low hv with h1 | ⟨h1, -⟩ | ⟨-, u, he, hu⟩
    · omega
    · omega
    · exact .step (IsD.way h m (v := u) (by rw [hu]; congr 1; omega)) he trivial
theorem IsD.of_way {E : Nat → Nat → Prop} {n b : Nat} {d : List Int} (h : IsD E n b d) {v : Nat} (hw : Way E (fun _ => True) b v) : ∃ x, d[v]? = some x ∧ 0 ≤ x := by
  induction hw with
  | start _ => exact ⟨0, h.at_b, by omega⟩
  | step _ e _ ih =>
    obtain ⟨x, hx, h0⟩ := ih
    obtain ⟨y, hy, h1, -⟩ := h.go hx h0 e
    exact ⟨y, hy, h1⟩
theorem IsD.iff {E : Nat → Nat → Prop} {n b : Nat} {d : List Int} (h : IsD E n b d) {v : Nat} {x : Int} (hx : d[v]? = some x) : 0 ≤ x ↔ Way E (fun _ => True) b v := by
  constructor
  · intro h0
    exact h.way x.toNat (v := v) (by rw [hx]; congr 1; omega)
  · intro hw
    obtain ⟨y, hy, h0⟩ := h.of_way hw
    rw [hx] at hy
    injection hy with hy
    omega
/-- Reached from 0 without k. -/
def Rwo (E : Nat → Nat → Prop) (k v : Nat) : Prop := Way E (fun x => x ≠ k) 0 v
def Rch (E : Nat → Nat → Prop) (v : Nat) : Prop := Way E (fun _ => True) 0 v
section
variable {E : Nat → Nat → Prop} {i j k v : Nat}
theorem Rwo.rch (h : Rwo E k v) : Rch E v := Way.mono h (fun _ _ _ e => e) (fun _ _ => trivial)
theorem Rwo.self : ¬ Rwo E k k := fun h => Way.ok_last h rfl
/-- Of two that are each reached without the other one, one is missed on the way to any. -/
theorem rwo_or (hjk : j ≠ k) (h1 : Rwo E j k) (h2 : Rwo E k j) (h : Rch E v) : Rwo E j v ∨ Rwo E k v := by
  induction h with
  | start _ =>
    by_cases h0 : 0 = j
    · exact .inr (.start (by omega))
    · exact .inl (.start h0)
  | @step u v _ e _ ih =>
    by_cases hj : v = j
    · subst hj; exact .inr h2
    · by_cases hk : v = k
      · subst hk; exact .inl h1
      · exact ih.imp (fun h => .step h e hj) (fun h => .step h e hk)
theorem rwo_trans (hjk : j ≠ k) (h : Rwo E j v) : Rwo E k v ∨ Rwo E j k := by
  induction h with
  | start h0 =>
    by_cases hk : 0 = k
    · subst hk; exact .inr (.start h0)
    · exact .inl (.start hk)
  | @step u v hu e hj ih =>
    rcases ih with h | h
    · by_cases hk : v = k
      · subst hk; exact .inr (.step hu e hj)
      · exact .inl (.step h e hk)
    · exact .inr h
theorem rch_cut (h : Rch E v) : Rwo E i v ∨ i = 0 ∨ ∃ u, Rwo E i u ∧ E u i := by
  induction h with
  | start _ =>
    by_cases h0 : 0 = i
    · exact .inr (.inl h0.symm)
    · exact .inl (.start h0)
  | @step u v _ e _ ih =>
    rcases ih with h | h
    · by_cases hv : v = i
      · subst hv; exact .inr (.inr ⟨u, h, e⟩)
      · exact .inl (.step h e hv)
    · exact .inr h
theorem rwo_anti (hik : i ≠ k) (h : Rch E i) : Rwo E k i ∨ Rwo E i k := by
  rcases rch_cut (i := i) h with h1 | rfl | ⟨u, h1, e⟩
  · exact absurd h1 Rwo.self
  · exact .inl (.start hik)
  · rcases rwo_trans hik h1 with h2 | h2
    · exact .inl (.step h2 e hik)
    · exact .inr h2
/-- What dominates. -/
def Dom (E : Nat → Nat → Prop) (k i : Nat) : Prop := Rch E i ∧ ¬ Rwo E k i
theorem Dom.rch (h : Dom E k i) : Rch E k := by
  rcases rch_cut (i := k) h.1 with h1 | rfl | ⟨u, h1, e⟩
  · exact absurd h1 h.2
  · exact .start trivial
  · exact .step h1.rch e trivial
theorem Dom.self (h : Rch E i) : Dom E i i := ⟨h, Rwo.self⟩
theorem Dom.trans (h1 : Dom E j k) (h2 : Dom E k i) : Dom E j i := by
  refine ⟨h2.1, fun h => ?_⟩
  by_cases hjk : j = k
  · subst hjk; exact h2.2 h
  · rcases rwo_trans hjk h with h3 | h3
    · exact h2.2 h3
    · exact h1.2 h3
theorem Dom.anti (h1 : Dom E k i) (h2 : Dom E i k) : i = k := by
  by_cases hik : i = k
  · exact hik
  · rcases rwo_anti hik h1.1 with h | h
    · exact absurd h h1.2
    · exact absurd h h2.2
theorem Dom.lin (h1 : Dom E j i) (h2 : Dom E k i) : Dom E j k ∨ Dom E k j := by
  by_cases hjk : j = k
  · subst hjk; exact .inl (Dom.self h1.rch)
  · by_cases ha : Rwo E j k
    · by_cases hb : Rwo E k j
      · rcases rwo_or hjk ha hb h1.1 with h | h
        · exact absurd h h1.2
        · exact absurd h h2.2
      · exact .inr ⟨h1.rch, hb⟩
    · exact .inl ⟨h2.rch, ha⟩
theorem Dom.zero (h : Rch E i) : Dom E 0 i := by
  refine ⟨h, fun hw => ?_⟩
  induction hw with
  | start h0 => exact h0 rfl
  | step hu _ _ ih => exact ih (Rwo.rch (k := 0) hu)
end
end Go.Fx
namespace Go.Fx
theorem flt_le {p q : Nat → Bool} {i : Nat} : ∀ {l : List Nat}, l.Nodup → (∀ x ∈ l, q x = true → p x = true ∨ x = i) → (l.filter q).length ≤ (l.filter p).length + 1
  | [], _, _ => by simp
  | a :: l, hn, h => by
    rw [List.nodup_cons] at hn
    have ih := flt_le (l := l) hn.2 (fun x hx => h x (List.mem_cons_of_mem _ hx))
    by_cases ha : a = i
    · have h2 : (l.filter q).length ≤ (l.filter p).length := by
        rw [← List.countP_eq_length_filter, ← List.countP_eq_length_filter]
        refine List.countP_mono_left (fun x hx hq => ?_)
        rcases h x (List.mem_cons_of_mem _ hx) hq with h3 | h3
        · exact h3
        · exact absurd (by rw [ha, ← h3]; exact hx) hn.1
      have h3 := List.length_filter_le p l
      rw [List.filter_cons, List.filter_cons]
      split <;> split <;> (try simp only [List.length_cons]) <;> omega
    · have h1 := h a (List.mem_cons_self ..)
      rw [List.filter_cons, List.filter_cons]
      split
      · rename_i hq
        rcases h1 hq with h2 | h2
        · rw [if_pos h2]; (try simp only [List.length_cons]); omega
        · exact absurd h2 ha
      · split <;> (try simp only [List.length_cons]) <;> omega
theorem flt_lt {p q : Nat → Bool} {i : Nat} : ∀ {l : List Nat}, i ∈ l → p i = false → q i = true → (∀ x ∈ l, p x = true → q x = true) → (l.filter p).length < (l.filter q).length
  | a :: l, hi, h1, h2, h => by
    have hm : (l.filter p).length ≤ (l.filter q).length := by
      rw [← List.countP_eq_length_filter, ← List.countP_eq_length_filter]
      exact List.countP_mono_left (fun x hx hq => h x (List.mem_cons_of_mem _ hx) hq)
    by_cases ha : a = i
    · subst ha
      rw [List.filter_cons, List.filter_cons, if_neg (by rw [h1]; decide), if_pos h2, List.length_cons]
      omega
    · have ih := flt_lt (l := l) (by rcases List.mem_cons.1 hi with h3 | h3; exact absurd h3.symm ha; exact h3) h1 h2 (fun x hx => h x (List.mem_cons_of_mem _ hx))
      rw [List.filter_cons, List.filter_cons]
      split
      · rw [if_pos (h a (List.mem_cons_self ..) (by assumption))]; (try simp only [List.length_cons]); omega
      · split <;> (try simp only [List.length_cons]) <;> omega
/-- How many of the first n are true in a table. -/
def cntT (D : Nat → Nat → Bool) (n i : Nat) : Nat := ((List.range n).filter (fun k => D k i)).length
/-- The nearest one that dominates, but is not the place itself. -/
def Nea (E : Nat → Nat → Prop) (i k : Nat) : Prop := k ≠ i ∧ Dom E k i ∧ ∀ j, Dom E j i → j = i ∨ Dom E j k
section
variable {E : Nat → Nat → Prop} {D : Nat → Nat → Bool} {n i j k : Nat}
theorem Nea.unique {k' : Nat} (h : Nea E i k) (h' : Nea E i k') : k = k' := by
  rcases h.2.2 k' h'.2.1 with h1 | h1
  · exact absurd h1 h'.1
  · rcases h'.2.2 k h.2.1 with h2 | h2
    · exact absurd h2 h.1
    · exact Dom.anti h1 h2
theorem cnt_lt (hD : ∀ k i, k < n → Rch E i → (D k i = true ↔ Dom E k i)) (hi : i < n) (h : Dom E k i) (hk : k ≠ i) : cntT D n k < cntT D n i := by
  refine flt_lt (i := i) (List.mem_range.2 hi) ?_ ((hD i i hi h.1).2 (Dom.self h.1)) (fun x hx hq => ?_)
  · cases hc : D i k with
    | false => rfl
    | true => exact absurd (Dom.anti h ((hD i k hi h.rch).1 hc)).symm hk
  · have hx := List.mem_range.1 hx
    exact (hD x i hx h.1).2 (((hD x k hx h.rch).1 hq).trans h)
theorem nea_of_cnt (hD : ∀ k i, k < n → Rch E i → (D k i = true ↔ Dom E k i)) (hE : ∀ i, Rch E i → i < n) (h : Dom E k i) (hk : k ≠ i) (hc : cntT D n k + 1 = cntT D n i) : Nea E i k := by
  refine ⟨hk, h, fun j hj => ?_⟩
  by_cases hji : j = i
  · exact .inl hji
  · rcases Dom.lin hj h with h1 | h1
    · exact .inr h1
    · by_cases hkj : k = j
      · subst hkj; exact .inr h1
      · have h2 := cnt_lt hD (hE j hj.rch) h1 hkj
        have h3 := cnt_lt hD (hE i h.1) hj hji
        omega
theorem nea_of_max (hD : ∀ k i, k < n → Rch E i → (D k i = true ↔ Dom E k i)) (hE : ∀ i, Rch E i → i < n) (h : Dom E k i) (hk : k ≠ i) (hm : ∀ j, Dom E j i → j ≠ i → cntT D n j ≤ cntT D n k) : Nea E i k := by
  refine ⟨hk, h, fun j hj => ?_⟩
  by_cases hji : j = i
  · exact .inl hji
  · rcases Dom.lin hj h with h1 | h1
    · exact .inr h1
    · by_cases hkj : k = j
      · subst hkj; exact .inr h1
      · have h2 := cnt_lt hD (hE j hj.rch) h1 hkj
        have h3 := hm j hj hji
        omega
theorem Nea.cnt (hD : ∀ k i, k < n → Rch E i → (D k i = true ↔ Dom E k i)) (hE : ∀ i, Rch E i → i < n) (h : Nea E i k) : cntT D n k + 1 = cntT D n i := by
  have h1 := cnt_lt hD (hE i h.2.1.1) h.2.1 h.1
  have h2 : cntT D n i ≤ cntT D n k + 1 := flt_le (i := i) List.nodup_range (fun x hx hq => by
    have hx := List.mem_range.1 hx
    rcases h.2.2 x ((hD x i hx h.2.1.1).1 hq) with h3 | h3
    · exact .inr h3
    · exact .inl ((hD x k hx h.2.1.rch).2 h3))
  omega
theorem max_ex (f : Nat → Nat) (P : Nat → Prop) (l : List Nat) (hP : ∃ x ∈ l, P x) : ∃ x ∈ l, P x ∧ ∀ y ∈ l, P y → f y ≤ f x := by
  classical
  induction l with
  | nil => obtain ⟨x, hx, _⟩ := hP; cases hx
  | cons a l ih =>
    by_cases hl : ∃ x ∈ l, P x
    · obtain ⟨x, hx, px, hm⟩ := ih hl
      by_cases ha : P a ∧ f x < f a
      · refine ⟨a, List.mem_cons_self .., ha.1, fun y hy py => ?_⟩
        rcases List.mem_cons.1 hy with rfl | hy
        · exact Nat.le_refl _
        · have := hm y hy py; omega
      · refine ⟨x, List.mem_cons_of_mem _ hx, px, fun y hy py => ?_⟩
        rcases List.mem_cons.1 hy with rfl | hy
        · exact Nat.le_of_not_lt (fun h => ha ⟨py, h⟩)
        · exact hm y hy py
    · obtain ⟨x, hx, px⟩ := hP
      rcases List.mem_cons.1 hx with rfl | hx
      · refine ⟨x, List.mem_cons_self .., px, fun y hy py => ?_⟩
        rcases List.mem_cons.1 hy with rfl | hy
        · exact Nat.le_refl _
        · exact absurd ⟨y, hy, py⟩ hl
      · exact absurd ⟨x, hx, px⟩ hl
theorem nea_ex (hE : ∀ i, Rch E i → i < n) (h : Rch E i) (h0 : i ≠ 0) : ∃ k, k < n ∧ Nea E i k := by
  classical
  have hD : ∀ k i, k < n → Rch E i → ((decide (Dom E k i)) = true ↔ Dom E k i) := fun _ _ _ _ => by simp
  have hex : ∃ x ∈ List.range n, Dom E x i ∧ x ≠ i := ⟨0, List.mem_range.2 (by have := hE i h; omega), Dom.zero h, fun e => h0 e.symm⟩
  obtain ⟨k, hk, ⟨h1, h2⟩, hm⟩ := max_ex (cntT (fun k i => decide (Dom E k i)) n) (fun x => Dom E x i ∧ x ≠ i) (List.range n) hex
  exact ⟨k, List.mem_range.1 hk, nea_of_max hD hE h1 h2 (fun j hj hji => hm j (List.mem_range.2 (hE j hj.rch)) ⟨hj, hji⟩)⟩
/-- A list tells of each place the nearest dominator. -/
structure IsN (E : Nat → Nat → Prop) (n : Nat) (d : List Int) : Prop where
  len : d.length = n
  none_ : ∀ {i : Nat}, i < n → (i = 0 ∨ ¬ Rch E i) → d[i]? = some (-1)
  some_ : ∀ {i : Nat}, i < n → i ≠ 0 → Rch E i → ∃ k : Nat, k < n ∧ d[i]? = some (k : Int) ∧ Nea E i k
theorem IsN.unique {d d' : List Int} (h : IsN E n d) (h' : IsN E n d') : d = d' := by
  refine List.ext_getElem? (fun i => ?_)
  by_cases hi : i < n
  · by_cases h0 : i = 0 ∨ ¬ Rch E i
    · rw [h.none_ hi h0, h'.none_ hi h0]
    · have h1 : i ≠ 0 := fun e => h0 (.inl e)
      have h2 : Rch E i := by
        by_cases hc : Rch E i
        · exact hc
        · exact absurd (.inr hc) h0
      obtain ⟨k, _, e1, n1⟩ := h.some_ hi h1 h2
      obtain ⟨k', _, e2, n2⟩ := h'.some_ hi h1 h2
      rw [e1, e2, n1.unique n2]
  · rw [List.getElem?_eq_none (by rw [h.len]; omega), List.getElem?_eq_none (by rw [h'.len]; omega)]
end
end Go.Fx
namespace Go.Fx
/-- Where control can go from an instruction, in increasing order. -/
def edX (x : Ins) (i : Nat) : List Nat :=
  (if tgtF x = true ∧ x.n ≤ (i : Int) then [x.n.toNat] else []) ++ ((if goesF x = true then [i + 1] else []) ++ (if tgtF x = true ∧ (i : Int) < x.n ∧ (goesF x = false ∨ (i : Int) + 1 < x.n) then [x.n.toNat] else []))
def edF (p : List Ins) (i : Nat) : List Nat := match p[i]? with
  | some x => edX x i
  | none => []
/-- A right program. -/
structure RightP (p : List Ins) : Prop where
  pos : 0 < p.length
  max : p.length ≤ 256
  one : ∀ x ∈ p, oneF x = 0
  tgt : ∀ x ∈ p, tgtF x = true → 0 ≤ x.n ∧ x.n < (p.length : Int)
  last : ∀ {x : Ins}, p[p.length - 1]? = some x → goesF x = false
theorem chkF_none {len : Nat} : ∀ (l : List Ins) (k : Nat), chkF len l k = none ↔ ∀ x ∈ l, oneF x = 0 ∧ ¬ (tgtF x = true ∧ (len : Int) ≤ x.n)
  | [], k => by simp [chkF]
  | a :: l, k => by
    have ih := chkF_none (len := len) l (k + 1)
    unfold chkF
    by_cases h1 : oneF a ≠ 0
    · rw [if_pos h1]
      exact ⟨fun h => (by cases h), fun h => absurd (h a (List.mem_cons_self ..)).1 h1⟩
    · rw [if_neg h1]
      by_cases h2 : tgtF a = true ∧ (len : Int) ≤ a.n
      · rw [if_pos h2]
        exact ⟨fun h => (by cases h), fun h => absurd h2 (h a (List.mem_cons_self ..)).2⟩
      · rw [if_neg h2, ih]
        refine ⟨fun h x hx => ?_, fun h x hx => h x (List.mem_cons_of_mem _ hx)⟩
        rcases List.mem_cons.1 hx with rfl | hx
        · exact ⟨Decidable.not_not.1 h1, h2⟩
        · exact h x hx
theorem tgtF_one {x : Ins} (h : tgtF x = true) : oneF x = 0 ∧ (x.op = 9 ∨ x.op = 10 ∨ x.op = 11) := by
  unfold tgtF at h
  simpa [or_assoc] using h
theorem tgtF_lo {x : Ins} (h : tgtF x = true) : 0 ≤ x.n ∧ x.n < 256 := by
  obtain ⟨h1, h2⟩ := tgtF_one h
  unfold oneF at h1
  split at h1
  · omega
  · split at h1
    · rename_i h3
      have h4 : tlOf x.op = 116 := by
        unfold tlOf
        rw [if_neg (by omega), if_neg (by omega), if_pos h2]
      simp only [Bool.and_eq_true] at h3
      have h5 := h3.2
      unfold nOk at h5
      rw [h4] at h5
      simpa using h5
    · omega
theorem goesF_one {x : Ins} (h : goesF x = true) : oneF x = 0 ∧ x.op ≠ 1 ∧ x.op ≠ 2 ∧ x.op ≠ 9 := by
  unfold goesF at h
  simpa [and_assoc] using h
theorem rightP_iff {p : List Ins} : (checkF p).2 = 0 ↔ RightP p := by
  unfold checkF
  by_cases h1 : p.length = 0
  · rw [if_pos h1]
    exact ⟨fun h => by simp at h, fun h => by have := h.pos; omega⟩
  · rw [if_neg h1]
    by_cases h2 : 256 < p.length
    · rw [if_pos h2]
      exact ⟨fun h => by simp at h, fun h => by have := h.max; omega⟩
    · rw [if_neg h2]
      cases hc : chkF p.length p 0 with
      | some k =>
        obtain ⟨k, e⟩ := k
        simp only
        have h3 : ¬ (∀ x ∈ p, oneF x = 0 ∧ ¬ (tgtF x = true ∧ (p.length : Int) ≤ x.n)) := fun h => by rw [← chkF_none p 0, hc] at h; cases h
        constructor
        · intro h
          exfalso
          subst h
          have hne : ∀ (l : List Ins) (k j : Nat), chkF p.length l k ≠ some (j, 0) := by
            intro l
            induction l with
            | nil => intro k j h; simp [chkF] at h
            | cons a l ih =>
              intro k j h
              unfold chkF at h
              split at h
              · rename_i h5; simp at h; exact h5 h.2
              · split at h
                · simp at h
                · exact ih _ _ h
          exact hne _ _ _ hc
        · intro h
          exact absurd (fun x hx => ⟨h.one x hx, fun h4 => by have := (h.tgt x hx h4.1).2; omega⟩) h3
      | none =>
        have h3 := (chkF_none p 0).1 hc
        simp only
        have hl : p.getLast? = p[p.length - 1]? := List.getLast?_eq_getElem? ..
        rw [hl]
        constructor
        · intro h
          refine ⟨by omega, by omega, fun x hx => (h3 x hx).1, fun x hx ht => ⟨(tgtF_lo ht).1, ?_⟩, fun {x} hx => ?_⟩
          · have := (h3 x hx).2
            rcases Int.lt_or_le x.n p.length with h4 | h4
            · exact h4
            · exact absurd ⟨ht, h4⟩ this
          · rw [hx] at h
            cases hg : goesF x with
            | false => rfl
            | true => simp [hg] at h
        · intro h
          rw [if_neg]
          intro hg
          cases hx : p[p.length - 1]? with
          | none => rw [hx] at hg; simp at hg
          | some x => rw [hx] at hg; simp [h.last hx] at hg
theorem checkF_snd {p : List Ins} (h : RightP p) : checkF p = (-1, 0) := by
  have h2 := rightP_iff.2 h
  unfold checkF at h2 ⊢
  rw [if_neg (by have := h.pos; omega), if_neg (by have := h.max; omega)] at h2 ⊢
  have h3 : chkF p.length p 0 = none := (chkF_none p 0).2 (fun x hx => ⟨h.one x hx, fun h4 => by have := (h.tgt x hx h4.1).2; omega⟩)
  rw [h3] at h2 ⊢
  simp only at h2 ⊢
  split at h2
  · simp at h2
  · rename_i hn
    rw [if_neg hn]
theorem edX_ff {x : Ins} {i : Nat} (h1 : tgtF x = false) (h2 : goesF x = false) : edX x i = [] := by
  unfold edX
  rw [h1, h2]
  simp
theorem edX_ft {x : Ins} {i : Nat} (h1 : tgtF x = false) (h2 : goesF x = true) : edX x i = [i + 1] := by
  unfold edX
  rw [h1, h2]
  simp
theorem edX_tf {x : Ins} {i : Nat} (h1 : tgtF x = true) (h2 : goesF x = false) : edX x i = [x.n.toNat] := by
  unfold edX
  rw [h1, h2]
  by_cases h : x.n ≤ (i : Int)
  · simp [h]
  · simp [h]
theorem edX_tt1 {x : Ins} {i : Nat} (h1 : tgtF x = true) (h2 : goesF x = true) (h : x.n ≤ (i : Int)) : edX x i = [x.n.toNat, i + 1] := by
  unfold edX
  rw [h1, h2]
  simp [h]; omega
theorem edX_tt2 {x : Ins} {i : Nat} (h1 : tgtF x = true) (h2 : goesF x = true) (h : x.n = (i : Int) + 1) : edX x i = [i + 1] := by
  unfold edX
  rw [h1, h2]
  have h3 : ¬ x.n ≤ (i : Int) := by omega
  simp [h3]; omega
theorem edX_tt3 {x : Ins} {i : Nat} (h1 : tgtF x = true) (h2 : goesF x = true) (h : (i : Int) + 1 < x.n) : edX x i = [i + 1, x.n.toNat] := by
  unfold edX
  rw [h1, h2]
  have h3 : ¬ x.n ≤ (i : Int) := by omega
  have h4 : (i : Int) < x.n := by omega
  simp [h3, h4, h]
theorem edX_cases (x : Ins) (i : Nat) : (tgtF x = false ∧ goesF x = false ∧ edX x i = []) ∨ (tgtF x = false ∧ goesF x = true ∧ edX x i = [i + 1]) ∨ (tgtF x = true ∧ goesF x = false ∧ edX x i = [x.n.toNat]) ∨ (tgtF x = true ∧ goesF x = true ∧ x.n ≤ (i : Int) ∧ edX x i = [x.n.toNat, i + 1]) ∨ (tgtF x = true ∧ goesF x = true ∧ x.n = (i : Int) + 1 ∧ edX x i = [i + 1]) ∨ (tgtF x = true ∧ goesF x = true ∧ (i : Int) + 1 < x.n ∧ edX x i = [i + 1, x.n.toNat]) := by
  cases h1 : tgtF x with
  | false =>
    cases h2 : goesF x with
    | false => exact .inl ⟨rfl, rfl, edX_ff h1 h2⟩
    | true => exact .inr (.inl ⟨rfl, rfl, edX_ft h1 h2⟩)
  | true =>
    cases h2 : goesF x with
    | false => exact .inr (.inr (.inl ⟨rfl, rfl, edX_tf h1 h2⟩))
    | true =>
      by_cases h : x.n ≤ (i : Int)
      · exact .inr (.inr (.inr (.inl ⟨rfl, rfl, h, edX_tt1 h1 h2 h⟩)))
      · by_cases h3 : x.n = (i : Int) + 1
        · exact .inr (.inr (.inr (.inr (.inl ⟨rfl, rfl, h3, edX_tt2 h1 h2 h3⟩))))
        · exact .inr (.inr (.inr (.inr (.inr ⟨rfl, rfl, by omega, edX_tt3 h1 h2 (by omega)⟩))))
theorem edX_mem {x : Ins} {i k : Nat} : k ∈ edX x i ↔ (tgtF x = true ∧ x.n = (k : Int)) ∨ (goesF x = true ∧ k = i + 1) := by
  have h0 := fun h => (tgtF_lo (x := x) h).1
  rcases edX_cases x i with ⟨h1, h2, h3⟩ | ⟨h1, h2, h3⟩ | ⟨h1, h2, h3⟩ | ⟨h1, h2, h, h3⟩ | ⟨h1, h2, h, h3⟩ | ⟨h1, h2, h, h3⟩
  all_goals rw [h3, h1, h2]
  all_goals rw [h1] at h0
  all_goals simp
  all_goals try have h0 := h0 rfl
  all_goals omega
theorem edX_srt (x : Ins) (i : Nat) : (edX x i).Pairwise (· < ·) := by
  rcases edX_cases x i with ⟨h1, h2, h3⟩ | ⟨h1, h2, h3⟩ | ⟨h1, h2, h3⟩ | ⟨h1, h2, h, h3⟩ | ⟨h1, h2, h, h3⟩ | ⟨h1, h2, h, h3⟩
  all_goals rw [h3]
  all_goals try have h0 := tgtF_lo h1
  all_goals simp
  all_goals (try omega)
theorem edX_len (x : Ins) (i : Nat) : (edX x i).length ≤ 2 := by
  rcases edX_cases x i with ⟨h1, h2, h3⟩ | ⟨h1, h2, h3⟩ | ⟨h1, h2, h3⟩ | ⟨h1, h2, h, h3⟩ | ⟨h1, h2, h, h3⟩ | ⟨h1, h2, h, h3⟩
  all_goals rw [h3]
  all_goals simp
theorem edF_at {p : List Ins} {i : Nat} {x : Ins} (h : p[i]? = some x) : edF p i = edX x i := by
  unfold edF; rw [h]
theorem edF_mem {p : List Ins} {i k : Nat} : k ∈ edF p i ↔ ∃ x, p[i]? = some x ∧ ((tgtF x = true ∧ x.n = (k : Int)) ∨ (goesF x = true ∧ k = i + 1)) := by
  unfold edF
  cases h : p[i]? with
  | none => simp
  | some x => simp [edX_mem]
theorem edF_srt (p : List Ins) (i : Nat) : (edF p i).Pairwise (· < ·) := by
  unfold edF
  split
  · exact edX_srt _ _
  · exact List.Pairwise.nil
theorem edF_len (p : List Ins) (i : Nat) : (edF p i).length ≤ 2 := by
  unfold edF
  split
  · exact edX_len _ _
  · simp
theorem edF_lt {p : List Ins} (h : RightP p) {i k : Nat} (hk : k ∈ edF p i) : k < p.length := by
  obtain ⟨x, hx, h1⟩ := edF_mem.1 hk
  have hm := List.mem_of_getElem? hx
  have hi := (List.getElem?_eq_some_iff.1 hx).1
  rcases h1 with ⟨h2, h3⟩ | ⟨h2, h3⟩
  · have := (h.tgt x hm h2).2; omega
  · by_cases hl : i = p.length - 1
    · subst hl
      rw [h.last hx] at h2
      cases h2
    · omega
/-- The graph of a program. -/
def EdP (p : List Ins) (u v : Nat) : Prop := v ∈ edF p u
theorem rch_lt {p : List Ins} (h : RightP p) {v : Nat} (hv : Rch (EdP p) v) : v < p.length := by
  cases hv with
  | start _ => exact h.pos
  | step _ e _ => exact edF_lt h e
/-- Where control comes from. -/
def befN (p : List Ins) (m k : Nat) : List Nat := (List.range m).filter (fun i => decide (k ∈ edF p i))
theorem befN_succ (p : List Ins) (m k : Nat) : befN p (m + 1) k = befN p m k ++ if k ∈ edF p m then [m] else [] := by
  unfold befN
  rw [List.range_succ, List.filter_append]
  congr 1
  by_cases h : k ∈ edF p m
  · simp [h]
  · simp [h]
theorem befN_mem {p : List Ins} {m k i : Nat} : i ∈ befN p m k ↔ i < m ∧ k ∈ edF p i := by
  unfold befN
  rw [List.mem_filter, List.mem_range, decide_eq_true_eq]
theorem befN_srt (p : List Ins) (m k : Nat) : (befN p m k).Pairwise (· < ·) := List.pairwise_lt_range.filter _
theorem befN_len (p : List Ins) (m k : Nat) : (befN p m k).length ≤ m := by
  unfold befN
  have h := List.length_filter_le (fun i => decide (k ∈ edF p i)) (List.range m)
  rwa [List.length_range] at h
/-- A sorted list over the numbers below n is told by what is in it. -/
theorem srt_filter {n : Nat} {l : List Nat} (h : l.Pairwise (· < ·)) (hn : ∀ x ∈ l, x < n) : (List.range n).filter (fun k => decide (k ∈ l)) = l := by
  have h1 : ((List.range n).filter (fun k => decide (k ∈ l))).Pairwise (· < ·) := List.pairwise_lt_range.filter _
  have h2 : ∀ x, x ∈ (List.range n).filter (fun k => decide (k ∈ l)) ↔ x ∈ l := fun x => by
    rw [List.mem_filter, List.mem_range, decide_eq_true_eq]
    exact ⟨fun h => h.2, fun h => ⟨hn x h, h⟩⟩
  generalize (List.range n).filter (fun k => decide (k ∈ l)) = l' at h1 h2
  induction l' generalizing l with
  | nil =>
    cases l with
    | nil => rfl
    | cons a l => exact absurd ((h2 a).2 (List.mem_cons_self ..)) (by simp)
  | cons a t ih =>
    cases l with
    | nil => exact absurd ((h2 a).1 (List.mem_cons_self ..)) (by simp)
    | cons b l =>
      rw [List.pairwise_cons] at h h1
      have e : a = b := by
        rcases List.mem_cons.1 ((h2 a).1 (List.mem_cons_self ..)) with e | e
        · exact e
        · rcases List.mem_cons.1 ((h2 b).2 (List.mem_cons_self ..)) with e2 | e2
          · exact e2.symm
          · have := h.1 a e; have := h1.1 b e2; omega
      subst e
      rw [ih h.2 (fun x hx => hn x (List.mem_cons_of_mem _ hx)) h1.2 (fun x => ?_)]
      have h3 := h2 x
      rw [List.mem_cons, List.mem_cons] at h3
      constructor
      · intro hx
        rcases h3.1 (.inr hx) with e | e
        · have := h1.1 x hx; omega
        · exact e
      · intro hx
        rcases h3.2 (.inr hx) with e | e
        · have := h.1 x hx; omega
        · exact e
end Go.Fx
