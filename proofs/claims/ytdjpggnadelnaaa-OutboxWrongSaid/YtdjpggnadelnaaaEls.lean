/- Els: lists of lists of events in memory; the least list, in plain Lean. -/
import Derived.Test.YtdjpggnadelnaaaEvm
namespace Go.Fx
open Go.RowKit
/-- A list of slices of events: the slices' values, and what they hold. -/
structure Els (w : World) (ss : List Sl) (ls : List (List Ev)) : Prop where
  len : ss.length = ls.length
  at_ : ∀ (i : Nat) (s : Sl), ss[i]? = some s → s.n ≤ s.c ∧ ∃ l, ls[i]? = some l ∧ RdS 5 evC w s.A s.n l
section
variable {T : Nat → Prop} {w w' : World} {ss : List Sl} {ls : List (List Ev)}
theorem Els.nil : Els w [] [] := ⟨rfl, by simp⟩
theorem Els.chg (h : Els w ss ls) (hc : Chg T w w') (hT : ∀ s ∈ ss, ∀ k o, s.A = some ⟨k, o, none⟩ → 0 < s.n → ¬ T k) : Els w' ss ls :=
  ⟨h.len, fun i s hs => by
    obtain ⟨h1, l, h2, h3⟩ := h.at_ i s hs
    exact ⟨h1, l, h2, h3.chg hc (hT s (List.mem_of_getElem? hs))⟩⟩
theorem Els.ext (h : Els w ss ls) (e : Ext w w') : Els w' ss ls := h.chg (T := fun _ => False) (Chg.ofExt e) (fun _ _ _ _ _ _ t => t)
theorem Els.get (h : Els w ss ls) {i : Nat} (hi : i < ss.length) : ∃ s l, ss[i]? = some s ∧ ls[i]? = some l ∧ s.n ≤ s.c ∧ RdS 5 evC w s.A s.n l := by
  obtain ⟨h1, l, h2, h3⟩ := h.at_ i ss[i] (List.getElem?_eq_getElem hi)
  exact ⟨ss[i], l, List.getElem?_eq_getElem hi, h2, h1, h3⟩
theorem Els.snoc {s : Sl} {l : List Ev} (h : Els w ss ls) (hc : s.n ≤ s.c) (hb : RdS 5 evC w s.A s.n l) : Els w (ss ++ [s]) (ls ++ [l]) := by
  refine ⟨by simp [h.len], fun i s' hs => ?_⟩
  by_cases hi : i < ss.length
  · rw [List.getElem?_append_left hi] at hs
    rw [List.getElem?_append_left (by rw [← h.len]; exact hi)]
    exact h.at_ i s' hs
  · rw [List.getElem?_append_right (by omega)] at hs
    obtain ⟨hj, e⟩ := List.getElem?_eq_some_iff.1 hs
    simp at hj
    have : i - ss.length = 0 := by omega
    simp [this] at e
    subst e
    exact ⟨hc, l, by rw [List.getElem?_append_right (by rw [← h.len]; omega), ← h.len, this]; rfl, hb⟩
theorem Els.set {s : Sl} {l : List Ev} (h : Els w ss ls) {i : Nat} (hc : s.n ≤ s.c) (hb : RdS 5 evC w s.A s.n l) : Els w (ss.set i s) (ls.set i l) := by
  refine ⟨by simp [h.len], fun j s' hs => ?_⟩
  by_cases hij : i = j
  · subst hij
    have hlt : i < ss.length := by have := (List.getElem?_eq_some_iff.1 hs).1; simpa using this
    rw [List.getElem?_set_self hlt] at hs
    cases hs
    exact ⟨hc, l, by rw [List.getElem?_set_self (by rw [← h.len]; exact hlt)], hb⟩
  · rw [List.getElem?_set_ne hij] at hs ⊢
    exact h.at_ j s' hs
theorem Els.take (h : Els w ss ls) (k : Nat) : Els w (ss.take k) (ls.take k) := by
  refine ⟨by simp [h.len], fun i s hs => ?_⟩
  rw [List.getElem?_take] at hs ⊢
  split at hs
  · next hi => rw [if_pos hi]; exact h.at_ i s hs
  · cases hs
theorem Els.drop (h : Els w ss ls) (k : Nat) : Els w (ss.drop k) (ls.drop k) := by
  refine ⟨by simp [h.len], fun i s hs => ?_⟩
  rw [List.getElem?_drop] at hs ⊢
  exact h.at_ _ s hs
theorem Els.append {ss2 : List Sl} {ls2 : List (List Ev)} (h : Els w ss ls) (h2 : Els w ss2 ls2) : Els w (ss ++ ss2) (ls ++ ls2) := by
  refine ⟨by simp [h.len, h2.len], fun i s hs => ?_⟩
  by_cases hi : i < ss.length
  · rw [List.getElem?_append_left hi] at hs
    rw [List.getElem?_append_left (by rw [← h.len]; exact hi)]
    exact h.at_ i s hs
  · rw [List.getElem?_append_right (by omega)] at hs
    rw [List.getElem?_append_right (by rw [← h.len]; omega), ← h.len]
    exact h2.at_ _ s hs
end
/-- The least list: from the index i on, the best one so far being b. -/
def leastA : Nat → Option (Nat × Ev) → List (List Ev) → Option (Nat × Ev)
  | _, b, [] => b
  | i, b, [] :: ls => leastA (i + 1) b ls
  | i, none, (x :: _) :: ls => leastA (i + 1) (some (i, x)) ls
  | i, some (j, y), (x :: _) :: ls => leastA (i + 1) (if elB x y then some (i, x) else some (j, y)) ls
def leastF (ls : List (List Ev)) : Option (Nat × Ev) := leastA 0 none ls
def ixO (b : Option (Nat × Ev)) : Nat := match b with | none => 0 | some (j, _) => j
def isO (b : Option (Nat × Ev)) : Bool := match b with | none => false | some _ => true
/-- What the best one is. -/
def BestOk (ls : List (List Ev)) (b : Option (Nat × Ev)) : Prop := ∀ j y, b = some (j, y) → ∃ l, ls[j]? = some (y :: l)
theorem leastA_ok {ls : List (List Ev)} : ∀ (rest : List (List Ev)) (i : Nat) (b : Option (Nat × Ev)), BestOk ls b → ls.drop i = rest → BestOk ls (leastA i b rest)
  | [], i, b, h, _ => h
  | [] :: rest, i, b, h, hd => leastA_ok rest (i + 1) b h (by rw [← List.drop_drop, hd]; rfl)
  | (x :: xs) :: rest, i, b, h, hd => by
    have h1 : ls.drop (i + 1) = rest := by rw [← List.drop_drop, hd]; rfl
    have h2 : ls[i]? = some (x :: xs) := by
      have : (ls.drop i)[0]? = some (x :: xs) := by rw [hd]; rfl
      rwa [List.getElem?_drop, Nat.add_zero] at this
    have h3 : BestOk ls (some (i, x)) := fun j y e => by cases e; exact ⟨xs, h2⟩
    cases b with
    | none => exact leastA_ok rest (i + 1) _ h3 h1
    | some p =>
      obtain ⟨j, y⟩ := p
      unfold leastA
      split
      · exact leastA_ok rest (i + 1) _ h3 h1
      · exact leastA_ok rest (i + 1) _ h h1
theorem leastF_ok (ls : List (List Ev)) : BestOk ls (leastF ls) := leastA_ok ls 0 none (fun _ _ h => by cases h) rfl
/-- The least first event is less than, or has the key of, each first event; without events there is none. -/
theorem leastA_min : ∀ (rest : List (List Ev)) (i : Nat) (b : Option (Nat × Ev)), (∀ j y, leastA i b rest = some (j, y) → (∀ p, b = some p → elB p.2 y = false) ∧ ∀ x xs, x :: xs ∈ rest → elB x y = false) ∧ (leastA i b rest = none → b = none ∧ ∀ l ∈ rest, l = [])
  | [], i, b => by
    refine ⟨fun j y h => ⟨fun p hp => ?_, by simp⟩, fun h => ⟨h, by simp⟩⟩
    have h' : b = some (j, y) := h
    rw [h'] at hp; cases hp; exact el_irr y
  | [] :: rest, i, b => by
    have ih := leastA_min rest (i + 1) b
    refine ⟨fun j y h => ⟨(ih.1 j y h).1, fun x xs hx => ?_⟩, fun h => ⟨(ih.2 h).1, fun l hl => ?_⟩⟩
    · rcases List.mem_cons.1 hx with h1 | h1
      · cases h1
      · exact (ih.1 j y h).2 x xs h1
    · rcases List.mem_cons.1 hl with h1 | h1
      · exact h1
      · exact (ih.2 h).2 l h1
  | (x0 :: xs0) :: rest, i, none => by
    have ih := leastA_min rest (i + 1) (some (i, x0))
    refine ⟨fun j y h => ⟨fun p hp => (by cases hp), fun x xs hx => ?_⟩, fun h => ?_⟩
    · rcases List.mem_cons.1 hx with h1 | h1
      · cases h1; exact (ih.1 j y h).1 _ rfl
      · exact (ih.1 j y h).2 x xs h1
    · have := (ih.2 h).1; cases this
  | (x0 :: xs0) :: rest, i, some (j0, y0) => by
    cases hc : elB x0 y0 with
    | true =>
      have ih := leastA_min rest (i + 1) (some (i, x0))
      have e : leastA i (some (j0, y0)) ((x0 :: xs0) :: rest) = leastA (i + 1) (some (i, x0)) rest := by rw [leastA, hc]; rfl
      rw [e]
      refine ⟨fun j y h => ⟨fun p hp => ?_, fun x xs hx => ?_⟩, fun h => ?_⟩
      · cases hp
        have h1 := (ih.1 j y h).1 _ rfl
        cases hy : elB y0 y with
        | false => rfl
        | true => have := el_tr hc hy; rw [this] at h1; exact h1
      · rcases List.mem_cons.1 hx with h1 | h1
        · cases h1; exact (ih.1 j y h).1 _ rfl
        · exact (ih.1 j y h).2 x xs h1
      · have := (ih.2 h).1; cases this
    | false =>
      have ih := leastA_min rest (i + 1) (some (j0, y0))
      have e : leastA i (some (j0, y0)) ((x0 :: xs0) :: rest) = leastA (i + 1) (some (j0, y0)) rest := by rw [leastA, hc]; rfl
      rw [e]
      refine ⟨fun j y h => ⟨fun p hp => (ih.1 j y h).1 p hp, fun x xs hx => ?_⟩, fun h => ?_⟩
      · rcases List.mem_cons.1 hx with h1 | h1
        · cases h1
          have h2 := (ih.1 j y h).1 _ rfl
          cases hy : elB x0 y with
          | false => rfl
          | true =>
            rcases el_tri x0 y0 with h3 | h3 | h3
            · rw [hc] at h3; cases h3
            · have : elB y0 y = true := by unfold elB at hy ⊢; rw [← h3]; exact hy
              rw [this] at h2; exact h2
            · have := el_tr h3 hy; rw [this] at h2; exact h2
        · exact (ih.1 j y h).2 x xs h1
      · have := (ih.2 h).1; cases this
theorem leastF_min {ls : List (List Ev)} {j : Nat} {y : Ev} (h : leastF ls = some (j, y)) : ∀ x xs, x :: xs ∈ ls → elB x y = false := ((leastA_min ls 0 none).1 j y h).2
theorem leastF_none {ls : List (List Ev)} (h : leastF ls = none) : ∀ l ∈ ls, l = [] := ((leastA_min ls 0 none).2 h).2
/-! Taking the least event out: the merge of lists. -/
def popL (ls : List (List Ev)) (j : Nat) : List (List Ev) := ls.set j ((ls[j]?.getD []).tail)
theorem pop_perm {ls : List (List Ev)} {j : Nat} {y : Ev} {l : List Ev} (h : ls[j]? = some (y :: l)) : ls.flatten.Perm (y :: (ls.set j l).flatten) := by
  induction ls generalizing j with
  | nil => simp at h
  | cons a ls ih =>
    cases j with
    | zero => simp at h; subst h; simp
    | succ j =>
      have h' : ls[j]? = some (y :: l) := by simpa using h
      rw [List.set_cons_succ, List.flatten_cons, List.flatten_cons]
      exact ((ih h').append_left a).trans List.perm_middle
theorem pop_srt {ls : List (List Ev)} {j : Nat} {y : Ev} {l : List Ev} (h : ls[j]? = some (y :: l)) (hs : ∀ l ∈ ls, Srt l) : ∀ l' ∈ ls.set j l, Srt l' := by
  intro l' hl
  rcases List.mem_or_eq_of_mem_set hl with h1 | h1
  · exact hs l' h1
  · subst h1
    exact (List.pairwise_cons.1 (hs _ (List.mem_of_getElem? h))).2
/-- The merge of lists that are in order begins with the least first event. -/
theorem merge_pop {ls : List (List Ev)} {j : Nat} {y : Ev} {l : List Ev} (hs : ∀ l ∈ ls, Srt l) (hd : Dif ls.flatten) (h : leastF ls = some (j, y)) (hl : ls[j]? = some (y :: l)) :
    isort ls.flatten = y :: isort (ls.set j l).flatten := by
  have hp := pop_perm hl
  have hd2 : Dif (y :: (ls.set j l).flatten) := hd.perm hp
  have hd3 := List.pairwise_cons.1 hd2
  refine isort_unique ?_ ((List.Perm.cons y (isort_perm _)).trans hp.symm)
  refine List.pairwise_cons.2 ⟨fun z hz => ?_, isort_srt hd3.2⟩
  have hz' := (isort_perm _).mem_iff.1 hz
  have hne := hd3.1 z hz'
  have hle : elB z y = false := by
    have hzf : z ∈ ls.flatten := hp.mem_iff.2 (List.mem_cons_of_mem _ hz')
    obtain ⟨l', hl', hzl⟩ := List.mem_flatten.1 hzf
    cases l' with
    | nil => cases hzl
    | cons x xs =>
      have hx := leastF_min h x xs hl'
      rcases List.mem_cons.1 hzl with rfl | hzx
      · exact hx
      · have hxz := (List.pairwise_cons.1 (hs _ hl')).1 z hzx
        cases hy : elB z y with
        | false => rfl
        | true => have := el_tr hxz hy; rw [this] at hx; exact hx
  rcases el_tri z y with h1 | h1 | h1
  · rw [hle] at h1; cases h1
  · exact absurd h1.symm hne
  · exact h1
theorem merge_none {ls : List (List Ev)} (h : leastF ls = none) : isort ls.flatten = [] := by
  have : ls.flatten = [] := by
    rw [List.flatten_eq_nil_iff]; exact leastF_none h
  rw [this]; rfl
end Go.Fx
