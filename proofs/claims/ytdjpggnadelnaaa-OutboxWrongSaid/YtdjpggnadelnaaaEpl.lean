/- Epl: events in plain Lean: the order of their keys, runs, what a merge is. No program in sight. -/
import Derived.WalkKit
namespace Go.Fx
/-- A key. -/
structure Ky where
  t : Int
  s : Int
  q : Int
deriving DecidableEq
/-- An event. -/
structure Ev where
  t : Int
  s : Int
  q : Int
  to : Int
  v : Int
deriving DecidableEq
def Ev.k (e : Ev) : Ky := ⟨e.t, e.s, e.q⟩
/-- A key is less than another one. -/
def klB (a b : Ky) : Bool := decide (a.t < b.t ∨ (a.t = b.t ∧ (a.s < b.s ∨ (a.s = b.s ∧ a.q < b.q))))
def elB (a b : Ev) : Bool := klB a.k b.k
theorem kl_iff {a b : Ky} : klB a b = true ↔ a.t < b.t ∨ (a.t = b.t ∧ (a.s < b.s ∨ (a.s = b.s ∧ a.q < b.q))) := by simp [klB]
theorem kl_irr (a : Ky) : klB a a = false := by simp [klB]
theorem kl_tr {a b c : Ky} (h1 : klB a b = true) (h2 : klB b c = true) : klB a c = true := by
  rw [kl_iff] at *; omega
theorem kl_tri (a b : Ky) : klB a b = true ∨ a = b ∨ klB b a = true := by
  rw [kl_iff, kl_iff]
  obtain ⟨t, s, q⟩ := a
  obtain ⟨t', s', q'⟩ := b
  simp only [Ky.mk.injEq]
  omega
theorem kl_as {a b : Ky} (h : klB a b = true) : klB b a = false := by
  cases hb : klB b a with
  | false => rfl
  | true => have := kl_tr h hb; rw [kl_irr] at this; cases this
theorem kl_ne {a b : Ky} (h : klB a b = true) : a ≠ b := by
  rintro rfl; rw [kl_irr] at h; cases h
theorem el_irr (a : Ev) : elB a a = false := kl_irr _
theorem el_tr {a b c : Ev} (h1 : elB a b = true) (h2 : elB b c = true) : elB a c = true := kl_tr h1 h2
theorem el_as {a b : Ev} (h : elB a b = true) : elB b a = false := kl_as h
theorem el_tri (a b : Ev) : elB a b = true ∨ a.k = b.k ∨ elB b a = true := kl_tri _ _
/-- A list is in order. -/
def Srt (l : List Ev) : Prop := l.Pairwise (fun a b => elB a b = true)
def srtA : Ev → List Ev → Bool
  | _, [] => true
  | p, x :: xs => elB p x && srtA x xs
def srtB : List Ev → Bool
  | [] => true
  | x :: xs => srtA x xs
theorem srtA_iff : ∀ (xs : List Ev) (p : Ev), srtA p xs = true ↔ Srt (p :: xs)
  | [], p => by simp [srtA, Srt]
  | x :: xs, p => by
    unfold srtA
    rw [Bool.and_eq_true, srtA_iff xs x]
    unfold Srt
    rw [List.pairwise_cons (a := p)]
    constructor
    · rintro ⟨h1, h2⟩
      refine ⟨fun y hy => ?_, h2⟩
      rcases List.mem_cons.1 hy with rfl | hy
      · exact h1
      · exact el_tr h1 ((List.pairwise_cons.1 h2).1 y hy)
    · rintro ⟨h1, h2⟩
      exact ⟨h1 x (by simp), h2⟩
theorem srtB_iff (l : List Ev) : srtB l = true ↔ Srt l := by
  cases l with
  | nil => simp [srtB, Srt]
  | cons x xs => exact srtA_iff xs x
/-- The runs of a list: from 'from' on, the event before being 'p', at the index i. -/
def runsA : Nat → Nat → Ev → List Ev → List (Nat × Nat)
  | from', i, _, [] => [(from', i)]
  | from', i, p, x :: xs => if elB p x then runsA from' (i + 1) x xs else (from', i) :: runsA i (i + 1) x xs
def runsF : List Ev → List (Nat × Nat)
  | [] => []
  | x :: xs => runsA 0 1 x xs
theorem runsA_pos : ∀ (xs : List Ev) (f i : Nat) (p : Ev), 0 < (runsA f i p xs).length
  | [], f, i, p => by simp [runsA]
  | x :: xs, f, i, p => by
    unfold runsA
    split
    · exact runsA_pos xs _ _ _
    · simp
theorem runsA_len : ∀ (xs : List Ev) (f i : Nat) (p : Ev), srtA p xs = decide ((runsA f i p xs).length < 2)
  | [], f, i, p => by simp [srtA, runsA]
  | x :: xs, f, i, p => by
    unfold srtA runsA
    cases h : elB p x with
    | true => simpa [h] using runsA_len xs f (i + 1) x
    | false =>
      have := runsA_pos xs i (i + 1) x
      simp only [Bool.false_and, Bool.false_eq_true, if_false, List.length_cons]
      symm; simp; omega
theorem runsF_len (l : List Ev) : srtB l = decide ((runsF l).length < 2) := by
  cases l with
  | nil => simp [srtB, runsF]
  | cons x xs => exact runsA_len xs 0 1 x
theorem runsA_le : ∀ (xs : List Ev) (f i : Nat) (p : Ev), (runsA f i p xs).length ≤ xs.length + 1
  | [], f, i, p => by simp [runsA]
  | x :: xs, f, i, p => by
    unfold runsA
    split
    · have := runsA_le xs f (i + 1) x; simp; omega
    · have := runsA_le xs i (i + 1) x; simp; omega
theorem runsF_le (l : List Ev) : (runsF l).length ≤ l.length := by
  cases l with
  | nil => simp [runsF]
  | cons x xs => have := runsA_le xs 0 1 x; simpa [runsF] using this
/-- Each run lies in the list. -/
theorem runsA_in : ∀ (xs : List Ev) (f i : Nat) (p : Ev), f < i → ∀ r ∈ runsA f i p xs, r.1 < r.2 ∧ r.2 ≤ i + xs.length
  | [], f, i, p, h, r, hr => by simp [runsA] at hr; subst hr; simpa using h
  | x :: xs, f, i, p, h, r, hr => by
    unfold runsA at hr
    split at hr
    · have := runsA_in xs f (i + 1) x (by omega) r hr; simp; omega
    · rcases List.mem_cons.1 hr with rfl | hr
      · simp; omega
      · have := runsA_in xs i (i + 1) x (by omega) r hr; simp; omega
theorem runsF_in (l : List Ev) : ∀ r ∈ runsF l, r.1 < r.2 ∧ r.2 ≤ l.length := by
  cases l with
  | nil => simp [runsF]
  | cons x xs =>
    intro r hr
    have := runsA_in xs 0 1 x (by omega) r hr
    simp; omega
/-- The stretch of a list from one index to another one. -/
def cutL (l : List Ev) (r : Nat × Nat) : List Ev := (l.take r.2).drop r.1
theorem runsA_flat : ∀ (xs : List Ev) (f i : Nat) (p : Ev) (l : List Ev), f < i → l.drop i = xs → i ≤ l.length → ((runsA f i p xs).map (cutL l)).flatten = l.drop f
  | [], f, i, p, l, h, hd, hi => by
    have : l.length ≤ i := List.drop_eq_nil_iff.1 hd
    simp [runsA, cutL, List.take_of_length_le this]
  | x :: xs, f, i, p, l, h, hd, hi => by
    have hlt : i < l.length := by
      rcases Nat.lt_or_ge i l.length with h | h
      · exact h
      · rw [List.drop_eq_nil_of_le h] at hd; cases hd
    have hd1 : l.drop (i + 1) = xs := by rw [← List.drop_drop, hd]; rfl
    unfold runsA
    split
    · exact runsA_flat xs f (i + 1) x l (by omega) hd1 (by omega)
    · rw [List.map_cons, List.flatten_cons, runsA_flat xs i (i + 1) x l (by omega) hd1 (by omega)]
      unfold cutL
      have e : l.drop i = (l.drop f).drop (i - f) := by rw [List.drop_drop]; congr 1; omega
      rw [List.drop_take, e]
      exact List.take_append_drop _ _
theorem runsF_flat (l : List Ev) : ((runsF l).map (cutL l)).flatten = l := by
  cases l with
  | nil => simp [runsF]
  | cons x xs => simpa [runsF] using runsA_flat xs 0 1 x (x :: xs) (by omega) rfl (by simp)
/-- Each run is in order. -/
theorem runsA_srt : ∀ (xs : List Ev) (f i : Nat) (p : Ev) (l : List Ev), f < i → l.drop i = xs → i ≤ l.length → (∃ y, (l.take i).getLast? = some y ∧ y = p) → Srt ((l.take i).drop f) → ∀ r ∈ runsA f i p xs, Srt (cutL l r)
  | [], f, i, p, l, h, hd, hi, hp, hs, r, hr => by
    simp [runsA] at hr; subst hr; exact hs
  | x :: xs, f, i, p, l, h, hd, hi, hp, hs, r, hr => by
    have hlt : i < l.length := by
      rcases Nat.lt_or_ge i l.length with h | h
      · exact h
      · rw [List.drop_eq_nil_of_le h] at hd; cases hd
    have hd1 : l.drop (i + 1) = xs := by rw [← List.drop_drop, hd]; rfl
    have hx : l[i] = x := by
      have : (l.drop i)[0]? = some x := by rw [hd]; rfl
      rw [List.getElem?_drop, Nat.add_zero, List.getElem?_eq_getElem hlt] at this
      exact Option.some.inj this
    have ht : l.take (i + 1) = l.take i ++ [x] := by rw [List.take_succ_eq_append_getElem hlt, hx]
    have hp1 : ∃ y, (l.take (i + 1)).getLast? = some y ∧ y = x := ⟨x, by rw [ht]; simp, rfl⟩
    unfold runsA at hr
    split at hr
    · next hpx =>
      refine runsA_srt xs f (i + 1) x l (by omega) hd1 (by omega) hp1 ?_ r hr
      have hl : (l.take i).length = i := by rw [List.length_take]; omega
      rw [ht, List.drop_append_of_le_length (by omega)]
      unfold Srt
      refine List.pairwise_append.2 ⟨hs, by simp, fun a ha b hb => ?_⟩
      obtain rfl : b = x := by simpa using hb
      obtain ⟨y, hy, rfl⟩ := hp
      have hne : (l.take i).drop f ≠ [] := by
        intro h0
        have := congrArg List.length h0
        rw [List.length_drop, hl] at this
        simp at this; omega
      have hlast : ((l.take i).drop f).getLast? = some y := by rw [List.getLast?_drop, if_neg (by omega)]; exact hy
      obtain ⟨l0, hl0⟩ := List.getLast?_eq_some_iff.1 hlast
      rw [hl0] at hs ha
      rcases List.mem_append.1 ha with ha | ha
      · exact el_tr ((List.pairwise_append.1 hs).2.2 a ha y (by simp)) hpx
      · obtain rfl : a = y := by simpa using ha
        exact hpx
    · rcases List.mem_cons.1 hr with rfl | hr
      · exact hs
      · refine runsA_srt xs i (i + 1) x l (by omega) hd1 (by omega) hp1 ?_ r hr
        have hl : (l.take i).length = i := by rw [List.length_take]; omega
        rw [ht, List.drop_append_of_le_length (by omega), List.drop_eq_nil_of_le (by omega)]
        simp [Srt]
theorem runsF_srt (l : List Ev) : ∀ r ∈ runsF l, Srt (cutL l r) := by
  cases l with
  | nil => simp [runsF]
  | cons x xs =>
    intro r hr
    exact runsA_srt xs 0 1 x (x :: xs) (by omega) rfl (by simp) ⟨x, by simp, rfl⟩ (by simp [Srt]) r hr
/-! A list in order with one event more; the events of a list in order. -/
def insE (x : Ev) : List Ev → List Ev
  | [] => [x]
  | y :: ys => if elB y x then y :: insE x ys else x :: y :: ys
def isort : List Ev → List Ev
  | [] => []
  | x :: xs => insE x (isort xs)
theorem insE_perm (x : Ev) : ∀ l : List Ev, (insE x l).Perm (x :: l)
  | [] => List.Perm.refl _
  | y :: ys => by
    unfold insE
    split
    · exact ((insE_perm x ys).cons y).trans (List.Perm.swap x y ys)
    · exact List.Perm.refl _
theorem isort_perm : ∀ l : List Ev, (isort l).Perm l
  | [] => List.Perm.refl _
  | x :: xs => (insE_perm x _).trans ((isort_perm xs).cons x)
theorem insE_srt {x : Ev} : ∀ {l : List Ev}, Srt l → (∀ y ∈ l, y.k ≠ x.k) → Srt (insE x l)
  | [], _, _ => by simp [insE, Srt]
  | y :: ys, h, hk => by
    unfold insE
    have h' := List.pairwise_cons.1 h
    split
    · next hyx =>
      refine List.pairwise_cons.2 ⟨fun z hz => ?_, insE_srt h'.2 (fun z hz => hk z (by simp [hz]))⟩
      rcases List.mem_cons.1 ((insE_perm x ys).mem_iff.1 hz) with rfl | hz
      · exact hyx
      · exact h'.1 z hz
    · next hyx =>
      have hxy : elB x y = true := by
        rcases el_tri x y with h | h | h
        · exact h
        · exact absurd h.symm (hk y (by simp))
        · exact absurd h hyx
      refine List.pairwise_cons.2 ⟨fun z hz => ?_, h⟩
      rcases List.mem_cons.1 hz with rfl | hz
      · exact hxy
      · exact el_tr hxy (h'.1 z hz)
/-- No two events have the same key. -/
def Dif (l : List Ev) : Prop := l.Pairwise (fun a b => a.k ≠ b.k)
theorem Dif.perm {a b : List Ev} (h : Dif a) (p : a.Perm b) : Dif b := p.pairwise h (fun h => fun e => h e.symm)
theorem Srt.dif {a : List Ev} (h : Srt a) : Dif a := h.imp (fun h => kl_ne h)
theorem isort_srt : ∀ {l : List Ev}, Dif l → Srt (isort l)
  | [], _ => by simp [isort, Srt]
  | x :: xs, h => by
    have h' := List.pairwise_cons.1 h
    exact insE_srt (isort_srt h'.2) (fun y hy => fun e => h'.1 y ((isort_perm xs).mem_iff.1 hy) e.symm)
/-- Two lists in order with the same events are one. -/
theorem srt_unique : ∀ {a b : List Ev}, Srt a → Srt b → a.Perm b → a = b
  | [], b, _, _, p => (List.Perm.nil_eq p)
  | x :: xs, [], _, _, p => by have := p.length_eq; simp at this
  | x :: xs, y :: ys, ha, hb, p => by
    have ha' := List.pairwise_cons.1 ha
    have hb' := List.pairwise_cons.1 hb
    have hxy : x = y := by
      have h1 : x ∈ y :: ys := p.mem_iff.1 (by simp)
      have h2 : y ∈ x :: xs := p.mem_iff.2 (by simp)
      rcases List.mem_cons.1 h1 with h | h1
      · exact h
      · rcases List.mem_cons.1 h2 with h | h2
        · exact h.symm
        · have h3 := hb'.1 x h1
          have h4 := ha'.1 y h2
          rw [el_as h3] at h4; cases h4
    subst hxy
    rw [srt_unique ha'.2 hb'.2 (List.Perm.cons_inv p)]
theorem isort_unique {a b : List Ev} (ha : Srt a) (p : a.Perm b) : isort b = a :=
  srt_unique (isort_srt (ha.dif.perm p)) ha ((isort_perm b).trans p.symm)
theorem isort_perm_eq {a b : List Ev} (h : Dif a) (p : a.Perm b) : isort a = isort b :=
  srt_unique (isort_srt h) (isort_srt (h.perm p)) ((isort_perm a).trans (p.trans (isort_perm b).symm))
theorem isort_len (l : List Ev) : (isort l).length = l.length := (isort_perm l).length_eq
end Go.Fx
