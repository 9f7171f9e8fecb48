/- Obp: outboxes in plain Lean. No program in sight. -/
import Derived.Test.YtdjpggnadelnaaaEpl
namespace Go.Fx
/-- A key is right. -/
def rightK (k : Ky) : Bool := decide (0 ≤ k.t ∧ k.t ≤ 281474976710656 ∧ 0 ≤ k.s ∧ k.s ≤ 16 ∧ 0 ≤ k.q ∧ k.q ≤ 4294967295)
/-- New takes these numbers. -/
def newB (s l e : Int) : Bool := decide (1 ≤ s ∧ s ≤ 16 ∧ 0 ≤ l ∧ l ≤ 256 ∧ 0 ≤ e ∧ e ≤ 281474976710657)
/-- What look tells of an event: s the source, e the end, last the Seq before. -/
def lookF (s e last : Int) (x : Ev) : Nat := if rightK x.k = false ∨ x.to < 1 ∨ 16 < x.to then 290 else if x.s ≠ s then 291 else if x.t < e then 292 else if x.q ≤ last then 293 else 0
/-- The Seq of the last event. -/
def lastR (last : Int) (l : List Ev) : Int := match l.getLast? with
  | none => last
  | some x => x.q
/-- All of these can come. -/
def okP (s e : Int) : Int → List Ev → Bool
  | _, [] => true
  | last, x :: xs => decide (lookF s e last x = 0) && okP s e x.q xs
/-- The first one that cannot. -/
def badP (s e : Int) : Int → Nat → List Ev → Option (Nat × Nat)
  | _, _, [] => none
  | last, i, x :: xs => if lookF s e last x = 0 then badP s e x.q (i + 1) xs else some (i, lookF s e last x)
/-- What Put tells, and what is in the outbox behind it. -/
def putF (s lim e : Int) (evs l : List Ev) : Int × Nat × List Ev := match badP s e (lastR (-1) evs) 0 l with
  | some (i, er) => ((i : Int), er, evs)
  | none => if lim - (evs.length : Int) < (l.length : Int) then (-1, 4, evs) else (-1, 0, evs ++ l)
section
variable {s e last : Int}
theorem lastR_cons (x : Ev) (xs : List Ev) : lastR last (x :: xs) = lastR x.q xs := by
  unfold lastR
  cases xs with
  | nil => rfl
  | cons y ys => rw [List.getLast?_cons_cons]; cases h : (y :: ys).getLast? with
    | none => simp at h
    | some z => rfl
theorem lastR_snoc (l : List Ev) (x : Ev) : lastR last (l ++ [x]) = x.q := by unfold lastR; simp
theorem okP_app : ∀ (a b : List Ev) (last : Int), okP s e last (a ++ b) = (okP s e last a && okP s e (lastR last a) b)
  | [], b, last => by simp [okP, lastR]
  | x :: xs, b, last => by
    rw [List.cons_append, okP, okP, okP_app xs b, lastR_cons, Bool.and_assoc]
theorem badP_ok : ∀ {l : List Ev} {last : Int} {i : Nat}, okP s e last l = true → badP s e last i l = none
  | [], _, _, _ => rfl
  | x :: xs, last, i, h => by
    rw [okP, Bool.and_eq_true, decide_eq_true_eq] at h
    rw [badP, if_pos h.1, badP_ok h.2]
theorem badP_none : ∀ {l : List Ev} {last : Int} {i : Nat}, badP s e last i l = none → okP s e last l = true
  | [], _, _, _ => rfl
  | x :: xs, last, i, h => by
    rw [badP] at h
    split at h
    · next h1 => rw [okP, badP_none h, decide_eq_true h1]; rfl
    · cases h
theorem badP_at : ∀ {a b : List Ev} {x : Ev} {last : Int} {i er : Nat}, okP s e last a = true → lookF s e (lastR last a) x = er → er ≠ 0 → badP s e last i (a ++ x :: b) = some (i + a.length, er)
  | [], b, x, last, i, er, _, h, h0 => by
    rw [List.nil_append, badP, if_neg (by rw [show lookF s e last x = er from h]; exact h0), show lookF s e last x = er from h]; rfl
  | y :: ys, b, x, last, i, er, h1, h, h0 => by
    rw [okP, Bool.and_eq_true, decide_eq_true_eq] at h1
    rw [lastR_cons] at h
    rw [List.cons_append, badP, if_pos h1.1, badP_at h1.2 h h0, List.length_cons]
    congr 2; omega
theorem look_ok {x : Ev} (h : lookF s e last x = 0) : rightK x.k = true ∧ 1 ≤ x.to ∧ x.to ≤ 16 ∧ x.s = s ∧ e ≤ x.t ∧ last < x.q := by
  unfold lookF at h
  split at h
  · cases h
  · next h1 =>
    split at h
    · cases h
    · next h2 =>
      split at h
      · cases h
      · next h3 =>
        split at h
        · cases h
        · next h4 =>
          rw [not_or, not_or] at h1
          refine ⟨by simpa using h1.1, by omega, by omega, by simpa using h2, by omega, by omega⟩
theorem look_of {x : Ev} (h1 : rightK x.k = true) (h2 : 1 ≤ x.to) (h3 : x.to ≤ 16) (h4 : x.s = s) (h5 : e ≤ x.t) (h6 : last < x.q) : lookF s e last x = 0 := by
  unfold lookF
  rw [if_neg (by rw [h1]; simp; omega), if_neg (by simpa using h4), if_neg (by omega), if_neg (by omega)]
theorem okP_good : ∀ {l : List Ev} {last : Int}, okP s e last l = true → ∀ x ∈ l, rightK x.k = true ∧ 1 ≤ x.to ∧ x.to ≤ 16 ∧ x.s = s ∧ e ≤ x.t ∧ last < x.q
  | [], _, _, x, hx => by cases hx
  | y :: ys, last, h, x, hx => by
    rw [okP, Bool.and_eq_true, decide_eq_true_eq] at h
    have hy := look_ok h.1
    rcases List.mem_cons.1 hx with rfl | hx
    · exact hy
    · have h2 := okP_good h.2 x hx
      exact ⟨h2.1, h2.2.1, h2.2.2.1, h2.2.2.2.1, h2.2.2.2.2.1, by have := h2.2.2.2.2.2; omega⟩
theorem okP_dif : ∀ {l : List Ev} {last : Int}, okP s e last l = true → Dif l
  | [], _, _ => List.Pairwise.nil
  | y :: ys, last, h => by
    rw [okP, Bool.and_eq_true, decide_eq_true_eq] at h
    refine List.pairwise_cons.2 ⟨fun x hx hk => ?_, okP_dif h.2⟩
    have h2 := (okP_good h.2 x hx).2.2.2.2.2
    have h3 : y.q = x.q := congrArg Ky.q hk
    omega
theorem okP_take {l : List Ev} (h : okP s e last l = true) (k : Nat) : okP s e last (l.take k) = true := by
  rw [← List.take_append_drop k l, okP_app, Bool.and_eq_true] at h
  exact h.1
theorem okP_low {l : List Ev} : ∀ {last last' : Int}, okP s e last l = true → last' ≤ last → okP s e last' l = true := by
  intro last last' h hl
  cases l with
  | nil => rfl
  | cons x xs =>
    rw [okP, Bool.and_eq_true, decide_eq_true_eq] at h ⊢
    have h1 := look_ok h.1
    exact ⟨look_of h1.1 h1.2.1 h1.2.2.1 h1.2.2.2.1 h1.2.2.2.2.1 (by omega), h.2⟩
end
/-- The events of an outbox: each could come behind the ones before it, and there are not too many. -/
structure BoxOk (s lim e : Int) (evs : List Ev) : Prop where
  nw : newB s lim e = true
  ok : okP s e (-1) evs = true
  le : (evs.length : Int) ≤ lim
section
variable {s lim e : Int} {evs l : List Ev}
theorem BoxOk.nil (h : newB s lim e = true) : BoxOk s lim e [] := ⟨h, rfl, by unfold newB at h; simp at h; simp; omega⟩
theorem BoxOk.put (h : BoxOk s lim e evs) : BoxOk s lim e (putF s lim e evs l).2.2 := by
  unfold putF
  split
  · exact h
  · next hb =>
    split
    · exact h
    · next hl => exact ⟨h.nw, by rw [okP_app, h.ok, badP_none hb]; rfl, by rw [List.length_append]; omega⟩
theorem BoxOk.take (h : BoxOk s lim e evs) (k : Nat) : BoxOk s lim e (evs.take k) := ⟨h.nw, okP_take h.ok k, by have := h.le; rw [List.length_take]; omega⟩
theorem BoxOk.dif (h : BoxOk s lim e evs) : Dif evs := okP_dif h.ok
theorem BoxOk.len (h : BoxOk s lim e evs) : evs.length ≤ 256 := by
  have h1 := h.nw; have h2 := h.le
  unfold newB at h1
  simp at h1; omega
theorem BoxOk.nums (h : BoxOk s lim e evs) : 1 ≤ s ∧ s ≤ 16 ∧ 0 ≤ lim ∧ lim ≤ 256 ∧ 0 ≤ e ∧ e ≤ 281474976710657 := by
  have h1 := h.nw
  unfold newB at h1
  simpa using h1
theorem BoxOk.good (h : BoxOk s lim e evs) : ∀ x ∈ evs, rightK x.k = true ∧ 1 ≤ x.to ∧ x.to ≤ 16 ∧ x.s = s ∧ e ≤ x.t := fun x hx => by
  have := okP_good h.ok x hx
  exact ⟨this.1, this.2.1, this.2.2.1, this.2.2.2.1, this.2.2.2.2.1⟩
theorem put_all (_h : BoxOk s lim e evs) (hl : okP s e (lastR (-1) evs) l = true) (hn : (evs.length : Int) + (l.length : Int) ≤ lim) : putF s lim e evs l = (-1, 0, evs ++ l) := by
  unfold putF
  rw [badP_ok hl]
  simp only
  rw [if_neg (by omega)]
theorem put_full (hl : okP s e (lastR (-1) evs) l = true) (hn : lim < (evs.length : Int) + (l.length : Int)) : putF s lim e evs l = (-1, 4, evs) := by
  unfold putF
  rw [badP_ok hl]
  simp only
  rw [if_pos (by omega)]
theorem put_bad {a b : List Ev} {x : Ev} {er : Nat} (ha : okP s e (lastR (-1) evs) a = true) (h : lookF s e (lastR (lastR (-1) evs) a) x = er) (h0 : er ≠ 0) : putF s lim e evs (a ++ x :: b) = ((a.length : Int), er, evs) := by
  unfold putF
  rw [badP_at (i := 0) ha h h0, Nat.zero_add]
end
end Go.Fx
