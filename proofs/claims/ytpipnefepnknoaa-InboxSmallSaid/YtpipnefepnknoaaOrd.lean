/- The plain law of an inbox: what it has answered follows from the frames and the turns. -/
import Derived.Test.YtpipnefepnknoaaPut
namespace Go.Proofs.Ytpipnefepnknoaa
open Go.RowKit Go.Fx
def sumN (l : List (List Nat)) : Nat := (l.map needs).sum
theorem sumN_append (a b : List (List Nat)) : sumN (a ++ b) = sumN a + sumN b := by unfold sumN; rw [List.map_append, List.sum_append]
theorem sumN_one (f : List Nat) : sumN [f] = needs f := by simp [sumN]
theorem sumN_cons (f : List Nat) (l : List (List Nat)) : sumN (f :: l) = needs f + sumN l := by simp [sumN]
theorem sumN_le (l : List (List Nat)) : sumN l ≤ 7 * l.length := by
  induction l with
  | nil => simp [sumN]
  | cons f l ih => rw [sumN_cons, List.length_cons]; have := needs_lt f; omega
/-- What an inbox has of all frames. -/
structure Ord (st : St) (outs all : List (List Nat)) : Prop where
  eq : all = outs ++ (if st.pend then st.cur :: st.wait else [])
  idle : st.pend = false → st.wait = []
  left : st.pend = true → 1 ≤ st.left ∧ st.left ≤ needs st.cur
  turns : st.turns + (if st.pend then st.left else 0) = sumN outs + (if st.pend then needs st.cur else 0)
  put : st.put = all.length
  ans : st.ans = outs.length
theorem ord0 : Ord st0 [] [] := ⟨rfl, fun _ => rfl, by simp [st0], rfl, rfl, rfl⟩
theorem onL_ord (o0 all : List (List Nat)) : ∀ (ws : List (List Nat)) (z : St) (out : List (List Nat)), z.pend = false → all = o0 ++ out ++ ws → z.turns = sumN (o0 ++ out) → z.put = all.length → z.ans = (o0 ++ out).length → Ord (onL ws z out).1 (o0 ++ (onL ws z out).2) all
  | [], z, out, hp, ha, ht, hq, hn => by
    refine ⟨?_, fun _ => rfl, fun h => ?_, ?_, hq, hn⟩
    · show all = (o0 ++ out) ++ (if z.pend then z.cur :: [] else [])
      rw [hp, ha]; simp
    · have h' : z.pend = true := h
      rw [hp] at h'; cases h'
    · show z.turns + (if z.pend then z.left else 0) = sumN (o0 ++ out) + (if z.pend then needs z.cur else 0)
      rw [hp, ht]; simp
  | f :: fs, z, out, hp, ha, ht, hq, hn => by
    rw [onL_cons]
    by_cases h0 : needs f = 0
    · rw [if_pos h0]
      refine onL_ord o0 all fs (stDone z f fs) (out ++ [f]) rfl (by rw [ha]; simp) ?_ hq ?_
      · show z.turns = _
        rw [← List.append_assoc, sumN_append, sumN_one, h0, ht]; rfl
      · show z.ans + 1 = _
        rw [← List.append_assoc, List.length_append, hn]; rfl
    · rw [if_neg h0]
      refine ⟨by simp only [stPend, if_true]; rw [ha], fun h => absurd h (by simp [stPend]), fun _ => ⟨by simp only [stPend]; omega, by simp only [stPend]; omega⟩, ?_, hq, hn⟩
      simp only [stPend, if_true]
      rw [ht]
theorem put_ord {st : St} {outs all : List (List Nat)} (h : Ord st outs all) (f : List Nat) : Ord (putF st f).1 (outs ++ (putF st f).2) (all ++ [f]) := by
  unfold putF on
  have h1 := h.eq
  have h2 := h.idle
  have h3 := h.left
  have h4 := h.turns
  have h5 := h.put
  have h6 := h.ans
  cases hp : st.pend with
  | true =>
    rw [hp] at h1 h2 h3 h4
    simp only [if_true, List.append_nil] at h1 h4 ⊢
    refine ⟨?_, ?_, ?_, ?_, ?_, h6⟩
    · simp only [if_true]; rw [h1]; simp
    · simp
    · exact fun _ => h3 rfl
    · simp only [if_true]; exact h4
    · simp only; rw [h5]; simp
  | false =>
    rw [hp] at h1 h2 h4
    have hw := h2 rfl
    simp only [hw, List.nil_append] at h1 h4 ⊢
    rw [if_neg (by simp)]
    have h1' : all = outs := by simpa using h1
    subst h1'
    refine onL_ord all (all ++ [f]) [f] _ [] rfl (by simp) ?_ ?_ ?_
    · simp only; simpa using h4
    · simp only; rw [h5]; simp
    · simp only; rw [h6]; simp
theorem turn_ord {st : St} {outs all : List (List Nat)} (h : Ord st outs all) : Ord (turnF st).1 (outs ++ (turnF st).2) all := by
  unfold turnF
  have h1 := h.eq
  have h3 := h.left
  have h4 := h.turns
  cases hp : st.pend with
  | true =>
    rw [hp] at h1 h3 h4
    simp only [if_true] at h1 h4 ⊢
    by_cases h0 : st.left - 1 = 0
    · rw [if_pos h0]
      unfold on
      rw [if_neg (by simp)]
      have := (h3 rfl).1
      refine onL_ord outs all _ _ [st.cur] rfl (by rw [h1]; simp [turn1]) ?_ h.put ?_
      · show st.turns + 1 = _
        rw [sumN_append, sumN_one]; omega
      · show st.ans + 1 = _
        rw [h.ans]; simp
    · rw [if_neg h0]
      have h5 := h3 rfl
      refine ⟨?_, ?_, ?_, ?_, h.put, ?_⟩
      · simp only [turn1, hp, if_true, List.append_nil]; exact h1
      · simp [turn1, hp]
      · simp only [turn1]; omega
      · simp only [turn1, hp, if_true, List.append_nil]; omega
      · simp only [turn1, List.append_nil]; exact h.ans
  | false =>
    rw [if_neg (by simp)]
    rw [hp] at h1 h4
    refine ⟨?_, ?_, ?_, ?_, h.put, ?_⟩
    · simp only [List.append_nil]; simpa using h1
    · exact fun _ => h.idle hp
    · simp
    · simp only [List.append_nil]; exact h4
    · simp only [List.append_nil]; exact h.ans
theorem turns_ord {st : St} {outs all : List (List Nat)} (h : Ord st outs all) (k : Nat) : Ord (turnsF k (st, outs)).1 (turnsF k (st, outs)).2 all := by
  induction k with
  | zero => exact h
  | succ k ih => exact turn_ord ih
theorem act_ord {p : St × List (List Nat)} {all : List (List Nat)} (h : Ord p.1 p.2 all) (a : ActN) : Ord (actF p a).1 (actF p a).2 (all ++ (match putOf a with | none => [] | some f => [f])) := by
  unfold actF
  cases hq : putOf a with
  | none => rw [List.append_nil]; exact turns_ord (st := p.1) (outs := p.2) h _
  | some f => exact put_ord (turns_ord (st := p.1) (outs := p.2) h _) f
theorem play_ord (al : List ActN) : Ord (playF al).1 (playF al).2 (putL al) := by
  rw [← al.reverse_reverse]
  induction al.reverse with
  | nil => exact ord0
  | cons a t ih =>
    rw [List.reverse_cons, playF_snoc, putL_snoc]
    exact act_ord ih a
section
variable {st st' : St} {outs outs' all : List (List Nat)}
theorem Ord.pend_eq (h : Ord st outs all) : st.pend = decide (outs.length < all.length) := by
  have h1 := h.eq
  cases hp : st.pend with
  | true => rw [hp] at h1; rw [h1]; simp
  | false => rw [hp] at h1; rw [h1]; simp
theorem Ord.le (h : Ord st outs all) : outs.length ≤ all.length := by rw [h.eq]; simp
theorem Ord.take (h : Ord st outs all) : all.take outs.length = outs := by rw [h.eq]; simp
theorem Ord.drop (h : Ord st outs all) (hp : st.pend = true) : all.drop (outs.length + 1) = st.wait := by
  have h1 := h.eq
  rw [hp] at h1
  rw [h1]; simp [← List.drop_drop]
theorem Ord.wait_eq (h : Ord st outs all) : st.wait = all.drop (outs.length + 1) := by
  cases hp : st.pend with
  | true => exact (h.drop hp).symm
  | false =>
    rw [h.idle hp]
    have h1 := h.pend_eq
    rw [hp] at h1
    rw [List.drop_eq_nil_of_le (by have := decide_eq_false_iff_not.1 h1.symm; omega)]
theorem Ord.all_eq (h : Ord st outs all) (hp : st.pend = false) : outs = all := by
  have h1 := h.eq
  rw [hp] at h1
  rw [h1]; simp
theorem Ord.turns_lt (h : Ord st outs all) (hp : st.pend = true) : st.turns < sumN all := by
  have h1 := h.eq
  have h2 := h.turns
  have h3 := (h.left hp).1
  rw [hp] at h1 h2
  simp only [if_true] at h1 h2
  rw [h1, sumN_append, sumN_cons]; omega
theorem Ord.turns_le (h : Ord st outs all) : st.turns ≤ sumN all := by
  cases hp : st.pend with
  | true => exact Nat.le_of_lt (h.turns_lt hp)
  | false =>
    have h2 := h.turns
    rw [hp] at h2
    rw [← h.all_eq hp]
    simp at h2; omega
theorem Ord.turns_ge (h : Ord st outs all) : sumN outs ≤ st.turns := by
  have h2 := h.turns
  cases hp : st.pend with
  | true => have := (h.left hp).2; rw [hp] at h2; simp only [if_true] at h2; omega
  | false => rw [hp] at h2; simp at h2; omega
theorem Ord.full (h : Ord st outs all) (ht : sumN all ≤ st.turns) : st.pend = false := by
  cases hp : st.pend with
  | true => have := h.turns_lt hp; omega
  | false => rfl
theorem turn_pend (h : st.pend = true) : (turnF st).1.turns = st.turns + 1 := by
  have key : ∀ (ws : List (List Nat)) (z : St) (out : List (List Nat)), (onL ws z out).1.turns = z.turns := fun ws => by
    induction ws with
    | nil => intro z out; rfl
    | cons f fs ih =>
      intro z out
      rw [onL_cons]
      split
      · rw [ih]; rfl
      · rfl
  unfold turnF
  rw [if_pos h]
  split
  · unfold on
    rw [if_neg (by simp), key]; rfl
  · rfl
theorem turn_idle (h : st.pend = false) : turnF st = ({ st with idle := st.idle + 1 }, []) := by unfold turnF; rw [if_neg (by rw [h]; simp)]
/-- What is left after turns enough: nothing. -/
theorem turn_ge {t j : Nat} (h : st.pend = true → t + j ≤ st.turns) : (turnF st).1.pend = true → t + (j + 1) ≤ (turnF st).1.turns := by
  cases hp : st.pend with
  | true => intro _; rw [turn_pend hp]; have := h hp; omega
  | false => rw [turn_idle hp]; intro h2; exact absurd (h2 : st.pend = true) (by rw [hp]; simp)
/-- Two inboxes that got the same frames, and the same number of turns, have answered the same. -/
theorem Ord.same_len (h : Ord st outs all) (h' : Ord st' outs' all) (ht : st.turns = st'.turns) : ¬ outs.length < outs'.length := fun hl => by
  have hp : st.pend = true := by rw [h.pend_eq]; have := h'.le; simp; omega
  have h1 := h.turns_lt hp
  have h2 := h.turns
  have h3 := (h.left hp).1
  rw [hp] at h2
  simp only [if_true] at h2
  have h4 := h'.turns_ge
  have h5 : outs' = outs ++ [st.cur] ++ outs'.drop (outs.length + 1) := by
    have e1 := h.eq
    rw [hp] at e1
    simp only [if_true] at e1
    have e2 := h'.take
    have e3 : all.take (outs.length + 1) = outs ++ [st.cur] := by
      rw [e1, List.take_append, List.take_of_length_le (by omega)]; simp
    have e4 : outs'.take (outs.length + 1) = outs ++ [st.cur] := by
      rw [← e3, ← e2, List.take_take]
      rw [Nat.min_eq_left (by omega)]
    rw [← e4, List.take_append_drop]
  rw [h5, sumN_append, sumN_append, sumN_one] at h4
  omega
theorem Ord.same (h : Ord st outs all) (h' : Ord st' outs' all) (ht : st.turns = st'.turns) : outs = outs' ∧ st.pend = st'.pend ∧ st.wait = st'.wait ∧ st.put = st'.put ∧ st.ans = st'.ans := by
  have e : outs.length = outs'.length := by
    have h1 := h.same_len h' ht
    have h2 := h'.same_len h ht.symm
    omega
  have eo : outs = outs' := by rw [← h.take, ← h'.take, e]
  exact ⟨eo, by rw [h.pend_eq, h'.pend_eq, e], by rw [h.wait_eq, h'.wait_eq, e], by rw [h.put, h'.put], by rw [h.ans, h'.ans, e]⟩
end
theorem putL_len (al : List ActN) : (putL al).length ≤ al.length := List.length_filterMap_le _ _
theorem putL_40 (al : List ActN) : (putL (al.take 40)).length ≤ 40 := Nat.le_trans (putL_len _) (by rw [List.length_take]; omega)
theorem putL_lt (al : List ActN) : ∀ f ∈ putL al, f.length ≤ 40 := fun f hf => by
  obtain ⟨a, _, ha⟩ := List.mem_filterMap.1 hf
  unfold putOf at ha
  split at ha
  · cases ha
  · split at ha
    · cases ha; assumption
    · cases ha
end Go.Proofs.Ytpipnefepnknoaa
