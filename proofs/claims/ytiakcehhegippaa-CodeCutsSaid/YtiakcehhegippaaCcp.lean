/- Ccp: a program's bytes cut, or with one more: what is read. Plain Lean. -/
import Derived.Test.YtiakcehhegippaaCmp
import Derived.Test.YtiakcehhegippaaCrr
namespace Go.Fx
open Go.RowKit Go.Proofs Go.Proofs.Ytiakcehhegippaa
theorem flat_take_at {p : List Ins} {n at_ : Nat} {x : Ins} (hx : p[n]? = some x) (h1 : sumF (p.take n) ≤ at_) (h2 : at_ < sumF (p.take n) + szOp x.op) : (p.flatMap wbF).take at_ = (p.take n).flatMap wbF ++ (wbF x).take (at_ - sumF (p.take n)) := by
  have hd : p = p.take n ++ (x :: p.drop (n + 1)) := by
    have hlt := (List.getElem?_eq_some_iff.1 hx).1
    have e := (List.getElem?_eq_some_iff.1 hx).2
    rw [← e, List.getElem_cons_drop hlt, List.take_append_drop]
  conv => lhs; rw [hd]
  rw [List.flatMap_append, List.take_append, sumF_len, List.flatMap_cons, List.take_of_length_le (by rw [sumF_len]; exact h1), List.take_append_of_le_length (by rw [wbF_len]; omega)]
theorem cut_in {p : List Ins} (hp : ∀ i ∈ p, oneF i = 0 ∧ InsOk i) (hl : p.length ≤ 256) {n at_ : Nat} {x : Ins} (hx : p[n]? = some x) (h1 : sumF (p.take n) < at_) (h2 : at_ < sumF (p.take n) + szOp x.op) : readF ((p.flatMap wbF).take at_) = ([], (n : Int), 144) := by
  have hn : n < p.length := (List.getElem?_eq_some_iff.1 hx).1
  have hxo := hp x (List.mem_of_getElem? hx)
  rw [flat_take_at hx (by omega) h2]
  have hr := rlF_wb (p.take n) [] (fun i hi => hp i (List.mem_of_mem_take hi)) (by rw [List.nil_append, List.length_take]; omega) ((wbF x).take (at_ - sumF (p.take n)))
  rw [List.nil_append] at hr
  obtain ⟨m, hm⟩ : ∃ m, at_ - sumF (p.take n) = m + 1 := ⟨at_ - sumF (p.take n) - 1, by omega⟩
  rw [hm] at hr ⊢
  have hwl := wbF_len x
  have hq : (wbF x).take (m + 1) = x.op :: (wbF x).tail.take m := rfl
  rw [hq] at hr ⊢
  have htl : ((wbF x).tail.take m).length = m := by rw [List.length_take, List.length_tail, hwl]; omega
  have hrs := rdS_short (op := x.op) (t := (wbF x).tail.take m) (oneF_zero hxo.1).1 (by rw [htl]; omega)
  have hb := rlF_bad (out := p.take n) (b := x.op :: (wbF x).tail.take m) (by simp) (by rw [List.length_take]; omega) (by rw [hrs]; show (144 : Nat) ≠ 0; decide)
  rw [hrs] at hb
  have h3 := readF_err (hr.trans hb) (by show (144 : Nat) ≠ 0; decide)
  rw [h3, List.length_take, Nat.min_eq_left (by omega)]
theorem cut_at {p : List Ins} (hp : ∀ i ∈ p, oneF i = 0 ∧ InsOk i) (hl : p.length ≤ 256) {n : Nat} {x : Ins} (hx : p[n]? = some x) : readF ((p.flatMap wbF).take (sumF (p.take n))) = if (checkF (p.take n)).2 = 0 then (p.take n, -1, 0) else ([], (checkF (p.take n)).1, (checkF (p.take n)).2) := by
  have hs := (szOp_le x.op).1
  rw [flat_take_at hx (Nat.le_refl _) (by omega), Nat.sub_self, List.take_zero, List.append_nil]
  have hr := rlF_wb (p.take n) [] (fun i hi => hp i (List.mem_of_mem_take hi)) (by rw [List.nil_append, List.length_take]; omega) []
  rw [List.append_nil, List.nil_append, rlF_nil (b := []) rfl] at hr
  exact readF_end hr
theorem szOp_one {op : Nat} (h : okOp op = true) : szOp op = 1 ↔ (op = 1 ∨ op = 2) := by
  have h1 := ok_cases h
  rw [szOp_eq]
  unfold wdT nrOf tlOf
  constructor
  · intro h2
    repeat' split at h2
    all_goals omega
  · rintro (rfl | rfl) <;> rfl
theorem more_bad {p : List Ins} (hp : ∀ i ∈ p, oneF i = 0 ∧ InsOk i) (hl : p.length ≤ 255) {m : Nat} (h : okOp m = false) : readF (p.flatMap wbF ++ [m]) = ([], (p.length : Int), 140) := by
  have hr := rlF_wb p [] hp (by rw [List.nil_append]; omega) [m]
  rw [List.nil_append] at hr
  have hrs : rdS [m] = (ins0, 140, 0) := by rw [rdS_cons, if_pos h]
  have hb := rlF_bad (out := p) (b := [m]) (by simp) (by omega) (by rw [hrs]; show (140 : Nat) ≠ 0; decide)
  rw [hrs] at hb
  exact readF_err (hr.trans hb) (by show (140 : Nat) ≠ 0; decide)
theorem more_short {p : List Ins} (hp : ∀ i ∈ p, oneF i = 0 ∧ InsOk i) (hl : p.length ≤ 255) {m : Nat} (h : okOp m = true) (h1 : m ≠ 1) (h2 : m ≠ 2) : readF (p.flatMap wbF ++ [m]) = ([], (p.length : Int), 144) := by
  have hr := rlF_wb p [] hp (by rw [List.nil_append]; omega) [m]
  rw [List.nil_append] at hr
  have hz : szOp m ≠ 1 := fun e => by rcases (szOp_one h).1 e with e | e; exact h1 e; exact h2 e
  have hs := (szOp_le m).1
  have hrs := rdS_short (op := m) (t := []) h (by simp; omega)
  have hb := rlF_bad (out := p) (b := [m]) (by simp) (by omega) (by rw [hrs]; show (144 : Nat) ≠ 0; decide)
  rw [hrs] at hb
  exact readF_err (hr.trans hb) (by show (144 : Nat) ≠ 0; decide)
theorem more_end {p : List Ins} (hp : ∀ i ∈ p, oneF i = 0 ∧ InsOk i ∧ (tgtF i = true → i.n < (p.length : Int))) (hl : p.length ≤ 255) {m : Nat} (h : m = 1 ∨ m = 2) : ∃ q, readF (p.flatMap wbF ++ [m]) = (q, -1, 0) := by
  have hm : oneF ⟨m, 0, 0, 0, 0⟩ = 0 ∧ InsOk ⟨m, 0, 0, 0, 0⟩ ∧ tgtF ⟨m, 0, 0, 0, 0⟩ = false ∧ goesF ⟨m, 0, 0, 0, 0⟩ = false ∧ wbF ⟨m, 0, 0, 0, 0⟩ = [m] := by
    rcases h with rfl | rfl <;> exact ⟨by decide, ⟨by decide, by decide, by decide, by decide, by decide, by decide⟩, by decide, by decide, by decide⟩
  obtain ⟨q, hq⟩ : ∃ q : List Ins, q = p ++ [⟨m, 0, 0, 0, 0⟩] := ⟨_, rfl⟩
  have hql : q.length = p.length + 1 := by rw [hq]; simp
  have hall : ∀ i ∈ q, oneF i = 0 ∧ InsOk i ∧ (tgtF i = true → i.n < (q.length : Int)) := by
    intro i hi
    rw [hq] at hi
    rcases List.mem_append.1 hi with hi | hi
    · obtain ⟨a, b, c⟩ := hp i hi
      exact ⟨a, b, fun t => by have := c t; rw [hql]; omega⟩
    · obtain rfl : i = ⟨m, 0, 0, 0, 0⟩ := by simpa using hi
      exact ⟨hm.1, hm.2.1, fun t => by rw [hm.2.2.1] at t; cases t⟩
  have hck : (checkF q).2 = 0 := by
    unfold checkF
    rw [if_neg (by omega), if_neg (by omega), chkF_all _ _ (fun i hi => ⟨(hall i hi).1, (hall i hi).2.2⟩)]
    have hlast : q.getLast? = some ⟨m, 0, 0, 0, 0⟩ := by rw [hq]; simp
    rw [hlast]
    show (if goesF ⟨m, 0, 0, 0, 0⟩ = true then _ else _ : Int × Nat).2 = 0
    rw [hm.2.2.2.1]; rfl
  have e : p.flatMap wbF ++ [m] = q.flatMap wbF := by rw [hq, List.flatMap_append, List.flatMap_singleton, hm.2.2.2.2]
  exact ⟨q, by rw [e]; exact readF_writeF (fun i hi => (hall i hi).2.1) hck⟩
theorem sumF_take_lt {p : List Ins} {n : Nat} (h : p.length ≤ n) : sumF (p.take n) = sumF p := by rw [List.take_of_length_le h]
end Go.Fx
