/- Keq: comparing two keys, two events, two pairs of numbers. -/
import Derived.Test.YtdjpggnadelnaaaEvm
import Derived.Laws.StructEq
import Derived.DeepKeys
namespace Go.Fx
open Go.RowKit
def pairC (r : Nat × Nat) : List Value := [.int .i64 (r.1 : Int), .int .i64 (r.2 : Int)]
def pairV (r : Nat × Nat) : Value := .agg #[.int .i64 (r.1 : Int), .int .i64 (r.2 : Int)]
theorem pairC_len (r : Nat × Nat) : (pairC r).length = 2 := rfl
theorem pairC_one (r : Nat × Nat) : ∀ u ∈ pairC r, u.oneCell' = true := by
  intro u hu
  simp only [pairC, List.mem_cons, List.not_mem_nil, or_false] at hu
  rcases hu with rfl | rfl <;> rfl
end Go.Fx
namespace Go.Proofs.Ytdjpggnadelnaaa
open Go.RowKit Go.Fx
theorem guard_ky (w : World) (op : BinOp) (x y : Operand) (xs ys : Array Value) : (eqGuard op 33 x y (.agg xs) (.agg ys)).run Try.prog w = .ok () w := run_eqGuard_agg w op 33 x y xs ys (by kernel_rfl)
theorem fields_ky : (Try.prog.fieldsOf 33).toList = [⟨"Time", 3, 0, false, "", "", 0⟩, ⟨"Source", 3, 1, false, "", "", 8⟩, ⟨"Seq", 3, 2, false, "", "", 16⟩] := by kernel_rfl
theorem eqI (D : Nat) (T : TypeId) (hT : T = 3 ∨ T = 2) (a b : Int) (w : World) : (Op.equalIn (D + 1) T (.int .i64 a) (.int .i64 b)).run Try.prog w = .ok (a == b) w := by
  rcases hT with rfl | rfl
  · exact run_equalIn_int (P := Try.prog) w D 3 .i64 .i64 a b Try.underlying3
  · exact run_equalIn_int (P := Try.prog) w D 2 .i64 .i64 a b Try.underlying2
theorem eqIn_ky (D : Nat) (w : World) (a b : Ky) : (Op.equalIn (D + 2) 33 (kyV a) (kyV b)).run Try.prog w = .ok (decide (a = b)) w := by
  have he := fun a b w => eqI D 3 (.inl rfl) a b w
  have hp : ∀ (i : Ky) (w : World), (part 3 (kyC i).toArray 0).run Try.prog w = .ok (.int .i64 i.t) w ∧ (part 3 (kyC i).toArray 1).run Try.prog w = .ok (.int .i64 i.s) w ∧ (part 3 (kyC i).toArray 2).run Try.prog w = .ok (.int .i64 i.q) w := by
    intro i w
    refine ⟨?_, ?_, ?_⟩ <;> simp [go_sem, kyC]
  have h0 : ∀ (i : Ky) w, _ := fun i w => (hp i w).1
  have h1 : ∀ (i : Ky) w, _ := fun i w => (hp i w).2.1
  have h2 : ∀ (i : Ky) w, _ := fun i w => (hp i w).2.2
  rw [kyV_agg, kyV_agg, show D + 2 = (D + 1) + 1 from rfl, run_equalIn_struct w (D + 1) 33 _ _ (by kernel_rfl) (by kernel_rfl), fields_ky]
  generalize hD : D + 1 = E at *
  simp only [Op.eqFields, Sem.run_bind, Sem.run_ite, Sem.run_pure, h0, h1, h2, he, Result.andThen_ok, ne_eq, show ¬ ("Time" = "_") by decide, show ¬ ("Source" = "_") by decide, show ¬ ("Seq" = "_") by decide, not_false_eq_true, if_true]
  obtain ⟨t, s, q⟩ := a
  obtain ⟨t', s', q'⟩ := b
  by_cases e0 : t = t' <;> by_cases e1 : s = s' <;> by_cases e2 : q = q' <;> simp [e0, e1, e2]
theorem eql_ky (w : World) (a b : Ky) : (binOp .eql 33 (kyV a) (kyV b)).run Try.prog w = .ok (.bool (decide (a = b))) w := by
  rw [kyV_agg, kyV_agg, run_eql_struct, ← kyV_agg, ← kyV_agg, show (10000 : Nat) = 9998 + 2 from rfl, eqIn_ky]
  rfl
theorem guard_ev (w : World) (op : BinOp) (x y : Operand) (xs ys : Array Value) : (eqGuard op 35 x y (.agg xs) (.agg ys)).run Try.prog w = .ok () w := run_eqGuard_agg w op 35 x y xs ys (by kernel_rfl)
theorem fields_ev : (Try.prog.fieldsOf 35).toList = [⟨"Key", 33, 0, false, "", "", 0⟩, ⟨"To", 3, 3, false, "", "", 24⟩, ⟨"Value", 2, 4, false, "", "", 32⟩] := by kernel_rfl
set_option maxRecDepth 10000 in
theorem eqIn_ev (D : Nat) (w : World) (a b : Ev) : (Op.equalIn (D + 3) 35 (evV a) (evV b)).run Try.prog w = .ok (decide (a = b)) w := by
  have he := fun a b w => eqI (D + 1) 3 (.inl rfl) a b w
  have he' := fun a b w => eqI (D + 1) 2 (.inr rfl) a b w
  have hk := fun a b w => eqIn_ky D w a b
  have h0 : ∀ (i : Ev) w, (part 33 (evC i).toArray 0).run Try.prog w = .ok (kyV i.k) w := by
    intro i w; simp [go_sem, evC, kyV, Ev.k]
  have h1 : ∀ (i : Ev) w, (part 3 (evC i).toArray 3).run Try.prog w = .ok (.int .i64 i.to) w := by
    intro i w; simp [go_sem, evC]
  have h2 : ∀ (i : Ev) w, (part 2 (evC i).toArray 4).run Try.prog w = .ok (.int .i64 i.v) w := by
    intro i w; simp [go_sem, evC]
  rw [evV_agg, evV_agg, show D + 3 = (D + 2) + 1 from rfl, run_equalIn_struct w (D + 2) 35 _ _ (by kernel_rfl) (by kernel_rfl), fields_ev]
  rw [show D + 1 + 1 = D + 2 from rfl] at he he'
  generalize hD : D + 2 = E at *
  simp only [Op.eqFields, Sem.run_bind, Sem.run_ite, Sem.run_pure, h0, h1, h2, he, he', hk, Result.andThen_ok, ne_eq, show ¬ ("Key" = "_") by decide, show ¬ ("To" = "_") by decide, show ¬ ("Value" = "_") by decide, not_false_eq_true, if_true]
  have key : a = b ↔ a.k = b.k ∧ a.to = b.to ∧ a.v = b.v := by
    obtain ⟨t, s, q, o, v⟩ := a
    obtain ⟨t', s', q', o', v'⟩ := b
    simp only [Ev.k, Ev.mk.injEq, Ky.mk.injEq]
    exact ⟨fun ⟨a1, a2, a3, a4, a5⟩ => ⟨⟨a1, a2, a3⟩, a4, a5⟩, fun ⟨⟨a1, a2, a3⟩, a4, a5⟩ => ⟨a1, a2, a3, a4, a5⟩⟩
  by_cases e0 : a.k = b.k <;> by_cases e1 : a.to = b.to <;> by_cases e2 : a.v = b.v <;> simp [key, e0, e1, e2]
theorem neq_ev (w : World) (a b : Ev) : (binOp .neq 35 (evV a) (evV b)).run Try.prog w = .ok (.bool (!decide (a = b))) w := by
  rw [evV_agg, evV_agg, run_neq_struct, ← evV_agg, ← evV_agg, show (10000 : Nat) = 9997 + 3 from rfl, eqIn_ev]
  rfl
theorem eql_ev (w : World) (a b : Ev) : (binOp .eql 35 (evV a) (evV b)).run Try.prog w = .ok (.bool (decide (a = b))) w := by
  rw [evV_agg, evV_agg, run_eql_struct, ← evV_agg, ← evV_agg, show (10000 : Nat) = 9997 + 3 from rfl, eqIn_ev]
  rfl
theorem guard_pr (w : World) (op : BinOp) (x y : Operand) (xs ys : Array Value) : (eqGuard op 77 x y (.agg xs) (.agg ys)).run Try.prog w = .ok () w := run_eqGuard_agg w op 77 x y xs ys (by kernel_rfl)
theorem info_int : (Try.prog.info? 3).map (·.size) = some 1 := by kernel_rfl
theorem cells_int : Try.prog.cellsOf 3 = 1 := by kernel_rfl
set_option maxRecDepth 10000 in
theorem neq_pr (w : World) (x y : Nat × Nat) : (binOp .neq 77 (pairV x) (pairV y)).run Try.prog w = .ok (.bool (!decide (x = y))) w := by
  obtain ⟨i5, h5, hs5⟩ : ∃ i5, Try.prog.info? 3 = some i5 ∧ i5.size = 1 := by
    have := info_int
    cases h : Try.prog.info? 3 with
    | none => rw [h] at this; cases this
    | some i => rw [h] at this; exact ⟨i, rfl, by simpa using this⟩
  have hp : ∀ (xs : Array Value) (k : Nat) (v : Value) (w : World), xs[k]? = some v → (part 3 xs k).run Try.prog w = .ok v w := by
    intro xs k v w h
    simp [go_sem, h]
  have he := fun a b w => eqI 9998 3 (.inl rfl) a b w
  unfold pairV
  rw [run_neq_struct, show (10000 : Nat) = 9999 + 1 from rfl, run_equalIn_array w 9999 _ _ Try.underlying77 h5, cells_int]
  rw [show 9998 + 1 = 9999 from rfl] at he
  generalize (9999 : Nat) = D at *
  obtain ⟨x1, x2⟩ := x
  obtain ⟨y1, y2⟩ := y
  have a0 : ∀ w, (part 3 #[.int .i64 (x1 : Int), .int .i64 (x2 : Int)] 0).run Try.prog w = .ok (.int .i64 (x1 : Int)) w := fun w => hp _ 0 _ w rfl
  have a1 : ∀ w, (part 3 #[.int .i64 (x1 : Int), .int .i64 (x2 : Int)] 1).run Try.prog w = .ok (.int .i64 (x2 : Int)) w := fun w => hp _ 1 _ w rfl
  have b0 : ∀ w, (part 3 #[.int .i64 (y1 : Int), .int .i64 (y2 : Int)] 0).run Try.prog w = .ok (.int .i64 (y1 : Int)) w := fun w => hp _ 0 _ w rfl
  have b1 : ∀ w, (part 3 #[.int .i64 (y1 : Int), .int .i64 (y2 : Int)] 1).run Try.prog w = .ok (.int .i64 (y2 : Int)) w := fun w => hp _ 1 _ w rfl
  simp only [List.range, List.range.loop, Op.eqItems, Sem.run_bind, Nat.mul_one, a0, b0, Result.andThen_ok, he]
  by_cases h0 : x1 = y1
  · subst h0
    by_cases h1 : x2 = y2
    · subst h1; simp [Sem.run_bind, Result.andThen_ok, a1, he]
    · simp [Sem.run_bind, Result.andThen_ok, a1, b1, he, h1, Int.natCast_inj]
  · simp [Result.andThen_ok, h0, Int.natCast_inj]
end Go.Proofs.Ytdjpggnadelnaaa
