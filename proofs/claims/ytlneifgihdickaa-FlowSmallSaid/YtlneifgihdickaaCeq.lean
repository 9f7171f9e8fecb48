/- Ceq: comparing three bytes with none; two instructions. -/
import Derived.Test.YtlneifgihdickaaCpl
import Derived.Test.YtlneifgihdickaaLib
import Derived.DeepKeys
namespace Go.Proofs.Ytlneifgihdickaa
open Go.RowKit Go.Fx
theorem info_b : (Try.prog.info? 5).map (·.size) = some 1 := by kernel_rfl
theorem cells_b : Try.prog.cellsOf 5 = 1 := by kernel_rfl
theorem guard_arr (w : World) (op : BinOp) (x y : Operand) (xs ys : Array Value) : (eqGuard op 108 x y (.agg xs) (.agg ys)).run Try.prog w = .ok () w := run_eqGuard_agg w op 108 x y xs ys (by kernel_rfl)
set_option maxRecDepth 10000 in
theorem neq_arr (w : World) (x y z : Nat) : (binOp .neq 108 (.agg #[.int .u8 (x : Int), .int .u8 (y : Int), .int .u8 (z : Int)]) (.agg #[.int .u8 0, .int .u8 0, .int .u8 0])).run Try.prog w = .ok (.bool (!(((x : Int) == 0) && (((y : Int) == 0) && ((z : Int) == 0))))) w := by
  obtain ⟨i5, h5, hs5⟩ : ∃ i5, Try.prog.info? 5 = some i5 ∧ i5.size = 1 := by
    have := info_b
    cases h : Try.prog.info? 5 with
    | none => rw [h] at this; cases this
    | some i => rw [h] at this; exact ⟨i, rfl, by simpa using this⟩
  have hp : ∀ (xs : Array Value) (k : Nat) (v : Value) (w : World), xs[k]? = some v → (part 5 xs k).run Try.prog w = .ok v w := by
    intro xs k v w h
    simp [go_sem, h]
  have he : ∀ (a b : Int) (w : World), (Op.equalIn 9999 5 (.int .u8 a) (.int .u8 b)).run Try.prog w = .ok (a == b) w := fun a b w => run_equalIn_int (P := Try.prog) w 9998 5 .u8 .u8 a b Try.underlying5
  rw [run_neq_struct, show (10000 : Nat) = 9999 + 1 from rfl, run_equalIn_array w 9999 _ _ Try.underlying108 h5, cells_b]
  generalize (9999 : Nat) = D at *
  have a0 : ∀ w, (part 5 #[.int .u8 (x : Int), .int .u8 (y : Int), .int .u8 (z : Int)] 0).run Try.prog w = .ok (.int .u8 (x : Int)) w := fun w => hp _ 0 _ w rfl
  have a1 : ∀ w, (part 5 #[.int .u8 (x : Int), .int .u8 (y : Int), .int .u8 (z : Int)] 1).run Try.prog w = .ok (.int .u8 (y : Int)) w := fun w => hp _ 1 _ w rfl
  have a2 : ∀ w, (part 5 #[.int .u8 (x : Int), .int .u8 (y : Int), .int .u8 (z : Int)] 2).run Try.prog w = .ok (.int .u8 (z : Int)) w := fun w => hp _ 2 _ w rfl
  have b0 : ∀ w, (part 5 #[.int .u8 0, .int .u8 0, .int .u8 0] 0).run Try.prog w = .ok (.int .u8 0) w := fun w => hp _ 0 _ w rfl
  have b1 : ∀ w, (part 5 #[.int .u8 0, .int .u8 0, .int .u8 0] 1).run Try.prog w = .ok (.int .u8 0) w := fun w => hp _ 1 _ w rfl
  have b2 : ∀ w, (part 5 #[.int .u8 0, .int .u8 0, .int .u8 0] 2).run Try.prog w = .ok (.int .u8 0) w := fun w => hp _ 2 _ w rfl
  simp only [List.range, List.range.loop, Op.eqItems, Sem.run_bind, Nat.mul_one, a0, b0, Result.andThen_ok, he]
  cases h0 : ((x : Int) == 0) <;> cases h1 : ((y : Int) == 0) <;> cases h2 : ((z : Int) == 0) <;> simp [Sem.run_bind, Result.andThen_ok, a1, a2, b1, b2, he, h1, h2]
end Go.Proofs.Ytlneifgihdickaa
