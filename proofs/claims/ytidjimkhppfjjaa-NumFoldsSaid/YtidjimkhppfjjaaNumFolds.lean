/- NumFolds: the walk of the law and the plain arithmetic of folds. -/
import Derived.Test.YtidjimkhppfjjaaNumA
import Derived.Test.YtidjimkhppfjjaaOpen
namespace Go.Fx.Num
theorem unfold_fold (a : Int) : unfold_ (fold a) = a := by unfold unfold_ fold; split <;> split <;> omega
theorem fold_unfold (x : Int) (h : 0 ≤ x) : fold (unfold_ x) = x := by unfold unfold_ fold; split <;> split <;> omega
theorem fold_inj (a b : Int) : (fold a = fold b) = (a = b) := by
  apply propext
  constructor
  · intro h; have := congrArg unfold_ h; rwa [unfold_fold, unfold_fold] at this
  · rintro rfl; rfl
theorem fold_bd (a : Int) (h1 : -9223372036854775808 ≤ a) (h2 : a ≤ 9223372036854775807) : 0 ≤ fold a ∧ fold a < 18446744073709551616 := by unfold fold; split <;> omega
theorem unfold_bd (x : Int) (h1 : 0 ≤ x) (h2 : x < 18446744073709551616) : -9223372036854775808 ≤ unfold_ x ∧ unfold_ x ≤ 9223372036854775807 := by unfold unfold_; split <;> omega
theorem fold_odd (a : Int) : decide (a < 0) = (fold a % 2 == 1) := by
  unfold fold
  split
  · rename_i h; rw [show decide (a < 0) = false by simp; omega]; symm; simp
  · rename_i h; rw [show decide (a < 0) = true by simp; omega]; symm; simp; omega
end Go.Fx.Num
namespace Go.Proofs.Ytidjimkhppfjjaa
open Go.RowKit Go.Fx Go.ChangeShapes Go.WideShapes

theorem far (y : Int) (w : World) (h1 : -9223372036854775808 ≤ y) (h2 : y ≤ 9223372036854775807) :
    Calls Try.prog 19 #[.int .i64 y] w fun e w' => e = .returned (.int .u64 (Num.fold y)) ∧ w = w' := by
  by_cases h0 : y < 0
  · have e1 := xor_i64_ones' y h1 h2
    go_enter Try.func19, Try.ntmps19
    go_wp2
    go_ret
    exact ⟨ret_int (by show IntKind.u64.wrap (IntKind.u64.wrap (IntKind.u64.wrap (-y - 1) * 2) + 1) = _; rw [IntKind.wrap_u64, IntKind.wrap_u64, IntKind.wrap_u64]; unfold Num.fold; rw [if_neg (by omega)]; omega), rfl⟩
  · go_enter Try.func19, Try.ntmps19
    go_wp2
    go_ret
    exact ⟨ret_int (by show y * 2 = _; unfold Num.fold; rw [if_pos (by omega)]; omega), rfl⟩

set_option maxRecDepth 100000 in
set_option maxHeartbeats 2000000 in
theorem walkNumFolds (a b x : Int) (w : World) (ha : (Lit.int .i64 a).wf = true) (hb : (Lit.int .i64 b).wf = true) (hx : (Lit.int .u64 x).wf = true) :
    Calls Try.prog 5 #[.int .i64 a, .int .i64 b, .int .u64 x] w fun e w' => e = .returned (.bool true) ∧ Below w.heap.size w w' := by
  have ha := bounds_i64 ha
  have hb := bounds_i64 hb
  have hx := bounds_u64 hx
  have fa := Num.fold_bd a ha.1 ha.2
  have fb := Num.fold_bd b hb.1 hb.2
  have ux := Num.unfold_bd x hx.1 (by omega)
  have hinj : (!((Num.fold a == Num.fold b) == (a == b))) = false := by
    by_cases h : a = b
    · subst h; simp
    · have h2 : Num.fold a ≠ Num.fold b := fun e => h (by rwa [Num.fold_inj] at e)
      rw [beq_eq_false_iff_ne.2 h2, beq_eq_false_iff_ne.2 h]; rfl
  have hodd := (Num.fold_odd a).symm
  have Hua := Lib.hid (Num.unfold_fold a)
  have Hub := Lib.hid (Num.unfold_fold b)
  have Hfx := Lib.hid (Num.fold_unfold x hx.1)
  go_enter Try.func5, Try.ntmps5
  have hE := Ext.refl w
  go_wp2_with fail
  refine (awake _).mono ?_
  rintro e wk1 ⟨rfl, ek1⟩
  have hE := hE.t ek1
  clear ek1
  go_wp2_with fail
  refine (num_Fold a _ ha.1 ha.2).mono ?_
  rintro e wx ⟨rfl, rfl⟩
  go_wp2_with fail
  refine (num_Fold b _ hb.1 hb.2).mono ?_
  rintro e wx ⟨rfl, rfl⟩
  go_wp2_with fail
  refine (num_Unfold (Num.fold a) _ fa.1 fa.2).mono ?_
  rw [Hua.out]
  rintro e wx ⟨rfl, rfl⟩
  go_wp2_with fail
  refine (num_Unfold (Num.fold b) _ fb.1 fb.2).mono ?_
  rw [Hub.out]
  rintro e wx ⟨rfl, rfl⟩
  go_wp2_with fail
  refine (num_Unfold x _ hx.1 (by omega)).mono ?_
  rintro e wx ⟨rfl, rfl⟩
  go_wp2_with fail
  refine (num_Fold (Num.unfold_ x) _ ux.1 ux.2).mono ?_
  rw [Hfx.out]
  rintro e wx ⟨rfl, rfl⟩
  go_wp2_with fail
  refine (far a _ ha.1 ha.2).mono ?_
  rintro e wx ⟨rfl, rfl⟩
  go_wp2_with fail
  refine (far b _ hb.1 hb.2).mono ?_
  rintro e wx ⟨rfl, rfl⟩
  go_wp2_with fail
  all_goals go_ret
  all_goals exact ⟨rfl, hE⟩
end Go.Proofs.Ytidjimkhppfjjaa
