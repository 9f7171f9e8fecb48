/- Cie: comparing two instructions; whether two programs are the same: the reference's Same, slices.Equal. -/
import Derived.Test.YtiakcehhegippaaCls
import Derived.Laws.StructEq
namespace Go.Proofs.Ytiakcehhegippaa
open Go.RowKit Go.Fx
theorem guard_insT (w : World) (op : BinOp) (x y : Operand) (xs ys : Array Value) : (eqGuard op 38 x y (.agg xs) (.agg ys)).run Try.prog w = .ok () w := run_eqGuard_agg w op 38 x y xs ys (by kernel_rfl)
theorem fields_insT : (Try.prog.fieldsOf 38).toList = [⟨"Op", 5, 0, false, "", "", 0⟩, ⟨"A", 5, 1, false, "", "", 1⟩, ⟨"B", 5, 2, false, "", "", 2⟩, ⟨"C", 5, 3, false, "", "", 3⟩, ⟨"N", 2, 4, false, "", "", 8⟩] := by kernel_rfl
set_option maxRecDepth 10000 in
theorem eq_insT (w : World) (i j : Ins) : (Op.equalIn 10000 38 (insV i) (insV j)).run Try.prog w = .ok (decide (i = j)) w := by
  have he : ∀ (a b : Int) (w : World), (Op.equalIn 9999 5 (.int .u8 a) (.int .u8 b)).run Try.prog w = .ok (a == b) w := fun a b w => run_equalIn_int (P := Try.prog) w 9998 5 .u8 .u8 a b Try.underlying5
  have hn : ∀ (a b : Int) (w : World), (Op.equalIn 9999 2 (.int .i64 a) (.int .i64 b)).run Try.prog w = .ok (a == b) w := fun a b w => run_equalIn_int (P := Try.prog) w 9998 2 .i64 .i64 a b Try.underlying2
  have hp : ∀ (i : Ins) (w : World), (part 5 (insC i).toArray 0).run Try.prog w = .ok (.int .u8 (i.op : Int)) w ∧ (part 5 (insC i).toArray 1).run Try.prog w = .ok (.int .u8 (i.a : Int)) w ∧ (part 5 (insC i).toArray 2).run Try.prog w = .ok (.int .u8 (i.b : Int)) w ∧ (part 5 (insC i).toArray 3).run Try.prog w = .ok (.int .u8 (i.c : Int)) w ∧ (part 2 (insC i).toArray 4).run Try.prog w = .ok (.int .i64 i.n) w := by
    intro i w
    refine ⟨?_, ?_, ?_, ?_, ?_⟩ <;> simp [go_sem, insC]
  have h0 : ∀ (i : Ins) w, _ := fun i w => (hp i w).1
  have h1 : ∀ (i : Ins) w, _ := fun i w => (hp i w).2.1
  have h2 : ∀ (i : Ins) w, _ := fun i w => (hp i w).2.2.1
  have h3 : ∀ (i : Ins) w, _ := fun i w => (hp i w).2.2.2.1
  have h4 : ∀ (i : Ins) w, _ := fun i w => (hp i w).2.2.2.2
  rw [insV_agg, insV_agg, show (10000 : Nat) = 9999 + 1 from rfl, run_equalIn_struct w 9999 38 _ _ (by kernel_rfl) (by kernel_rfl), fields_insT]
  generalize (9999 : Nat) = D at *
  simp only [Op.eqFields, Sem.run_bind, Sem.run_ite, Sem.run_pure, h0, h1, h2, h3, h4, he, hn, Result.andThen_ok, ne_eq, show ¬ ("Op" = "_") by decide, show ¬ ("A" = "_") by decide, show ¬ ("B" = "_") by decide, show ¬ ("C" = "_") by decide, show ¬ ("N" = "_") by decide, not_false_eq_true, if_true]
  obtain ⟨o, a, b, c, n⟩ := i
  obtain ⟨o', a', b', c', n'⟩ := j
  by_cases e0 : o = o' <;> by_cases e1 : a = a' <;> by_cases e2 : b = b' <;> by_cases e3 : c = c' <;> by_cases e4 : n = n' <;> simp [e0, e1, e2, e3, e4, Int.natCast_inj]
theorem neq_insT (w : World) (i j : Ins) : (binOp .neq 38 (insV i) (insV j)).run Try.prog w = .ok (.bool (!decide (i = j))) w := by
  rw [insV_agg, insV_agg, run_neq_struct, ← insV_agg, ← insV_agg, eq_insT]
  rfl
theorem guard_insR (w : World) (op : BinOp) (x y : Operand) (xs ys : Array Value) : (eqGuard op 78 x y (.agg xs) (.agg ys)).run Try.prog w = .ok () w := run_eqGuard_agg w op 78 x y xs ys (by kernel_rfl)
theorem fields_insR : (Try.prog.fieldsOf 78).toList = [⟨"Op", 5, 0, false, "", "", 0⟩, ⟨"A", 5, 1, false, "", "", 1⟩, ⟨"B", 5, 2, false, "", "", 2⟩, ⟨"C", 5, 3, false, "", "", 3⟩, ⟨"N", 2, 4, false, "", "", 8⟩] := by kernel_rfl
set_option maxRecDepth 10000 in
theorem eq_insR (w : World) (i j : Ins) : (Op.equalIn 10000 78 (insV i) (insV j)).run Try.prog w = .ok (decide (i = j)) w := by
  have he : ∀ (a b : Int) (w : World), (Op.equalIn 9999 5 (.int .u8 a) (.int .u8 b)).run Try.prog w = .ok (a == b) w := fun a b w => run_equalIn_int (P := Try.prog) w 9998 5 .u8 .u8 a b Try.underlying5
  have hn : ∀ (a b : Int) (w : World), (Op.equalIn 9999 2 (.int .i64 a) (.int .i64 b)).run Try.prog w = .ok (a == b) w := fun a b w => run_equalIn_int (P := Try.prog) w 9998 2 .i64 .i64 a b Try.underlying2
  have hp : ∀ (i : Ins) (w : World), (part 5 (insC i).toArray 0).run Try.prog w = .ok (.int .u8 (i.op : Int)) w ∧ (part 5 (insC i).toArray 1).run Try.prog w = .ok (.int .u8 (i.a : Int)) w ∧ (part 5 (insC i).toArray 2).run Try.prog w = .ok (.int .u8 (i.b : Int)) w ∧ (part 5 (insC i).toArray 3).run Try.prog w = .ok (.int .u8 (i.c : Int)) w ∧ (part 2 (insC i).toArray 4).run Try.prog w = .ok (.int .i64 i.n) w := by
    intro i w
    refine ⟨?_, ?_, ?_, ?_, ?_⟩ <;> simp [go_sem, insC]
  have h0 : ∀ (i : Ins) w, _ := fun i w => (hp i w).1
  have h1 : ∀ (i : Ins) w, _ := fun i w => (hp i w).2.1
  have h2 : ∀ (i : Ins) w, _ := fun i w => (hp i w).2.2.1
  have h3 : ∀ (i : Ins) w, _ := fun i w => (hp i w).2.2.2.1
  have h4 : ∀ (i : Ins) w, _ := fun i w => (hp i w).2.2.2.2
  rw [insV_agg, insV_agg, show (10000 : Nat) = 9999 + 1 from rfl, run_equalIn_struct w 9999 78 _ _ (by kernel_rfl) (by kernel_rfl), fields_insR]
  generalize (9999 : Nat) = D at *
  simp only [Op.eqFields, Sem.run_bind, Sem.run_ite, Sem.run_pure, h0, h1, h2, h3, h4, he, hn, Result.andThen_ok, ne_eq, show ¬ ("Op" = "_") by decide, show ¬ ("A" = "_") by decide, show ¬ ("B" = "_") by decide, show ¬ ("C" = "_") by decide, show ¬ ("N" = "_") by decide, not_false_eq_true, if_true]
  obtain ⟨o, a, b, c, n⟩ := i
  obtain ⟨o', a', b', c', n'⟩ := j
  by_cases e0 : o = o' <;> by_cases e1 : a = a' <;> by_cases e2 : b = b' <;> by_cases e3 : c = c' <;> by_cases e4 : n = n' <;> simp [e0, e1, e2, e3, e4, Int.natCast_inj]
theorem neq_insR (w : World) (i j : Ins) : (binOp .neq 78 (insV i) (insV j)).run Try.prog w = .ok (.bool (!decide (i = j))) w := by
  rw [insV_agg, insV_agg, run_neq_struct, ← insV_agg, ← insV_agg, eq_insR]
  rfl
theorem ne_of_ins {xs ys : List Ins} {k : Nat} {a b : Ins} (hx : xs[k]? = some a) (hy : ys[k]? = some b) (h : a ≠ b) : xs ≠ ys := by
  rintro rfl; rw [hx] at hy; exact h (Option.some.inj hy)
set_option maxRecDepth 100000 in
set_option maxHeartbeats 1000000 in
theorem equalI (A1 A2 : Option Addr) (n1 n2 c1 c2 : Nat) (xs ys : List Ins) (w : World) (h1 : RdS 5 insC w A1 n1 xs) (h2 : RdS 5 insC w A2 n2 ys) (m1 : n1 ≤ 1000000000000) (m2 : n2 ≤ 1000000000000) :
    Calls Try.prog 23 #[.slice A1 n1 c1, .slice A2 n2 c2] w fun e w' => e = .returned (.bool (decide (xs = ys))) ∧ Ext w w' := by
  have hl1 := h1.1
  have hl2 := h2.1
  by_cases hn : n1 = n2
  · subst hn
    have hne : ((n1 : Int) != (n1 : Int)) = false := by simp
    have H1 := Lib.hid h1
    have H2 := Lib.hid h2
    have hgu := fun w' op a b xs ys => guard_insT w' op a b xs ys
    clear h1 h2
    go_enter Try.func23, Try.ntmps23
    go_wp2
    go_loopw [13] (fun i wr => ∃ k : Nat, k ≤ n1 ∧ i = .int .i64 (k : Int) ∧ Hid (xs.take k = ys.take k) ∧ ∃ q, wr = w.drewN q) (fun i _ => n1 - (intOf i).toNat)
    case atStart => exact ⟨0, by omega, rfl, Lib.hid (by simp), 0, rfl⟩
    case round =>
      obtain ⟨k, hk, rfl, H, q, rfl⟩ := hrel
      by_cases hlt : k < n1
      · obtain ⟨b1, o1, x, rfl, _, hx, c0, c1', c2', c3, c4⟩ := H1.out.ins hlt
        obtain ⟨b2, o2, y, rfl, _, hy, d0, d1, d2, d3, d4⟩ := H2.out.ins hlt
        have hli : (k : Int) < (n1 : Int) := by omega
        have Hx := Lib.hid hx
        have Hy := Lib.hid hy
        have hneq := fun w' => neq_insT w' x y
        unfold insV at hneq
        clear hx hy
        by_cases hxy : x = y
        · subst hxy
          rw [show decide (x = x) = true from decide_eq_true rfl] at hneq
          go_wp2
          go_quiet (fail)
          go_wp2
          go_roundw
          case rel => exact ⟨k + 1, by omega, by go_num, Lib.hid (by rw [take_snoc Hx.out, take_snoc Hy.out, H.out]), _, rfl⟩
          case measure => simp [intOf]; omega
        · rw [show decide (x = y) = false from decide_eq_false hxy] at hneq
          go_wp2
          go_quiet (fail)
          go_wp2
          go_ret
          exact ⟨ret_bool (by symm; simpa using ne_of_ins Hx.out Hy.out hxy), (Ext.drewN _ _).t (Ext.drewN _ _)⟩
      · obtain rfl : k = n1 := by omega
        go_wp2
        go_ret
        refine ⟨ret_bool ?_, Ext.drewN _ _⟩
        have := H.out
        rw [List.take_of_length_le (by omega), List.take_of_length_le (by omega)] at this
        simpa using this
  · have hne : ((n1 : Int) != (n2 : Int)) = true := by simp; omega
    clear h1 h2
    go_enter Try.func23, Try.ntmps23
    go_wp2
    go_ret
    refine ⟨ret_bool ?_, Ext.refl _⟩
    symm
    simp only [decide_eq_false_iff_not]
    rintro rfl
    omega
set_option maxRecDepth 100000 in
set_option maxHeartbeats 1000000 in
theorem sameI (A1 A2 : Option Addr) (n1 n2 c1 c2 : Nat) (xs ys : List Ins) (w : World) (h1 : RdS 5 insC w A1 n1 xs) (h2 : RdS 5 insC w A2 n2 ys) (m1 : n1 ≤ 1000000000000) (m2 : n2 ≤ 1000000000000) :
    Calls Try.prog 29 #[.slice A1 n1 c1, .slice A2 n2 c2] w fun e w' => e = .returned (.bool (decide (xs = ys))) ∧ Ext w w' := by
  have hl1 := h1.1
  have hl2 := h2.1
  by_cases hn : n1 = n2
  · subst hn
    have hne : ((n1 : Int) != (n1 : Int)) = false := by simp
    have H1 := Lib.hid h1
    have H2 := Lib.hid h2
    have hgu := fun w' op a b xs ys => guard_insR w' op a b xs ys
    clear h1 h2
    go_enter Try.func29, Try.ntmps29
    go_wp2
    go_loopw [5] (fun i wr => ∃ k : Nat, k ≤ n1 ∧ i = .int .i64 (k : Int) ∧ Hid (xs.take k = ys.take k) ∧ ∃ q, wr = w.drewN q) (fun i _ => n1 - (intOf i).toNat)
    case atStart => exact ⟨0, by omega, rfl, Lib.hid (by simp), 0, rfl⟩
    case round =>
      obtain ⟨k, hk, rfl, H, q, rfl⟩ := hrel
      by_cases hlt : k < n1
      · obtain ⟨b1, o1, x, rfl, _, hx, c0, c1', c2', c3, c4⟩ := H1.out.ins hlt
        obtain ⟨b2, o2, y, rfl, _, hy, d0, d1, d2, d3, d4⟩ := H2.out.ins hlt
        have hli : (k : Int) < (n1 : Int) := by omega
        have Hx := Lib.hid hx
        have Hy := Lib.hid hy
        have hneq := fun w' => neq_insR w' x y
        unfold insV at hneq
        clear hx hy
        by_cases hxy : x = y
        · subst hxy
          rw [show decide (x = x) = true from decide_eq_true rfl] at hneq
          go_wp2
          go_quiet (fail)
          go_wp2
          go_roundw
          case rel => exact ⟨k + 1, by omega, by go_num, Lib.hid (by rw [take_snoc Hx.out, take_snoc Hy.out, H.out]), _, rfl⟩
          case measure => simp [intOf]; omega
        · rw [show decide (x = y) = false from decide_eq_false hxy] at hneq
          go_wp2
          go_quiet (fail)
          go_wp2
          go_ret
          exact ⟨ret_bool (by symm; simpa using ne_of_ins Hx.out Hy.out hxy), (Ext.drewN _ _).t (Ext.drewN _ _)⟩
      · obtain rfl : k = n1 := by omega
        go_wp2
        go_ret
        refine ⟨ret_bool ?_, Ext.drewN _ _⟩
        have := H.out
        rw [List.take_of_length_le (by omega), List.take_of_length_le (by omega)] at this
        simpa using this
  · have hne : ((n1 : Int) != (n2 : Int)) = true := by simp; omega
    clear h1 h2
    go_enter Try.func29, Try.ntmps29
    go_wp2
    go_ret
    refine ⟨ret_bool ?_, Ext.refl _⟩
    symm
    simp only [decide_eq_false_iff_not]
    rintro rfl
    omega
end Go.Proofs.Ytiakcehhegippaa
