/- CodeTells: the walk of the law: for any Op and program it answers true and leaves all memory as it was (no condition). -/
import Derived.Test.YtiakcehhegippaaCtl
import Derived.Test.YtiakcehhegippaaCaw
import Derived.Test.YtiakcehhegippaaCop
namespace Go.Proofs.Ytiakcehhegippaa
open Go.RowKit Go.Fx
theorem codeTells (op : Nat) (A : Option Addr) (n c : Nat) (l : List Ins) (w : World) (h : InArg w A n c l) :
    Calls Try.prog 8 #[.int .u8 (op : Int), .slice A n c] w fun e w' => e = .returned (.bool true) ∧ Ext w w' := by
  have HR := Lib.hid (tells_ op A n c l w h.rd h.le h.max)
  clear h
  go_enter Try.func8, Try.ntmps8
  go_wp2_with fail
  refine HR.out.mono ?_; rintro e w1 ⟨rfl, e1⟩
  have E1 := Lib.hid e1
  clear e1
  go_wp2_with fail
  refine (awake_ w1).mono ?_; rintro e w2 ⟨rfl, e2⟩
  have E2 := Lib.hid (E1.out.t e2)
  clear e2
  go_wp2_with fail
  go_ret
  exact ⟨rfl, E2.out⟩
theorem walkCodeTells (oi : Int) (A : Option Addr) (n c : Nat) (l : List Ins) (w : World) (ho : (Lit.int .u8 oi).wf = true) (h : InArg w A n c l) :
    Calls Try.prog 8 #[.int .u8 oi, .slice A n c] w fun e w' => e = .returned (.bool true) ∧ Below w.heap.size w w' := by
  have hb := bounds_u8 ho
  obtain ⟨op, rfl⟩ := Int.eq_ofNat_of_zero_le hb.1
  exact codeTells op A n c l w h
end Go.Proofs.Ytiakcehhegippaa
