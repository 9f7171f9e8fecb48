/- FlowTells: the walk of the law: for any program and any number it answers true and leaves all memory as it was (no condition). -/
import Derived.Test.YtlneifgihdickaaTls
namespace Go.Proofs.Ytlneifgihdickaa
open Go.RowKit Go.Fx
set_option maxRecDepth 100000 in
theorem walkFlowTells (A0 : Option Addr) (n0 c0 : Nat) (p : List Ins) (i : Int) (w : World) (h0 : InArg w A0 n0 c0 p) (_hi : (Lit.int .i64 i).wf = true) :
    Calls Try.prog 6 #[.slice A0 n0 c0, .int .i64 i] w fun e w' => e = .returned (.bool true) ∧ Ext w w' := by
  have HT := Lib.hid (tells_ A0 n0 c0 p i w h0.rd h0.le)
  clear h0
  go_enter Try.func6, Try.ntmps6
  go_wp2_with fail
  refine HT.out.mono ?_; rintro e w1 ⟨rfl, x1⟩
  have X1 := Lib.hid x1
  clear x1 HT
  go_wp2_with fail
  refine (awake_ w1).mono ?_; rintro e w2 ⟨rfl, x2⟩
  have X2 := Lib.hid (X1.out.t x2)
  clear x2 X1
  go_wp2_with fail
  go_ret
  exact ⟨rfl, X2.out⟩
end Go.Proofs.Ytlneifgihdickaa
