/- CodeReads: the walk of the law: for any bytes it answers true and leaves all memory as it was (no condition). -/
import Derived.Test.YtiakcehhegippaaCrs
import Derived.Test.YtiakcehhegippaaCaw
namespace Go.Proofs.Ytiakcehhegippaa
open Go.RowKit Go.Fx
theorem walkCodeReads (A : Option Addr) (n c : Nat) (b : List Nat) (w : World) (h : Arg .u8 256 w A n c b) :
    Calls Try.prog 3 #[.slice A n c] w fun e w' => e = .returned (.bool true) ∧ Ext w w' := by
  have HR := Lib.hid (reads_ A n c b w h.rd h.lt)
  clear h
  go_enter Try.func3, Try.ntmps3
  go_wp2_with fail
  refine HR.out.mono ?_; rintro e w1 ⟨rfl, e1⟩
  have E1 := Lib.hid e1
  clear e1
  go_wp2_with fail
  refine (awake_ w1).mono ?_; rintro e w2 ⟨rfl, e2⟩
  have E2 := Lib.hid (E1.out.t e2)
  clear e2
  go_wp2_with fail
  go_ret
  exact ⟨rfl, E2.out⟩
end Go.Proofs.Ytiakcehhegippaa
