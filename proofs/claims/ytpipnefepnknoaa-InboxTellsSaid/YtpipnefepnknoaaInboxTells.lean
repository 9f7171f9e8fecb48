/- InboxTells: the walk of the law. -/
import Derived.Test.YtpipnefepnknoaaTells
namespace Go.Proofs.Ytpipnefepnknoaa
open Go.RowKit Go.Fx
set_option maxHeartbeats 400000 in
theorem walkInboxTells (A : Option Addr) (n c : Nat) (al : List ActN) (w : World) (h : ActsArg w A n c al) :
    Calls Try.prog 5 #[.slice A n c] w fun e w' => e = .returned (.bool true) ∧ Ext w w' := by
  have HT := Lib.hid (tells_ A n c al w h.acts h.le h.max)
  clear h
  go_enter Try.func5, Try.ntmps5
  go_wp2_with fail
  refine HT.out.mono ?_
  rintro e w1 ⟨rfl, h1⟩
  have H1 := Lib.hid h1
  clear h1 HT
  go_wp2_with fail
  refine (awake _).mono ?_
  rintro e w2 ⟨rfl, h2⟩
  have H2 := Lib.hid h2
  clear h2
  go_wp2_with fail
  go_ret
  exact ⟨rfl, H1.out.t H2.out⟩
end Go.Proofs.Ytpipnefepnknoaa
