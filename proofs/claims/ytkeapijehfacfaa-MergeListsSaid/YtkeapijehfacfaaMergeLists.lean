/- MergeLists: the walk of the law: for any two lists of events and any two numbers it answers true and leaves all memory as it was (no condition). -/
import Derived.Test.YtkeapijehfacfaaMpt
import Derived.Test.YtkeapijehfacfaaMaw
import Derived.Test.YtkeapijehfacfaaOpL
namespace Go.Proofs.Ytkeapijehfacfaa
open Go.RowKit Go.Fx
set_option maxRecDepth 100000 in
set_option maxHeartbeats 1000000 in
theorem walkMergeLists (A0 : Option Addr) (n0 c0 : Nat) (l : List Ev) (A1 : Option Addr) (n1 c1 : Nat) (l' : List Ev) (a2 a3 : Int) (w : World) (h0 : EvArg w A0 n0 c0 l) (h1 : EvArg w A1 n1 c1 l') (_h2 : (Lit.int .i64 a2).wf = true) (_h3 : (Lit.int .i64 a3).wf = true) :
    Calls Try.prog 8 #[.slice A0 n0 c0, .slice A1 n1 c1, .int .i64 a2, .int .i64 a3] w fun e w' => e = .returned (.bool true) ∧ Ext w w' := by
  have hm0 := h0.max
  have hm1 := h1.max
  have hl0 := h0.le
  have hl1 := h1.le
  unfold maxLen at hm0 hm1
  by_cases c40 : n0 > 40
  · have hI : (n0 : Int) > 40 := by omega
    clear h0 h1
    go_enter Try.func8, Try.ntmps8
    go_wp2_with fail
    refine (awake_ _).mono ?_; rintro e w1 ⟨rfl, e1⟩
    go_wp2_with fail
    go_ret
    exact ⟨rfl, e1⟩
  · have hI : ¬ ((n0 : Int) > 40) := by omega
    by_cases d40 : n1 > 40
    · have hJ : (n1 : Int) > 40 := by omega
      clear h0 h1
      go_enter Try.func8, Try.ntmps8
      go_wp2_with fail
      refine (awake_ _).mono ?_; rintro e w1 ⟨rfl, e1⟩
      go_wp2_with fail
      go_ret
      exact ⟨rfl, e1⟩
    · have hJ : ¬ ((n1 : Int) > 40) := by omega
      have HP := Lib.hid (parts_ A0 A1 n0 c0 n1 c1 l l' a2 a3 w h0.rd h1.rd h0.ok (by omega) (by omega))
      clear h0 h1
      go_enter Try.func8, Try.ntmps8
      go_wp2_with fail
      refine HP.out.mono ?_; rintro e w1 ⟨rfl, e1⟩
      go_wp2_with fail
      refine (awake_ _).mono ?_; rintro e w2 ⟨rfl, e2⟩
      have E2 := Lib.hid (e1.t e2)
      clear e1 e2
      go_wp2_with fail
      go_ret
      exact ⟨rfl, E2.out⟩
end Go.Proofs.Ytkeapijehfacfaa
