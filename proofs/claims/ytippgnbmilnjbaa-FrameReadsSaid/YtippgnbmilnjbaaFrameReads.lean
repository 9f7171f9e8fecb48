/- FrameReads: the walk of the law: for any bytes it answers true and leaves all memory as it was (no condition). -/
import Derived.Test.YtippgnbmilnjbaaFrd
import Derived.Test.YtippgnbmilnjbaaFaw
import Derived.Test.YtippgnbmilnjbaaOpen
namespace Go.Proofs.Ytippgnbmilnjbaa
open Go.RowKit Go.Fx
set_option maxHeartbeats 1000000 in
theorem walkFrameReads (A : Option Addr) (n c : Nat) (b : List Nat) (w : World) (h : Arg .u8 256 w A n c b) :
    Calls Try.prog 4 #[.slice A n c] w fun e w' => e = .returned (.bool true) ∧ Ext w w' := by
  by_cases h1 : 2000 < n
  · have h1' : (2000 : Int) < (n : Int) := by omega
    by_cases h2 : n ≤ 16000
    · have h2' : (n : Int) ≤ 16000 := by omega
      clear h
      go_enter Try.func4, Try.ntmps4
      go_wp2_with fail
      refine (awake w).mono ?_; rintro e w2 ⟨rfl, e2⟩
      have E2 := Lib.hid e2
      clear e2
      go_wp2_with fail
      go_ret
      exact ⟨rfl, E2.out⟩
    · have h2' : ¬ (n : Int) ≤ 16000 := by omega
      by_cases h3 : 17000 ≤ n
      · have h3' : (17000 : Int) ≤ (n : Int) := by omega
        clear h
        go_enter Try.func4, Try.ntmps4
        go_wp2_with fail
        refine (awake w).mono ?_; rintro e w2 ⟨rfl, e2⟩
        have E2 := Lib.hid e2
        clear e2
        go_wp2_with fail
        go_ret
        exact ⟨rfl, E2.out⟩
      · have h3' : ¬ (17000 : Int) ≤ (n : Int) := by omega
        have HR := Lib.hid (reads_ A n c b w h.rd h.lt h.le (by omega))
        clear h
        go_enter Try.func4, Try.ntmps4
        go_wp2_with fail
        refine HR.out.mono ?_; rintro e w1 ⟨rfl, e1⟩
        have E1 := Lib.hid e1
        clear e1
        go_wp2_with fail
        refine (awake w1).mono ?_; rintro e w2 ⟨rfl, e2⟩
        have E2 := Lib.hid e2
        clear e2
        go_wp2_with fail
        go_ret
        exact ⟨rfl, E1.out.t E2.out⟩
  · have h1' : ¬ (2000 : Int) < (n : Int) := by omega
    have h3' : ¬ (17000 : Int) ≤ (n : Int) := by omega
    have HR := Lib.hid (reads_ A n c b w h.rd h.lt h.le (by omega))
    clear h
    go_enter Try.func4, Try.ntmps4
    go_wp2_with fail
    refine HR.out.mono ?_; rintro e w1 ⟨rfl, e1⟩
    have E1 := Lib.hid e1
    clear e1
    go_wp2_with fail
    refine (awake w1).mono ?_; rintro e w2 ⟨rfl, e2⟩
    have E2 := Lib.hid e2
    clear e2
    go_wp2_with fail
    go_ret
    exact ⟨rfl, E1.out.t E2.out⟩
end Go.Proofs.Ytippgnbmilnjbaa
