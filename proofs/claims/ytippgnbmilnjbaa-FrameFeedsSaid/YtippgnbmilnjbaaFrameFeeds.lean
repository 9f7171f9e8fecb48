/- FrameFeeds: the walk of the law: for any pieces it answers true and leaves all memory as it was (no condition). -/
import Derived.Test.YtippgnbmilnjbaaFfd
import Derived.Test.YtippgnbmilnjbaaFaw
import Derived.Test.YtippgnbmilnjbaaFopn
namespace Go.Proofs.Ytippgnbmilnjbaa
open Go.RowKit Go.Fx
set_option maxHeartbeats 1000000 in
theorem walkFrameFeeds (A : Option Addr) (n c : Nat) (z : List (Sl × List Nat)) (C : Option Addr) (m cc : Nat) (cs : List Nat) (w : World) (h : BbArg w A n c z) (h' : Arg .u8 256 w C m cc cs) :
    Calls Try.prog 7 #[.slice A n c, .slice C m cc] w fun e w' => e = .returned (.bool true) ∧ Ext w w' := by
  obtain ⟨ss, hss⟩ : ∃ ss, z.map Prod.fst = ss := ⟨_, rfl⟩
  obtain ⟨xss, hxss⟩ : ∃ xss, z.map Prod.snd = xss := ⟨_, rfl⟩
  have Hr := Lib.hid h.rd
  have Hy := Lib.hid h.reads
  have HC := Lib.hid h'
  rw [hss] at Hr Hy
  rw [hxss] at Hy
  have Hnl : Hid (xss.length = n) := Lib.hid (by rw [← Hy.out.len]; exact Hr.out.1)
  clear h h' hss hxss
  by_cases h20 : 40 < n
  · have h20' : (40 : Int) < (n : Int) := by omega
    go_enter Try.func7, Try.ntmps7
    go_wp2_with fail
    refine (awake w).mono ?_; rintro e w2 ⟨rfl, e2⟩
    have E2 := Lib.hid e2
    clear e2
    go_wp2_with fail
    go_ret
    exact ⟨rfl, E2.out⟩
  · have h20' : ¬ (40 : Int) < (n : Int) := by omega
    go_enter Try.func7, Try.ntmps7
    go_wp2_with fail
    go_loop [13] (fun i => ∃ k : Nat, k ≤ n ∧ i = .int .i64 (k : Int) ∧ Hid (∀ x ∈ xss.take k, x.length ≤ 400)) (fun i => n - (intOf i).toNat)
    case atStart => exact ⟨0, by omega, rfl, Lib.hid (by simp)⟩
    case round =>
      obtain ⟨k, hk, rfl, HK⟩ := hrel
      by_cases hlt : k < n
      · have hltI : (k : Int) < (n : Int) := by omega
        obtain ⟨b, o, s, rfl, _, hs, hc⟩ := Hr.out.at_ hlt
        obtain ⟨x, hx, hxr, hxl⟩ := Hy.out.at_ k s hs
        have hxn : x.length = s.n := hxr.1
        unfold slv at hc
        have Hn : Hid (s.n ≤ 400 → ∀ x ∈ xss.take (k + 1), x.length ≤ 400) := Lib.hid (fun h y hy => by
          rw [take_snoc hx] at hy
          rcases List.mem_append.1 hy with h1 | h1
          · exact HK.out y h1
          · simp at h1
            subst h1
            omega)
        clear hs hx hxr hxl hxn
        by_cases h400 : 400 < s.n
        · have h400' : (400 : Int) < (s.n : Int) := by omega
          clear Hn
          go_wp2_with fail
          refine (awake w).mono ?_; rintro e w2 ⟨rfl, e2⟩
          have E2 := Lib.hid e2
          clear e2
          go_wp2_with fail
          go_ret
          exact ⟨rfl, E2.out⟩
        · have h400' : ¬ (400 : Int) < (s.n : Int) := by omega
          replace Hn := Lib.hid (Hn.out (by omega))
          go_wp2_with fail
          go_round
          case rel => exact ⟨k + 1, by omega, by go_num, Hn⟩
          case measure => simp [intOf]; omega
      · obtain rfl : n = k := by omega
        have HW := Lib.hid (feeds_ A n c ss xss C m cc cs w Hr.out Hy.out (by omega) (fun x hx => by
          have := HK.out x (by rw [List.take_of_length_le (by rw [Hnl.out]; exact Nat.le_refl _)]; exact hx)
          omega) HC.out.rd HC.out.lt (Nat.le_trans HC.out.le HC.out.max))
        go_wp2_with fail
        refine HW.out.mono ?_; rintro e w1 ⟨rfl, e1⟩
        have E1 := Lib.hid e1
        clear e1
        go_wp2_with fail
        refine (awake w1).mono ?_; rintro e w2 ⟨rfl, e2⟩
        have E2 := Lib.hid e2
        clear e2
        go_wp2_with fail
        go_ret
        exact ⟨rfl, E1.out.t E2.out⟩
end Go.Proofs.Ytippgnbmilnjbaa
