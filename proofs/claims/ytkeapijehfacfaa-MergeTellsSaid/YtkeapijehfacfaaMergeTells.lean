/- MergeTells: the walk of the law: for any lists of events it answers true and leaves all memory as it was (no condition). -/
import Derived.Test.YtkeapijehfacfaaMts
import Derived.Test.YtkeapijehfacfaaMaw
import Derived.Test.YtkeapijehfacfaaOpL
namespace Go.Proofs.Ytkeapijehfacfaa
open Go.RowKit Go.Fx
set_option maxRecDepth 100000 in
set_option maxHeartbeats 1000000 in
theorem walkMergeTells (A0 : Option Addr) (n0 c0 : Nat) (z : List (Sl × List Ev)) (w : World) (h0 : EeArg w A0 n0 c0 (z.map Prod.fst) (z.map Prod.snd)) :
    Calls Try.prog 5 #[.slice A0 n0 c0] w fun e w' => e = .returned (.bool true) ∧ Ext w w' := by
  generalize z.map Prod.fst = ss at *
  generalize z.map Prod.snd = ls at *
  have hlen : n0 = ls.length := by have := h0.rd.1; have := h0.els.len; omega
  have hmx := h0.max
  have hle := h0.le
  unfold maxLen at hmx
  have H0 := Lib.hid h0
  have Hlen := Lib.hid hlen
  clear h0 hlen
  by_cases h12 : n0 > 12
  · have hI : (n0 : Int) > 12 := by omega
    go_enter Try.func5, Try.ntmps5
    go_wp2_with fail
    refine (awake_ _).mono ?_; rintro e w1 ⟨rfl, e1⟩
    go_wp2_with fail
    go_ret
    exact ⟨rfl, e1⟩
  · have hI : ¬ ((n0 : Int) > 12) := by omega
    go_enter Try.func5, Try.ntmps5
    go_wp2_with fail
    go_loopw [11] (fun i wr => ∃ k : Nat, k ≤ n0 ∧ i = .int .i64 (k : Int) ∧ Hid ((∀ l ∈ ls.take k, l.length ≤ 30) ∧ Ext w wr)) (fun i _ => n0 - (intOf i).toNat)
    case atStart => exact ⟨0, by omega, rfl, Lib.hid ⟨by simp, Ext.refl _⟩⟩
    case round =>
      obtain ⟨k, hk, rfl, HJ⟩ := hrel
      by_cases hlt : k < n0
      · have hltI : (k : Int) < (n0 : Int) := by omega
        obtain ⟨s, l, hsx, hlx, hsc, hrd⟩ := H0.out.els.get (i := k) (by have := H0.out.rd.1; omega)
        obtain ⟨b, o, rfl, hcs⟩ := (H0.out.rd.ext HJ.out.2).get hsx
        obtain ⟨sA, sn, sc⟩ := s
        have hl : l.length = sn := hrd.1
        have HX := Lib.hid HJ.out.2
        unfold slv at hcs
        by_cases h30 : sn > 30
        · have h30I : (sn : Int) > 30 := by omega
          clear hsx hlx hsc hrd hl HJ
          go_wp2_with fail
          refine (awake_ _).mono ?_; rintro e w1 ⟨rfl, e1⟩
          have E1 := Lib.hid (HX.out.t e1)
          clear e1
          go_wp2_with fail
          go_ret
          exact ⟨rfl, E1.out⟩
        · have h30I : ¬ ((sn : Int) > 30) := by omega
          have HJ1 : Hid (∀ l ∈ ls.take (k + 1), l.length ≤ 30) := Lib.hid (fun l' hl' => by
            rw [take_snoc hlx] at hl'
            rcases List.mem_append.1 hl' with h1 | h1
            · exact HJ.out.1 l' h1
            · obtain rfl : l' = l := by simpa using h1
              omega)
          clear hsx hlx hsc hrd hl HJ
          go_wp2_with fail
          go_roundw
          case rel => exact ⟨k + 1, by omega, by go_num, Lib.hid ⟨HJ1.out, HX.out⟩⟩
          case measure => simp [intOf]; omega
      · obtain rfl : n0 = k := by omega
        have hall := HJ.out.1
        rw [List.take_of_length_le (by have := Hlen.out; omega)] at hall
        have HX := Lib.hid HJ.out.2
        have HM := Lib.hid (merges_ A0 n0 c0 ss ls wr (H0.out.rd.ext HX.out) (H0.out.els.ext HX.out) H0.out.ok (by omega) (fun l hl => by have := hall l hl; omega))
        clear hall HJ
        go_wp2_with fail
        refine HM.out.mono ?_; rintro e w1 ⟨rfl, e1⟩
        have E1 := Lib.hid (HX.out.t e1)
        clear e1
        go_wp2_with fail
        refine (awake_ _).mono ?_; rintro e w2 ⟨rfl, e2⟩
        have E2 := Lib.hid (E1.out.t e2)
        clear e2
        go_wp2_with fail
        go_ret
        exact ⟨rfl, E2.out⟩
end Go.Proofs.Ytkeapijehfacfaa
