/- CodeBytes: the walk of the law: for any bytes it answers true and leaves all memory as it was (no condition). -/
import Derived.Test.YtiakcehhegippaaCaw
import Derived.Test.YtiakcehhegippaaCpb
import Derived.Test.YtiakcehhegippaaKbs
import Derived.Test.YtiakcehhegippaaOpen
namespace Go.Proofs.Ytiakcehhegippaa
open Go.RowKit Go.Fx
theorem read_good (A : Option Addr) (n c : Nat) (b : List Nat) (w : World) (h : Rd u8v w A n b) (hb : ∀ x ∈ b, x < 256) (hc : n ≤ c) (hn : n ≤ 1000000000) (p : List Ins) (hp : (readF b).1 = p) (h0 : (readF b).2.2 = 0) :
    Calls Try.prog 13 #[.slice A n c] w fun e w' => ∃ A' n' c', e = .returned (.tuple #[.slice A' n' c', .int .i64 (-1), .int .i64 0]) ∧ RdS 5 insC w' A' n' p ∧ Ext w w' := by
  refine (read_all A n c b w h hb hc hn).mono ?_
  rintro e w' ⟨A', n', c', rfl, hr, _, he⟩
  rw [h0, (readF_ok hb h0).1]
  subst hp
  exact ⟨A', n', c', rfl, hr.rd insC_len (by decide), he⟩
theorem read_wrong (A : Option Addr) (n c : Nat) (b : List Nat) (w : World) (h : Rd u8v w A n b) (hb : ∀ x ∈ b, x < 256) (hc : n ≤ c) (hn : n ≤ 1000000000) (h0 : (readF b).2.2 ≠ 0) :
    Calls Try.prog 13 #[.slice A n c] w fun e w' => ∃ A' c', e = .returned (.tuple #[.slice A' 0 c', .int .i64 (readF b).2.1, .int .i64 ((readF b).2.2 : Int)]) ∧ Ext w w' := by
  refine (read_all A n c b w h hb hc hn).mono ?_
  rintro e w' ⟨A', n', c', rfl, hr, _, he⟩
  have hl := hr.1
  rw [(readF_bad hb h0).1] at hl
  obtain rfl : n' = 0 := by simp at hl; omega
  exact ⟨A', c', rfl, he⟩
theorem check_good (A : Option Addr) (n c : Nat) (p : List Ins) (w : World) (h : RdS 5 insC w A n p) (hp : checkF p = (-1, 0)) :
    Calls Try.prog 14 #[.slice A n c] w fun e w' => e = .returned (.tuple #[.int .i64 (-1), .int .i64 0]) ∧ Ext w w' := by
  refine (check_ A n c p w h).mono ?_
  rintro e w' ⟨rfl, he⟩
  rw [hp]
  exact ⟨rfl, he⟩
set_option maxHeartbeats 1000000 in
theorem walkCodeBytes (A : Option Addr) (n c : Nat) (b : List Nat) (w : World) (h : Arg .u8 256 w A n c b) :
    Calls Try.prog 4 #[.slice A n c] w fun e w' => e = .returned (.bool true) ∧ Ext w w' := by
  by_cases h1 : 3000 < n
  · have h1' : (3000 : Int) < (n : Int) := by omega
    clear h
    go_enter Try.func4, Try.ntmps4
    go_wp2_with fail
    refine (awake_ w).mono ?_; rintro e w1 ⟨rfl, e1⟩
    have E1 := Lib.hid e1
    clear e1
    go_wp2_with fail
    go_ret
    exact ⟨rfl, E1.out⟩
  · have h1' : ¬ (3000 : Int) < (n : Int) := by omega
    have H := Lib.hid h
    have hlen := Lib.hid h.rd.1
    by_cases h0 : (readF b).2.2 = 0
    · have HR := Lib.hid fun w' e => read_good A n c b w' (h.rd.ext e) h.lt h.le (by omega) _ rfl h0
      have Hok := Lib.hid (readF_ok h.lt h0)
      clear h h0
      generalize (readF b).1 = p at *
      go_enter Try.func4, Try.ntmps4
      go_wp2_with fail
      refine (awake_ w).mono ?_; rintro e w1 ⟨rfl, e1⟩
      have E1 := Lib.hid e1
      clear e1
      go_wp2_with fail
      refine (HR.out _ E1.out).mono ?_; rintro e w2 ⟨A2, n2, c2, rfl, hr2, e2⟩
      have R2 := Lib.hid hr2
      have E2 := Lib.hid (E1.out.t e2)
      clear hr2 e2 E1
      go_wp2_with fail
      refine (check_good A2 n2 c2 p w2 R2.out Hok.out.2.1).mono ?_; rintro e w3 ⟨rfl, e3⟩
      have R3 := Lib.hid (R2.out.ext e3)
      have E3 := Lib.hid (E2.out.t e3)
      clear e3 R2 E2
      go_wp2_with fail
      refine (aw_write A2 n2 c2 p b w3 Hok.out.2.2 R3.out).mono ?_; rintro e w4 ⟨A4, n4, c4, rfl, hr4, e4⟩
      have R4 := Lib.hid hr4
      have E4 := Lib.hid (E3.out.t e4)
      clear e4 hr4 R3 E3
      go_wp2_with fail
      refine (sameBytes A A4 n n4 c c4 b b w4 (H.out.rd.ext E4.out) R4.out (by unfold maxLen; omega) (by have := R4.out.1; have := H.out.rd.1; unfold maxLen; omega)).mono ?_; rintro e w5 ⟨rfl, e5⟩
      rw [show decide (b = b) = true from decide_eq_true rfl]
      have E5 := Lib.hid (E4.out.t e5)
      clear e5 E4 R4
      go_wp2_with fail
      go_ret
      exact ⟨rfl, E5.out⟩
    · have HR := Lib.hid fun w' e => read_wrong A n c b w' (h.rd.ext e) h.lt h.le (by omega) h0
      obtain ⟨_, hk1, hk2, hk3⟩ := readF_bad h.lt h0
      have hq : (((readF b).2.2 : Int) != 0) = true := by simp; omega
      rw [h.rd.1] at hk2
      clear h h0
      generalize (readF b).2.1 = k at *
      generalize (readF b).2.2 = er at *
      go_enter Try.func4, Try.ntmps4
      go_wp2_with fail
      refine (awake_ w).mono ?_; rintro e w1 ⟨rfl, e1⟩
      have E1 := Lib.hid e1
      clear e1
      go_wp2_with fail
      refine (HR.out _ E1.out).mono ?_; rintro e w2 ⟨A2, c2, rfl, e2⟩
      have E2 := Lib.hid (E1.out.t e2)
      clear e2 E1
      go_wp2_with fail
      go_ret
      exact ⟨rfl, E2.out⟩
end Go.Proofs.Ytiakcehhegippaa
