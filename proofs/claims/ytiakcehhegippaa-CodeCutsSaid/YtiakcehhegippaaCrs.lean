/- Crs: the law's reads: Read as the reference says. -/
import Derived.Test.YtiakcehhegippaaCrr
import Derived.Test.YtiakcehhegippaaCie
import Derived.Test.YtiakcehhegippaaKlt
import Derived.Test.YtiakcehhegippaaOpen
namespace Go.Proofs.Ytiakcehhegippaa
open Go.RowKit Go.Fx
theorem rlF_len2 (b : List Nat) (hb : ∀ x ∈ b, x < 256) : (readF b).1.length ≤ 256 := by
  by_cases h : (readF b).2.2 = 0
  · have := (checkF_bounds (readF b).1).2.2.2 (by rw [(readF_ok hb h).2.1])
    omega
  · rw [(readF_bad hb h).1]; simp
theorem read_let (A : Option Addr) (n c : Nat) (b : List Nat) (w : World) (h : Rd u8v w A n b) (hb : ∀ x ∈ b, x < 256) (hc : n ≤ c) (hn : n ≤ 1000000000) {p : List Ins} {k : Int} {er : Nat} (hF : readF b = (p, k, er)) :
    Calls Try.prog 13 #[.slice A n c] w fun e w' => ∃ A' n' c', e = .returned (.tuple #[.slice A' n' c', .int .i64 k, .int .i64 (er : Int)]) ∧ RdS 5 insC w' A' n' p ∧ Ext w w' := by
  refine (read_all A n c b w h hb hc hn).mono ?_
  rintro e w' ⟨A', n', c', rfl, hr, _, he⟩
  rw [hF] at hr ⊢
  exact ⟨A', n', c', rfl, hr.rd insC_len (by decide), he⟩
theorem rread_let (A : Option Addr) (n c : Nat) (b : List Nat) (w : World) (h : Rd u8v w A n b) (hb : ∀ x ∈ b, x < 256) (hn : n ≤ 1000000000) {p : List Ins} {k : Int} {er : Nat} (hF : readF b = (p, k, er)) :
    Calls Try.prog 28 #[.slice A n c] w fun e w' => ∃ A' n' c', e = .returned (.tuple #[.slice A' n' c', .int .i64 k, .int .i64 (er : Int)]) ∧ RdS 5 insC w' A' n' p ∧ Ext w w' := by
  refine (rread_ A n c b w h hb hn).mono ?_
  rintro e w' ⟨A', n', c', rfl, hr, he⟩
  rw [hF] at hr ⊢
  exact ⟨A', n', c', rfl, hr, he⟩
set_option maxRecDepth 100000 in
set_option maxHeartbeats 1000000 in
theorem reads_ (A : Option Addr) (n c : Nat) (b : List Nat) (w : World) (h : Rd u8v w A n b) (hb : ∀ x ∈ b, x < 256) :
    Calls Try.prog 11 #[.slice A n c] w fun e w' => e = .returned (.bool true) ∧ Ext w w' := by
  by_cases h1 : 3000 < n
  · have h1' : (3000 : Int) < (n : Int) := by omega
    clear h hb
    go_enter Try.func11, Try.ntmps11
    go_wp2_with fail
    go_ret
    exact ⟨rfl, Ext.refl _⟩
  · have h1' : ¬ (3000 : Int) < (n : Int) := by omega
    have H := Lib.hid h
    have Hl := Lib.hid h.1
    have Hb := Lib.hid hb
    obtain ⟨p, k, er, hF⟩ : ∃ p k er, readF b = (p, k, er) := ⟨_, _, _, rfl⟩
    have Hlen : Hid (p.length ≤ 256) := Lib.hid (by have := rlF_len2 b hb; rw [hF] at this; exact this)
    have HF := Lib.hid hF
    clear hF
    have hm : n ≤ 3000 := by omega
    clear h hb h1
    go_enter Try.func11, Try.ntmps11
    go_wp2_with fail
    refine (lentBytes A n c b w H.out (by omega)).mono ?_; rintro e w1 ⟨A1, c1, rfl, hc1, hc1m, r1, e1⟩
    have R1 := Lib.hid r1
    have Hc1 := Lib.hid (show n + 12 ≤ c1 ∧ c1 ≤ maxLen from ⟨hc1, hc1m⟩)
    have E1 := Lib.hid e1
    clear r1 hc1 hc1m e1
    go_wp2_with fail
    refine (read_let A1 n c1 b w1 (by have h := R1.out.take (k := n) (by omega); rw [List.take_left' Hl.out] at h; exact h) Hb.out (by have := Hc1.out; omega) (by omega) HF.out).mono ?_; rintro e w2 ⟨A2, n2, c2, rfl, r2, e2⟩
    have R2 := Lib.hid r2
    have R1b := Lib.hid (R1.out.ext e2)
    have E2 := Lib.hid (E1.out.t e2)
    clear r2 e2 R1 E1
    go_wp2_with fail
    refine (rread_let A n c b w2 (H.out.ext E2.out) Hb.out (by omega) HF.out).mono ?_; rintro e w3 ⟨A3, n3, c3, rfl, r3, e3⟩
    have R3 := Lib.hid r3
    have R2b := Lib.hid (R2.out.ext e3)
    have R1c := Lib.hid (R1b.out.ext e3)
    have E3 := Lib.hid (E2.out.t e3)
    clear r3 e3 R2 R1b E2
    go_wp2_with fail
    refine (theirs_ A2 n2 c2 p w3 R2b.out (by have := R2b.out.1; have := Hlen.out; omega)).mono ?_; rintro e w4 ⟨A4, n4, c4, rfl, hn4⟩
    have N4 := Lib.hid hn4
    have R3b := Lib.hid (R3.out.ext hn4.ext)
    have R1d := Lib.hid (R1c.out.ext hn4.ext)
    have E4 := Lib.hid (E3.out.t hn4.ext)
    clear hn4 R3 R1c E3 R2b
    go_wp2_with fail
    refine (sameI A4 A3 n4 n3 c4 c3 p p w4 N4.out.rd R3b.out (by have := N4.out.n_; have := Hlen.out; omega) (by have := R3b.out.1; have := Hlen.out; omega)).mono ?_; rintro e w5 ⟨rfl, e5⟩
    rw [show decide (p = p) = true from decide_eq_true rfl]
    have R1e := Lib.hid (R1d.out.ext e5)
    have E5 := Lib.hid (E4.out.t e5)
    clear e5 R1d E4 R3b N4
    go_wp2_with fail
    refine (keptBytes A1 A n c1 c b w5 R1e.out (H.out.ext E5.out) Hc1.out.1 (by omega) Hc1.out.2).mono ?_; rintro e w6 ⟨rfl, e6⟩
    have E6 := Lib.hid (E5.out.t e6)
    clear e6 E5 R1e
    go_wp2_with fail
    go_ret
    exact ⟨rfl, E6.out⟩
end Go.Proofs.Ytiakcehhegippaa
