/- Cro: the reference's One. -/
import Derived.Test.YtiakcehhegippaaCrf
namespace Go.Proofs.Ytiakcehhegippaa
open Go.RowKit Go.Fx
def ROneP (i : Ins) (w : World) (e : Ending) (w' : World) : Prop := e = .returned (.int .i64 (oneF i : Int)) ∧ Ext w w'
set_option maxHeartbeats 1000000 in
theorem rone_bad (i : Ins) (w : World) (hb : okOp i.op = false) :
    Calls Try.prog 41 #[insV i] w (ROneP i w) := by
  have HF := Lib.hid (fun w' => rform_ i.op w')
  have Hb := Lib.hid hb
  unfold FormP at HF
  rw [hb] at HF
  unfold insV
  clear hb
  go_enter Try.func41, Try.ntmps41
  go_wp2_with fail
  refine (HF.out _).mono ?_; rintro e w1 ⟨rfl, e1⟩
  have E1 := Lib.hid ((Ext.alloc w _).t e1)
  clear e1
  go_wp2_with fail
  go_ret
  exact ⟨by unfold oneF; rw [if_pos Hb.out]; rfl, E1.out⟩
theorem rg_cases {nr a b c : Nat} (h : nr ≤ 3) : (rgOk nr a b c = true ↔ ¬ (7 < a ∨ 7 < b ∨ 7 < c ∨ (nr < 1 ∧ a ≠ 0) ∨ (nr < 2 ∧ b ≠ 0) ∨ (nr < 3 ∧ c ≠ 0))) := by
  unfold rgOk
  simp only [Bool.and_eq_true, decide_eq_true_eq]
  repeat' split
  all_goals omega
theorem rg_no {nr a b c : Nat} (h : nr ≤ 3) (h1 : 7 < a ∨ 7 < b ∨ 7 < c ∨ (nr < 1 ∧ a ≠ 0) ∨ (nr < 2 ∧ b ≠ 0) ∨ (nr < 3 ∧ c ≠ 0)) : true = !rgOk nr a b c := by
  cases h2 : rgOk nr a b c with
  | false => rfl
  | true => exact absurd h1 ((rg_cases h).1 h2)
theorem rg_yes {nr a b c : Nat} (h : nr ≤ 3) (h1 : ¬ (7 < a ∨ 7 < b ∨ 7 < c ∨ (nr < 1 ∧ a ≠ 0) ∨ (nr < 2 ∧ b ≠ 0) ∨ (nr < 3 ∧ c ≠ 0))) : false = !rgOk nr a b c := by
  rw [(rg_cases h).2 h1]; rfl
set_option maxRecDepth 100000 in
set_option maxHeartbeats 4000000 in
theorem rone_ok (i : Ins) (w : World) (hb : okOp i.op = true) :
    Calls Try.prog 41 #[insV i] w (ROneP i w) := by
  have HF := Lib.hid (fun w' => rform_ i.op w')
  have Hb := Lib.hid hb
  unfold FormP at HF
  rw [hb] at HF
  have HC := Lib.hid (fun l w' h => count_ i.op l w' h)
  obtain ⟨nr, hnr⟩ : ∃ nr, nr = nrOf i.op := ⟨_, rfl⟩
  have hn3 : nr ≤ 3 := by have := nr_tl i.op; omega
  have Hnr := Lib.hid hnr
  have HC1 : Hid (∀ w', Calls Try.prog 50 #[.string (strOf i.op), .int .u8 114] w' fun e w'' => e = .returned (.int .i64 (nr : Int)) ∧ w' = w'') := Lib.hid (fun w' => by have := HC.out 114 w' (by omega); rw [show cnF i.op 114 = nr by rw [hnr]; rfl] at this; exact this)
  unfold insV
  clear hb hnr
  go_enter Try.func41, Try.ntmps41
  go_wp2_with fail
  refine (HF.out _).mono ?_; rintro e w1 ⟨rfl, e1⟩
  have hb1 := ((Blk.new w 78 (insC i).toArray).ext e1)
  obtain ⟨d0, d1, d2, d3, d4⟩ := hb1.ins
  have E1 := Lib.hid ((Ext.alloc w _).t e1)
  clear e1 hb1
  go_wp2_with fail
  refine (HC1.out _).mono ?_; rintro e w1' ⟨rfl, rfl⟩
  go_upto_region 5 with fail
  go_cut [56] from 17 to 56 (fun v wx => v = .bool (!rgOk nr i.a i.b i.c) ∧ Hid (w1 = wx))
  case first =>
    by_cases h1 : 7 < i.a
    · have k1 : (7 : Int) < (i.a : Int) := by omega
      go_wp2_with fail; go_simp; go_meet; exact ⟨by first | exact congrArg Value.bool (rg_no (by omega) (by first | omega | (have := A0.out; first | omega | (have := B0.out; first | omega | (have := C0.out; omega))) | (have := B0.out; first | omega | (have := C0.out; omega)) | (have := C0.out; omega))) | exact congrArg Value.bool (rg_yes (by omega) (by first | omega | (have := A0.out; first | omega | (have := B0.out; first | omega | (have := C0.out; omega))) | (have := B0.out; first | omega | (have := C0.out; omega)) | (have := C0.out; omega))), Lib.hid rfl⟩
    have k1 : ¬ (7 : Int) < (i.a : Int) := by omega
    by_cases h2 : 7 < i.b
    · have k2 : (7 : Int) < (i.b : Int) := by omega
      go_wp2_with fail; go_simp; go_meet; exact ⟨by first | exact congrArg Value.bool (rg_no (by omega) (by first | omega | (have := A0.out; first | omega | (have := B0.out; first | omega | (have := C0.out; omega))) | (have := B0.out; first | omega | (have := C0.out; omega)) | (have := C0.out; omega))) | exact congrArg Value.bool (rg_yes (by omega) (by first | omega | (have := A0.out; first | omega | (have := B0.out; first | omega | (have := C0.out; omega))) | (have := B0.out; first | omega | (have := C0.out; omega)) | (have := C0.out; omega))), Lib.hid rfl⟩
    have k2 : ¬ (7 : Int) < (i.b : Int) := by omega
    by_cases h3 : 7 < i.c
    · have k3 : (7 : Int) < (i.c : Int) := by omega
      go_wp2_with fail; go_simp; go_meet; exact ⟨by first | exact congrArg Value.bool (rg_no (by omega) (by first | omega | (have := A0.out; first | omega | (have := B0.out; first | omega | (have := C0.out; omega))) | (have := B0.out; first | omega | (have := C0.out; omega)) | (have := C0.out; omega))) | exact congrArg Value.bool (rg_yes (by omega) (by first | omega | (have := A0.out; first | omega | (have := B0.out; first | omega | (have := C0.out; omega))) | (have := B0.out; first | omega | (have := C0.out; omega)) | (have := C0.out; omega))), Lib.hid rfl⟩
    have k3 : ¬ (7 : Int) < (i.c : Int) := by omega
    by_cases r1 : nr < 1
    · have s1 : (nr : Int) < 1 := by omega
      have s2 : (nr : Int) < 2 := by omega
      have s3 : (nr : Int) < 3 := by omega
      by_cases a0 : i.a = 0
      · have t1 : ((i.a : Int) != 0) = false := by simp; omega
        have A0 := Lib.hid a0
        clear a0
        by_cases b0 : i.b = 0
        · have t2 : ((i.b : Int) != 0) = false := by simp; omega
          have B0 := Lib.hid b0
          clear b0
          by_cases c0 : i.c = 0
          · have t3 : ((i.c : Int) != 0) = false := by simp; omega
            have C0 := Lib.hid c0
            clear c0
            go_wp2_with fail; go_simp; go_meet; exact ⟨by first | exact congrArg Value.bool (rg_no (by omega) (by first | omega | (have := A0.out; first | omega | (have := B0.out; first | omega | (have := C0.out; omega))) | (have := B0.out; first | omega | (have := C0.out; omega)) | (have := C0.out; omega))) | exact congrArg Value.bool (rg_yes (by omega) (by first | omega | (have := A0.out; first | omega | (have := B0.out; first | omega | (have := C0.out; omega))) | (have := B0.out; first | omega | (have := C0.out; omega)) | (have := C0.out; omega))), Lib.hid rfl⟩
          · have t3 : ((i.c : Int) != 0) = true := by simp; omega
            have C0 := Lib.hid c0
            clear c0
            go_wp2_with fail; go_simp; go_meet; exact ⟨by first | exact congrArg Value.bool (rg_no (by omega) (by first | omega | (have := A0.out; first | omega | (have := B0.out; first | omega | (have := C0.out; omega))) | (have := B0.out; first | omega | (have := C0.out; omega)) | (have := C0.out; omega))) | exact congrArg Value.bool (rg_yes (by omega) (by first | omega | (have := A0.out; first | omega | (have := B0.out; first | omega | (have := C0.out; omega))) | (have := B0.out; first | omega | (have := C0.out; omega)) | (have := C0.out; omega))), Lib.hid rfl⟩
        · have t2 : ((i.b : Int) != 0) = true := by simp; omega
          have B0 := Lib.hid b0
          clear b0
          go_wp2_with fail; go_simp; go_meet; exact ⟨by first | exact congrArg Value.bool (rg_no (by omega) (by first | omega | (have := A0.out; first | omega | (have := B0.out; first | omega | (have := C0.out; omega))) | (have := B0.out; first | omega | (have := C0.out; omega)) | (have := C0.out; omega))) | exact congrArg Value.bool (rg_yes (by omega) (by first | omega | (have := A0.out; first | omega | (have := B0.out; first | omega | (have := C0.out; omega))) | (have := B0.out; first | omega | (have := C0.out; omega)) | (have := C0.out; omega))), Lib.hid rfl⟩
      · have t1 : ((i.a : Int) != 0) = true := by simp; omega
        have A0 := Lib.hid a0
        clear a0
        go_wp2_with fail; go_simp; go_meet; exact ⟨by first | exact congrArg Value.bool (rg_no (by omega) (by first | omega | (have := A0.out; first | omega | (have := B0.out; first | omega | (have := C0.out; omega))) | (have := B0.out; first | omega | (have := C0.out; omega)) | (have := C0.out; omega))) | exact congrArg Value.bool (rg_yes (by omega) (by first | omega | (have := A0.out; first | omega | (have := B0.out; first | omega | (have := C0.out; omega))) | (have := B0.out; first | omega | (have := C0.out; omega)) | (have := C0.out; omega))), Lib.hid rfl⟩
    have s1 : ¬ (nr : Int) < 1 := by omega
    by_cases r2 : nr < 2
    · have s2 : (nr : Int) < 2 := by omega
      have s3 : (nr : Int) < 3 := by omega
      by_cases b0 : i.b = 0
      · have t2 : ((i.b : Int) != 0) = false := by simp; omega
        have B0 := Lib.hid b0
        clear b0
        by_cases c0 : i.c = 0
        · have t3 : ((i.c : Int) != 0) = false := by simp; omega
          have C0 := Lib.hid c0
          clear c0
          go_wp2_with fail; go_simp; go_meet; exact ⟨by first | exact congrArg Value.bool (rg_no (by omega) (by first | omega | (have := A0.out; first | omega | (have := B0.out; first | omega | (have := C0.out; omega))) | (have := B0.out; first | omega | (have := C0.out; omega)) | (have := C0.out; omega))) | exact congrArg Value.bool (rg_yes (by omega) (by first | omega | (have := A0.out; first | omega | (have := B0.out; first | omega | (have := C0.out; omega))) | (have := B0.out; first | omega | (have := C0.out; omega)) | (have := C0.out; omega))), Lib.hid rfl⟩
        · have t3 : ((i.c : Int) != 0) = true := by simp; omega
          have C0 := Lib.hid c0
          clear c0
          go_wp2_with fail; go_simp; go_meet; exact ⟨by first | exact congrArg Value.bool (rg_no (by omega) (by first | omega | (have := A0.out; first | omega | (have := B0.out; first | omega | (have := C0.out; omega))) | (have := B0.out; first | omega | (have := C0.out; omega)) | (have := C0.out; omega))) | exact congrArg Value.bool (rg_yes (by omega) (by first | omega | (have := A0.out; first | omega | (have := B0.out; first | omega | (have := C0.out; omega))) | (have := B0.out; first | omega | (have := C0.out; omega)) | (have := C0.out; omega))), Lib.hid rfl⟩
      · have t2 : ((i.b : Int) != 0) = true := by simp; omega
        have B0 := Lib.hid b0
        clear b0
        go_wp2_with fail; go_simp; go_meet; exact ⟨by first | exact congrArg Value.bool (rg_no (by omega) (by first | omega | (have := A0.out; first | omega | (have := B0.out; first | omega | (have := C0.out; omega))) | (have := B0.out; first | omega | (have := C0.out; omega)) | (have := C0.out; omega))) | exact congrArg Value.bool (rg_yes (by omega) (by first | omega | (have := A0.out; first | omega | (have := B0.out; first | omega | (have := C0.out; omega))) | (have := B0.out; first | omega | (have := C0.out; omega)) | (have := C0.out; omega))), Lib.hid rfl⟩
    have s2 : ¬ (nr : Int) < 2 := by omega
    by_cases r3 : nr < 3
    · have s3 : (nr : Int) < 3 := by omega
      by_cases c0 : i.c = 0
      · have t3 : ((i.c : Int) != 0) = false := by simp; omega
        have C0 := Lib.hid c0
        clear c0
        go_wp2_with fail; go_simp; go_meet; exact ⟨by first | exact congrArg Value.bool (rg_no (by omega) (by first | omega | (have := A0.out; first | omega | (have := B0.out; first | omega | (have := C0.out; omega))) | (have := B0.out; first | omega | (have := C0.out; omega)) | (have := C0.out; omega))) | exact congrArg Value.bool (rg_yes (by omega) (by first | omega | (have := A0.out; first | omega | (have := B0.out; first | omega | (have := C0.out; omega))) | (have := B0.out; first | omega | (have := C0.out; omega)) | (have := C0.out; omega))), Lib.hid rfl⟩
      · have t3 : ((i.c : Int) != 0) = true := by simp; omega
        have C0 := Lib.hid c0
        clear c0
        go_wp2_with fail; go_simp; go_meet; exact ⟨by first | exact congrArg Value.bool (rg_no (by omega) (by first | omega | (have := A0.out; first | omega | (have := B0.out; first | omega | (have := C0.out; omega))) | (have := B0.out; first | omega | (have := C0.out; omega)) | (have := C0.out; omega))) | exact congrArg Value.bool (rg_yes (by omega) (by first | omega | (have := A0.out; first | omega | (have := B0.out; first | omega | (have := C0.out; omega))) | (have := B0.out; first | omega | (have := C0.out; omega)) | (have := C0.out; omega))), Lib.hid rfl⟩
    have s3 : ¬ (nr : Int) < 3 := by omega
    go_wp2_with fail; go_simp; go_meet; exact ⟨by first | exact congrArg Value.bool (rg_no (by omega) (by first | omega | (have := A0.out; first | omega | (have := B0.out; first | omega | (have := C0.out; omega))) | (have := B0.out; first | omega | (have := C0.out; omega)) | (have := C0.out; omega))) | exact congrArg Value.bool (rg_yes (by omega) (by first | omega | (have := A0.out; first | omega | (have := B0.out; first | omega | (have := C0.out; omega))) | (have := B0.out; first | omega | (have := C0.out; omega)) | (have := C0.out; omega))), Lib.hid rfl⟩
  case rest =>
  obtain ⟨rfl, hw⟩ := hcut
  obtain rfl := hw.out
  clear hw
  cases hrg : rgOk nr i.a i.b i.c with
  | false =>
    have hres : oneF i = 141 := by unfold oneF; rw [if_neg (by rw [Hb.out]; simp), ← Hnr.out, hrg]; rfl
    have Hres := Lib.hid hres
    clear hres hrg
    go_wp2_with fail
    go_ret
    exact ⟨by rw [Hres.out]; rfl, E1.out⟩
  | true =>
    have hone : oneF i = if nOk (tlOf i.op) i.n then 0 else 141 := by unfold oneF; rw [if_neg (by rw [Hb.out]; simp), ← Hnr.out, hrg]; simp
    have Hone := Lib.hid hone
    have hcn : ∀ l, l ≠ 0 → l ≠ 114 → cnF i.op l = if tlOf i.op = l then 1 else 0 := fun l h1 h2 => by unfold cnF; rw [if_neg h2]; by_cases h3 : tlOf i.op = l <;> simp [h3, h1]
    have htl := (nr_tl i.op).2.1
    generalize tlOf i.op = tl at *
    obtain ⟨x, hx⟩ : ∃ x, x = cnF i.op 110 := ⟨_, rfl⟩
    obtain ⟨y, hy⟩ : ∃ y, y = cnF i.op 112 := ⟨_, rfl⟩
    obtain ⟨z, hz⟩ : ∃ z, z = cnF i.op 116 := ⟨_, rfl⟩
    have HCx : Hid (∀ w', Calls Try.prog 50 #[.string (strOf i.op), .int .u8 110] w' fun e w'' => e = .returned (.int .i64 (x : Int)) ∧ w' = w'') := Lib.hid (fun w' => by rw [hx]; exact HC.out 110 w' (by omega))
    have HCy : Hid (∀ w', Calls Try.prog 50 #[.string (strOf i.op), .int .u8 112] w' fun e w'' => e = .returned (.int .i64 (y : Int)) ∧ w' = w'') := Lib.hid (fun w' => by rw [hy]; exact HC.out 112 w' (by omega))
    have HCz : Hid (∀ w', Calls Try.prog 50 #[.string (strOf i.op), .int .u8 116] w' fun e w'' => e = .returned (.int .i64 (z : Int)) ∧ w' = w'') := Lib.hid (fun w' => by rw [hz]; exact HC.out 116 w' (by omega))
    rw [hcn _ (by omega) (by omega)] at hx hy hz
    have hx' := hx
    have hy' := hy
    have hz' := hz
    clear hcn hone hrg HC HC1 HF
    obtain ⟨n, hn⟩ : ∃ n, n = i.n := ⟨_, rfl⟩
    rw [← hn] at d4
    rw [← hn] at Hone
    have HE : Hid (∀ v, (nOk tl n = decide (v = (0 : Int))) → v = 0 ∨ v = 141 → ROneP i w (.returned (.int .i64 v)) w1) := Lib.hid (fun v h1 h2 => by
      refine ⟨ret_int ?_, E1.out⟩
      rw [Hone.out, h1]
      rcases h2 with rfl | rfl <;> rfl)
    by_cases h110 : tl = 110
    · obtain rfl : x = 1 := by rw [hx', if_pos h110]
      have Hf := Lib.hid (HE.out 0 (by rw [h110]; rfl) (.inl rfl))
      clear hx hy hz hx' hy' hz' htl h110 hn
      go_wp2_with fail
      refine (HCx.out _).mono ?_; rintro e w' ⟨rfl, rfl⟩
      go_wp2_with fail
      go_ret
      exact Hf.out
    · obtain rfl : x = 0 := by rw [hx', if_neg h110]
      by_cases h112 : tl = 112
      · obtain rfl : y = 1 := by rw [hy', if_pos h112]
        obtain rfl : z = 0 := by rw [hz', if_neg (by omega)]
        have Hd : Hid (nOk tl n = decide (0 ≤ n ∧ n < 16)) := Lib.hid (by rw [h112]; rfl)
        clear hx hy hz hx' hy' hz' htl h110 h112 hn
        by_cases n0 : n < 0
        · have Hf := Lib.hid (HE.out 141 (by rw [Hd.out]; simp; omega) (.inr rfl))
          go_wp2_with fail
          refine (HCx.out _).mono ?_; rintro e w' ⟨rfl, rfl⟩
          go_wp2_with fail
          refine (HCy.out _).mono ?_; rintro e w' ⟨rfl, rfl⟩
          go_wp2_with fail
          refine (HCz.out _).mono ?_; rintro e w' ⟨rfl, rfl⟩
          go_wp2_with fail
          go_ret
          exact Hf.out
        · by_cases n1 : (15 : Int) < n
          · have Hf := Lib.hid (HE.out 141 (by rw [Hd.out]; simp; omega) (.inr rfl))
            go_wp2_with fail
            refine (HCx.out _).mono ?_; rintro e w' ⟨rfl, rfl⟩
            go_wp2_with fail
            refine (HCy.out _).mono ?_; rintro e w' ⟨rfl, rfl⟩
            go_wp2_with fail
            refine (HCz.out _).mono ?_; rintro e w' ⟨rfl, rfl⟩
            go_wp2_with fail
            go_ret
            exact Hf.out
          · have Hf := Lib.hid (HE.out 0 (by rw [Hd.out]; simp; omega) (.inl rfl))
            go_wp2_with fail
            refine (HCx.out _).mono ?_; rintro e w' ⟨rfl, rfl⟩
            go_wp2_with fail
            refine (HCy.out _).mono ?_; rintro e w' ⟨rfl, rfl⟩
            go_wp2_with fail
            refine (HCz.out _).mono ?_; rintro e w' ⟨rfl, rfl⟩
            go_wp2_with fail
            go_ret
            exact Hf.out
      · obtain rfl : y = 0 := by rw [hy', if_neg h112]
        by_cases h116 : tl = 116
        · obtain rfl : z = 1 := by rw [hz', if_pos h116]
          have Hd : Hid (nOk tl n = decide (0 ≤ n ∧ n < 256)) := Lib.hid (by rw [h116]; rfl)
          clear hx hy hz hx' hy' hz' htl h110 h112 h116 hn
          by_cases n0 : n < 0
          · have Hf := Lib.hid (HE.out 141 (by rw [Hd.out]; simp; omega) (.inr rfl))
            go_wp2_with fail
            refine (HCx.out _).mono ?_; rintro e w' ⟨rfl, rfl⟩
            go_wp2_with fail
            refine (HCy.out _).mono ?_; rintro e w' ⟨rfl, rfl⟩
            go_wp2_with fail
            refine (HCz.out _).mono ?_; rintro e w' ⟨rfl, rfl⟩
            go_wp2_with fail
            go_ret
            exact Hf.out
          · by_cases n1 : (255 : Int) < n
            · have Hf := Lib.hid (HE.out 141 (by rw [Hd.out]; simp; omega) (.inr rfl))
              go_wp2_with fail
              refine (HCx.out _).mono ?_; rintro e w' ⟨rfl, rfl⟩
              go_wp2_with fail
              refine (HCy.out _).mono ?_; rintro e w' ⟨rfl, rfl⟩
              go_wp2_with fail
              refine (HCz.out _).mono ?_; rintro e w' ⟨rfl, rfl⟩
              go_wp2_with fail
              go_ret
              exact Hf.out
            · have Hf := Lib.hid (HE.out 0 (by rw [Hd.out]; simp; omega) (.inl rfl))
              go_wp2_with fail
              refine (HCx.out _).mono ?_; rintro e w' ⟨rfl, rfl⟩
              go_wp2_with fail
              refine (HCy.out _).mono ?_; rintro e w' ⟨rfl, rfl⟩
              go_wp2_with fail
              refine (HCz.out _).mono ?_; rintro e w' ⟨rfl, rfl⟩
              go_wp2_with fail
              go_ret
              exact Hf.out
        · obtain rfl : z = 0 := by rw [hz', if_neg h116]
          have Hd : Hid (nOk tl n = decide (0 ≤ n ∧ n < 1)) := Lib.hid (by rw [show tl = 0 by omega]; unfold nOk; rw [if_neg (by omega), if_neg (by omega), if_neg (by omega), decide_eq_decide]; omega)
          clear hx hy hz hx' hy' hz' htl h110 h112 h116 hn
          by_cases n0 : n < 0
          · have Hf := Lib.hid (HE.out 141 (by rw [Hd.out]; simp; omega) (.inr rfl))
            go_wp2_with fail
            refine (HCx.out _).mono ?_; rintro e w' ⟨rfl, rfl⟩
            go_wp2_with fail
            refine (HCy.out _).mono ?_; rintro e w' ⟨rfl, rfl⟩
            go_wp2_with fail
            refine (HCz.out _).mono ?_; rintro e w' ⟨rfl, rfl⟩
            go_wp2_with fail
            go_ret
            exact Hf.out
          · by_cases n1 : (0 : Int) < n
            · have Hf := Lib.hid (HE.out 141 (by rw [Hd.out]; simp; omega) (.inr rfl))
              go_wp2_with fail
              refine (HCx.out _).mono ?_; rintro e w' ⟨rfl, rfl⟩
              go_wp2_with fail
              refine (HCy.out _).mono ?_; rintro e w' ⟨rfl, rfl⟩
              go_wp2_with fail
              refine (HCz.out _).mono ?_; rintro e w' ⟨rfl, rfl⟩
              go_wp2_with fail
              go_ret
              exact Hf.out
            · have Hf := Lib.hid (HE.out 0 (by rw [Hd.out]; simp; omega) (.inl rfl))
              go_wp2_with fail
              refine (HCx.out _).mono ?_; rintro e w' ⟨rfl, rfl⟩
              go_wp2_with fail
              refine (HCy.out _).mono ?_; rintro e w' ⟨rfl, rfl⟩
              go_wp2_with fail
              refine (HCz.out _).mono ?_; rintro e w' ⟨rfl, rfl⟩
              go_wp2_with fail
              go_ret
              exact Hf.out
end Go.Proofs.Ytiakcehhegippaa
