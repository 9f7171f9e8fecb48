/- Crf: the reference's Form, count, One, Goes, Target, size, Size. Cro: the reference's One. Crg: the reference's Goes, Target, size, Size and Check. -/
import Derived.Test.YtlneifgihdickaaCls
import Derived.Deep.CutRange
import Derived.Test.YtlneifgihdickaaCck
namespace Go.Proofs.Ytlneifgihdickaa
open Go.RowKit Go.Fx
set_option maxHeartbeats 1000000 in
theorem rform_1 (w : World) : Calls Try.prog 83 #[.int .u8 1] w (FormP 1 w) := by
  go_enter Try.func83, Try.ntmps83
  go_wp2
  go_ret2
  exact formP_mk rfl rfl (Ext.refl _)
set_option maxHeartbeats 1000000 in
theorem rform_2 (w : World) : Calls Try.prog 83 #[.int .u8 2] w (FormP 2 w) := by
  go_enter Try.func83, Try.ntmps83
  go_wp2
  go_ret2
  exact formP_mk rfl rfl (Ext.refl _)
set_option maxHeartbeats 1000000 in
theorem rform_3 (w : World) : Calls Try.prog 83 #[.int .u8 3] w (FormP 3 w) := by
  go_enter Try.func83, Try.ntmps83
  go_wp2
  go_ret2
  exact formP_mk rfl rfl (Ext.refl _)
set_option maxHeartbeats 1000000 in
theorem rform_4 (w : World) : Calls Try.prog 83 #[.int .u8 4] w (FormP 4 w) := by
  go_enter Try.func83, Try.ntmps83
  go_wp2
  go_ret2
  exact formP_mk rfl rfl (Ext.refl _)
set_option maxHeartbeats 1000000 in
theorem rform_5 (w : World) : Calls Try.prog 83 #[.int .u8 5] w (FormP 5 w) := by
  go_enter Try.func83, Try.ntmps83
  go_wp2
  go_ret2
  exact formP_mk rfl rfl (Ext.refl _)
set_option maxHeartbeats 1000000 in
theorem rform_6 (w : World) : Calls Try.prog 83 #[.int .u8 6] w (FormP 6 w) := by
  go_enter Try.func83, Try.ntmps83
  go_wp2
  go_ret2
  exact formP_mk rfl rfl (Ext.refl _)
set_option maxHeartbeats 1000000 in
theorem rform_7 (w : World) : Calls Try.prog 83 #[.int .u8 7] w (FormP 7 w) := by
  go_enter Try.func83, Try.ntmps83
  go_wp2
  go_ret2
  exact formP_mk rfl rfl (Ext.refl _)
set_option maxHeartbeats 1000000 in
theorem rform_8 (w : World) : Calls Try.prog 83 #[.int .u8 8] w (FormP 8 w) := by
  go_enter Try.func83, Try.ntmps83
  go_wp2
  go_ret2
  exact formP_mk rfl rfl (Ext.refl _)
set_option maxHeartbeats 1000000 in
theorem rform_9 (w : World) : Calls Try.prog 83 #[.int .u8 9] w (FormP 9 w) := by
  go_enter Try.func83, Try.ntmps83
  go_wp2
  go_ret2
  exact formP_mk rfl rfl (Ext.refl _)
set_option maxHeartbeats 1000000 in
theorem rform_10 (w : World) : Calls Try.prog 83 #[.int .u8 10] w (FormP 10 w) := by
  go_enter Try.func83, Try.ntmps83
  go_wp2
  go_ret2
  exact formP_mk rfl rfl (Ext.refl _)
set_option maxHeartbeats 1000000 in
theorem rform_11 (w : World) : Calls Try.prog 83 #[.int .u8 11] w (FormP 11 w) := by
  go_enter Try.func83, Try.ntmps83
  go_wp2
  go_ret2
  exact formP_mk rfl rfl (Ext.refl _)
set_option maxHeartbeats 1000000 in
theorem rform_hi (op : Nat) (w : World) (h1 : 33 ≤ op) (h2 : op ≤ 49) : Calls Try.prog 83 #[.int .u8 (op : Int)] w (FormP op w) := by
  have q1 : ((op : Int) == 1) = false := by simp; omega
  have q2 : ((op : Int) == 2) = false := by simp; omega
  have q3 : ((op : Int) == 3) = false := by simp; omega
  have q4 : ((op : Int) == 4) = false := by simp; omega
  have q5 : ((op : Int) == 5) = false := by simp; omega
  have q6 : ((op : Int) == 6) = false := by simp; omega
  have q7 : ((op : Int) == 7) = false := by simp; omega
  have q8 : ((op : Int) == 8) = false := by simp; omega
  have q9 : ((op : Int) == 9) = false := by simp; omega
  have q10 : ((op : Int) == 10) = false := by simp; omega
  have q11 : ((op : Int) == 11) = false := by simp; omega
  have h1I : (33 : Int) ≤ (op : Int) := by omega
  have h2I : (op : Int) ≤ 49 := by omega
  go_enter Try.func83, Try.ntmps83
  go_wp2
  go_ret2
  exact formP_mk (strOf_r h1 h2).symm (by unfold okOp; simp; omega) (Ext.refl _)
set_option maxHeartbeats 1000000 in
theorem rform_no (op : Nat) (w : World) (h : okOp op = false) : Calls Try.prog 83 #[.int .u8 (op : Int)] w (FormP op w) := by
  have h' : ¬ ((1 ≤ op ∧ op ≤ 11) ∨ (33 ≤ op ∧ op ≤ 49)) := by simpa [okOp] using h
  have H := Lib.hid h
  have q1 : ((op : Int) == 1) = false := by simp; omega
  have q2 : ((op : Int) == 2) = false := by simp; omega
  have q3 : ((op : Int) == 3) = false := by simp; omega
  have q4 : ((op : Int) == 4) = false := by simp; omega
  have q5 : ((op : Int) == 5) = false := by simp; omega
  have q6 : ((op : Int) == 6) = false := by simp; omega
  have q7 : ((op : Int) == 7) = false := by simp; omega
  have q8 : ((op : Int) == 8) = false := by simp; omega
  have q9 : ((op : Int) == 9) = false := by simp; omega
  have q10 : ((op : Int) == 10) = false := by simp; omega
  have q11 : ((op : Int) == 11) = false := by simp; omega
  by_cases h3 : 33 ≤ op
  · have h1I : (33 : Int) ≤ (op : Int) := by omega
    have h2I : ¬ (op : Int) ≤ 49 := by omega
    clear h h'
    go_enter Try.func83, Try.ntmps83
    go_wp2
    go_ret2
    exact formP_mk (strOf_bad H.out).symm H.out.symm (Ext.refl _)
  · have h1I : ¬ (33 : Int) ≤ (op : Int) := by omega
    clear h h'
    go_enter Try.func83, Try.ntmps83
    go_wp2
    go_ret2
    exact formP_mk (strOf_bad H.out).symm H.out.symm (Ext.refl _)
theorem rform_ (op : Nat) (w : World) : Calls Try.prog 83 #[.int .u8 (op : Int)] w (FormP op w) := by
  cases h : okOp op with
  | false => exact rform_no op w h
  | true =>
    rcases ok_cases h with h | h
    · rcases (by omega : op = 1 ∨ op = 2 ∨ op = 3 ∨ op = 4 ∨ op = 5 ∨ op = 6 ∨ op = 7 ∨ op = 8 ∨ op = 9 ∨ op = 10 ∨ op = 11) with rfl | rfl | rfl | rfl | rfl | rfl | rfl | rfl | rfl | rfl | rfl
      · exact rform_1 w
      · exact rform_2 w
      · exact rform_3 w
      · exact rform_4 w
      · exact rform_5 w
      · exact rform_6 w
      · exact rform_7 w
      · exact rform_8 w
      · exact rform_9 w
      · exact rform_10 w
      · exact rform_11 w
    · exact rform_hi op w h.1 h.2
/-- How many letters of a kind a form has. -/
def cnF (op l : Nat) : Nat := if l = 114 then nrOf op else if tlOf op = l ∧ l ≠ 0 then 1 else 0
def cnT (op l k : Nat) : Nat := if k ≤ nrOf op then (if l = 114 then k else 0) else cnF op l
theorem cnT_end {op l : Nat} (hl : l ≠ 0) : cnT op l (strOf op).size = cnF op l := by
  have h := strOf_size op
  unfold cnT
  split
  · next h1 =>
    split at h
    · next h2 =>
      unfold cnF
      by_cases h3 : l = 114
      · rw [if_pos h3, if_pos h3]; omega
      · rw [if_neg h3, if_neg h3, if_neg (fun h4 => hl (by omega))]
    · omega
  · rfl
theorem cnT_step {op l k : Nat} (hk : k < (strOf op).size) (hl : l ≠ 0) (h114 : tlOf op ≠ 114 := by have := nr_tl op; omega) : cnT op l (k + 1) = cnT op l k + if ((strOf op)[k]'hk).toNat = l then 1 else 0 := by
  have h := strOf_size op
  by_cases hr : k < nrOf op
  · rw [strOf_at_r hr hk]
    unfold cnT
    rw [if_pos (show k + 1 ≤ nrOf op by omega), if_pos (show k ≤ nrOf op by omega)]
    by_cases h3 : l = 114
    · rw [if_pos h3, if_pos h3, if_pos (by rw [h3]; rfl)]
    · rw [if_neg h3, if_neg h3, if_neg (fun h4 => h3 h4.symm)]
  · have hpe : k = nrOf op := by split at h <;> omega
    obtain ⟨h3, h4⟩ := strOf_at_t hpe hk
    rw [h3]
    have h5 : (UInt8.ofNat (tlOf op)).toNat = tlOf op := by rcases (nr_tl op).2.1 with h | h | h | h <;> (rw [h]; rfl)
    rw [h5]
    unfold cnT
    rw [if_neg (show ¬ k + 1 ≤ nrOf op by omega), if_pos (show k ≤ nrOf op by omega)]
    unfold cnF
    by_cases h6 : l = 114
    · rw [if_pos h6, if_pos h6, if_neg (fun h7 => h114 (h7.trans h6))]; omega
    · rw [if_neg h6, if_neg h6]
      by_cases h7 : tlOf op = l
      · rw [if_pos ⟨h7, hl⟩, if_pos h7]
      · rw [if_neg (fun h8 => h7 h8.1), if_neg h7]
set_option maxHeartbeats 1000000 in
theorem rcount_ (op l : Nat) (w : World) (hl : l ≠ 0) :
    Calls Try.prog 84 #[.string (strOf op), .int .u8 (l : Int)] w fun e w' => e = .returned (.int .i64 (cnF op l : Int)) ∧ w = w' := by
  have hs4 : (strOf op).size ≤ 4 := by have := strOf_size op; have := nr_tl op; split at * <;> omega
  have H0 : Hid (cnT op l 0 = 0) := Lib.hid (by unfold cnT; rw [if_pos (by omega)]; split <;> rfl)
  have Hl := Lib.hid hl
  clear hl
  go_enter Try.func84, Try.ntmps84
  go_wp2
  go_loop [5, 6] (fun n i => ∃ (k c : Nat), k ≤ (strOf op).size ∧ c ≤ k ∧ i = .int .i64 (k : Int) ∧ n = .int .i64 (c : Int) ∧ Hid (c = cnT op l k)) (fun _ i => (strOf op).size - (intOf i).toNat)
  case atStart => exact ⟨0, 0, Nat.zero_le _, Nat.le_refl _, rfl, rfl, Lib.hid H0.out.symm⟩
  case round =>
    obtain ⟨k, c, hk, hc, rfl, rfl, HC⟩ := hrel
    by_cases hlt : k < (strOf op).size
    · have hst := cnT_step hlt Hl.out
      by_cases hx : ((strOf op)[k]'hlt).toNat = l
      · have hq : ((((strOf op)[k]'hlt).toNat : Int) == (l : Int)) = true := by simp; omega
        have HS : Hid (c + 1 = cnT op l (k + 1)) := Lib.hid (by rw [hst, if_pos hx, HC.out])
        clear hst hx
        go_wp2
        go_round
        case rel => exact ⟨k + 1, c + 1, by omega, by omega, by go_num, by go_num, HS⟩
        case measure => simp [intOf]; omega
      · have hq : ((((strOf op)[k]'hlt).toNat : Int) == (l : Int)) = false := by simp; omega
        have HS : Hid (c = cnT op l (k + 1)) := Lib.hid (by rw [hst, if_neg hx, HC.out]; rfl)
        clear hst hx
        go_wp2
        go_round
        case rel => exact ⟨k + 1, c, by omega, by omega, by go_num, rfl, HS⟩
        case measure => simp [intOf]; omega
    · obtain rfl : (strOf op).size = k := by omega
      have Hr : Hid (c = cnF op l) := Lib.hid (by rw [HC.out, cnT_end Hl.out])
      go_wp2
      go_ret
      exact ⟨ret_int (by rw [Hr.out]), rfl⟩
end Go.Proofs.Ytlneifgihdickaa
namespace Go.Proofs.Ytlneifgihdickaa
open Go.RowKit Go.Fx
def ROneP (i : Ins) (w : World) (e : Ending) (w' : World) : Prop := e = .returned (.int .i64 (oneF i : Int)) ∧ Ext w w'
set_option maxHeartbeats 1000000 in
theorem rone_bad (i : Ins) (w : World) (hb : okOp i.op = false) :
    Calls Try.prog 74 #[insV i] w (ROneP i w) := by
  have HF := Lib.hid (fun w' => rform_ i.op w')
  have Hb := Lib.hid hb
  unfold FormP at HF
  rw [hb] at HF
  unfold insV
  clear hb
  go_enter Try.func74, Try.ntmps74
  go_wp2_with fail
  refine (HF.out _).mono ?_; rintro e w1 ⟨rfl, e1⟩
  have E1 := Lib.hid ((Ext.alloc w _).t e1)
  clear e1
  go_wp2_with fail
  go_ret
  exact ⟨by unfold oneF; rw [if_pos Hb.out]; rfl, E1.out⟩
theorem rg_cases {nr a b c : Nat} (h : nr ≤ 3) : (rgOk nr a b c = true ↔ ¬ (7 < a ∨ 7 < b ∨ 7 < c ∨ (nr < 1 ∧ a ≠ 0) ∨ (nr < 2 ∧ b ≠ 0) ∨ (nr < 3 ∧ c ≠ 0))) := by
  unfold rgOk
  simp only [Bool.and_eq_true, decide_eq_true_eq]
  repeat' split
  all_goals omega
theorem rg_no {nr a b c : Nat} (h : nr ≤ 3) (h1 : 7 < a ∨ 7 < b ∨ 7 < c ∨ (nr < 1 ∧ a ≠ 0) ∨ (nr < 2 ∧ b ≠ 0) ∨ (nr < 3 ∧ c ≠ 0)) : true = !rgOk nr a b c := by
  cases h2 : rgOk nr a b c with
  | false => rfl
  | true => exact absurd h1 ((rg_cases h).1 h2)
theorem rg_yes {nr a b c : Nat} (h : nr ≤ 3) (h1 : ¬ (7 < a ∨ 7 < b ∨ 7 < c ∨ (nr < 1 ∧ a ≠ 0) ∨ (nr < 2 ∧ b ≠ 0) ∨ (nr < 3 ∧ c ≠ 0))) : false = !rgOk nr a b c := by
  rw [(rg_cases h).2 h1]; rfl
set_option maxRecDepth 100000 in
set_option maxHeartbeats 4000000 in
theorem rone_ok (i : Ins) (w : World) (hb : okOp i.op = true) :
    Calls Try.prog 74 #[insV i] w (ROneP i w) := by
  have HF := Lib.hid (fun w' => rform_ i.op w')
  have Hb := Lib.hid hb
  unfold FormP at HF
  rw [hb] at HF
  have HC := Lib.hid (fun l w' h => rcount_ i.op l w' h)
  obtain ⟨nr, hnr⟩ : ∃ nr, nr = nrOf i.op := ⟨_, rfl⟩
  have hn3 : nr ≤ 3 := by have := nr_tl i.op; omega
  have Hnr := Lib.hid hnr
  have HC1 : Hid (∀ w', Calls Try.prog 84 #[.string (strOf i.op), .int .u8 114] w' fun e w'' => e = .returned (.int .i64 (nr : Int)) ∧ w' = w'') := Lib.hid (fun w' => by have := HC.out 114 w' (by omega); rw [show cnF i.op 114 = nr by rw [hnr]; rfl] at this; exact this)
  unfold insV
  clear hb hnr
  go_enter Try.func74, Try.ntmps74
  go_wp2_with fail
  refine (HF.out _).mono ?_; rintro e w1 ⟨rfl, e1⟩
  have hb1 := ((Blk.new w 110 (insC i).toArray).ext e1)
  obtain ⟨d0, d1, d2, d3, d4⟩ := hb1.ins
  have E1 := Lib.hid ((Ext.alloc w _).t e1)
  clear e1 hb1
  go_wp2_with fail
  refine (HC1.out _).mono ?_; rintro e w1' ⟨rfl, rfl⟩
  go_upto_region 5 with fail
  go_cut [56] from 17 to 56 (fun v wx => v = .bool (!rgOk nr i.a i.b i.c) ∧ Hid (w1 = wx))
  case first =>
    by_cases h1 : 7 < i.a
    · have k1 : (7 : Int) < (i.a : Int) := by omega
      go_wp2_with fail; go_simp; go_meet; exact ⟨by first | exact congrArg Value.bool (rg_no (by omega) (by first | omega | (have := A0.out; first | omega | (have := B0.out; first | omega | (have := C0.out; omega))) | (have := B0.out; first | omega | (have := C0.out; omega)) | (have := C0.out; omega))) | exact congrArg Value.bool (rg_yes (by omega) (by first | omega | (have := A0.out; first | omega | (have := B0.out; first | omega | (have := C0.out; omega))) | (have := B0.out; first | omega | (have := C0.out; omega)) | (have := C0.out; omega))), Lib.hid rfl⟩
    have k1 : ¬ (7 : Int) < (i.a : Int) := by omega
    by_cases h2 : 7 < i.b
    · have k2 : (7 : Int) < (i.b : Int) := by omega
      go_wp2_with fail; go_simp; go_meet; exact ⟨by first | exact congrArg Value.bool (rg_no (by omega) (by first | omega | (have := A0.out; first | omega | (have := B0.out; first | omega | (have := C0.out; omega))) | (have := B0.out; first | omega | (have := C0.out; omega)) | (have := C0.out; omega))) | exact congrArg Value.bool (rg_yes (by omega) (by first | omega | (have := A0.out; first | omega | (have := B0.out; first | omega | (have := C0.out; omega))) | (have := B0.out; first | omega | (have := C0.out; omega)) | (have := C0.out; omega))), Lib.hid rfl⟩
    have k2 : ¬ (7 : Int) < (i.b : Int) := by omega
    by_cases h3 : 7 < i.c
    · have k3 : (7 : Int) < (i.c : Int) := by omega
      go_wp2_with fail; go_simp; go_meet; exact ⟨by first | exact congrArg Value.bool (rg_no (by omega) (by first | omega | (have := A0.out; first | omega | (have := B0.out; first | omega | (have := C0.out; omega))) | (have := B0.out; first | omega | (have := C0.out; omega)) | (have := C0.out; omega))) | exact congrArg Value.bool (rg_yes (by omega) (by first | omega | (have := A0.out; first | omega | (have := B0.out; first | omega | (have := C0.out; omega))) | (have := B0.out; first | omega | (have := C0.out; omega)) | (have := C0.out; omega))), Lib.hid rfl⟩
    have k3 : ¬ (7 : Int) < (i.c : Int) := by omega
    by_cases r1 : nr < 1
    · have s1 : (nr : Int) < 1 := by omega
      have s2 : (nr : Int) < 2 := by omega
      have s3 : (nr : Int) < 3 := by omega
      by_cases a0 : i.a = 0
      · have t1 : ((i.a : Int) != 0) = false := by simp; omega
        have A0 := Lib.hid a0
        clear a0
        by_cases b0 : i.b = 0
        · have t2 : ((i.b : Int) != 0) = false := by simp; omega
          have B0 := Lib.hid b0
          clear b0
          by_cases c0 : i.c = 0
          · have t3 : ((i.c : Int) != 0) = false := by simp; omega
            have C0 := Lib.hid c0
            clear c0
            go_wp2_with fail; go_simp; go_meet; exact ⟨by first | exact congrArg Value.bool (rg_no (by omega) (by first | omega | (have := A0.out; first | omega | (have := B0.out; first | omega | (have := C0.out; omega))) | (have := B0.out; first | omega | (have := C0.out; omega)) | (have := C0.out; omega))) | exact congrArg Value.bool (rg_yes (by omega) (by first | omega | (have := A0.out; first | omega | (have := B0.out; first | omega | (have := C0.out; omega))) | (have := B0.out; first | omega | (have := C0.out; omega)) | (have := C0.out; omega))), Lib.hid rfl⟩
          · have t3 : ((i.c : Int) != 0) = true := by simp; omega
            have C0 := Lib.hid c0
            clear c0
            go_wp2_with fail; go_simp; go_meet; exact ⟨by first | exact congrArg Value.bool (rg_no (by omega) (by first | omega | (have := A0.out; first | omega | (have := B0.out; first | omega | (have := C0.out; omega))) | (have := B0.out; first | omega | (have := C0.out; omega)) | (have := C0.out; omega))) | exact congrArg Value.bool (rg_yes (by omega) (by first | omega | (have := A0.out; first | omega | (have := B0.out; first | omega | (have := C0.out; omega))) | (have := B0.out; first | omega | (have := C0.out; omega)) | (have := C0.out; omega))), Lib.hid rfl⟩
        · have t2 : ((i.b : Int) != 0) = true := by simp; omega
          have B0 := Lib.hid b0
          clear b0
          go_wp2_with fail; go_simp; go_meet; exact ⟨by first | exact congrArg Value.bool (rg_no (by omega) (by first | omega | (have := A0.out; first | omega | (have := B0.out; first | omega | (have := C0.out; omega))) | (have := B0.out; first | omega | (have := C0.out; omega)) | (have := C0.out; omega))) | exact congrArg Value.bool (rg_yes (by omega) (by first | omega | (have := A0.out; first | omega | (have := B0.out; first | omega | (have := C0.out; omega))) | (have := B0.out; first | omega | (have := C0.out; omega)) | (have := C0.out; omega))), Lib.hid rfl⟩
      · have t1 : ((i.a : Int) != 0) = true := by simp; omega
        have A0 := Lib.hid a0
        clear a0
        go_wp2_with fail; go_simp; go_meet; exact ⟨by first | exact congrArg Value.bool (rg_no (by omega) (by first | omega | (have := A0.out; first | omega | (have := B0.out; first | omega | (have := C0.out; omega))) | (have := B0.out; first | omega | (have := C0.out; omega)) | (have := C0.out; omega))) | exact congrArg Value.bool (rg_yes (by omega) (by first | omega | (have := A0.out; first | omega | (have := B0.out; first | omega | (have := C0.out; omega))) | (have := B0.out; first | omega | (have := C0.out; omega)) | (have := C0.out; omega))), Lib.hid rfl⟩
    have s1 : ¬ (nr : Int) < 1 := by omega
    by_cases r2 : nr < 2
    · have s2 : (nr : Int) < 2 := by omega
      have s3 : (nr : Int) < 3 := by omega
      by_cases b0 : i.b = 0
      · have t2 : ((i.b : Int) != 0) = false := by simp; omega
        have B0 := Lib.hid b0
        clear b0
        by_cases c0 : i.c = 0
        · have t3 : ((i.c : Int) != 0) = false := by simp; omega
          have C0 := Lib.hid c0
          clear c0
          go_wp2_with fail; go_simp; go_meet; exact ⟨by first | exact congrArg Value.bool (rg_no (by omega) (by first | omega | (have := A0.out; first | omega | (have := B0.out; first | omega | (have := C0.out; omega))) | (have := B0.out; first | omega | (have := C0.out; omega)) | (have := C0.out; omega))) | exact congrArg Value.bool (rg_yes (by omega) (by first | omega | (have := A0.out; first | omega | (have := B0.out; first | omega | (have := C0.out; omega))) | (have := B0.out; first | omega | (have := C0.out; omega)) | (have := C0.out; omega))), Lib.hid rfl⟩
        · have t3 : ((i.c : Int) != 0) = true := by simp; omega
          have C0 := Lib.hid c0
          clear c0
          go_wp2_with fail; go_simp; go_meet; exact ⟨by first | exact congrArg Value.bool (rg_no (by omega) (by first | omega | (have := A0.out; first | omega | (have := B0.out; first | omega | (have := C0.out; omega))) | (have := B0.out; first | omega | (have := C0.out; omega)) | (have := C0.out; omega))) | exact congrArg Value.bool (rg_yes (by omega) (by first | omega | (have := A0.out; first | omega | (have := B0.out; first | omega | (have := C0.out; omega))) | (have := B0.out; first | omega | (have := C0.out; omega)) | (have := C0.out; omega))), Lib.hid rfl⟩
      · have t2 : ((i.b : Int) != 0) = true := by simp; omega
        have B0 := Lib.hid b0
        clear b0
        go_wp2_with fail; go_simp; go_meet; exact ⟨by first | exact congrArg Value.bool (rg_no (by omega) (by first | omega | (have := A0.out; first | omega | (have := B0.out; first | omega | (have := C0.out; omega))) | (have := B0.out; first | omega | (have := C0.out; omega)) | (have := C0.out; omega))) | exact congrArg Value.bool (rg_yes (by omega) (by first | omega | (have := A0.out; first | omega | (have := B0.out; first | omega | (have := C0.out; omega))) | (have := B0.out; first | omega | (have := C0.out; omega)) | (have := C0.out; omega))), Lib.hid rfl⟩
    have s2 : ¬ (nr : Int) < 2 := by omega
    by_cases r3 : nr < 3
    · have s3 : (nr : Int) < 3 := by omega
      by_cases c0 : i.c = 0
      · have t3 : ((i.c : Int) != 0) = false := by simp; omega
        have C0 := Lib.hid c0
        clear c0
        go_wp2_with fail; go_simp; go_meet; exact ⟨by first | exact congrArg Value.bool (rg_no (by omega) (by first | omega | (have := A0.out; first | omega | (have := B0.out; first | omega | (have := C0.out; omega))) | (have := B0.out; first | omega | (have := C0.out; omega)) | (have := C0.out; omega))) | exact congrArg Value.bool (rg_yes (by omega) (by first | omega | (have := A0.out; first | omega | (have := B0.out; first | omega | (have := C0.out; omega))) | (have := B0.out; first | omega | (have := C0.out; omega)) | (have := C0.out; omega))), Lib.hid rfl⟩
      · have t3 : ((i.c : Int) != 0) = true := by simp; omega
        have C0 := Lib.hid c0
        clear c0
        go_wp2_with fail; go_simp; go_meet; exact ⟨by first | exact congrArg Value.bool (rg_no (by omega) (by first | omega | (have := A0.out; first | omega | (have := B0.out; first | omega | (have := C0.out; omega))) | (have := B0.out; first | omega | (have := C0.out; omega)) | (have := C0.out; omega))) | exact congrArg Value.bool (rg_yes (by omega) (by first | omega | (have := A0.out; first | omega | (have := B0.out; first | omega | (have := C0.out; omega))) | (have := B0.out; first | omega | (have := C0.out; omega)) | (have := C0.out; omega))), Lib.hid rfl⟩
    have s3 : ¬ (nr : Int) < 3 := by omega
    go_wp2_with fail; go_simp; go_meet; exact ⟨by first | exact congrArg Value.bool (rg_no (by omega) (by first | omega | (have := A0.out; first | omega | (have := B0.out; first | omega | (have := C0.out; omega))) | (have := B0.out; first | omega | (have := C0.out; omega)) | (have := C0.out; omega))) | exact congrArg Value.bool (rg_yes (by omega) (by first | omega | (have := A0.out; first | omega | (have := B0.out; first | omega | (have := C0.out; omega))) | (have := B0.out; first | omega | (have := C0.out; omega)) | (have := C0.out; omega))), Lib.hid rfl⟩
  case rest =>
  obtain ⟨rfl, hw⟩ := hcut
  obtain rfl := hw.out
  clear hw
  cases hrg : rgOk nr i.a i.b i.c with
  | false =>
    have hres : oneF i = 141 := by unfold oneF; rw [if_neg (by rw [Hb.out]; simp), ← Hnr.out, hrg]; rfl
    have Hres := Lib.hid hres
    clear hres hrg
    go_wp2_with fail
    go_ret
    exact ⟨by rw [Hres.out]; rfl, E1.out⟩
  | true =>
    have hone : oneF i = if nOk (tlOf i.op) i.n then 0 else 141 := by unfold oneF; rw [if_neg (by rw [Hb.out]; simp), ← Hnr.out, hrg]; simp
    have Hone := Lib.hid hone
    have hcn : ∀ l, l ≠ 0 → l ≠ 114 → cnF i.op l = if tlOf i.op = l then 1 else 0 := fun l h1 h2 => by unfold cnF; rw [if_neg h2]; by_cases h3 : tlOf i.op = l <;> simp [h3, h1]
    have htl := (nr_tl i.op).2.1
    generalize tlOf i.op = tl at *
    obtain ⟨x, hx⟩ : ∃ x, x = cnF i.op 110 := ⟨_, rfl⟩
    obtain ⟨y, hy⟩ : ∃ y, y = cnF i.op 112 := ⟨_, rfl⟩
    obtain ⟨z, hz⟩ : ∃ z, z = cnF i.op 116 := ⟨_, rfl⟩
    have HCx : Hid (∀ w', Calls Try.prog 84 #[.string (strOf i.op), .int .u8 110] w' fun e w'' => e = .returned (.int .i64 (x : Int)) ∧ w' = w'') := Lib.hid (fun w' => by rw [hx]; exact HC.out 110 w' (by omega))
    have HCy : Hid (∀ w', Calls Try.prog 84 #[.string (strOf i.op), .int .u8 112] w' fun e w'' => e = .returned (.int .i64 (y : Int)) ∧ w' = w'') := Lib.hid (fun w' => by rw [hy]; exact HC.out 112 w' (by omega))
    have HCz : Hid (∀ w', Calls Try.prog 84 #[.string (strOf i.op), .int .u8 116] w' fun e w'' => e = .returned (.int .i64 (z : Int)) ∧ w' = w'') := Lib.hid (fun w' => by rw [hz]; exact HC.out 116 w' (by omega))
    rw [hcn _ (by omega) (by omega)] at hx hy hz
    have hx' := hx
    have hy' := hy
    have hz' := hz
    clear hcn hone hrg HC HC1 HF
    obtain ⟨n, hn⟩ : ∃ n, n = i.n := ⟨_, rfl⟩
    rw [← hn] at d4
    rw [← hn] at Hone
    have HE : Hid (∀ v, (nOk tl n = decide (v = (0 : Int))) → v = 0 ∨ v = 141 → ROneP i w (.returned (.int .i64 v)) w1) := Lib.hid (fun v h1 h2 => by
      refine ⟨ret_int ?_, E1.out⟩
      rw [Hone.out, h1]
      rcases h2 with rfl | rfl <;> rfl)
    by_cases h110 : tl = 110
    · obtain rfl : x = 1 := by rw [hx', if_pos h110]
      have Hf := Lib.hid (HE.out 0 (by rw [h110]; rfl) (.inl rfl))
      clear hx hy hz hx' hy' hz' htl h110 hn
      go_wp2_with fail
      refine (HCx.out _).mono ?_; rintro e w' ⟨rfl, rfl⟩
      go_wp2_with fail
      go_ret
      exact Hf.out
    · obtain rfl : x = 0 := by rw [hx', if_neg h110]
      by_cases h112 : tl = 112
      · obtain rfl : y = 1 := by rw [hy', if_pos h112]
        obtain rfl : z = 0 := by rw [hz', if_neg (by omega)]
        have Hd : Hid (nOk tl n = decide (0 ≤ n ∧ n < 16)) := Lib.hid (by rw [h112]; rfl)
        clear hx hy hz hx' hy' hz' htl h110 h112 hn
        by_cases n0 : n < 0
        · have Hf := Lib.hid (HE.out 141 (by rw [Hd.out]; simp; omega) (.inr rfl))
          go_wp2_with fail
          refine (HCx.out _).mono ?_; rintro e w' ⟨rfl, rfl⟩
          go_wp2_with fail
          refine (HCy.out _).mono ?_; rintro e w' ⟨rfl, rfl⟩
          go_wp2_with fail
          refine (HCz.out _).mono ?_; rintro e w' ⟨rfl, rfl⟩
          go_wp2_with fail
          go_ret
          exact Hf.out
        · by_cases n1 : (15 : Int) < n
          · have Hf := Lib.hid (HE.out 141 (by rw [Hd.out]; simp; omega) (.inr rfl))
            go_wp2_with fail
            refine (HCx.out _).mono ?_; rintro e w' ⟨rfl, rfl⟩
            go_wp2_with fail
            refine (HCy.out _).mono ?_; rintro e w' ⟨rfl, rfl⟩
            go_wp2_with fail
            refine (HCz.out _).mono ?_; rintro e w' ⟨rfl, rfl⟩
            go_wp2_with fail
            go_ret
            exact Hf.out
          · have Hf := Lib.hid (HE.out 0 (by rw [Hd.out]; simp; omega) (.inl rfl))
            go_wp2_with fail
            refine (HCx.out _).mono ?_; rintro e w' ⟨rfl, rfl⟩
            go_wp2_with fail
            refine (HCy.out _).mono ?_; rintro e w' ⟨rfl, rfl⟩
            go_wp2_with fail
            refine (HCz.out _).mono ?_; rintro e w' ⟨rfl, rfl⟩
            go_wp2_with fail
            go_ret
            exact Hf.out
      · obtain rfl : y = 0 := by rw [hy', if_neg h112]
        by_cases h116 : tl = 116
        · obtain rfl : z = 1 := by rw [hz', if_pos h116]
          have Hd : Hid (nOk tl n = decide (0 ≤ n ∧ n < 256)) := Lib.hid (by rw [h116]; rfl)
          clear hx hy hz hx' hy' hz' htl h110 h112 h116 hn
          by_cases n0 : n < 0
          · have Hf := Lib.hid (HE.out 141 (by rw [Hd.out]; simp; omega) (.inr rfl))
            go_wp2_with fail
            refine (HCx.out _).mono ?_; rintro e w' ⟨rfl, rfl⟩
            go_wp2_with fail
            refine (HCy.out _).mono ?_; rintro e w' ⟨rfl, rfl⟩
            go_wp2_with fail
            refine (HCz.out _).mono ?_; rintro e w' ⟨rfl, rfl⟩
            go_wp2_with fail
            go_ret
            exact Hf.out
          · by_cases n1 : (255 : Int) < n
            · have Hf := Lib.hid (HE.out 141 (by rw [Hd.out]; simp; omega) (.inr rfl))
              go_wp2_with fail
              refine (HCx.out _).mono ?_; rintro e w' ⟨rfl, rfl⟩
              go_wp2_with fail
              refine (HCy.out _).mono ?_; rintro e w' ⟨rfl, rfl⟩
              go_wp2_with fail
              refine (HCz.out _).mono ?_; rintro e w' ⟨rfl, rfl⟩
              go_wp2_with fail
              go_ret
              exact Hf.out
            · have Hf := Lib.hid (HE.out 0 (by rw [Hd.out]; simp; omega) (.inl rfl))
              go_wp2_with fail
              refine (HCx.out _).mono ?_; rintro e w' ⟨rfl, rfl⟩
              go_wp2_with fail
              refine (HCy.out _).mono ?_; rintro e w' ⟨rfl, rfl⟩
              go_wp2_with fail
              refine (HCz.out _).mono ?_; rintro e w' ⟨rfl, rfl⟩
              go_wp2_with fail
              go_ret
              exact Hf.out
        · obtain rfl : z = 0 := by rw [hz', if_neg h116]
          have Hd : Hid (nOk tl n = decide (0 ≤ n ∧ n < 1)) := Lib.hid (by rw [show tl = 0 by omega]; unfold nOk; rw [if_neg (by omega), if_neg (by omega), if_neg (by omega), decide_eq_decide]; omega)
          clear hx hy hz hx' hy' hz' htl h110 h112 h116 hn
          by_cases n0 : n < 0
          · have Hf := Lib.hid (HE.out 141 (by rw [Hd.out]; simp; omega) (.inr rfl))
            go_wp2_with fail
            refine (HCx.out _).mono ?_; rintro e w' ⟨rfl, rfl⟩
            go_wp2_with fail
            refine (HCy.out _).mono ?_; rintro e w' ⟨rfl, rfl⟩
            go_wp2_with fail
            refine (HCz.out _).mono ?_; rintro e w' ⟨rfl, rfl⟩
            go_wp2_with fail
            go_ret
            exact Hf.out
          · by_cases n1 : (0 : Int) < n
            · have Hf := Lib.hid (HE.out 141 (by rw [Hd.out]; simp; omega) (.inr rfl))
              go_wp2_with fail
              refine (HCx.out _).mono ?_; rintro e w' ⟨rfl, rfl⟩
              go_wp2_with fail
              refine (HCy.out _).mono ?_; rintro e w' ⟨rfl, rfl⟩
              go_wp2_with fail
              refine (HCz.out _).mono ?_; rintro e w' ⟨rfl, rfl⟩
              go_wp2_with fail
              go_ret
              exact Hf.out
            · have Hf := Lib.hid (HE.out 0 (by rw [Hd.out]; simp; omega) (.inl rfl))
              go_wp2_with fail
              refine (HCx.out _).mono ?_; rintro e w' ⟨rfl, rfl⟩
              go_wp2_with fail
              refine (HCy.out _).mono ?_; rintro e w' ⟨rfl, rfl⟩
              go_wp2_with fail
              refine (HCz.out _).mono ?_; rintro e w' ⟨rfl, rfl⟩
              go_wp2_with fail
              go_ret
              exact Hf.out
end Go.Proofs.Ytlneifgihdickaa
namespace Go.Proofs.Ytlneifgihdickaa
open Go.RowKit Go.Fx
theorem rone_ (i : Ins) (w : World) : Calls Try.prog 74 #[insV i] w (ROneP i w) := by
  cases h : okOp i.op with
  | false => exact rone_bad i w h
  | true => exact rone_ok i w h
set_option maxHeartbeats 1000000 in
theorem rgoes_ (i : Ins) (w : World) : Calls Try.prog 68 #[insV i] w (BoolP (goesF i) w) := by
  have HO := Lib.hid (fun w' => rone_ i w')
  unfold ROneP insV at HO
  by_cases h0 : oneF i = 0
  · rw [h0] at HO
    by_cases h1 : i.op = 1
    · have hr : goesF i = false := by unfold goesF; simp [h1]
      have Hr := Lib.hid hr
      have hq : ((i.op : Int) != 1) = false := by simp [h1]
      clear hr h0 h1
      unfold insV
      go_enter Try.func68, Try.ntmps68
      go_wp2_with fail
      refine (HO.out _).mono ?_; rintro e w1 ⟨rfl, e1⟩
      have hb1 := (Blk.new w 110 #[.int .u8 (i.op : Int), .int .u8 (i.a : Int), .int .u8 (i.b : Int), .int .u8 (i.c : Int), .int .i64 i.n]).ext e1
      have hc0 : w1.cell? ⟨w.heap.size, 0, none⟩ = some (.int .u8 (i.op : Int)) := by rw [hb1.cell]; rfl
      have hc4 : w1.cell? ⟨w.heap.size, 4, none⟩ = some (.int .i64 i.n) := by rw [hb1.cell]; rfl
      have E1 := Lib.hid ((Ext.alloc w _).t e1)
      clear e1 hb1
      go_wp2_with fail
      go_ret
      exact ⟨ret_bool Hr.out.symm, E1.out⟩
    · have hq : ((i.op : Int) != 1) = true := by simp; omega
      by_cases h2 : i.op = 2
      · have hr : goesF i = false := by unfold goesF; simp [h2]
        have Hr := Lib.hid hr
        have hq2 : ((i.op : Int) != 2) = false := by simp [h2]
        clear hr h0 h1 h2
        unfold insV
        go_enter Try.func68, Try.ntmps68
        go_wp2_with fail
        refine (HO.out _).mono ?_; rintro e w1 ⟨rfl, e1⟩
        have hb1 := (Blk.new w 110 #[.int .u8 (i.op : Int), .int .u8 (i.a : Int), .int .u8 (i.b : Int), .int .u8 (i.c : Int), .int .i64 i.n]).ext e1
        have hc0 : w1.cell? ⟨w.heap.size, 0, none⟩ = some (.int .u8 (i.op : Int)) := by rw [hb1.cell]; rfl
        have hc4 : w1.cell? ⟨w.heap.size, 4, none⟩ = some (.int .i64 i.n) := by rw [hb1.cell]; rfl
        have E1 := Lib.hid ((Ext.alloc w _).t e1)
        clear e1 hb1
        go_wp2_with fail
        go_ret
        exact ⟨ret_bool Hr.out.symm, E1.out⟩
      · have hq2 : ((i.op : Int) != 2) = true := by simp; omega
        by_cases h9 : i.op = 9
        · have hr : goesF i = false := by unfold goesF; simp [h9]
          have Hr := Lib.hid hr
          have hq9 : ((i.op : Int) != 9) = false := by simp [h9]
          clear hr h0 h1 h2 h9
          unfold insV
          go_enter Try.func68, Try.ntmps68
          go_wp2_with fail
          refine (HO.out _).mono ?_; rintro e w1 ⟨rfl, e1⟩
          have hb1 := (Blk.new w 110 #[.int .u8 (i.op : Int), .int .u8 (i.a : Int), .int .u8 (i.b : Int), .int .u8 (i.c : Int), .int .i64 i.n]).ext e1
          have hc0 : w1.cell? ⟨w.heap.size, 0, none⟩ = some (.int .u8 (i.op : Int)) := by rw [hb1.cell]; rfl
          have hc4 : w1.cell? ⟨w.heap.size, 4, none⟩ = some (.int .i64 i.n) := by rw [hb1.cell]; rfl
          have E1 := Lib.hid ((Ext.alloc w _).t e1)
          clear e1 hb1
          go_wp2_with fail
          go_ret
          exact ⟨ret_bool Hr.out.symm, E1.out⟩
        · have hq9 : ((i.op : Int) != 9) = true := by simp; omega
          have hr : goesF i = true := by unfold goesF; simp [h0, h1, h2, h9]
          have Hr := Lib.hid hr
          clear hr h0 h1 h2 h9
          unfold insV
          go_enter Try.func68, Try.ntmps68
          go_wp2_with fail
          refine (HO.out _).mono ?_; rintro e w1 ⟨rfl, e1⟩
          have hb1 := (Blk.new w 110 #[.int .u8 (i.op : Int), .int .u8 (i.a : Int), .int .u8 (i.b : Int), .int .u8 (i.c : Int), .int .i64 i.n]).ext e1
          have hc0 : w1.cell? ⟨w.heap.size, 0, none⟩ = some (.int .u8 (i.op : Int)) := by rw [hb1.cell]; rfl
          have hc4 : w1.cell? ⟨w.heap.size, 4, none⟩ = some (.int .i64 i.n) := by rw [hb1.cell]; rfl
          have E1 := Lib.hid ((Ext.alloc w _).t e1)
          clear e1 hb1
          go_wp2_with fail
          go_ret
          exact ⟨ret_bool Hr.out.symm, E1.out⟩
  · have hr : goesF i = false := by unfold goesF; simp [h0]
    have Hr := Lib.hid hr
    have hq : ((oneF i : Int) == 0) = false := by simp; omega
    generalize oneF i = er at *
    clear hr h0
    unfold insV
    go_enter Try.func68, Try.ntmps68
    go_wp2_with fail
    refine (HO.out _).mono ?_; rintro e w1 ⟨rfl, e1⟩
    have hb1 := (Blk.new w 110 #[.int .u8 (i.op : Int), .int .u8 (i.a : Int), .int .u8 (i.b : Int), .int .u8 (i.c : Int), .int .i64 i.n]).ext e1
    have hc0 : w1.cell? ⟨w.heap.size, 0, none⟩ = some (.int .u8 (i.op : Int)) := by rw [hb1.cell]; rfl
    have hc4 : w1.cell? ⟨w.heap.size, 4, none⟩ = some (.int .i64 i.n) := by rw [hb1.cell]; rfl
    have E1 := Lib.hid ((Ext.alloc w _).t e1)
    clear e1 hb1
    go_wp2_with fail
    go_ret
    exact ⟨ret_bool Hr.out.symm, E1.out⟩
set_option maxHeartbeats 1000000 in
theorem rtarget_ (i : Ins) (w : World) : Calls Try.prog 67 #[insV i] w (TgtP i w) := by
  have HO := Lib.hid (fun w' => rone_ i w')
  unfold ROneP insV at HO
  by_cases h0 : oneF i = 0
  · rw [h0] at HO
    by_cases h9 : i.op < 9
    · have Hr := Lib.hid (show tgtF i = false by unfold tgtF; simp; omega)
      have hq : (i.op : Int) < 9 := by omega
      clear h0 h9
      unfold insV
      go_enter Try.func67, Try.ntmps67
      go_wp2_with fail
      refine (HO.out _).mono ?_; rintro e w1 ⟨rfl, e1⟩
      have hb1 := (Blk.new w 110 #[.int .u8 (i.op : Int), .int .u8 (i.a : Int), .int .u8 (i.b : Int), .int .u8 (i.c : Int), .int .i64 i.n]).ext e1
      have hc0 : w1.cell? ⟨w.heap.size, 0, none⟩ = some (.int .u8 (i.op : Int)) := by rw [hb1.cell]; rfl
      have hc4 : w1.cell? ⟨w.heap.size, 4, none⟩ = some (.int .i64 i.n) := by rw [hb1.cell]; rfl
      have E1 := Lib.hid ((Ext.alloc w _).t e1)
      clear e1 hb1
      go_wp2_with fail
      go_ret2
      exact tgtP_no Hr.out E1.out
    · have hq : ¬ (i.op : Int) < 9 := by omega
      by_cases h11 : 11 < i.op
      · have Hr := Lib.hid (show tgtF i = false by unfold tgtF; simp; omega)
        have hq2 : (11 : Int) < (i.op : Int) := by omega
        clear h0 h9 h11
        unfold insV
        go_enter Try.func67, Try.ntmps67
        go_wp2_with fail
        refine (HO.out _).mono ?_; rintro e w1 ⟨rfl, e1⟩
        have hb1 := (Blk.new w 110 #[.int .u8 (i.op : Int), .int .u8 (i.a : Int), .int .u8 (i.b : Int), .int .u8 (i.c : Int), .int .i64 i.n]).ext e1
        have hc0 : w1.cell? ⟨w.heap.size, 0, none⟩ = some (.int .u8 (i.op : Int)) := by rw [hb1.cell]; rfl
        have hc4 : w1.cell? ⟨w.heap.size, 4, none⟩ = some (.int .i64 i.n) := by rw [hb1.cell]; rfl
        have E1 := Lib.hid ((Ext.alloc w _).t e1)
        clear e1 hb1
        go_wp2_with fail
        go_ret2
        exact tgtP_no Hr.out E1.out
      · have hq2 : ¬ (11 : Int) < (i.op : Int) := by omega
        have Hr := Lib.hid (show tgtF i = true by unfold tgtF; simp [h0]; omega)
        clear h0 h9 h11
        unfold insV
        go_enter Try.func67, Try.ntmps67
        go_wp2_with fail
        refine (HO.out _).mono ?_; rintro e w1 ⟨rfl, e1⟩
        have hb1 := (Blk.new w 110 #[.int .u8 (i.op : Int), .int .u8 (i.a : Int), .int .u8 (i.b : Int), .int .u8 (i.c : Int), .int .i64 i.n]).ext e1
        have hc0 : w1.cell? ⟨w.heap.size, 0, none⟩ = some (.int .u8 (i.op : Int)) := by rw [hb1.cell]; rfl
        have hc4 : w1.cell? ⟨w.heap.size, 4, none⟩ = some (.int .i64 i.n) := by rw [hb1.cell]; rfl
        have E1 := Lib.hid ((Ext.alloc w _).t e1)
        clear e1 hb1
        go_wp2_with fail
        go_ret2
        exact tgtP_yes Hr.out E1.out
  · have Hr := Lib.hid (show tgtF i = false by unfold tgtF; simp [h0])
    have hq : ((oneF i : Int) != 0) = true := by simp; omega
    generalize oneF i = er at *
    clear h0
    unfold insV
    go_enter Try.func67, Try.ntmps67
    go_wp2_with fail
    refine (HO.out _).mono ?_; rintro e w1 ⟨rfl, e1⟩
    have hb1 := (Blk.new w 110 #[.int .u8 (i.op : Int), .int .u8 (i.a : Int), .int .u8 (i.b : Int), .int .u8 (i.c : Int), .int .i64 i.n]).ext e1
    have hc0 : w1.cell? ⟨w.heap.size, 0, none⟩ = some (.int .u8 (i.op : Int)) := by rw [hb1.cell]; rfl
    have hc4 : w1.cell? ⟨w.heap.size, 4, none⟩ = some (.int .i64 i.n) := by rw [hb1.cell]; rfl
    have E1 := Lib.hid ((Ext.alloc w _).t e1)
    clear e1 hb1
    go_wp2_with fail
    go_ret2
    exact tgtP_no Hr.out E1.out
set_option maxRecDepth 100000 in
set_option maxHeartbeats 2000000 in
theorem rcheck_ (A : Option Addr) (n c : Nat) (p : List Ins) (w : World) (h : RdS 5 insC w A n p) :
    Calls Try.prog 73 #[.slice A n c] w (CheckP p w) := by
  have hl := h.1
  by_cases h0 : n = 0
  · subst h0
    have Hr := Lib.hid (show checkF p = (-1, 6) by unfold checkF; rw [if_pos hl])
    clear h hl
    go_enter Try.func73, Try.ntmps73
    go_wp2
    go_ret2
    exact checkP_mk Hr.out rfl (Ext.refl _)
  · have h0I : ((n : Int) == 0) = false := by simp; omega
    by_cases h2 : 256 < n
    · have h2I : (256 : Int) < (n : Int) := by omega
      have Hr := Lib.hid (show checkF p = (-1, 5) by unfold checkF; rw [if_neg (by omega), if_pos (by omega)])
      clear h hl h0 h2
      go_enter Try.func73, Try.ntmps73
      go_wp2
      go_ret2
      exact checkP_mk Hr.out rfl (Ext.refl _)
    · have h2I : ¬ (256 : Int) < (n : Int) := by omega
      have hn : n ≤ 256 := by omega
      have hn0 : 0 < n := by omega
      have HR := Lib.hid h
      have Hl := Lib.hid hl
      clear h hl h0 h2
      go_enter Try.func73, Try.ntmps73
      go_wp2
      go_loopw [4] (fun i wr => ∃ k : Nat, k ≤ n ∧ i = .int .i64 (k : Int) ∧ Hid (chkF p.length p 0 = chkF p.length (p.drop k) k) ∧ Hid (Ext w wr)) (fun i _ => n - (intOf i).toNat)
      case atStart => exact ⟨0, by omega, rfl, Lib.hid rfl, Lib.hid (Ext.refl _)⟩
      case round =>
        obtain ⟨k, hk, rfl, HC, HE⟩ := hrel
        by_cases hlt : k < n
        · have hltI : (k : Int) < (n : Int) := by omega
          obtain ⟨b, o, i, rfl, hbl, hi, c0, c1, c2, c3, c4⟩ := (HR.out.ext HE.out).ins hlt
          have HO := Lib.hid (fun w' => rone_ i w')
          unfold ROneP insV at HO
          have HT := Lib.hid (fun w' => rtarget_ i w')
          unfold TgtP insV at HT
          have hstep := chkF_step (len := p.length) hi
          rw [← HC.out] at hstep
          have Hstep := Lib.hid hstep
          clear hstep hi
          by_cases h1 : oneF i = 0
          · rw [h1] at HO
            have H1 := Lib.hid h1
            clear h1
            go_wp2_with fail
            refine (HO.out _).mono ?_; rintro e w2 ⟨rfl, e2⟩
            have d0 := (e2.cell (p := ⟨b, o + k * 5, none⟩) hbl).trans c0
            have d1 := (e2.cell (p := ⟨b, o + k * 5 + 1, none⟩) hbl).trans c1
            have d2 := (e2.cell (p := ⟨b, o + k * 5 + 2, none⟩) hbl).trans c2
            have d3 := (e2.cell (p := ⟨b, o + k * 5 + 3, none⟩) hbl).trans c3
            have d4 := (e2.cell (p := ⟨b, o + k * 5 + 4, none⟩) hbl).trans c4
            have E2 := Lib.hid (HE.out.t e2)
            clear e2 c0 c1 c2 c3 c4
            cases ht : tgtF i with
            | false =>
              rw [ht] at HT
              simp only [Bool.false_eq_true, if_false] at HT
              have hnext : chkF p.length p 0 = chkF p.length (p.drop (k + 1)) (k + 1) := by rw [Hstep.out, if_neg (by rw [H1.out]; simp), if_neg (by rw [ht]; simp)]
              have Hnext := Lib.hid hnext
              clear ht hnext
              go_wp2_with fail
              refine (HT.out _).mono ?_; rintro e w3 ⟨rfl, e3⟩
              have E3 := Lib.hid (E2.out.t e3)
              clear e3
              go_wp2_with fail
              go_roundw
              case rel => exact ⟨k + 1, by omega, by go_num, Hnext, E3⟩
              case measure => simp [intOf]; omega
            | true =>
              rw [ht] at HT
              simp only [if_true] at HT
              by_cases hto : (n : Int) ≤ i.n
              · have hres : chkF p.length p 0 = some (k, 142) := by rw [Hstep.out, if_neg (by rw [H1.out]; simp), if_pos ⟨ht, by rw [Hl.out]; exact hto⟩]
                have Hres := Lib.hid (checkF_at (by rw [Hl.out]; exact hn0) (by rw [Hl.out]; exact hn) hres)
                clear ht hres
                go_wp2_with fail
                refine (HT.out _).mono ?_; rintro e w3 ⟨rfl, e3⟩
                have E3 := Lib.hid (E2.out.t e3)
                clear e3
                go_wp2_with fail
                go_ret2
                exact checkP_mk Hres.out rfl E3.out
              · have hnext : chkF p.length p 0 = chkF p.length (p.drop (k + 1)) (k + 1) := by rw [Hstep.out, if_neg (by rw [H1.out]; simp), if_neg (fun h => hto (by rw [← Hl.out]; exact h.2))]
                have Hnext := Lib.hid hnext
                clear ht hnext
                go_wp2_with fail
                refine (HT.out _).mono ?_; rintro e w3 ⟨rfl, e3⟩
                have E3 := Lib.hid (E2.out.t e3)
                clear e3
                go_wp2_with fail
                go_roundw
                case rel => exact ⟨k + 1, by omega, by go_num, Hnext, E3⟩
                case measure => simp [intOf]; omega
          · have hres : chkF p.length p 0 = some (k, oneF i) := by rw [Hstep.out, if_pos h1]
            have Hres := Lib.hid (checkF_at (by rw [Hl.out]; exact hn0) (by rw [Hl.out]; exact hn) hres)
            have hq : ((oneF i : Int) != 0) = true := by simp; omega
            generalize oneF i = er at *
            clear h1 hres
            go_wp2_with fail
            refine (HO.out _).mono ?_; rintro e w2 ⟨rfl, e2⟩
            have E2 := Lib.hid (HE.out.t e2)
            clear e2
            go_wp2_with fail
            go_ret2
            exact checkP_mk Hres.out rfl E2.out
        · obtain rfl : n = k := by omega
          have hnone : chkF p.length p 0 = none := by rw [HC.out, chkF_end (by rw [Hl.out]; exact Nat.le_refl _)]
          obtain ⟨m, hm⟩ : ∃ m, m + 1 = n := ⟨n - 1, by omega⟩
          have hmI : (n : Int) - 1 = (m : Int) := by omega
          have hmn : m < n := by omega
          obtain ⟨b, o, i, rfl, _, hi, c0, c1, c2, c3, c4⟩ := (HR.out.ext HE.out).ins hmn
          have hlast : p.getLast? = some i := by rw [List.getLast?_eq_getElem?, Hl.out, show n - 1 = m by omega]; exact hi
          have hck : checkF p = if goesF i = true then (((n - 1 : Nat) : Int), 143) else (-1, 0) := by
            unfold checkF
            rw [if_neg (by rw [Hl.out]; omega), if_neg (by rw [Hl.out]; omega), hnone, hlast, Hl.out]
            simp
          have HG := Lib.hid (fun w' => rgoes_ i w')
          unfold BoolP insV at HG
          have Hck := Lib.hid hck
          have Hm : Hid (n - 1 = m) := Lib.hid (by omega)
          clear hnone hi hlast hck HC hm
          cases hg : goesF i with
          | false =>
            rw [hg] at HG
            have Hres : Hid (checkF p = (-1, 0)) := Lib.hid (by rw [Hck.out, hg]; rfl)
            clear hg
            go_wp2_with fail
            refine (HG.out _).mono ?_; rintro e w2 ⟨rfl, e2⟩
            have E2 := Lib.hid (HE.out.t e2)
            clear e2
            go_wp2_with fail
            go_ret2
            exact checkP_mk Hres.out rfl E2.out
          | true =>
            rw [hg] at HG
            have Hres : Hid (checkF p = ((m : Int), 143)) := Lib.hid (by rw [Hck.out, hg, Hm.out]; rfl)
            clear hg
            go_wp2_with fail
            refine (HG.out _).mono ?_; rintro e w2 ⟨rfl, e2⟩
            have E2 := Lib.hid (HE.out.t e2)
            clear e2
            go_wp2_with fail
            go_ret2
            exact checkP_mk Hres.out rfl E2.out
end Go.Proofs.Ytlneifgihdickaa
