/- Crf: the reference's Form, count, One, Goes, Target, size, Size. -/
import Derived.Test.YtiakcehhegippaaCls
import Derived.Deep.CutRange
namespace Go.Proofs.Ytiakcehhegippaa
open Go.RowKit Go.Fx
set_option maxHeartbeats 1000000 in
theorem rform_1 (w : World) : Calls Try.prog 38 #[.int .u8 1] w (FormP 1 w) := by
  go_enter Try.func38, Try.ntmps38
  go_wp2
  go_ret2
  exact formP_mk rfl rfl (Ext.refl _)
set_option maxHeartbeats 1000000 in
theorem rform_2 (w : World) : Calls Try.prog 38 #[.int .u8 2] w (FormP 2 w) := by
  go_enter Try.func38, Try.ntmps38
  go_wp2
  go_ret2
  exact formP_mk rfl rfl (Ext.refl _)
set_option maxHeartbeats 1000000 in
theorem rform_3 (w : World) : Calls Try.prog 38 #[.int .u8 3] w (FormP 3 w) := by
  go_enter Try.func38, Try.ntmps38
  go_wp2
  go_ret2
  exact formP_mk rfl rfl (Ext.refl _)
set_option maxHeartbeats 1000000 in
theorem rform_4 (w : World) : Calls Try.prog 38 #[.int .u8 4] w (FormP 4 w) := by
  go_enter Try.func38, Try.ntmps38
  go_wp2
  go_ret2
  exact formP_mk rfl rfl (Ext.refl _)
set_option maxHeartbeats 1000000 in
theorem rform_5 (w : World) : Calls Try.prog 38 #[.int .u8 5] w (FormP 5 w) := by
  go_enter Try.func38, Try.ntmps38
  go_wp2
  go_ret2
  exact formP_mk rfl rfl (Ext.refl _)
set_option maxHeartbeats 1000000 in
theorem rform_6 (w : World) : Calls Try.prog 38 #[.int .u8 6] w (FormP 6 w) := by
  go_enter Try.func38, Try.ntmps38
  go_wp2
  go_ret2
  exact formP_mk rfl rfl (Ext.refl _)
set_option maxHeartbeats 1000000 in
theorem rform_7 (w : World) : Calls Try.prog 38 #[.int .u8 7] w (FormP 7 w) := by
  go_enter Try.func38, Try.ntmps38
  go_wp2
  go_ret2
  exact formP_mk rfl rfl (Ext.refl _)
set_option maxHeartbeats 1000000 in
theorem rform_8 (w : World) : Calls Try.prog 38 #[.int .u8 8] w (FormP 8 w) := by
  go_enter Try.func38, Try.ntmps38
  go_wp2
  go_ret2
  exact formP_mk rfl rfl (Ext.refl _)
set_option maxHeartbeats 1000000 in
theorem rform_9 (w : World) : Calls Try.prog 38 #[.int .u8 9] w (FormP 9 w) := by
  go_enter Try.func38, Try.ntmps38
  go_wp2
  go_ret2
  exact formP_mk rfl rfl (Ext.refl _)
set_option maxHeartbeats 1000000 in
theorem rform_10 (w : World) : Calls Try.prog 38 #[.int .u8 10] w (FormP 10 w) := by
  go_enter Try.func38, Try.ntmps38
  go_wp2
  go_ret2
  exact formP_mk rfl rfl (Ext.refl _)
set_option maxHeartbeats 1000000 in
theorem rform_11 (w : World) : Calls Try.prog 38 #[.int .u8 11] w (FormP 11 w) := by
  go_enter Try.func38, Try.ntmps38
  go_wp2
  go_ret2
  exact formP_mk rfl rfl (Ext.refl _)
set_option maxHeartbeats 1000000 in
theorem rform_hi (op : Nat) (w : World) (h1 : 33 ≤ op) (h2 : op ≤ 49) : Calls Try.prog 38 #[.int .u8 (op : Int)] w (FormP op w) := by
  have q1 : ((op : Int) == 1) = false := by simp; omega
  have q2 : ((op : Int) == 2) = false := by simp; omega
  have q3 : ((op : Int) == 3) = false := by simp; omega
  have q4 : ((op : Int) == 4) = false := by simp; omega
  have q5 : ((op : Int) == 5) = false := by simp; omega
  have q6 : ((op : Int) == 6) = false := by simp; omega
  have q7 : ((op : Int) == 7) = false := by simp; omega
  have q8 : ((op : Int) == 8) = false := by simp; omega
  have q9 : ((op : Int) == 9) = false := by simp; omega
  have q10 : ((op : Int) == 10) = false := by simp; omega
  have q11 : ((op : Int) == 11) = false := by simp; omega
  have h1I : (33 : Int) ≤ (op : Int) := by omega
  have h2I : (op : Int) ≤ 49 := by omega
  go_enter Try.func38, Try.ntmps38
  go_wp2
  go_ret2
  exact formP_mk (strOf_r h1 h2).symm (by unfold okOp; simp; omega) (Ext.refl _)
set_option maxHeartbeats 1000000 in
theorem rform_no (op : Nat) (w : World) (h : okOp op = false) : Calls Try.prog 38 #[.int .u8 (op : Int)] w (FormP op w) := by
  have h' : ¬ ((1 ≤ op ∧ op ≤ 11) ∨ (33 ≤ op ∧ op ≤ 49)) := by simpa [okOp] using h
  have H := Lib.hid h
  have q1 : ((op : Int) == 1) = false := by simp; omega
  have q2 : ((op : Int) == 2) = false := by simp; omega
  have q3 : ((op : Int) == 3) = false := by simp; omega
  have q4 : ((op : Int) == 4) = false := by simp; omega
  have q5 : ((op : Int) == 5) = false := by simp; omega
  have q6 : ((op : Int) == 6) = false := by simp; omega
  have q7 : ((op : Int) == 7) = false := by simp; omega
  have q8 : ((op : Int) == 8) = false := by simp; omega
  have q9 : ((op : Int) == 9) = false := by simp; omega
  have q10 : ((op : Int) == 10) = false := by simp; omega
  have q11 : ((op : Int) == 11) = false := by simp; omega
  by_cases h3 : 33 ≤ op
  · have h1I : (33 : Int) ≤ (op : Int) := by omega
    have h2I : ¬ (op : Int) ≤ 49 := by omega
    clear h h'
    go_enter Try.func38, Try.ntmps38
    go_wp2
    go_ret2
    exact formP_mk (strOf_bad H.out).symm H.out.symm (Ext.refl _)
  · have h1I : ¬ (33 : Int) ≤ (op : Int) := by omega
    clear h h'
    go_enter Try.func38, Try.ntmps38
    go_wp2
    go_ret2
    exact formP_mk (strOf_bad H.out).symm H.out.symm (Ext.refl _)
theorem rform_ (op : Nat) (w : World) : Calls Try.prog 38 #[.int .u8 (op : Int)] w (FormP op w) := by
  cases h : okOp op with
  | false => exact rform_no op w h
  | true =>
    rcases ok_cases h with h | h
    · rcases (by omega : op = 1 ∨ op = 2 ∨ op = 3 ∨ op = 4 ∨ op = 5 ∨ op = 6 ∨ op = 7 ∨ op = 8 ∨ op = 9 ∨ op = 10 ∨ op = 11) with rfl | rfl | rfl | rfl | rfl | rfl | rfl | rfl | rfl | rfl | rfl
      · exact rform_1 w
      · exact rform_2 w
      · exact rform_3 w
      · exact rform_4 w
      · exact rform_5 w
      · exact rform_6 w
      · exact rform_7 w
      · exact rform_8 w
      · exact rform_9 w
      · exact rform_10 w
      · exact rform_11 w
    · exact rform_hi op w h.1 h.2
/-- How many letters of a kind a form has. -/
def cnF (op l : Nat) : Nat := if l = 114 then nrOf op else if tlOf op = l ∧ l ≠ 0 then 1 else 0
def cnT (op l k : Nat) : Nat := if k ≤ nrOf op then (if l = 114 then k else 0) else cnF op l
theorem cnT_end {op l : Nat} (hl : l ≠ 0) : cnT op l (strOf op).size = cnF op l := by
  have h := strOf_size op
  unfold cnT
  split
  · next h1 =>
    split at h
    · next h2 =>
      unfold cnF
      by_cases h3 : l = 114
      · rw [if_pos h3, if_pos h3]; omega
      · rw [if_neg h3, if_neg h3, if_neg (fun h4 => hl (by omega))]
    · omega
  · rfl
theorem cnT_step {op l k : Nat} (hk : k < (strOf op).size) (hl : l ≠ 0) (h114 : tlOf op ≠ 114 := by have := nr_tl op; omega) : cnT op l (k + 1) = cnT op l k + if ((strOf op)[k]'hk).toNat = l then 1 else 0 := by
  have h := strOf_size op
  by_cases hr : k < nrOf op
  · rw [strOf_at_r hr hk]
    unfold cnT
    rw [if_pos (show k + 1 ≤ nrOf op by omega), if_pos (show k ≤ nrOf op by omega)]
    by_cases h3 : l = 114
    · rw [if_pos h3, if_pos h3, if_pos (by rw [h3]; rfl)]
    · rw [if_neg h3, if_neg h3, if_neg (fun h4 => h3 h4.symm)]
  · have hpe : k = nrOf op := by split at h <;> omega
    obtain ⟨h3, h4⟩ := strOf_at_t hpe hk
    rw [h3]
    have h5 : (UInt8.ofNat (tlOf op)).toNat = tlOf op := by rcases (nr_tl op).2.1 with h | h | h | h <;> (rw [h]; rfl)
    rw [h5]
    unfold cnT
    rw [if_neg (show ¬ k + 1 ≤ nrOf op by omega), if_pos (show k ≤ nrOf op by omega)]
    unfold cnF
    by_cases h6 : l = 114
    · rw [if_pos h6, if_pos h6, if_neg (fun h7 => h114 (h7.trans h6))]; omega
    · rw [if_neg h6, if_neg h6]
      by_cases h7 : tlOf op = l
      · rw [if_pos ⟨h7, hl⟩, if_pos h7]
      · rw [if_neg (fun h8 => h7 h8.1), if_neg h7]
set_option maxHeartbeats 1000000 in
theorem count_ (op l : Nat) (w : World) (hl : l ≠ 0) :
    Calls Try.prog 50 #[.string (strOf op), .int .u8 (l : Int)] w fun e w' => e = .returned (.int .i64 (cnF op l : Int)) ∧ w = w' := by
  have hs4 : (strOf op).size ≤ 4 := by have := strOf_size op; have := nr_tl op; split at * <;> omega
  have H0 : Hid (cnT op l 0 = 0) := Lib.hid (by unfold cnT; rw [if_pos (by omega)]; split <;> rfl)
  have Hl := Lib.hid hl
  clear hl
  go_enter Try.func50, Try.ntmps50
  go_wp2
  go_loop [5, 6] (fun n i => ∃ (k c : Nat), k ≤ (strOf op).size ∧ c ≤ k ∧ i = .int .i64 (k : Int) ∧ n = .int .i64 (c : Int) ∧ Hid (c = cnT op l k)) (fun _ i => (strOf op).size - (intOf i).toNat)
  case atStart => exact ⟨0, 0, Nat.zero_le _, Nat.le_refl _, rfl, rfl, Lib.hid H0.out.symm⟩
  case round =>
    obtain ⟨k, c, hk, hc, rfl, rfl, HC⟩ := hrel
    by_cases hlt : k < (strOf op).size
    · have hst := cnT_step hlt Hl.out
      by_cases hx : ((strOf op)[k]'hlt).toNat = l
      · have hq : ((((strOf op)[k]'hlt).toNat : Int) == (l : Int)) = true := by simp; omega
        have HS : Hid (c + 1 = cnT op l (k + 1)) := Lib.hid (by rw [hst, if_pos hx, HC.out])
        clear hst hx
        go_wp2
        go_round
        case rel => exact ⟨k + 1, c + 1, by omega, by omega, by go_num, by go_num, HS⟩
        case measure => simp [intOf]; omega
      · have hq : ((((strOf op)[k]'hlt).toNat : Int) == (l : Int)) = false := by simp; omega
        have HS : Hid (c = cnT op l (k + 1)) := Lib.hid (by rw [hst, if_neg hx, HC.out]; rfl)
        clear hst hx
        go_wp2
        go_round
        case rel => exact ⟨k + 1, c, by omega, by omega, by go_num, rfl, HS⟩
        case measure => simp [intOf]; omega
    · obtain rfl : (strOf op).size = k := by omega
      have Hr : Hid (c = cnF op l) := Lib.hid (by rw [HC.out, cnT_end Hl.out])
      go_wp2
      go_ret
      exact ⟨ret_int (by rw [Hr.out]), rfl⟩
end Go.Proofs.Ytiakcehhegippaa
