/- The contract of num.Read. -/
import Derived.Test.YtidjimkhppfjjaaNum
namespace Go.Proofs.Ytidjimkhppfjjaa
open Go.RowKit Go.Fx

/-- The three results of a function that reads a number. -/
def rets (r : Nat × Nat × Nat) : Ending := .returned (.tuple #[.int .u64 (r.1 : Int), .int .i64 (r.2.1 : Int), .int .i64 (r.2.2 : Int)])

set_option maxHeartbeats 400000 in
theorem num_Read_far (A : Option Addr) (n c : Nat) (at_ : Int) (w : World) (hn : n ≤ maxLen) (hat : at_ < 0 ∨ (n : Int) < at_) :
    Calls Try.prog 15 #[.slice A n c, .int .i64 at_] w fun e w' => e = rets (0, 0, 2) ∧ w = w' := by
  unfold maxLen at hn
  rcases hat with h0 | h0
  · go_enter Try.func15, Try.ntmps15
    go_wp2; go_step3; go_wp2
    try rw [Exit.noGoto_ret]
    go_ret3
    exact ⟨rfl, rfl⟩
  · have h1 : ¬ at_ < 0 := by omega
    go_enter Try.func15, Try.ntmps15
    go_wp2; go_step3; go_wp2
    try rw [Exit.noGoto_ret]
    go_ret3
    exact ⟨rfl, rfl⟩

set_option maxHeartbeats 400000 in
theorem num_Read_end (A : Option Addr) (n c : Nat) (w : World) (hn : n ≤ maxLen) :
    Calls Try.prog 15 #[.slice A n c, .int .i64 (n : Int)] w fun e w' => e = rets (0, 0, 10) ∧ w = w' := by
  unfold maxLen at hn
  have h1 : ¬ (n : Int) < 0 := by omega
  have h2 : ((n : Int) == (n : Int)) = true := by simp
  go_enter Try.func15, Try.ntmps15
  go_wp2; go_step3; go_wp2
  try rw [Exit.noGoto_ret]
  go_ret3
  exact ⟨rfl, rfl⟩

set_option maxHeartbeats 400000 in
theorem num_Read_small (bb o n c k d : Nat) (w : World) (hn : n ≤ maxLen) (hk : k < n) (hc : w.cell? ⟨bb, o + k, none⟩ = some (.int .u8 (d : Int))) (hd : d ≤ 246) :
    Calls Try.prog 15 #[.slice (some ⟨bb, o, none⟩) n c, .int .i64 (k : Int)] w fun e w' => e = rets (d, 1, 0) ∧ w = w' := by
  have hn : n ≤ 9223372036854775807 := hn
  have h1 : ¬ (k : Int) < 0 := by omega
  have h2 : ((k : Int) == (n : Int)) = false := by simp; omega
  have h4 : (d : Int) ≤ 246 := by omega
  have h5 : (k : Int) < (n : Int) := by omega
  go_enter Try.func15, Try.ntmps15
  go_wp2; go_step3; go_wp2
  try rw [Exit.noGoto_ret]
  go_ret3
  exact ⟨rfl, rfl⟩

set_option maxHeartbeats 400000 in
theorem num_Read_255 (bb o n c k : Nat) (w : World) (hn : n ≤ maxLen) (hk : k < n) (hc : w.cell? ⟨bb, o + k, none⟩ = some (.int .u8 255)) :
    Calls Try.prog 15 #[.slice (some ⟨bb, o, none⟩) n c, .int .i64 (k : Int)] w fun e w' => e = rets (0, 0, 11) ∧ w = w' := by
  have hn : n ≤ 9223372036854775807 := hn
  have h1 : ¬ (k : Int) < 0 := by omega
  have h2 : ((k : Int) == (n : Int)) = false := by simp; omega
  have h5 : (k : Int) < (n : Int) := by omega
  go_enter Try.func15, Try.ntmps15
  go_wp2; go_step3; go_wp2
  try rw [Exit.noGoto_ret]
  go_ret3
  exact ⟨rfl, rfl⟩

set_option maxHeartbeats 400000 in
theorem num_Read_short (bb o n c k m : Nat) (w : World) (hn : n ≤ maxLen) (hk : k < n) (hc : w.cell? ⟨bb, o + k, none⟩ = some (.int .u8 (246 + (m : Int)))) (hm1 : 1 ≤ m) (hm8 : m ≤ 8) (hs : n < k + 1 + m) :
    Calls Try.prog 15 #[.slice (some ⟨bb, o, none⟩) n c, .int .i64 (k : Int)] w fun e w' => e = rets (0, 0, 10) ∧ w = w' := by
  have hn : n ≤ 9223372036854775807 := hn
  have h1 : ¬ (k : Int) < 0 := by omega
  have h2 : ((k : Int) == (n : Int)) = false := by simp; omega
  have h3 : ((246 + (m : Int)) == 255) = false := by simp; omega
  have h4 : ¬ (246 + (m : Int)) ≤ 246 := by omega
  have h5 : (k : Int) < (n : Int) := by omega
  have h6 : (n : Int) - k - 1 < m := by omega
  go_enter Try.func15, Try.ntmps15
  go_wp2; go_step3; go_wp2
  try rw [Exit.noGoto_ret]
  go_ret3
  exact ⟨rfl, rfl⟩

set_option maxHeartbeats 400000 in
theorem num_Read_long (bb o n c k m : Nat) (ds : List Nat) (w : World) (hn : n ≤ maxLen) (hk : k < n) (hc : w.cell? ⟨bb, o + k, none⟩ = some (.int .u8 (246 + (m : Int)))) (hm1 : 1 ≤ m) (hm8 : m ≤ 8) (hs : k + 1 + m ≤ n)
    (hds : ∀ (j d : Nat), ds[j]? = some d → w.cell? ⟨bb, o + (k + 1 + j), none⟩ = some (.int .u8 (d : Int))) (hl : ds.length = m) (hlt : ∀ d ∈ ds, d < 256) :
    Calls Try.prog 15 #[.slice (some ⟨bb, o, none⟩) n c, .int .i64 (k : Int)] w fun e w' => e = rets (Num.readTail ds) ∧ w = w' := by
  unfold maxLen at hn
  have h1 : ¬ (k : Int) < 0 := by omega
  have h2 : ((k : Int) == (n : Int)) = false := by simp; omega
  have h3 : ((246 + (m : Int)) == 255) = false := by simp; omega
  have h4 : ¬ (246 + (m : Int)) ≤ 246 := by omega
  have h5 : (k : Int) < (n : Int) := by omega
  have h6 : ¬ (n : Int) - k - 1 < m := by omega
  have h7 : (246 + (m : Int) - 246) = (m : Int) := by omega
  have Hds := Lib.hid hds
  have Hlt := Lib.hid hlt
  clear hds hlt
  go_enter Try.func15, Try.ntmps15
  go_wp2; go_step3; go_wp2; go_step3; go_wp2
  go_loop [8, 9, 57] (fun xv ev iv => ∃ (j y : Nat), j ≤ m ∧ iv = .int .i64 (j : Int) ∧ ev = .int .i64 0 ∧ xv = .int .u64 (y : Int) ∧ Hid (y = Num.val (ds.take j)) ∧ Hid (0 < j → ds[0]? ≠ some 0)) (fun _ _ iv => m - (intOf iv).toNat)
  case atStart => exact ⟨0, 0, by omega, rfl, rfl, rfl, Lib.hid rfl, Lib.hid (fun h => absurd h (by omega))⟩
  case round =>
    obtain ⟨j, y, hj, rfl, rfl, rfl, Hy, H0⟩ := hrel
    have hdsm : ∀ l : List Nat, (∀ d ∈ l, d ∈ ds) → ∀ d ∈ l, d < 256 := fun l h d hd => Hlt.out d (h d hd)
    by_cases hlt : j < m
    · obtain ⟨d, hd⟩ : ∃ d, ds[j]? = some d := ⟨ds[j], List.getElem?_eq_getElem (by omega)⟩
      have hcj := Hds.out j d hd
      have hd256 := Hlt.out d (List.mem_of_getElem? hd)
      have Hd := Lib.hid hd
      clear hd
      have hi1 : (k : Int) + 1 + j < n := by omega
      have hval : y * 256 + d < 18446744073709551616 := by
        have h1 := Num.val_lt (ds.take j ++ [d]) (fun x hx => by
          rcases List.mem_append.1 hx with hx | hx
          · exact Hlt.out x (List.mem_of_mem_take hx)
          · simp at hx; omega)
        rw [Num.val_snoc, ← Hy.out] at h1
        have h2 : 256 ^ (ds.take j ++ [d]).length ≤ 256 ^ 8 := Nat.pow_le_pow_right (by omega) (by simp; omega)
        omega
      have hbit := or_u64' y d hval hd256
      have Hy' : Hid (y * 256 + d = Num.val (ds.take (j + 1))) := Lib.hid (by rw [take_snoc Hd.out, Num.val_snoc, ← Hy.out])
      clear hdsm
      by_cases hj0 : j = 0
      · subst hj0
        by_cases hd0 : d = 0
        · subst hd0
          have e0 : (((0 : Nat) : Int) == 0) = true := by simp
          go_wp2
          try rw [Exit.noGoto_ret]
          go_ret3
          exact ⟨by unfold Num.readTail; rw [if_pos (.inl Hd.out)]; rfl, rfl⟩
        · have e0 : ((d : Int) == 0) = false := by simp; omega
          go_wp2
          go_round
          case rel => exact ⟨1, y * 256 + d, by omega, rfl, rfl, by go_num, Hy', Lib.hid (fun _ => by rw [Hd.out]; simp; omega)⟩
          case measure => simp [intOf]; omega
      · have e0 : ((j : Int) == 0) = false := by simp; omega
        go_wp2
        go_round
        case rel => exact ⟨j + 1, y * 256 + d, by omega, by go_num, rfl, by go_num, Hy', Lib.hid (fun _ => H0.out (by omega))⟩
        case measure => simp [intOf]; omega
    · obtain rfl : j = m := by omega
      have Hyv : Hid (y = Num.val ds) := Lib.hid (by rw [Hy.out, List.take_of_length_le (by omega)])
      have hne : ds[0]? ≠ some 0 := H0.out (by omega)
      have Hne := Lib.hid hne
      clear hne hdsm
      by_cases hy : y ≤ 246
      · have hy' : (y : Int) ≤ 246 := by omega
        go_wp2
        try rw [Exit.noGoto_ret]
        go_ret3
        exact ⟨by unfold Num.readTail; rw [if_pos (.inr (by rw [← Hyv.out]; exact hy))]; rfl, rfl⟩
      · have hy' : ¬ (y : Int) ≤ 246 := by omega
        go_wp2
        try rw [Exit.noGoto_ret]
        go_ret3
        refine ⟨?_, rfl⟩
        unfold Num.readTail
        rw [if_neg (by rw [← Hyv.out]; rintro (h | h); exact Hne.out h; omega), ← Hyv.out, hl]
        rfl

/-- Read: what the document's reading gives; nothing is written. -/
theorem num_Read (A : Option Addr) (n c : Nat) (b : List Nat) (at_ : Int) (w : World) (h : Rd u8v w A n b) (hb : ∀ d ∈ b, d < 256) (hn : n ≤ maxLen) :
    Calls Try.prog 15 #[.slice A n c, .int .i64 at_] w fun e w' => e = rets (Num.readAt b at_) ∧ w = w' := by
  have hl := h.1
  unfold Num.readAt
  by_cases hf : at_ < 0 ∨ (n : Int) < at_
  · rw [if_pos (by rw [hl]; exact hf)]
    exact num_Read_far A n c at_ w hn hf
  · rw [if_neg (by rw [hl]; exact hf)]
    obtain ⟨k, rfl⟩ := Int.eq_ofNat_of_zero_le (by omega : 0 ≤ at_)
    rw [Int.toNat_natCast]
    by_cases hk : k = n
    · subst hk
      rw [List.drop_of_length_le (by omega)]
      exact num_Read_end A k c w hn
    · have hkn : k < n := by omega
      obtain ⟨bb, o, d, rfl, _, hd, hc⟩ := h.at_ hkn
      have hdl : d < 256 := hb d (List.mem_of_getElem? hd)
      have hdrop : b.drop k = d :: b.drop (k + 1) := by
        obtain ⟨hk', rfl⟩ := List.getElem?_eq_some_iff.1 hd
        exact List.drop_eq_getElem_cons hk'
      rw [hdrop]
      unfold Num.readF
      by_cases h1 : d ≤ 246
      · simp only [if_pos h1]; exact num_Read_small bb o n c k d w hn hkn hc h1
      · by_cases h2 : d = 255
        · subst h2; exact num_Read_255 bb o n c k w hn hkn hc
        · simp only [if_neg h1, if_neg h2]
          obtain ⟨m, rfl⟩ : ∃ m, d = 246 + m := ⟨d - 246, by omega⟩
          have hc' : w.cell? ⟨bb, o + k, none⟩ = some (.int .u8 (246 + (m : Int))) := by rw [hc]; simp [u8v]
          rw [show 246 + m - 246 = m by omega, List.length_drop]
          by_cases h3 : n < k + 1 + m
          · rw [if_pos (by omega)]
            exact num_Read_short bb o n c k m w hn hkn hc' (by omega) (by omega) h3
          · rw [if_neg (by omega)]
            refine num_Read_long bb o n c k m ((b.drop (k + 1)).take m) w hn hkn hc' (by omega) (by omega) (by omega) (fun j d hd => ?_) (by simp; omega) (fun d hd => hb d (List.mem_of_mem_drop (List.mem_of_mem_take hd)))
            rw [List.getElem?_take] at hd
            split at hd
            · rw [List.getElem?_drop] at hd
              obtain ⟨bb', o', hA, _, hcc⟩ := h.2 (by omega)
              obtain ⟨rfl, rfl⟩ : bb = bb' ∧ o = o' := by injection hA with hA; injection hA with h1 h2; exact ⟨h1, h2⟩
              exact hcc _ _ hd
            · cases hd
theorem num_Read_at (A : Option Addr) (n c o : Nat) (b : List Nat) (w : World) (h : Rd u8v w A n b) (hb : ∀ d ∈ b, d < 256) (hn : n ≤ maxLen) (ho : o ≤ n) :
    Calls Try.prog 15 #[.slice A n c, .int .i64 (o : Int)] w fun e w' => e = .returned (.tuple #[.int .u64 ((Num.readF (b.drop o)).1 : Int), .int .i64 ((Num.readF (b.drop o)).2.1 : Int), .int .i64 ((Num.readF (b.drop o)).2.2 : Int)]) ∧ w = w' := by
  refine (num_Read A n c b o w h hb hn).mono ?_
  rintro e w' ⟨rfl, rfl⟩
  refine ⟨?_, rfl⟩
  unfold rets Num.readAt
  rw [if_neg (by rw [h.1]; omega), Int.toNat_natCast]
end Go.Proofs.Ytidjimkhppfjjaa
