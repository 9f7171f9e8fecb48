/- The contracts of num.All, Int, Last, Fold, Unfold, Compare. -/
import Derived.Test.YtidjimkhppfjjaaNumS
namespace Go.Proofs.Ytidjimkhppfjjaa
open Go.RowKit Go.Fx

def irets (r : Nat × Nat × Nat) : Ending := .returned (.tuple #[.int .i64 (r.1 : Int), .int .i64 (r.2.1 : Int), .int .i64 (r.2.2 : Int)])

set_option maxHeartbeats 1000000 in
theorem num_All (A : Option Addr) (n c : Nat) (l : List Nat) (w : World) (h : Rd u64v w A n l) (hl : ∀ x ∈ l, x < 18446744073709551616) (hn : n ≤ 100000000000) :
    Calls Try.prog 20 #[.slice A n c] w fun e w' => ∃ A' c', e = .returned (.slice A' (Num.all l).length c') ∧ w'.ownsRow w.heap.size 5 1 (.slice A' (Num.all l).length c') (Num.all l).length ((Num.all l).map u8v) ∧ Below w.heap.size w w' := by
  have hln := h.1
  go_enter Try.func20, Try.ntmps20
  go_wp2
  have Hln := Lib.hid hln
  have Hl := Lib.hid hl
  clear hln hl
  go_loopw [3, 8] (fun v iv wr => ∃ (k : Nat) (A' : Option Addr) (c' : Nat), k ≤ n ∧ iv = .int .i64 (k : Int) ∧ v = .slice A' (Num.all (l.take k)).length c' ∧
      wr.ownsRow w.heap.size 5 1 (.slice A' (Num.all (l.take k)).length c') (Num.all (l.take k)).length ((Num.all (l.take k)).map u8v) ∧ Below w.heap.size w wr) (fun _ iv _ => n - (intOf iv).toNat)
  case atStart => exact ⟨0, none, 0, by omega, rfl, rfl, World.ownsRow_nil _ _ _ _, Below.refl _ _⟩
  case round =>
    obtain ⟨k, A', c', hk, rfl, rfl, hown, hbw⟩ := hrel
    have hlen := Num.all_length_le (l.take k)
    have hlen2 : (l.take k).length ≤ k := List.length_take_le _ _
    by_cases hlt : k < n
    · obtain ⟨bb, o, x, rfl, hbb, hx, hc⟩ := (h.ext hbw).at_ hlt
      have hx64 := Hl.out x (List.mem_of_getElem? hx)
      have hts := take_snoc hx
      have Hall : Hid (Num.all (l.take (k + 1)) = Num.all (l.take k) ++ Num.form x) := Lib.hid (by rw [hts, Num.all_snoc])
      have hlt' : (k : Int) < (n : Int) := by omega
      clear hts hx
      generalize hm : Num.all (l.take k) = pre at *
      have Hm := Lib.hid hm
      clear hm
      obtain ⟨m, Hmm⟩ : ∃ m, Hid (pre.length = m) := ⟨_, Lib.hid rfl⟩
      rw [Hmm.out] at hown hlen ⊢
      go_wp2_with (go_at_call 12; refine (num_Append w.heap.size _ m pre _ x wr (Dst.of_own hown) hbw.size hx64 (by omega)).mono ?_; rintro e w1 ⟨g1, cap1, rfl, hown1, hgrow1, _⟩)
      go_roundw
      case rel =>
        have hlen1 : (Num.all (l.take (k + 1))).length = m + Num.size x := by rw [Hall.out, List.length_append, Hmm.out, Num.form_length]
        refine ⟨k + 1, some ⟨g1, 0, none⟩, cap1, by omega, by go_num, by rw [hlen1], by rw [hlen1, Hall.out]; exact hown1, hbw.grown hgrow1 hbw.size (fun g hg => (hown.lt g hg).1)⟩
      case measure => simp [intOf]; omega
    · obtain rfl : k = n := by omega
      go_wp2
      go_ret
      have e : l.take k = l := List.take_of_length_le (by have := Hln.out; omega)
      rw [e] at hown ⊢
      exact ⟨A', c', rfl, hown, hbw⟩

theorem num_Fold (y : Int) (w : World) (h1 : -9223372036854775808 ≤ y) (h2 : y ≤ 9223372036854775807) :
    Calls Try.prog 17 #[.int .i64 y] w fun e w' => e = .returned (.int .u64 (Num.fold y)) ∧ w = w' := by
  by_cases h0 : 0 ≤ y
  · have e1 : y / 9223372036854775808 = 0 := by omega
    have e2 := xor_u64_zero (y * 2) (by omega) (by omega)
    go_enter Try.func17, Try.ntmps17
    go_wp2
    go_ret
    exact ⟨ret_int (by show y * 2 = _; unfold Num.fold; rw [if_pos h0]; omega), rfl⟩
  · have e1 : y / 9223372036854775808 = -1 := by omega
    have e2 : IntKind.u64.wrap y = y + 18446744073709551616 := by rw [IntKind.wrap_u64]; omega
    have e3 : IntKind.u64.wrap ((y + 18446744073709551616) * 2) = y * 2 + 18446744073709551616 := by rw [IntKind.wrap_u64]; omega
    have e4 : IntKind.u64.wrap (-1) = 18446744073709551615 := by rw [IntKind.wrap_u64]; omega
    have e5 := xor_u64_ones (y * 2 + 18446744073709551616) (by omega) (by omega)
    go_enter Try.func17, Try.ntmps17
    go_wp2
    go_ret
    exact ⟨ret_int (by show (18446744073709551615 - (y * 2 + 18446744073709551616) : Int) = _; unfold Num.fold; rw [if_neg (by omega)]; omega), rfl⟩
theorem num_Unfold (x : Int) (w : World) (h1 : 0 ≤ x) (h2 : x < 18446744073709551616) :
    Calls Try.prog 18 #[.int .u64 x] w fun e w' => e = .returned (.int .i64 (Num.unfold_ x)) ∧ w = w' := by
  have e1 := and_u64_one x h1 h2
  by_cases h0 : x % 2 = 0
  · rw [h0] at e1
    have e2 := xor_i64_zero (x / 2) (by omega) (by omega)
    have e3 : wrap64 (-wrap64 0) = 0 := by unfold wrap64; omega
    have e4 : wrap64 0 = 0 := by unfold wrap64; omega
    go_enter Try.func18, Try.ntmps18
    go_wp2
    go_ret
    exact ⟨ret_int (by show x / 2 = _; unfold Num.unfold_; rw [if_pos (by omega)]), rfl⟩
  · have h3 : x % 2 = 1 := by omega
    rw [h3] at e1
    have e2 := xor_i64_ones (x / 2) (by omega) (by omega)
    have e3 : wrap64 (-wrap64 1) = -1 := by unfold wrap64; omega
    have e4 : wrap64 1 = 1 := by unfold wrap64; omega
    clear h3
    go_enter Try.func18, Try.ntmps18
    go_wp2
    go_ret
    exact ⟨ret_int (by show -(x / 2) - 1 = _; unfold Num.unfold_; rw [if_neg (by omega)]), rfl⟩

set_option maxRecDepth 100000 in
set_option maxHeartbeats 1000000 in
theorem num_Int (A : Option Addr) (n c : Nat) (b : List Nat) (at_ least most : Int) (w : World) (h : Rd u8v w A n b) (hb : ∀ d ∈ b, d < 256) (hn : n ≤ maxLen)
    (hl1 : -9223372036854775808 ≤ least) (hl2 : least ≤ 9223372036854775807) (hm1 : -9223372036854775808 ≤ most) (hm2 : most ≤ 9223372036854775807) :
    Calls Try.prog 13 #[.slice A n c, .int .i64 at_, .int .i64 least, .int .i64 most] w fun e w' => e = irets (Num.intAt b at_ least most) ∧ w = w' := by
  have hx := (Num.readAt_lt b at_ hb).1
  have HR := Lib.hid (num_Read A n c b at_ w h hb hn)
  unfold Num.intAt
  generalize Num.readAt b at_ = r at *
  obtain ⟨x, m, e⟩ := r
  simp only at hx ⊢
  have hx' : (x : Int) < 18446744073709551616 := by omega
  clear hn hb h
  by_cases he : e = 0
  · subst he
    have he' : (((0 : Nat) : Int) != 0) = false := by simp
    rw [if_neg (by simp)]
    by_cases hm : most < 0
    · rw [if_pos (.inl hm)]
      go_enter Try.func13, Try.ntmps13
      go_wp2_with (go_at_call 15; refine HR.out.mono ?_; unfold rets; rintro e w2 ⟨rfl, rfl⟩)
      go_ret3
      exact ⟨rfl, rfl⟩
    · have hm0 : 0 ≤ most := by omega
      by_cases hxm : most < (x : Int)
      · rw [if_pos (.inr (.inl hxm))]
        go_enter Try.func13, Try.ntmps13
        go_wp2_with (go_at_call 15; refine HR.out.mono ?_; unfold rets; rintro e w2 ⟨rfl, rfl⟩)
        go_ret3
        exact ⟨rfl, rfl⟩
      · have hxm' : (x : Int) ≤ most := by omega
        have hx63 : (x : Int) ≤ 9223372036854775807 := by omega
        clear hx hx'
        by_cases hl : 0 < least
        · by_cases hxl : (x : Int) < least
          · rw [if_pos (.inr (.inr ⟨hl, hxl⟩))]
            go_enter Try.func13, Try.ntmps13
            go_wp2_with (go_at_call 15; refine HR.out.mono ?_; unfold rets; rintro e w2 ⟨rfl, rfl⟩)
            go_ret3
            exact ⟨rfl, rfl⟩
          · rw [if_neg (by omega)]
            go_enter Try.func13, Try.ntmps13
            go_wp2_with (go_at_call 15; refine HR.out.mono ?_; unfold rets; rintro e w2 ⟨rfl, rfl⟩)
            go_ret3
            exact ⟨rfl, rfl⟩
        · rw [if_neg (by omega)]
          go_enter Try.func13, Try.ntmps13
          go_wp2_with (go_at_call 15; refine HR.out.mono ?_; unfold rets; rintro e w2 ⟨rfl, rfl⟩)
          go_ret3
          exact ⟨rfl, rfl⟩
  · have he' : ((e : Int) != 0) = true := by simp; omega
    rw [if_pos he]
    go_enter Try.func13, Try.ntmps13
    go_wp2_with (go_at_call 15; refine HR.out.mono ?_; unfold rets; rintro e w2 ⟨rfl, rfl⟩)
    go_ret3
    exact ⟨rfl, rfl⟩

set_option maxHeartbeats 1000000 in
theorem num_Last (A : Option Addr) (n c : Nat) (b : List Nat) (w : World) (h : Rd u8v w A n b) (hb : ∀ d ∈ b, d < 256) (hn : n ≤ maxLen) :
    Calls Try.prog 25 #[.slice A n c] w fun e w' => e = rets (Num.last b) ∧ w = w' := by
  have HR := Lib.hid (num_Read_at A n c 0 b w h hb hn (by omega))
  have Hl := Lib.hid h.1
  unfold Num.last
  rw [Hl.out]
  rw [List.drop_zero] at HR
  unfold maxLen at hn
  have hsz := (Num.readF_lt b hb).2
  generalize Num.readF b = r at *
  obtain ⟨x, m, e⟩ := r
  simp only at hsz HR ⊢
  clear hb h
  by_cases he : e = 0
  · subst he
    have he' : (((0 : Nat) : Int) != 0) = false := by simp
    rw [if_neg (by simp)]
    by_cases hm : m < n
    · rw [if_pos hm]
      have hm' : (m : Int) < (n : Int) := by omega
      go_enter Try.func25, Try.ntmps25
      go_wp2_with (go_at_call 15; refine HR.out.mono ?_; rintro e w2 ⟨rfl, rfl⟩)
      go_ret3
      exact ⟨rfl, rfl⟩
    · rw [if_neg hm]
      have hm' : ¬ (m : Int) < (n : Int) := by omega
      go_enter Try.func25, Try.ntmps25
      go_wp2_with (go_at_call 15; refine HR.out.mono ?_; rintro e w2 ⟨rfl, rfl⟩)
      go_ret3
      exact ⟨rfl, rfl⟩
  · have he' : ((e : Int) != 0) = true := by simp; omega
    rw [if_pos he]
    go_enter Try.func25, Try.ntmps25
    go_wp2_with (go_at_call 15; refine HR.out.mono ?_; rintro e w2 ⟨rfl, rfl⟩)
    go_ret3
    exact ⟨rfl, rfl⟩
end Go.Proofs.Ytidjimkhppfjjaa
