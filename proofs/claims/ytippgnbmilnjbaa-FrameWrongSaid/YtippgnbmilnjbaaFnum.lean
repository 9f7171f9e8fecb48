/- Fnum: the contracts of num.Size and num.Append (as in chapter 1's texts). -/
import Derived.Test.YtippgnbmilnjbaaFBas
import Derived.Test.YtippgnbmilnjbaaSpec
namespace Go.Proofs.Ytippgnbmilnjbaa
open Go.RowKit Go.Fx

set_option maxHeartbeats 400000 in
theorem num_Size (x : Nat) (w : World) (hx : x < 18446744073709551616) :
    Calls Try.prog 35 #[.int .u64 x] w fun e w' => e = .returned (.int .i64 (Num.size x : Nat)) ∧ w = w' := by
  by_cases hs : x ≤ 246
  · have h' : (x : Int) ≤ 246 := by omega
    go_enter Try.func35, Try.ntmps35
    go_wp2
    go_ret
    exact ⟨ret_int (by unfold Num.size; rw [if_pos hs]; rfl), rfl⟩
  · have h' : ¬ (x : Int) ≤ 246 := by omega
    go_enter Try.func35, Try.ntmps35
    go_wp2
    go_loop [0, 3] (fun xv n => ∃ (y k f : Nat), xv = .int .u64 y ∧ n = .int .i64 k ∧ y < 256 ^ f ∧ f ≤ 8 ∧ k ≤ 1 + (8 - f) ∧ Hid (1 + Num.len256 8 x = k + Num.len256 f y)) (fun xv _ => (intOf xv).toNat)
    case atStart =>
      exact ⟨x, 1, 8, rfl, rfl, by omega, by omega, by omega, Lib.hid rfl⟩
    case round =>
      obtain ⟨y, k, f, rfl, rfl, hy, hf, hk, H⟩ := hrel
      by_cases hz : 0 < y
      · go_wp2
        go_round
        case rel =>
          cases f with
          | zero => simp at hy; omega
          | succ f => exact ⟨y / 256, k + 1, f, rfl, by go_num, by rw [Nat.pow_succ] at hy; omega, by omega, by omega, Lib.hid (by rw [H.out, Num.len256_pos f y hz]; omega)⟩
        case measure => simp [intOf]; omega
      · obtain rfl : y = 0 := by omega
        go_wp2
        go_ret
        exact ⟨ret_int (by have := H.out; rw [Num.len256_zero] at this; unfold Num.size; rw [if_neg hs]; omega), rfl⟩

set_option maxHeartbeats 400000 in
theorem num_Append_big (base : Nat) (v : Value) (n : Nat) (xs : List Nat) (row : Option Nat) (x : Nat) (w : World) (hd : Dst w base 5 1 v n (xs.map u8v) row) (hb : base ≤ w.heap.size)
    (hx : x < 18446744073709551616) (hn : n ≤ 1000000000000) (hs : ¬ x ≤ 246) :
    Calls Try.prog 43 #[v, .int .u64 x] w fun e w' => ∃ g c, e = .returned (.slice (some ⟨g, 0, none⟩) (n + Num.size x) c) ∧
      w'.ownsRow base 5 1 (.slice (some ⟨g, 0, none⟩) (n + Num.size x) c) (n + Num.size x) ((xs ++ Num.form x).map u8v) ∧ w.grownBy w' row ∧ (row = some g ∨ w.heap.size ≤ g) := by
  obtain ⟨A, c0, rfl⟩ := hd.shape
  obtain ⟨m, Hm⟩ : ∃ m, Hid (Num.len256 8 x = m) := ⟨_, Lib.hid rfl⟩
  have hm1 : 1 ≤ m := by rw [← Hm.out, Num.len256_pos 7 x (by omega)]; omega
  have hm8 : m ≤ 8 := by rw [← Hm.out]; exact Num.len256_le 8 x
  have Hsz : Hid (Num.size x = 1 + m) := Lib.hid (by unfold Num.size; rw [if_neg hs, Hm.out])
  have ht1 : ((1 + (m : Int)) == 1) = false := by simp; omega
  go_enter Try.func43, Try.ntmps43
  go_wp2_with fail
  refine (num_Size x _ hx).mono ?_; rintro e w1 ⟨rfl, rfl⟩
  rw [Hsz.out]
  go_wp2_with fail
  go_loopw [1, 7] (fun xv iv wr => ∃ (i : Int) (y : Nat) (C : Array Value), -1 ≤ i ∧ i < m ∧ iv = .int .i64 i ∧ xv = .int .u64 (y : Int) ∧ Hid (y = x / 256 ^ (m - (i + 1).toNat)) ∧ Blk wr w.heap.size 98 C ∧ C.size = 8 ∧
      Hid ((C.toList.take m).drop (i + 1).toNat = (Num.digs (m - (i + 1).toNat) x).map u8v) ∧ Below w.heap.size w wr ∧ wr.heap.size = w.heap.size + 1) (fun _ iv _ => (intOf iv + 1).toNat)
  case atStart =>
    refine ⟨(m : Int) - 1, x, _, by omega, by omega, by go_num, rfl, Lib.hid ?_, Blk.new w _ _, rfl, Lib.hid ?_, (Below.refl _ _).alloc (Nat.le_refl _) _, by simp⟩
    · rw [show m - ((m : Int) - 1 + 1).toNat = 0 by omega]; simp
    · rw [show m - ((m : Int) - 1 + 1).toNat = 0 by omega]; simp [Num.digs]
  case round =>
    obtain ⟨i, y, C, hi1, hi2, rfl, rfl, Hy, hb8, hC, HC, hbw, hsz⟩ := hrel
    by_cases h0 : 0 ≤ i
    · obtain ⟨k, rfl⟩ := Int.eq_ofNat_of_zero_le h0
      have hk8 : (k : Int) < 8 := by omega
      obtain ⟨u, hcell⟩ := hb8.cell_at (i := k) (by omega)
      have hfr := hb8.frozen k
      go_wp2
      go_roundw
      case rel =>
        refine ⟨(k : Int) - 1, y / 256, _, by omega, by omega, rfl, by go_num, Lib.hid ?_, hb8.set_ k _, by simpa using hC, Lib.hid ?_, hbw.setCell (Nat.le_refl _) _, by rw [setCell_size]; exact hsz⟩
        · rw [Hy.out, Nat.div_div_eq_div_mul, ← Nat.pow_succ]
          congr 2
          omega
        · have h1 := HC.out
          have h2 := Hy.out
          rw [show ((k : Int) + 1).toNat = k + 1 by omega] at h1 h2
          rw [show ((k : Int) - 1 + 1).toNat = k by omega, show m - k = (m - (k + 1)) + 1 by omega, Num.digs, ← h2]
          have hk : k < m := by omega
          have hlen : (C.toList.take m).length = m := by simp [hC]; omega
          have e1 : (C.setIfInBounds k (u8v (y % 256))).toList.take m = (C.toList.take m).set k (u8v (y % 256)) := by
            rw [Array.toList_setIfInBounds, List.take_set]
          have e2 : ((C.toList.take m).set k (u8v (y % 256))).drop k = u8v (y % 256) :: (C.toList.take m).drop (k + 1) := by
            rw [List.drop_set]
            simp only [Nat.lt_irrefl, ↓reduceIte, Nat.sub_self]
            rw [List.drop_eq_getElem_cons (by omega)]
            rfl
          show ((C.setIfInBounds k (u8v (y % 256))).toList.take m).drop k = _
          rw [e1, e2, h1]
          rfl
      case measure => simp [intOf]
    · obtain rfl : i = -1 := by omega
      have hdw : Dst wr base 5 1 (.slice A n c0) n (xs.map u8v) row := hd.ext hbw
      have hCm : Hid (C.toList.take m = (Num.digs m x).map u8v) := Lib.hid (by simpa using HC.out)
      have hwr1 : IntKind.i64.wrap (246 + (1 + (m : Int))) = 246 + (1 + (m : Int)) := IntWalk.i64_in _ (by omega)
      have hwr2 : IntKind.i64.wrap (246 + (1 + (m : Int)) - 1) = 246 + (m : Int) := by rw [IntWalk.i64_in _ (by omega)]; omega
      have hwr3 : IntKind.u8.wrap (246 + (m : Int)) = 246 + (m : Int) := by rw [IntKind.wrap_u8]; omega
      have hwr4 : IntKind.i64.wrap (1 + (m : Int) - 1) = (m : Int) := by rw [IntWalk.i64_in _ (by omega)]; omega
      have hm8' : (m : Int) ≤ 8 := by omega
      have hrow : ∀ g, row = some g → g < w.heap.size := fun g hg => (hd.row_lt g hg).2
      go_wp2
      have hbd : Blk wr.drew w.heap.size 98 C := hb8
      go_region_law (first
        | (refine step_append_dst _ rfl rfl Try.underlying23 info_u8 rfl (by omega) (by simp [Act.eval]) (hdw.drew.alloc _) (by simp [Act.eval]; rfl) (news := [_]) rfl (cell_one_new _ _ _) (by simp [Value.oneCell']) (by omega) (by simp only [maxLen]; omega) (by omega) (by simp; omega) ?_
           intro g1 cap1 w1 hown1 hgrow1 hat1 hlt1
           have hB1 : Blk w1 w.heap.size 98 C := (hbd.alloc _).grown hgrow1 (fun e => by have := hrow _ e.symm; omega))
        | (refine step_append_dst _ rfl rfl Try.underlying23 info_u8 rfl (by omega) (by simp [Act.eval]) (Dst.of_own hown1) (by simp [Act.eval]; rfl) (news := (Num.digs m x).map u8v) (by simp [Num.digs_length]) (news_of_blk hB1 hCm.out) (one_cells _ fun _ => rfl) hm1 (by simp only [maxLen]; omega) (by omega) (by have := hgrow1.size; simp at this; omega) ?_
           intro g2 cap2 w2 hown2 hgrow2 hat2 hlt2))
      all_goals go_wp2
      all_goals go_ret
      rw [Hsz.out]
      have hl : n + 1 + m = n + (1 + m) := by omega
      have hlist : (xs ++ Num.form x).map u8v = xs.map u8v ++ [.int .u8 (246 + (m : Int))] ++ (Num.digs m x).map u8v := by
        unfold Num.form; rw [if_neg hs, Hm.out]; simp [u8v]
      have hg0 : w.grownBy w1 row := grown_of_below ((hbw.alloc hbw.size _).drew) hgrow1
      have hnew : row = some g1 ∨ w.heap.size ≤ g1 := hat1.imp id (fun e => by rw [e]; simp; omega)
      refine ⟨g2, cap2, ret_slice rfl hl, by rw [hlist, ← hl]; exact hown2, grown_trans hg0 hgrow2 (fun k hk => ?_), ?_⟩
      · have : g1 = k := by simpa [Value.ownBlock] using hk
        subst this; exact hnew
      · rcases hat2 with e | e
        · have : g1 = g2 := by simpa [Value.ownBlock] using e
          subst this; exact hnew
        · right; rw [e]; have := hg0.size; omega

set_option maxHeartbeats 400000 in
theorem num_Append_small (base : Nat) (v : Value) (n : Nat) (xs : List Nat) (row : Option Nat) (x : Nat) (w : World) (hd : Dst w base 5 1 v n (xs.map u8v) row) (hb : base ≤ w.heap.size)
    (hn : n ≤ 1000000000000) (hs : x ≤ 246) :
    Calls Try.prog 43 #[v, .int .u64 x] w fun e w' => ∃ g c, e = .returned (.slice (some ⟨g, 0, none⟩) (n + Num.size x) c) ∧
      w'.ownsRow base 5 1 (.slice (some ⟨g, 0, none⟩) (n + Num.size x) c) (n + Num.size x) ((xs ++ Num.form x).map u8v) ∧ w.grownBy w' row ∧ (row = some g ∨ w.heap.size ≤ g) := by
  obtain ⟨A, c0, rfl⟩ := hd.shape
  have Hsz : Hid (Num.size x = 1) := Lib.hid (by unfold Num.size; rw [if_pos hs])
  have hs' : (x : Int) ≤ 246 := by omega
  go_enter Try.func43, Try.ntmps43
  go_wp2_with fail
  refine (num_Size x _ (by omega)).mono ?_; rintro e w1 ⟨rfl, rfl⟩
  rw [Hsz.out]
  go_wp2_with (at_builtin; refine wpList_append_dst _ rfl rfl Try.underlying23 info_u8 rfl (by omega) rfl (hd.alloc _) rfl (news := [_]) rfl (cell_one_new _ _ _) (by simp [Value.oneCell']) (by omega) (by simp only [maxLen]; omega) (by omega) (by simp; omega) ?_; intro g1 cap1 w1 hown1 hgrow1 hat1 hlt1)
  go_ret
  rw [Hsz.out]
  have hlist : (xs ++ Num.form x).map u8v = xs.map u8v ++ [.int .u8 (x : Int)] := by
    unfold Num.form; rw [if_pos hs]; simp [u8v]
  refine ⟨g1, cap1, rfl, by rw [hlist]; exact hown1, grown_of_below ((Below.refl _ _).alloc (Nat.le_refl _) _) hgrow1, hat1.imp id (fun e => by rw [e]; simp)⟩

/-- Append: the form is put behind; the result is a row of the call's own. -/
theorem num_Append (base : Nat) (v : Value) (n : Nat) (xs : List Nat) (row : Option Nat) (x : Nat) (w : World) (hd : Dst w base 5 1 v n (xs.map u8v) row) (hb : base ≤ w.heap.size)
    (hx : x < 18446744073709551616) (hn : n ≤ 1000000000000) :
    Calls Try.prog 43 #[v, .int .u64 x] w fun e w' => ∃ g c, e = .returned (.slice (some ⟨g, 0, none⟩) (n + Num.size x) c) ∧
      w'.ownsRow base 5 1 (.slice (some ⟨g, 0, none⟩) (n + Num.size x) c) (n + Num.size x) ((xs ++ Num.form x).map u8v) ∧ w.grownBy w' row ∧ (row = some g ∨ w.heap.size ≤ g) := by
  by_cases hs : x ≤ 246
  · exact num_Append_small base v n xs row x w hd hb hn hs
  · exact num_Append_big base v n xs row x w hd hb hx hn hs
end Go.Proofs.Ytippgnbmilnjbaa
