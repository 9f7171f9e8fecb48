/- NumWrong: the walk of the law. -/
import Derived.Test.YtidjimkhppfjjaaNumA
import Derived.Test.YtidjimkhppfjjaaNumC
import Derived.Test.YtidjimkhppfjjaaRefD
import Derived.Test.YtidjimkhppfjjaaLex
import Derived.Test.YtidjimkhppfjjaaStep
import Derived.Test.YtidjimkhppfjjaaOpen
namespace Go.Fx.Num
theorem bad_ne (b : List Nat) (h : readF b = (0, 0, 11)) : b ≠ [] := by
  rintro rfl; simp [readF] at h
theorem bad_read (b : List Nat) (h : readF b = (0, 0, 11)) : readAt b 0 = (0, 0, 11) := by
  unfold readAt; rw [if_neg (by omega)]; exact h
theorem bad_last (b : List Nat) (h : readF b = (0, 0, 11)) : last b = (0, 0, 11) := by
  unfold last; rw [h, if_pos (by simp)]
theorem bad_int (b : List Nat) (h : readF b = (0, 0, 11)) : intAt b 0 1 0 = (0, 0, 11) := by
  unfold intAt; rw [bad_read b h, if_pos (by simp)]
theorem bad_split (x : Nat) (hx : x < 18446744073709551616) (b : List Nat) (h : readF b = (0, 0, 11)) : split (form x ++ b) = ([], 11) := by
  have h1 := behind_all b [x] [] (by simpa using hx)
  have e : all [x] = form x := by simp [all]
  rw [behind_nil _ (split_bad _), e] at h1
  rw [h1, behind_err _ _ (bad_ne b h) (by rw [h]; simp), h]
theorem bad_cmp1 (b : List Nat) (h : readF b = (0, 0, 11)) (c : List Nat) : compare b c = (0, 11) := by
  unfold compare; rw [bad_last b h, if_pos (by simp)]
theorem bad_cmp1' (b : List Nat) (h : last b = (0, 0, 11)) (c : List Nat) : compare b c = (0, 11) := by
  unfold compare; rw [h, if_pos (by simp)]
theorem bad_cmp2 (x : Nat) (hx : x < 18446744073709551616) (b : List Nat) (h : last b = (0, 0, 11)) : compare (form x) b = (0, 11) := by
  unfold compare; rw [last_form x hx, h, if_neg (by simp), if_pos (by simp)]
/-- One digit 0 in front. -/
theorem bad_zero (l : List Nat) (h1 : l.length ≤ 7) (h0 : 1 ≤ l.length) : readF ((247 + l.length) :: 0 :: l) = (0, 0, 11) := by
  simp only [readF]
  rw [if_neg (by omega), if_neg (by omega), if_neg (by simp; omega)]
  unfold readTail
  rw [if_pos (.inl (by rw [show 247 + l.length - 246 = l.length + 1 by omega, List.take_succ_cons]; rfl))]
/-- A number with a shorter form. -/
theorem bad_short (d : Nat) (h : d ≤ 246) : readF [247, d] = (0, 0, 11) := by
  simp only [readF]
  rw [if_neg (by omega), if_neg (by omega), if_neg (by simp)]
  unfold readTail
  rw [if_pos (.inr (by simp [val]; omega))]
theorem bad_255 (l : List Nat) : readF (255 :: l) = (0, 0, 11) := by
  simp [readF]
theorem behind_last (x d : Nat) (hx : x < 18446744073709551616) : last (form x ++ [d]) = (0, 0, 11) := by
  unfold last
  rw [readF_form x hx [d], if_neg (by simp), if_pos (by rw [List.length_append, form_length]; simp)]
theorem form_tail (x : Nat) (hs : 1 < size x) : ∃ l, form x = (246 + l.length) :: l ∧ size x = l.length + 1 ∧ l.length ≤ 8 := by
  have h8 := len256_le 8 x
  unfold size at hs
  by_cases h : x ≤ 246
  · rw [if_pos h] at hs; omega
  · refine ⟨digs (len256 8 x) x, ?_, ?_, ?_⟩
    · rw [digs_length]; unfold form; rw [if_neg h]
    · rw [digs_length]; unfold size; rw [if_neg h, Nat.add_comm]
    · rw [digs_length]; exact h8
end Go.Fx.Num
namespace Go.Proofs.Ytidjimkhppfjjaa
open Go.RowKit Go.Fx Go.ChangeShapes Go.WideShapes
theorem Rd_tail {α : Type} {f : α → Value} {w : World} {b o n : Nat} {x : α} {xs : List α} (h : Rd f w (some ⟨b, o, none⟩) (n + 1) (x :: xs)) : Rd f w (some ⟨b, o + 1, none⟩) n xs := by
  refine ⟨by have := h.1; simpa using this, fun hn => ?_⟩
  obtain ⟨b', o', e, hb, hc⟩ := h.2 (by omega)
  cases e
  refine ⟨b, o + 1, rfl, hb, fun j y hy => ?_⟩
  have := hc (j + 1) y (by simpa using hy)
  rw [show o + 1 + j = o + (j + 1) by omega]
  exact this

set_option maxRecDepth 100000 in
set_option maxHeartbeats 1000000 in
theorem walkNumWrong (xi way : Int) (w : World) (hx : (Lit.int .u64 xi).wf = true) (hw : (Lit.int .u8 way).wf = true) :
    Calls Try.prog 8 #[.int .u64 xi, .int .u8 way] w fun e w' => e = .returned (.bool true) ∧ Below w.heap.size w w' := by
  have hx := bounds_u64 hx
  have hw := bounds_u8 hw
  obtain ⟨x, rfl⟩ := Int.eq_ofNat_of_zero_le hx.1
  have hx64 : x < 18446744073709551616 := by omega
  have Hx64 := Lib.hid hx64
  have Hlx := Lib.hid (Num.form_lt x)
  obtain ⟨s, Hs⟩ : ∃ s, Hid (Num.size x = s) := ⟨_, Lib.hid rfl⟩
  have hs1 := Num.size_pos x
  have hs9 := Num.size_le x
  have Hft := Lib.hid (Num.form_tail x)
  rw [Hs.out] at hs1 hs9 Hft
  have hs1' : ¬ (s : Int) < 1 := by omega
  clear hx hx64
  rcases (by omega : way % 4 = 0 ∨ way % 4 = 1 ∨ way % 4 = 2 ∨ way % 4 = 3) with h4 | h4 | h4 | h4
  · rcases (by omega : s = 1 ∨ s = 9 ∨ (1 < s ∧ s < 9)) with hs | hs | hs
    · subst hs
      go_enter Try.func8, Try.ntmps8
      have hE := Ext.refl w
      go_wp2_with fail
      refine (awake _).mono ?_
      rintro e wk1 ⟨rfl, ek1⟩
      have hE := hE.t ek1
      clear ek1
      go_wp2_with fail
      refine (num_Append_new _ 0 [] x _ Dst.nil Hx64.out (by omega)).mono ?_
      rw [Hs.out]
      rintro e wk2 ⟨A1, c1, rfl, own1, ek2⟩
      have hE := hE.t ek2
      clear ek2
      have r_x := Rd.of_own own1
      have hc1 := own_cap own1
      rw [Nat.zero_add] at hc1
      rw [Nat.zero_add, List.nil_append] at r_x
      go_wp2_with (refine wpl_build (by rfl) rfl ul_u8 info_u8 [.tmp 114, .const (.int .u8 0)] (by rfl) (by rfl) (by decide) (f := u8v) [248, 0] (by rfl) (fun _ => rfl) ?_)
      intro b_g2 wk3 blk_g2 er_g2 lo_g2 rd_g2; refine Lib.hid ?_
      have own_g2 : wk3.ownsRow wk2.heap.size 5 1 (.slice (some ⟨b_g2, 0, none⟩) 2 2) 2 (([248, 0] : List Nat).map u8v) := own_of_blk blk_g2 lo_g2 rfl (by simp [maxLen])
      clear blk_g2 rd_g2
      go_wp2_with (refine wpl_append (by rfl) rfl ul_u8 info_u8 rfl rfl own_g2 rfl (r_x.ext er_g2) (fun _ => rfl) (by simp only [maxLen]; omega) (by omega) er_g2.size ?_)
      intro a_g2 c_g2 wk4 ow_g2 gr_g2 _; refine Lib.hid ?_
      have er_g2 := er_g2.grown gr_g2 er_g2.size (fun k hk => (own_g2.lt k hk).1)
      clear gr_g2 own_g2; have own_g2 := ow_g2; clear ow_g2
      have ex_g2 : Ext wk2 wk4 := er_g2
      have hE := hE.t ex_g2
      have r_x := r_x.ext ex_g2
      have r_bad := Rd.of_own (f := u8v) (xs := 248 :: 0 :: Num.form x) (by simpa using own_g2)
      have Hbad := Lib.hid (Num.bad_zero (Num.form x) (by rw [Num.form_length, Hs.out]; omega) (by rw [Num.form_length, Hs.out]; omega))
      rw [Num.form_length, Hs.out] at Hbad
      have Hblt : Hid (∀ d ∈ 248 :: 0 :: Num.form x, d < 256) := Lib.hid (fun d hd => by
        rcases List.mem_cons.1 hd with h | h
        · omega
        · rcases List.mem_cons.1 h with h | h
          · omega
          · exact Hlx.out d h)
      rw [show 247 + 1 = 248 by rfl] at Hbad
      generalize 248 :: 0 :: Num.form x = bd at *
      have Hb1 := Lib.hid (Num.bad_read bd Hbad.out)
      have Hb2 := Lib.hid (Num.bad_last bd Hbad.out)
      have Hb3 := Lib.hid (Num.bad_int bd Hbad.out)
      have Hb4 := Lib.hid (Num.bad_split x Hx64.out bd Hbad.out)
      have Hb5 := Lib.hid (Num.bad_cmp1 bd Hbad.out [])
      have Hb6 := Lib.hid (Num.bad_cmp2 x Hx64.out bd Hb2.out)
      have Hblt2 : Hid (∀ d ∈ Num.form x ++ bd, d < 256) := Lib.hid (fun d hd => by
        rcases List.mem_append.1 hd with h | h
        · exact Hlx.out d h
        · exact Hblt.out d h)
      go_wp2_with fail
      refine (num_Read _ _ _ _ 0 _ r_bad Hblt.out (by simp only [maxLen]; omega)).mono ?_
      rw [Hb1.out]; unfold rets
      rintro e wy5 ⟨rfl, rfl⟩
      go_wp2_with fail
      refine (num_Last _ _ _ _ _ r_bad Hblt.out (by simp only [maxLen]; omega)).mono ?_
      rw [Hb2.out]; unfold rets
      rintro e wy6 ⟨rfl, rfl⟩
      go_wp2_with fail
      refine (num_Int _ _ _ _ 0 1 0 _ r_bad Hblt.out (by simp only [maxLen]; omega) (by omega) (by omega) (by omega) (by omega)).mono ?_
      rw [Hb3.out]; unfold irets
      rintro e wy7 ⟨rfl, rfl⟩
      go_wp2_with (refine wpl_build (by rfl) rfl ul_u8 info_u8 [] (by rfl) (by rfl) (by decide) (f := u8v) [] (by rfl) (fun _ => rfl) ?_)
      intro b_g1 wk8 blk_g1 er_g1 lo_g1 rd_g1; refine Lib.hid ?_
      have own_g1 : wk8.ownsRow wk4.heap.size 5 1 (.slice (some ⟨b_g1, 0, none⟩) 0 0) 0 (([] : List Nat).map u8v) := own_of_blk blk_g1 lo_g1 rfl (by simp [maxLen])
      clear blk_g1 rd_g1
      go_wp2_with (refine wpl_append (by rfl) rfl ul_u8 info_u8 rfl rfl own_g1 rfl (r_x.ext er_g1) (fun _ => rfl) (by simp only [maxLen]; omega) (by omega) er_g1.size ?_)
      intro a_g1 c_g1 wk9 ow_g1 gr_g1 _; refine Lib.hid ?_
      have er_g1 := er_g1.grown gr_g1 er_g1.size (fun k hk => (own_g1.lt k hk).1)
      clear gr_g1 own_g1; have own_g1 := ow_g1; clear ow_g1
      go_wp2_with (refine wpl_append (by rfl) rfl ul_u8 info_u8 rfl rfl own_g1 rfl (r_bad.ext er_g1) (fun _ => rfl) (by simp only [maxLen]; omega) (by omega) er_g1.size ?_)
      intro a_g1 c_g1 wk10 ow_g1 gr_g1 _; refine Lib.hid ?_
      have er_g1 := er_g1.grown gr_g1 er_g1.size (fun k hk => (own_g1.lt k hk).1)
      clear gr_g1 own_g1; have own_g1 := ow_g1; clear ow_g1
      have ex_g1 : Ext wk4 wk10 := er_g1
      have hE := hE.t ex_g1
      have r_x := r_x.ext ex_g1
      have r_bad := r_bad.ext ex_g1
      have r_w := Rd.of_own (f := u8v) (xs := Num.form x ++ bd) (by rw [List.map_append]; exact own_g1)
      go_wp2_with fail
      refine (num_Split _ _ _ _ _ r_w Hblt2.out (by omega)).mono ?_
      rw [Hb4.out]
      rintro e wk11 ⟨A5, n5, c5, rfl, r_5, ek11⟩
      have hE := hE.t ek11
      have r_x := r_x.ext ek11
      have r_bad := r_bad.ext ek11
      clear ek11
      obtain rfl : 0 = n5 := r_5.1
      go_wp2_with fail
      refine (num_Compare _ _ _ _ _ _ _ _ _ r_bad Rd.none_ Hblt.out (by simp) (by simp only [maxLen]; omega) (by simp only [maxLen]; omega)).mono ?_
      rw [Hb5.out]; unfold crets
      rintro e wy12 ⟨rfl, rfl⟩
      go_wp2_with fail
      refine (num_Compare _ _ _ _ _ _ _ _ _ r_x r_bad Hlx.out Hblt.out (by simp only [maxLen]; omega) (by simp only [maxLen]; omega)).mono ?_
      rw [Hb6.out]; unfold crets
      rintro e wy13 ⟨rfl, rfl⟩
      go_wp2_with fail
      have hcell : ∀ i : Nat, i < 6 → (wk11.alloc (.cells #[.int .i64 11, .int .i64 11, .int .i64 11, .int .i64 11, .int .i64 11, .int .i64 11] 26)).cell? ⟨wk11.heap.size, i, none⟩ = some (.int .i64 11) := by
        intro i hi
        rw [(Blk.new _ _ _).cell]
        rcases (by omega : i = 0 ∨ i = 1 ∨ i = 2 ∨ i = 3 ∨ i = 4 ∨ i = 5) with rfl | rfl | rfl | rfl | rfl | rfl <;> rfl
      have Hcell := Lib.hid hcell
      clear hcell
      go_loopw [175] (fun iv wr => ∃ i : Nat, i ≤ 6 ∧ iv = .int .i64 (i : Int) ∧ wr = wk11.alloc (.cells #[.int .i64 11, .int .i64 11, .int .i64 11, .int .i64 11, .int .i64 11, .int .i64 11] 26)) (fun iv _ => 6 - (intOf iv).toNat)
      case atStart => exact ⟨0, by omega, rfl, rfl⟩
      case round =>
        obtain ⟨i, hi, rfl, rfl⟩ := hrel
        by_cases hi6 : i < 6
        · have hc := Hcell.out i hi6
          have hi6' : (i : Int) < 6 := by omega
          go_wp2
          go_roundw
          case rel => exact ⟨i + 1, by omega, by go_num, trivial⟩
          case measure => simp [intOf]; omega
        · obtain rfl : i = 6 := by omega
          go_wp2
          go_ret
          exact ⟨rfl, hE.t (Ext.alloc _ _)⟩
    · subst hs
      go_enter Try.func8, Try.ntmps8
      have hE := Ext.refl w
      go_wp2_with fail
      refine (awake _).mono ?_
      rintro e wk14 ⟨rfl, ek14⟩
      have hE := hE.t ek14
      clear ek14
      go_wp2_with fail
      refine (num_Append_new _ 0 [] x _ Dst.nil Hx64.out (by omega)).mono ?_
      rw [Hs.out]
      rintro e wk15 ⟨A1, c1, rfl, own1, ek15⟩
      have hE := hE.t ek15
      clear ek15
      have r_x := Rd.of_own own1
      have hc1 := own_cap own1
      rw [Nat.zero_add] at hc1
      rw [Nat.zero_add, List.nil_append] at r_x
      obtain ⟨b, o, rfl⟩ := r_x.some_ (by omega)
      have hcc : ((c1 : Int) == 1) = false := by simp; omega
      have hcd : (9 : Int) ≤ (c1 : Int) := by omega
      go_wp2_with fail
      go_ret
      exact ⟨rfl, hE⟩
    · obtain ⟨l, hl0, hsl, hl8⟩ := Hft.out hs.1
      obtain ⟨m, rfl⟩ : ∃ m, s = m + 1 := ⟨s - 1, by omega⟩
      have hlm : l.length = m := by omega
      have Hl := Lib.hid hl0
      have Hlm := Lib.hid hlm
      clear hsl hl8 hlm hl0
      go_enter Try.func8, Try.ntmps8
      have hE := Ext.refl w
      go_wp2_with fail
      refine (awake _).mono ?_
      rintro e wk16 ⟨rfl, ek16⟩
      have hE := hE.t ek16
      clear ek16
      go_wp2_with fail
      refine (num_Append_new _ 0 [] x _ Dst.nil Hx64.out (by omega)).mono ?_
      rw [Hs.out]
      rintro e wk17 ⟨A1, c1, rfl, own1, ek17⟩
      have hE := hE.t ek17
      clear ek17
      have r_x := Rd.of_own own1
      have hc1 := own_cap own1
      rw [Nat.zero_add] at hc1
      rw [Nat.zero_add, List.nil_append] at r_x
      obtain ⟨b, o, rfl⟩ := r_x.some_ (by omega)
      have r_d := Rd_tail (x := 246 + l.length) (xs := l) (by rw [← Hl.out]; exact r_x)
      have hm1 : ((m : Int) + 1) ≤ (c1 : Int) := by omega
      have hm2 : (m : Int) ≤ 7 := by omega
      have hm3 : 1 ≤ (m : Int) := by omega
      go_wp2_with (refine wpl_build (by rfl) rfl ul_u8 info_u8 [.tmp 114, .const (.int .u8 0)] (by rfl) (by rfl) (by decide) (f := u8v) [247 + m, 0] (by rfl) (fun _ => rfl) ?_)
      intro b_g2 wk18 blk_g2 er_g2 lo_g2 rd_g2; refine Lib.hid ?_
      have own_g2 : wk18.ownsRow wk17.heap.size 5 1 (.slice (some ⟨b_g2, 0, none⟩) 2 2) 2 (([247 + m, 0] : List Nat).map u8v) := own_of_blk blk_g2 lo_g2 rfl (by simp [maxLen])
      clear blk_g2 rd_g2
      go_wp2_with (refine wpl_append (by rfl) rfl ul_u8 info_u8 rfl rfl own_g2 rfl (r_d.ext er_g2) (fun _ => rfl) (by simp only [maxLen]; omega) (by omega) er_g2.size ?_)
      intro a_g2 c_g2 wk19 ow_g2 gr_g2 _; refine Lib.hid ?_
      have er_g2 := er_g2.grown gr_g2 er_g2.size (fun k hk => (own_g2.lt k hk).1)
      clear gr_g2 own_g2; have own_g2 := ow_g2; clear ow_g2
      have ex_g2 : Ext wk17 wk19 := er_g2
      have hE := hE.t ex_g2
      have r_x := r_x.ext ex_g2
      have r_d := r_d.ext ex_g2
      have r_bad := Rd.of_own (f := u8v) (xs := (247 + m) :: 0 :: l) (by simpa using own_g2)
      have Hbad := Lib.hid (Num.bad_zero l (by rw [Hlm.out]; omega) (by rw [Hlm.out]; omega))
      rw [Hlm.out] at Hbad
      have Hblt : Hid (∀ d ∈ (247 + m) :: 0 :: l, d < 256) := Lib.hid (fun d hd => by
        rcases List.mem_cons.1 hd with h | h
        · omega
        · rcases List.mem_cons.1 h with h | h
          · omega
          · exact Hlx.out d (by rw [Hl.out]; exact List.mem_cons_of_mem _ h))
      generalize (247 + m) :: 0 :: l = bd at r_bad Hbad Hblt
      clear r_d
      have Hb1 := Lib.hid (Num.bad_read bd Hbad.out)
      have Hb2 := Lib.hid (Num.bad_last bd Hbad.out)
      have Hb3 := Lib.hid (Num.bad_int bd Hbad.out)
      have Hb4 := Lib.hid (Num.bad_split x Hx64.out bd Hbad.out)
      have Hb5 := Lib.hid (Num.bad_cmp1 bd Hbad.out [])
      have Hb6 := Lib.hid (Num.bad_cmp2 x Hx64.out bd Hb2.out)
      have Hblt2 : Hid (∀ d ∈ Num.form x ++ bd, d < 256) := Lib.hid (fun d hd => by
        rcases List.mem_append.1 hd with h | h
        · exact Hlx.out d h
        · exact Hblt.out d h)
      go_wp2_with fail
      refine (num_Read _ _ _ _ 0 _ r_bad Hblt.out (by simp only [maxLen]; omega)).mono ?_
      rw [Hb1.out]; unfold rets
      rintro e wy20 ⟨rfl, rfl⟩
      go_wp2_with fail
      refine (num_Last _ _ _ _ _ r_bad Hblt.out (by simp only [maxLen]; omega)).mono ?_
      rw [Hb2.out]; unfold rets
      rintro e wy21 ⟨rfl, rfl⟩
      go_wp2_with fail
      refine (num_Int _ _ _ _ 0 1 0 _ r_bad Hblt.out (by simp only [maxLen]; omega) (by omega) (by omega) (by omega) (by omega)).mono ?_
      rw [Hb3.out]; unfold irets
      rintro e wy22 ⟨rfl, rfl⟩
      go_wp2_with (refine wpl_build (by rfl) rfl ul_u8 info_u8 [] (by rfl) (by rfl) (by decide) (f := u8v) [] (by rfl) (fun _ => rfl) ?_)
      intro b_g1 wk23 blk_g1 er_g1 lo_g1 rd_g1; refine Lib.hid ?_
      have own_g1 : wk23.ownsRow wk19.heap.size 5 1 (.slice (some ⟨b_g1, 0, none⟩) 0 0) 0 (([] : List Nat).map u8v) := own_of_blk blk_g1 lo_g1 rfl (by simp [maxLen])
      clear blk_g1 rd_g1
      go_wp2_with (refine wpl_append (by rfl) rfl ul_u8 info_u8 rfl rfl own_g1 rfl (r_x.ext er_g1) (fun _ => rfl) (by simp only [maxLen]; omega) (by omega) er_g1.size ?_)
      intro a_g1 c_g1 wk24 ow_g1 gr_g1 _; refine Lib.hid ?_
      have er_g1 := er_g1.grown gr_g1 er_g1.size (fun k hk => (own_g1.lt k hk).1)
      clear gr_g1 own_g1; have own_g1 := ow_g1; clear ow_g1
      go_wp2_with (refine wpl_append (by rfl) rfl ul_u8 info_u8 rfl rfl own_g1 rfl (r_bad.ext er_g1) (fun _ => rfl) (by simp only [maxLen]; omega) (by omega) er_g1.size ?_)
      intro a_g1 c_g1 wk25 ow_g1 gr_g1 _; refine Lib.hid ?_
      have er_g1 := er_g1.grown gr_g1 er_g1.size (fun k hk => (own_g1.lt k hk).1)
      clear gr_g1 own_g1; have own_g1 := ow_g1; clear ow_g1
      have ex_g1 : Ext wk19 wk25 := er_g1
      have hE := hE.t ex_g1
      have r_x := r_x.ext ex_g1
      have r_bad := r_bad.ext ex_g1
      have r_w := Rd.of_own (f := u8v) (xs := Num.form x ++ bd) (by rw [List.map_append]; exact own_g1)
      go_wp2_with fail
      refine (num_Split _ _ _ _ _ r_w Hblt2.out (by omega)).mono ?_
      rw [Hb4.out]
      rintro e wk26 ⟨A5, n5, c5, rfl, r_5, ek26⟩
      have hE := hE.t ek26
      have r_x := r_x.ext ek26
      have r_bad := r_bad.ext ek26
      clear ek26
      obtain rfl : 0 = n5 := r_5.1
      go_wp2_with fail
      refine (num_Compare _ _ _ _ _ _ _ _ _ r_bad Rd.none_ Hblt.out (by simp) (by simp only [maxLen]; omega) (by simp only [maxLen]; omega)).mono ?_
      rw [Hb5.out]; unfold crets
      rintro e wy27 ⟨rfl, rfl⟩
      go_wp2_with fail
      refine (num_Compare _ _ _ _ _ _ _ _ _ r_x r_bad Hlx.out Hblt.out (by simp only [maxLen]; omega) (by simp only [maxLen]; omega)).mono ?_
      rw [Hb6.out]; unfold crets
      rintro e wy28 ⟨rfl, rfl⟩
      go_wp2_with fail
      have hcell : ∀ i : Nat, i < 6 → (wk26.alloc (.cells #[.int .i64 11, .int .i64 11, .int .i64 11, .int .i64 11, .int .i64 11, .int .i64 11] 26)).cell? ⟨wk26.heap.size, i, none⟩ = some (.int .i64 11) := by
        intro i hi
        rw [(Blk.new _ _ _).cell]
        rcases (by omega : i = 0 ∨ i = 1 ∨ i = 2 ∨ i = 3 ∨ i = 4 ∨ i = 5) with rfl | rfl | rfl | rfl | rfl | rfl <;> rfl
      have Hcell := Lib.hid hcell
      clear hcell
      go_loopw [175] (fun iv wr => ∃ i : Nat, i ≤ 6 ∧ iv = .int .i64 (i : Int) ∧ wr = wk26.alloc (.cells #[.int .i64 11, .int .i64 11, .int .i64 11, .int .i64 11, .int .i64 11, .int .i64 11] 26)) (fun iv _ => 6 - (intOf iv).toNat)
      case atStart => exact ⟨0, by omega, rfl, rfl⟩
      case round =>
        obtain ⟨i, hi, rfl, rfl⟩ := hrel
        by_cases hi6 : i < 6
        · have hc := Hcell.out i hi6
          have hi6' : (i : Int) < 6 := by omega
          go_wp2
          go_roundw
          case rel => exact ⟨i + 1, by omega, by go_num, trivial⟩
          case measure => simp [intOf]; omega
        · obtain rfl : i = 6 := by omega
          go_wp2
          go_ret
          exact ⟨rfl, hE.t (Ext.alloc _ _)⟩
  · obtain ⟨d, hd⟩ : ∃ d : Nat, (x : Int) % 247 = (d : Int) := ⟨x % 247, by omega⟩
    have hd6 : d ≤ 246 := by omega
    have hd7 : (d : Int) ≤ 246 := by omega
    · skip
      go_enter Try.func8, Try.ntmps8
      have hE := Ext.refl w
      go_wp2_with fail
      refine (awake _).mono ?_
      rintro e wk29 ⟨rfl, ek29⟩
      have hE := hE.t ek29
      clear ek29
      go_wp2_with fail
      refine (num_Append_new _ 0 [] x _ Dst.nil Hx64.out (by omega)).mono ?_
      rw [Hs.out]
      rintro e wk30 ⟨A1, c1, rfl, own1, ek30⟩
      have hE := hE.t ek30
      clear ek30
      have r_x := Rd.of_own own1
      have hc1 := own_cap own1
      rw [Nat.zero_add] at hc1
      rw [Nat.zero_add, List.nil_append] at r_x
      go_wp2_with (refine wpl_build (by rfl) rfl ul_u8 info_u8 [.const (.int .u8 247), .tmp 122] (by rfl) (by rfl) (by decide) (f := u8v) [247, d] (by rfl) (fun _ => rfl) ?_)
      intro g2 wk31 b_g2 ek31 lo_g2 r_g2; refine Lib.hid ?_
      have hE := hE.t ek31
      have r_x := r_x.ext ek31
      clear ek31
      have Hbad := Lib.hid (Num.bad_short d hd6)
      have Hblt : Hid (∀ e ∈ [247, d], e < 256) := Lib.hid (fun e he => by
        simp at he; omega)
      have r_bad := r_g2
      generalize [247, d] = bd at r_bad Hbad Hblt
      clear r_g2
      have Hb1 := Lib.hid (Num.bad_read bd Hbad.out)
      have Hb2 := Lib.hid (Num.bad_last bd Hbad.out)
      have Hb3 := Lib.hid (Num.bad_int bd Hbad.out)
      have Hb4 := Lib.hid (Num.bad_split x Hx64.out bd Hbad.out)
      have Hb5 := Lib.hid (Num.bad_cmp1 bd Hbad.out [])
      have Hb6 := Lib.hid (Num.bad_cmp2 x Hx64.out bd Hb2.out)
      have Hblt2 : Hid (∀ d ∈ Num.form x ++ bd, d < 256) := Lib.hid (fun d hd => by
        rcases List.mem_append.1 hd with h | h
        · exact Hlx.out d h
        · exact Hblt.out d h)
      go_wp2_with fail
      refine (num_Read _ _ _ _ 0 _ r_bad Hblt.out (by simp only [maxLen]; omega)).mono ?_
      rw [Hb1.out]; unfold rets
      rintro e wy32 ⟨rfl, rfl⟩
      go_wp2_with fail
      refine (num_Last _ _ _ _ _ r_bad Hblt.out (by simp only [maxLen]; omega)).mono ?_
      rw [Hb2.out]; unfold rets
      rintro e wy33 ⟨rfl, rfl⟩
      go_wp2_with fail
      refine (num_Int _ _ _ _ 0 1 0 _ r_bad Hblt.out (by simp only [maxLen]; omega) (by omega) (by omega) (by omega) (by omega)).mono ?_
      rw [Hb3.out]; unfold irets
      rintro e wy34 ⟨rfl, rfl⟩
      go_wp2_with (refine wpl_build (by rfl) rfl ul_u8 info_u8 [] (by rfl) (by rfl) (by decide) (f := u8v) [] (by rfl) (fun _ => rfl) ?_)
      intro b_g1 wk35 blk_g1 er_g1 lo_g1 rd_g1; refine Lib.hid ?_
      have own_g1 : wk35.ownsRow wk31.heap.size 5 1 (.slice (some ⟨b_g1, 0, none⟩) 0 0) 0 (([] : List Nat).map u8v) := own_of_blk blk_g1 lo_g1 rfl (by simp [maxLen])
      clear blk_g1 rd_g1
      go_wp2_with (refine wpl_append (by rfl) rfl ul_u8 info_u8 rfl rfl own_g1 rfl (r_x.ext er_g1) (fun _ => rfl) (by simp only [maxLen]; omega) (by omega) er_g1.size ?_)
      intro a_g1 c_g1 wk36 ow_g1 gr_g1 _; refine Lib.hid ?_
      have er_g1 := er_g1.grown gr_g1 er_g1.size (fun k hk => (own_g1.lt k hk).1)
      clear gr_g1 own_g1; have own_g1 := ow_g1; clear ow_g1
      go_wp2_with (refine wpl_append (by rfl) rfl ul_u8 info_u8 rfl rfl own_g1 rfl (r_bad.ext er_g1) (fun _ => rfl) (by simp only [maxLen]; omega) (by omega) er_g1.size ?_)
      intro a_g1 c_g1 wk37 ow_g1 gr_g1 _; refine Lib.hid ?_
      have er_g1 := er_g1.grown gr_g1 er_g1.size (fun k hk => (own_g1.lt k hk).1)
      clear gr_g1 own_g1; have own_g1 := ow_g1; clear ow_g1
      have ex_g1 : Ext wk31 wk37 := er_g1
      have hE := hE.t ex_g1
      have r_x := r_x.ext ex_g1
      have r_bad := r_bad.ext ex_g1
      have r_w := Rd.of_own (f := u8v) (xs := Num.form x ++ bd) (by rw [List.map_append]; exact own_g1)
      go_wp2_with fail
      refine (num_Split _ _ _ _ _ r_w Hblt2.out (by omega)).mono ?_
      rw [Hb4.out]
      rintro e wk38 ⟨A5, n5, c5, rfl, r_5, ek38⟩
      have hE := hE.t ek38
      have r_x := r_x.ext ek38
      have r_bad := r_bad.ext ek38
      clear ek38
      obtain rfl : 0 = n5 := r_5.1
      go_wp2_with fail
      refine (num_Compare _ _ _ _ _ _ _ _ _ r_bad Rd.none_ Hblt.out (by simp) (by simp only [maxLen]; omega) (by simp only [maxLen]; omega)).mono ?_
      rw [Hb5.out]; unfold crets
      rintro e wy39 ⟨rfl, rfl⟩
      go_wp2_with fail
      refine (num_Compare _ _ _ _ _ _ _ _ _ r_x r_bad Hlx.out Hblt.out (by simp only [maxLen]; omega) (by simp only [maxLen]; omega)).mono ?_
      rw [Hb6.out]; unfold crets
      rintro e wy40 ⟨rfl, rfl⟩
      go_wp2_with fail
      have hcell : ∀ i : Nat, i < 6 → (wk38.alloc (.cells #[.int .i64 11, .int .i64 11, .int .i64 11, .int .i64 11, .int .i64 11, .int .i64 11] 26)).cell? ⟨wk38.heap.size, i, none⟩ = some (.int .i64 11) := by
        intro i hi
        rw [(Blk.new _ _ _).cell]
        rcases (by omega : i = 0 ∨ i = 1 ∨ i = 2 ∨ i = 3 ∨ i = 4 ∨ i = 5) with rfl | rfl | rfl | rfl | rfl | rfl <;> rfl
      have Hcell := Lib.hid hcell
      clear hcell
      go_loopw [175] (fun iv wr => ∃ i : Nat, i ≤ 6 ∧ iv = .int .i64 (i : Int) ∧ wr = wk38.alloc (.cells #[.int .i64 11, .int .i64 11, .int .i64 11, .int .i64 11, .int .i64 11, .int .i64 11] 26)) (fun iv _ => 6 - (intOf iv).toNat)
      case atStart => exact ⟨0, by omega, rfl, rfl⟩
      case round =>
        obtain ⟨i, hi, rfl, rfl⟩ := hrel
        by_cases hi6 : i < 6
        · have hc := Hcell.out i hi6
          have hi6' : (i : Int) < 6 := by omega
          go_wp2
          go_roundw
          case rel => exact ⟨i + 1, by omega, by go_num, trivial⟩
          case measure => simp [intOf]; omega
        · obtain rfl : i = 6 := by omega
          go_wp2
          go_ret
          exact ⟨rfl, hE.t (Ext.alloc _ _)⟩
  · · skip
      go_enter Try.func8, Try.ntmps8
      have hE := Ext.refl w
      go_wp2_with fail
      refine (awake _).mono ?_
      rintro e wk41 ⟨rfl, ek41⟩
      have hE := hE.t ek41
      clear ek41
      go_wp2_with fail
      refine (num_Append_new _ 0 [] x _ Dst.nil Hx64.out (by omega)).mono ?_
      rw [Hs.out]
      rintro e wk42 ⟨A1, c1, rfl, own1, ek42⟩
      have hE := hE.t ek42
      clear ek42
      have r_x := Rd.of_own own1
      have hc1 := own_cap own1
      rw [Nat.zero_add] at hc1
      rw [Nat.zero_add, List.nil_append] at r_x
      go_wp2_with (refine wpl_build (by rfl) rfl ul_u8 info_u8 [.const (.int .u8 255)] (by rfl) (by rfl) (by decide) (f := u8v) [255] (by rfl) (fun _ => rfl) ?_)
      intro b_g2 wk43 blk_g2 er_g2 lo_g2 rd_g2; refine Lib.hid ?_
      have own_g2 : wk43.ownsRow wk42.heap.size 5 1 (.slice (some ⟨b_g2, 0, none⟩) 1 1) 1 (([255] : List Nat).map u8v) := own_of_blk blk_g2 lo_g2 rfl (by simp [maxLen])
      clear blk_g2 rd_g2
      go_wp2_with (refine wpl_append (by rfl) rfl ul_u8 info_u8 rfl rfl own_g2 rfl (r_x.ext er_g2) (fun _ => rfl) (by simp only [maxLen]; omega) (by omega) er_g2.size ?_)
      intro a_g2 c_g2 wk44 ow_g2 gr_g2 _; refine Lib.hid ?_
      have er_g2 := er_g2.grown gr_g2 er_g2.size (fun k hk => (own_g2.lt k hk).1)
      clear gr_g2 own_g2; have own_g2 := ow_g2; clear ow_g2
      have ex_g2 : Ext wk42 wk44 := er_g2
      have hE := hE.t ex_g2
      have r_x := r_x.ext ex_g2
      have r_bad := Rd.of_own (f := u8v) (xs := 255 :: Num.form x) (by simpa using own_g2)
      have Hbad := Lib.hid (Num.bad_255 (Num.form x))
      have Hblt : Hid (∀ d ∈ 255 :: Num.form x, d < 256) := Lib.hid (fun d hd => by
        rcases List.mem_cons.1 hd with h | h
        · omega
        · exact Hlx.out d h)
      generalize 255 :: Num.form x = bd at *
      have Hb1 := Lib.hid (Num.bad_read bd Hbad.out)
      have Hb2 := Lib.hid (Num.bad_last bd Hbad.out)
      have Hb3 := Lib.hid (Num.bad_int bd Hbad.out)
      have Hb4 := Lib.hid (Num.bad_split x Hx64.out bd Hbad.out)
      have Hb5 := Lib.hid (Num.bad_cmp1 bd Hbad.out [])
      have Hb6 := Lib.hid (Num.bad_cmp2 x Hx64.out bd Hb2.out)
      have Hblt2 : Hid (∀ d ∈ Num.form x ++ bd, d < 256) := Lib.hid (fun d hd => by
        rcases List.mem_append.1 hd with h | h
        · exact Hlx.out d h
        · exact Hblt.out d h)
      go_wp2_with fail
      refine (num_Read _ _ _ _ 0 _ r_bad Hblt.out (by simp only [maxLen]; omega)).mono ?_
      rw [Hb1.out]; unfold rets
      rintro e wy45 ⟨rfl, rfl⟩
      go_wp2_with fail
      refine (num_Last _ _ _ _ _ r_bad Hblt.out (by simp only [maxLen]; omega)).mono ?_
      rw [Hb2.out]; unfold rets
      rintro e wy46 ⟨rfl, rfl⟩
      go_wp2_with fail
      refine (num_Int _ _ _ _ 0 1 0 _ r_bad Hblt.out (by simp only [maxLen]; omega) (by omega) (by omega) (by omega) (by omega)).mono ?_
      rw [Hb3.out]; unfold irets
      rintro e wy47 ⟨rfl, rfl⟩
      go_wp2_with (refine wpl_build (by rfl) rfl ul_u8 info_u8 [] (by rfl) (by rfl) (by decide) (f := u8v) [] (by rfl) (fun _ => rfl) ?_)
      intro b_g1 wk48 blk_g1 er_g1 lo_g1 rd_g1; refine Lib.hid ?_
      have own_g1 : wk48.ownsRow wk44.heap.size 5 1 (.slice (some ⟨b_g1, 0, none⟩) 0 0) 0 (([] : List Nat).map u8v) := own_of_blk blk_g1 lo_g1 rfl (by simp [maxLen])
      clear blk_g1 rd_g1
      go_wp2_with (refine wpl_append (by rfl) rfl ul_u8 info_u8 rfl rfl own_g1 rfl (r_x.ext er_g1) (fun _ => rfl) (by simp only [maxLen]; omega) (by omega) er_g1.size ?_)
      intro a_g1 c_g1 wk49 ow_g1 gr_g1 _; refine Lib.hid ?_
      have er_g1 := er_g1.grown gr_g1 er_g1.size (fun k hk => (own_g1.lt k hk).1)
      clear gr_g1 own_g1; have own_g1 := ow_g1; clear ow_g1
      go_wp2_with (refine wpl_append (by rfl) rfl ul_u8 info_u8 rfl rfl own_g1 rfl (r_bad.ext er_g1) (fun _ => rfl) (by simp only [maxLen]; omega) (by omega) er_g1.size ?_)
      intro a_g1 c_g1 wk50 ow_g1 gr_g1 _; refine Lib.hid ?_
      have er_g1 := er_g1.grown gr_g1 er_g1.size (fun k hk => (own_g1.lt k hk).1)
      clear gr_g1 own_g1; have own_g1 := ow_g1; clear ow_g1
      have ex_g1 : Ext wk44 wk50 := er_g1
      have hE := hE.t ex_g1
      have r_x := r_x.ext ex_g1
      have r_bad := r_bad.ext ex_g1
      have r_w := Rd.of_own (f := u8v) (xs := Num.form x ++ bd) (by rw [List.map_append]; exact own_g1)
      go_wp2_with fail
      refine (num_Split _ _ _ _ _ r_w Hblt2.out (by omega)).mono ?_
      rw [Hb4.out]
      rintro e wk51 ⟨A5, n5, c5, rfl, r_5, ek51⟩
      have hE := hE.t ek51
      have r_x := r_x.ext ek51
      have r_bad := r_bad.ext ek51
      clear ek51
      obtain rfl : 0 = n5 := r_5.1
      go_wp2_with fail
      refine (num_Compare _ _ _ _ _ _ _ _ _ r_bad Rd.none_ Hblt.out (by simp) (by simp only [maxLen]; omega) (by simp only [maxLen]; omega)).mono ?_
      rw [Hb5.out]; unfold crets
      rintro e wy52 ⟨rfl, rfl⟩
      go_wp2_with fail
      refine (num_Compare _ _ _ _ _ _ _ _ _ r_x r_bad Hlx.out Hblt.out (by simp only [maxLen]; omega) (by simp only [maxLen]; omega)).mono ?_
      rw [Hb6.out]; unfold crets
      rintro e wy53 ⟨rfl, rfl⟩
      go_wp2_with fail
      have hcell : ∀ i : Nat, i < 6 → (wk51.alloc (.cells #[.int .i64 11, .int .i64 11, .int .i64 11, .int .i64 11, .int .i64 11, .int .i64 11] 26)).cell? ⟨wk51.heap.size, i, none⟩ = some (.int .i64 11) := by
        intro i hi
        rw [(Blk.new _ _ _).cell]
        rcases (by omega : i = 0 ∨ i = 1 ∨ i = 2 ∨ i = 3 ∨ i = 4 ∨ i = 5) with rfl | rfl | rfl | rfl | rfl | rfl <;> rfl
      have Hcell := Lib.hid hcell
      clear hcell
      go_loopw [175] (fun iv wr => ∃ i : Nat, i ≤ 6 ∧ iv = .int .i64 (i : Int) ∧ wr = wk51.alloc (.cells #[.int .i64 11, .int .i64 11, .int .i64 11, .int .i64 11, .int .i64 11, .int .i64 11] 26)) (fun iv _ => 6 - (intOf iv).toNat)
      case atStart => exact ⟨0, by omega, rfl, rfl⟩
      case round =>
        obtain ⟨i, hi, rfl, rfl⟩ := hrel
        by_cases hi6 : i < 6
        · have hc := Hcell.out i hi6
          have hi6' : (i : Int) < 6 := by omega
          go_wp2
          go_roundw
          case rel => exact ⟨i + 1, by omega, by go_num, trivial⟩
          case measure => simp [intOf]; omega
        · obtain rfl : i = 6 := by omega
          go_wp2
          go_ret
          exact ⟨rfl, hE.t (Ext.alloc _ _)⟩
  · have hu : IntKind.u8.wrap (x : Int) = ((x % 256 : Nat) : Int) := by rw [IntKind.wrap_u8]; omega
    obtain ⟨d, hd⟩ : ∃ d : Nat, x % 256 = d := ⟨_, rfl⟩
    have hd6 : d < 256 := by omega
    rw [hd] at hu
    clear hd
    have hd7 : (d : Int) < 256 := by omega
    · skip
      go_enter Try.func8, Try.ntmps8
      have hE := Ext.refl w
      go_wp2_with fail
      refine (awake _).mono ?_
      rintro e wk54 ⟨rfl, ek54⟩
      have hE := hE.t ek54
      clear ek54
      go_wp2_with fail
      refine (num_Append_new _ 0 [] x _ Dst.nil Hx64.out (by omega)).mono ?_
      rw [Hs.out]
      rintro e wk55 ⟨A1, c1, rfl, own1, ek55⟩
      have hE := hE.t ek55
      clear ek55
      have r_x := Rd.of_own own1
      have hc1 := own_cap own1
      rw [Nat.zero_add] at hc1
      rw [Nat.zero_add, List.nil_append] at r_x
      go_wp2_with (refine wpl_build (by rfl) rfl ul_u8 info_u8 [] (by rfl) (by rfl) (by decide) (f := u8v) [] (by rfl) (fun _ => rfl) ?_)
      intro b_g2 wk56 blk_g2 er_g2 lo_g2 rd_g2; refine Lib.hid ?_
      have own_g2 : wk56.ownsRow wk55.heap.size 5 1 (.slice (some ⟨b_g2, 0, none⟩) 0 0) 0 (([] : List Nat).map u8v) := own_of_blk blk_g2 lo_g2 rfl (by simp [maxLen])
      clear blk_g2 rd_g2
      go_wp2_with (refine wpl_append (by rfl) rfl ul_u8 info_u8 rfl rfl own_g2 rfl (r_x.ext er_g2) (fun _ => rfl) (by simp only [maxLen]; omega) (by omega) er_g2.size ?_)
      intro a_g2 c_g2 wk57 ow_g2 gr_g2 _; refine Lib.hid ?_
      have er_g2 := er_g2.grown gr_g2 er_g2.size (fun k hk => (own_g2.lt k hk).1)
      clear gr_g2 own_g2; have own_g2 := ow_g2; clear ow_g2
      go_wp2_with (at_builtin; refine wpList_append_dst _ rfl rfl Try.underlying24 info_u8 rfl (by omega) rfl ((Dst.of_own own_g2).alloc _) rfl (news := [_]) rfl (cell_one_new _ _ _) (by simp [Value.oneCell']) (by omega) (by simp only [maxLen]; omega) (by omega) (by have := er_g2.size; simp; omega) ?_; intro g3 cap3 wz own3 grow3 _ _)
      have ez : Ext wk55 wz := (er_g2.t (Ext.alloc _ _)).grown grow3 (by have := er_g2.size; simp; omega) (fun k hk => (own_g2.lt k hk).1)
      have hE := hE.t ez
      have r_x := r_x.ext ez
      have r_bad := Rd.of_own (f := u8v) (xs := Num.form x ++ [d]) (by simpa using own3)
      clear ez own3 grow3
      have Hblt : Hid (∀ e ∈ Num.form x ++ [d], e < 256) := Lib.hid (fun e he => by
        rcases List.mem_append.1 he with h | h
        · exact Hlx.out e h
        · simp at h; omega)
      have Hb2 := Lib.hid (Num.behind_last x d Hx64.out)
      have Hb5 := Lib.hid (Num.bad_cmp1' _ Hb2.out [255])
      have Hb6 := Lib.hid (Num.bad_cmp2 x Hx64.out _ Hb2.out)
      have Hb1 := Lib.hid (Num.readAt_form x Hx64.out [d])
      rw [Hs.out] at Hb1
      generalize Num.form x ++ [d] = bd at r_bad Hblt Hb1 Hb2 Hb5 Hb6
      go_wp2_with fail
      refine (num_Last _ _ _ _ _ r_bad Hblt.out (by simp only [maxLen]; omega)).mono ?_
      rw [Hb2.out]; unfold rets
      rintro e wy58 ⟨rfl, rfl⟩
      go_wp2_with (refine wpl_build (by rfl) rfl ul_u8 info_u8 [.const (.int .u8 255)] (by rfl) (by rfl) (by decide) (f := u8v) [255] (by rfl) (fun _ => rfl) ?_)
      intro g5 wk59 b_g5 ek59 lo_g5 r_g5; refine Lib.hid ?_
      have hE := hE.t ek59
      have r_x := r_x.ext ek59
      have r_bad := r_bad.ext ek59
      clear ek59
      go_wp2_with fail
      refine (num_Compare _ _ _ _ _ _ _ _ _ r_bad r_g5 Hblt.out (by simp) (by simp only [maxLen]; omega) (by simp only [maxLen]; omega)).mono ?_
      rw [Hb5.out]; unfold crets
      rintro e wy60 ⟨rfl, rfl⟩
      go_wp2_with fail
      refine (num_Compare _ _ _ _ _ _ _ _ _ r_x r_bad Hlx.out Hblt.out (by simp only [maxLen]; omega) (by simp only [maxLen]; omega)).mono ?_
      rw [Hb6.out]; unfold crets
      rintro e wy61 ⟨rfl, rfl⟩
      go_wp2_with fail
      refine (num_Read _ _ _ _ 0 _ r_bad Hblt.out (by simp only [maxLen]; omega)).mono ?_
      rw [Hb1.out]; unfold rets
      rintro e wy62 ⟨rfl, rfl⟩
      go_wp2_with fail
      go_ret
      exact ⟨rfl, hE⟩
end Go.Proofs.Ytidjimkhppfjjaa
