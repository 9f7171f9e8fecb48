/- NumLimits: the walk of the law. -/
import Derived.Test.YtidjimkhppfjjaaNumA
import Derived.Test.YtidjimkhppfjjaaOpen
import Derived.Test.YtidjimkhppfjjaaMore
namespace Go.Fx.Num
theorem intAt_of (b : List Nat) (at_ least most : Int) (r : Nat × Nat × Nat) (h : readAt b at_ = r) : intAt b at_ least most = if r.2.2 ≠ 0 then (0, 0, r.2.2) else if most < 0 ∨ most < (r.1 : Int) ∨ (0 < least ∧ (r.1 : Int) < least) then (0, 0, 12) else (r.1, r.2.1, 0) := by
  unfold intAt; rw [h]
theorem lim_read (x : Nat) (hx : x < 18446744073709551616) : readAt ([9, 9] ++ form x) 2 = (x, size x, 0) := by
  unfold readAt
  rw [if_neg (by simp; omega)]
  have e : List.drop (2 : Int).toNat ([9, 9] ++ form x) = form x ++ [] := by simp
  rw [e, readF_form x hx]
theorem lim_cut (x : Nat) : readAt (([9, 9] ++ form x).take (2 + size x - 1)) 2 = (0, 0, 10) := by
  have h1 := size_pos x
  unfold readAt
  rw [if_neg (by simp [form_length]; omega)]
  have e : List.drop (2 : Int).toNat (([9, 9] ++ form x).take (2 + size x - 1)) = (form x).take (size x - 1) := by
    rw [List.drop_take]; simp
    rw [show 1 + size x - 2 = size x - 1 by omega]
  rw [e, readF_cut x _ (by omega)]
theorem lim_far (b : List Nat) (at_ : Int) (h : at_ < 0 ∨ (b.length : Int) < at_) : readAt b at_ = (0, 0, 2) := by
  unfold readAt; rw [if_pos h]
theorem lim_end (b : List Nat) : readAt b b.length = (0, 0, 10) := by
  unfold readAt; rw [if_neg (by omega), Int.toNat_natCast, List.drop_length]; rfl
theorem lim_lt (x : Nat) : ∀ d ∈ [9, 9] ++ form x, d < 256 := by
  intro d hd
  rcases List.mem_append.1 hd with h | h
  · simp at h; omega
  · exact form_lt x d h
end Go.Fx.Num
namespace Go.Proofs.Ytidjimkhppfjjaa
open Go.RowKit Go.Fx Go.ChangeShapes Go.WideShapes
theorem ex_l2 : Num.intAt [255] 0 1 0 = (0, 0, 11) := by decide +kernel
theorem and_u64_63 (x : Nat) (h : x ≤ 9223372036854775807) : bits .and .u64 (x : Int) 9223372036854775807 = (x : Int) := by
  have h1 := u64_and_nat x 9223372036854775807 (by omega) (by omega)
  have h2 : x &&& 9223372036854775807 = x := by
    have := Nat.and_two_pow_sub_one_eq_mod x 63
    rw [show 2 ^ 63 - 1 = 9223372036854775807 by rfl] at this
    rw [this]; omega
  rw [h2] at h1
  exact h1

set_option maxRecDepth 100000 in
set_option maxHeartbeats 4000000 in
theorem walkNumLimits (xi least most at_ : Int) (w : World) (hx : (Lit.int .u64 xi).wf = true) (hl : (Lit.int .i64 least).wf = true) (hm : (Lit.int .i64 most).wf = true) (ha : (Lit.int .i64 at_).wf = true) :
    Calls Try.prog 3 #[.int .u64 xi, .int .i64 least, .int .i64 most, .int .i64 at_] w fun e w' => e = .returned (.bool true) ∧ Below w.heap.size w w' := by
  have hx := bounds_u64 hx
  have hl := bounds_i64 hl
  have hm := bounds_i64 hm
  have ha := bounds_i64 ha
  obtain ⟨x, rfl⟩ := Int.eq_ofNat_of_zero_le hx.1
  have hx64 : x < 18446744073709551616 := by omega
  have hs1 := Num.size_pos x
  have hs9 := Num.size_le x
  obtain ⟨s, Hs⟩ : ∃ s, Hid (Num.size x = s) := ⟨_, Lib.hid rfl⟩
  have Hread := Lib.hid (Num.lim_read x hx64)
  have Hcut := Lib.hid (Num.lim_cut x)
  have Hlt := Lib.hid (Num.lim_lt x)
  have Hlen : Hid (([9, 9] ++ Num.form x).length = 2 + s) := Lib.hid (by rw [List.length_append, Num.form_length, Hs.out]; rfl)
  have Hend : Hid (Num.readAt ([9, 9] ++ Num.form x) (2 + (s : Int)) = (0, 0, 10)) := Lib.hid (by
    have := Num.lim_end ([9, 9] ++ Num.form x)
    rw [Hlen.out] at this; exact this)
  have Hx64 := Lib.hid hx64
  have Hx := Lib.hid hx
  clear hx64 hx
  rw [Hs.out] at Hread Hcut hs1 hs9
  have Hcut1 : Hid (Num.intAt (List.take (1 + s) ([9, 9] ++ Num.form x)) 2 1 0 = (0, 0, 10)) := Lib.hid (by
    rw [Num.intAt_of _ _ _ _ (0, 0, 10) (by rw [show 1 + s = 2 + s - 1 by omega]; exact Hcut.out)]; rfl)
  have Hlt1 : Hid (∀ d ∈ List.take (1 + s) ([9, 9] ++ Num.form x), d < 256) := Lib.hid (fun d hd => Hlt.out d (List.mem_of_mem_take hd))
  clear Hcut
  go_enter Try.func3, Try.ntmps3
  have hE := Ext.refl w
  go_wp2_with fail
  refine (awake _).mono ?_
  rintro e wk1 ⟨rfl, ek1⟩
  have hE := hE.t ek1
  clear ek1
  have hE1 := hE.size
  go_wp2_with (refine wpl_build (by rfl) rfl ul_u8 info_u8 [.const (.int .u8 9), .const (.int .u8 9)] (by rfl) (by rfl) (by decide) (f := u8v) [9, 9] (by rfl) (fun _ => rfl) ?_)
  intro g1 wk2 b_g1 ek2 lo_g1 r_g1; refine Lib.hid ?_
  have hE := hE.t ek2
  clear ek2
  go_wp2_with fail
  refine (num_Append g1 _ 2 [9, 9] _ x _ (Dst.of_own (own_of_blk b_g1 (Nat.le_refl _) rfl (by simp [maxLen]))) (by have := b_g1.lt; omega) Hx64.out (by omega)).mono ?_
  rw [Hs.out]
  rintro e wy3 ⟨g2, c2, rfl, hown, hgrow, _⟩
  have hE := hE.grown hgrow hE.size (fun k hk => by have h1 : g1 = k := by simpa [Value.ownBlock] using hk
                                                    subst h1; exact Nat.le_trans hE1 lo_g1)
  have r_f := Rd.of_own hown
  have hcap : 1 ≤ 2 + (s : Int) ∧ 2 + (s : Int) - 1 ≤ (c2 : Int) := by
    have := own_cap hown
    omega
  clear hown hgrow b_g1 r_g1
  go_wp2_with fail
  refine (num_Int _ _ _ _ 2 least most _ r_f Hlt.out (by simp [maxLen]; omega) hl.1 hl.2 hm.1 hm.2).mono ?_
  rw [Num.intAt_of _ _ _ _ _ Hread.out]
  rintro e wy4 ⟨rfl, rfl⟩
  have hc : ((x : Int) ≤ 9223372036854775807 ∧ least ≤ x ∧ x ≤ most) ∨ (9223372036854775807 < (x : Int)) ∨ ((x : Int) ≤ 9223372036854775807 ∧ x < least) ∨ ((x : Int) ≤ 9223372036854775807 ∧ least ≤ x ∧ most < x) := by omega
  rcases hc with ⟨h1, h2, h3⟩ | h1 | ⟨h1, h2⟩ | ⟨h1, h2, h3⟩
  · rw [if_neg (by simp), if_neg (by omega)]
    simp only [irets]
    have hand := and_u64_63 x (by omega)
    go_wp2_with fail
    refine (num_Size x _ Hx64.out).mono ?_
    rw [Hs.out]
    rintro e wy5 ⟨rfl, rfl⟩
    go_wp2_with fail
    refine (num_Int _ _ _ _ 2 1 0 _ (r_f.take (k := 1 + s) (by omega)) Hlt1.out (by simp [maxLen]; omega) (by omega) (by omega) (by omega) (by omega)).mono ?_
    rw [Hcut1.out]
    rintro e wy6 ⟨rfl, rfl⟩
    simp only [irets]
    go_wp2_with (refine wpl_build (by rfl) rfl ul_u8 info_u8 [.const (.int .u8 255)] (by rfl) (by rfl) (by decide) (f := u8v) [255] (by rfl) (fun _ => rfl) ?_)
    intro g3 wk7 b_g3 ek7 lo_g3 r_g3; refine Lib.hid ?_
    have hE := hE.t ek7
    have r_f := r_f.ext ek7
    clear ek7
    go_wp2_with fail
    refine (num_Int _ _ _ _ 0 1 0 _ r_g3 (by simp) (by simp [maxLen]) (by omega) (by omega) (by omega) (by omega)).mono ?_
    rw [ex_l2]
    rintro e wy8 ⟨rfl, rfl⟩
    simp only [irets]
    go_wp2_with fail
    all_goals
      refine (num_Int _ _ _ _ _ 1 0 _ r_f Hlt.out (by simp [maxLen]; omega) (by omega) (by omega) (by omega) (by omega)).mono ?_
      rw [Num.intAt_of _ _ _ _ _ (Num.lim_far _ _ (by rw [Hlen.out]; omega)), if_pos (by decide)]
      rintro e wz ⟨rfl, rfl⟩
      simp only [irets]
      go_wp2_with fail
      all_goals
        refine (num_Read _ _ _ _ _ _ r_f Hlt.out (by simp [maxLen]; omega)).mono ?_
        rw [Num.lim_far _ _ (by rw [Hlen.out]; omega)]
        rintro e wz ⟨rfl, rfl⟩
        simp only [rets]
        go_wp2_with fail
        refine (num_Read _ _ _ _ _ _ r_f Hlt.out (by simp [maxLen]; omega)).mono ?_
        rw [Hend.out]
        rintro e wz ⟨rfl, rfl⟩
        simp only [rets]
        go_wp2_with fail
        go_ret
        exact ⟨rfl, hE⟩
  · rw [if_neg (by simp), if_pos (by omega)]
    simp only [irets]
    go_wp2_with fail
    refine (num_Int _ _ _ _ 2 1 0 _ (r_f.take (k := 1 + s) (by omega)) Hlt1.out (by simp [maxLen]; omega) (by omega) (by omega) (by omega) (by omega)).mono ?_
    rw [Hcut1.out]
    rintro e wy9 ⟨rfl, rfl⟩
    simp only [irets]
    go_wp2_with (refine wpl_build (by rfl) rfl ul_u8 info_u8 [.const (.int .u8 255)] (by rfl) (by rfl) (by decide) (f := u8v) [255] (by rfl) (fun _ => rfl) ?_)
    intro g3 wk10 b_g3 ek10 lo_g3 r_g3; refine Lib.hid ?_
    have hE := hE.t ek10
    have r_f := r_f.ext ek10
    clear ek10
    go_wp2_with fail
    refine (num_Int _ _ _ _ 0 1 0 _ r_g3 (by simp) (by simp [maxLen]) (by omega) (by omega) (by omega) (by omega)).mono ?_
    rw [ex_l2]
    rintro e wy11 ⟨rfl, rfl⟩
    simp only [irets]
    go_wp2_with fail
    all_goals
      refine (num_Int _ _ _ _ _ 1 0 _ r_f Hlt.out (by simp [maxLen]; omega) (by omega) (by omega) (by omega) (by omega)).mono ?_
      rw [Num.intAt_of _ _ _ _ _ (Num.lim_far _ _ (by rw [Hlen.out]; omega)), if_pos (by decide)]
      rintro e wz ⟨rfl, rfl⟩
      simp only [irets]
      go_wp2_with fail
      all_goals
        refine (num_Read _ _ _ _ _ _ r_f Hlt.out (by simp [maxLen]; omega)).mono ?_
        rw [Num.lim_far _ _ (by rw [Hlen.out]; omega)]
        rintro e wz ⟨rfl, rfl⟩
        simp only [rets]
        go_wp2_with fail
        refine (num_Read _ _ _ _ _ _ r_f Hlt.out (by simp [maxLen]; omega)).mono ?_
        rw [Hend.out]
        rintro e wz ⟨rfl, rfl⟩
        simp only [rets]
        go_wp2_with fail
        go_ret
        exact ⟨rfl, hE⟩
  · rw [if_neg (by simp), if_pos (by omega)]
    simp only [irets]
    have hand := and_u64_63 x (by omega)
    go_wp2_with fail
    refine (num_Int _ _ _ _ 2 1 0 _ (r_f.take (k := 1 + s) (by omega)) Hlt1.out (by simp [maxLen]; omega) (by omega) (by omega) (by omega) (by omega)).mono ?_
    rw [Hcut1.out]
    rintro e wy12 ⟨rfl, rfl⟩
    simp only [irets]
    go_wp2_with (refine wpl_build (by rfl) rfl ul_u8 info_u8 [.const (.int .u8 255)] (by rfl) (by rfl) (by decide) (f := u8v) [255] (by rfl) (fun _ => rfl) ?_)
    intro g3 wk13 b_g3 ek13 lo_g3 r_g3; refine Lib.hid ?_
    have hE := hE.t ek13
    have r_f := r_f.ext ek13
    clear ek13
    go_wp2_with fail
    refine (num_Int _ _ _ _ 0 1 0 _ r_g3 (by simp) (by simp [maxLen]) (by omega) (by omega) (by omega) (by omega)).mono ?_
    rw [ex_l2]
    rintro e wy14 ⟨rfl, rfl⟩
    simp only [irets]
    go_wp2_with fail
    all_goals
      refine (num_Int _ _ _ _ _ 1 0 _ r_f Hlt.out (by simp [maxLen]; omega) (by omega) (by omega) (by omega) (by omega)).mono ?_
      rw [Num.intAt_of _ _ _ _ _ (Num.lim_far _ _ (by rw [Hlen.out]; omega)), if_pos (by decide)]
      rintro e wz ⟨rfl, rfl⟩
      simp only [irets]
      go_wp2_with fail
      all_goals
        refine (num_Read _ _ _ _ _ _ r_f Hlt.out (by simp [maxLen]; omega)).mono ?_
        rw [Num.lim_far _ _ (by rw [Hlen.out]; omega)]
        rintro e wz ⟨rfl, rfl⟩
        simp only [rets]
        go_wp2_with fail
        refine (num_Read _ _ _ _ _ _ r_f Hlt.out (by simp [maxLen]; omega)).mono ?_
        rw [Hend.out]
        rintro e wz ⟨rfl, rfl⟩
        simp only [rets]
        go_wp2_with fail
        go_ret
        exact ⟨rfl, hE⟩
  · rw [if_neg (by simp), if_pos (by omega)]
    simp only [irets]
    have hand := and_u64_63 x (by omega)
    go_wp2_with fail
    refine (num_Int _ _ _ _ 2 1 0 _ (r_f.take (k := 1 + s) (by omega)) Hlt1.out (by simp [maxLen]; omega) (by omega) (by omega) (by omega) (by omega)).mono ?_
    rw [Hcut1.out]
    rintro e wy15 ⟨rfl, rfl⟩
    simp only [irets]
    go_wp2_with (refine wpl_build (by rfl) rfl ul_u8 info_u8 [.const (.int .u8 255)] (by rfl) (by rfl) (by decide) (f := u8v) [255] (by rfl) (fun _ => rfl) ?_)
    intro g3 wk16 b_g3 ek16 lo_g3 r_g3; refine Lib.hid ?_
    have hE := hE.t ek16
    have r_f := r_f.ext ek16
    clear ek16
    go_wp2_with fail
    refine (num_Int _ _ _ _ 0 1 0 _ r_g3 (by simp) (by simp [maxLen]) (by omega) (by omega) (by omega) (by omega)).mono ?_
    rw [ex_l2]
    rintro e wy17 ⟨rfl, rfl⟩
    simp only [irets]
    go_wp2_with fail
    all_goals
      refine (num_Int _ _ _ _ _ 1 0 _ r_f Hlt.out (by simp [maxLen]; omega) (by omega) (by omega) (by omega) (by omega)).mono ?_
      rw [Num.intAt_of _ _ _ _ _ (Num.lim_far _ _ (by rw [Hlen.out]; omega)), if_pos (by decide)]
      rintro e wz ⟨rfl, rfl⟩
      simp only [irets]
      go_wp2_with fail
      all_goals
        refine (num_Read _ _ _ _ _ _ r_f Hlt.out (by simp [maxLen]; omega)).mono ?_
        rw [Num.lim_far _ _ (by rw [Hlen.out]; omega)]
        rintro e wz ⟨rfl, rfl⟩
        simp only [rets]
        go_wp2_with fail
        refine (num_Read _ _ _ _ _ _ r_f Hlt.out (by simp [maxLen]; omega)).mono ?_
        rw [Hend.out]
        rintro e wz ⟨rfl, rfl⟩
        simp only [rets]
        go_wp2_with fail
        go_ret
        exact ⟨rfl, hE⟩
end Go.Proofs.Ytidjimkhppfjjaa
