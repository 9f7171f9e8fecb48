/- NumWrites: the walk of the law. -/
import Derived.Test.YtidjimkhppfjjaaNumA
import Derived.Test.YtidjimkhppfjjaaRefD
import Derived.Test.YtidjimkhppfjjaaOpen
namespace Go.Proofs.Ytidjimkhppfjjaa
open Go.RowKit Go.Fx Go.ChangeShapes Go.WideShapes

set_option maxRecDepth 100000 in
set_option maxHeartbeats 2000000 in
theorem writes_ (x : Nat) (y : Int) (A : Option Addr) (n c : Nat) (b : List Nat) (w : World) (hx : x < 18446744073709551616) (hy : -9223372036854775808 ≤ y ∧ y ≤ 9223372036854775807) (hA : Arg .u8 256 w A n c b) :
    Calls Try.prog 16 #[.int .u64 x, .int .i64 y, .slice A n c] w fun e w' => e = .returned (.bool true) ∧ Ext w w' := by
  have r_b : Rd u8v w A n b := hA.rd
  have hle := hA.le
  have hmx : c ≤ 9223372036854775807 := hA.max
  have hmx' : (c : Int) ≤ 9223372036854775807 := by omega
  obtain ⟨s, Hs⟩ : ∃ s, Hid (Num.size x = s) := ⟨_, Lib.hid rfl⟩
  have Hx64 := Lib.hid hx
  have hs1 := Num.size_pos x
  have hs9 := Num.size_le x
  rw [Hs.out] at hs1 hs9
  clear hx hA
  rcases (by omega : n ≤ 100 ∨ 100 < n) with h100 | h100
  · have h1 : (n : Int) ≤ 100 := by omega
    have h2 : (n : Int) ≤ (c : Int) := by omega
    go_enter Try.func16, Try.ntmps16
    have hE := Ext.refl w
    go_wp2_with (refine wpl_build (by rfl) rfl ul_u8 info_u8 [] (by rfl) (by rfl) (by decide) (f := u8v) [] (by rfl) (fun _ => rfl) ?_)
    intro b_g1 wk1 blk_g1 er_g1 lo_g1 rd_g1; refine Lib.hid ?_
    have own_g1 : wk1.ownsRow w.heap.size 5 1 (.slice (some ⟨b_g1, 0, none⟩) 0 0) 0 (([] : List Nat).map u8v) := own_of_blk blk_g1 lo_g1 rfl (by simp [maxLen])
    clear blk_g1 rd_g1
    go_wp2_with (refine wpl_append (by rfl) rfl ul_u8 info_u8 rfl rfl own_g1 rfl (r_b.ext er_g1) (fun _ => rfl) (by simp only [maxLen]; omega) (by omega) er_g1.size ?_)
    intro a_g1 c_g1 wk2 ow_g1 gr_g1 _; refine Lib.hid ?_
    have er_g1 := er_g1.grown gr_g1 er_g1.size (fun k hk => (own_g1.lt k hk).1)
    clear gr_g1 own_g1; have own_g1 := ow_g1; clear ow_g1
    have ex_g1 : Ext w wk2 := er_g1
    have hE := hE.t ex_g1
    have r_b := r_b.ext ex_g1
    have r_g1 := Rd.of_own own_g1
    have hcap := own_cap own_g1
    have hcap' : ((n : Nat) : Int) ≤ (c_g1 : Int) := by omega
    go_wp2_with fail
    refine (num_Append_new _ n b x _ (Dst.full r_g1) Hx64.out (by omega)).mono ?_
    rw [Hs.out]
    rintro e wk3 ⟨A2, c2, rfl, hown, ek3⟩
    have hE := hE.t ek3
    have r_b := r_b.ext ek3
    have r_g1 := r_g1.ext ek3
    clear ek3
    have r_out := Rd.of_own hown
    go_wp2_with fail
    refine (ref_Form x _ Hx64.out).mono ?_
    rw [Hs.out]
    rintro e wk4 ⟨A3, c3, rfl, hown3, ek4⟩
    have hE := hE.t ek4
    have r_b := r_b.ext ek4
    have r_g1 := r_g1.ext ek4
    have r_out := r_out.ext ek4
    clear ek4
    have r_f := Rd.of_own hown3
    go_wp2_with fail
    refine (num_Size x _ Hx64.out).mono ?_
    rw [Hs.out]
    rintro e wy5 ⟨rfl, rfl⟩
    go_wp2_with (refine wpl_build (by rfl) rfl ul_u8 info_u8 [] (by rfl) (by rfl) (by decide) (f := u8v) [] (by rfl) (fun _ => rfl) ?_)
    intro b_g4 wk6 blk_g4 er_g4 lo_g4 rd_g4; refine Lib.hid ?_
    have own_g4 : wk6.ownsRow wk4.heap.size 5 1 (.slice (some ⟨b_g4, 0, none⟩) 0 0) 0 (([] : List Nat).map u8v) := own_of_blk blk_g4 lo_g4 rfl (by simp [maxLen])
    clear blk_g4 rd_g4
    go_wp2_with (refine wpl_append (by rfl) rfl ul_u8 info_u8 rfl rfl own_g4 rfl (r_b.ext er_g4) (fun _ => rfl) (by simp only [maxLen]; omega) (by omega) er_g4.size ?_)
    intro a_g4 c_g4 wk7 ow_g4 gr_g4 _; refine Lib.hid ?_
    have er_g4 := er_g4.grown gr_g4 er_g4.size (fun k hk => (own_g4.lt k hk).1)
    clear gr_g4 own_g4; have own_g4 := ow_g4; clear ow_g4
    go_wp2_with (refine wpl_append (by rfl) rfl ul_u8 info_u8 rfl rfl own_g4 rfl (r_f.ext er_g4) (fun _ => rfl) (by simp only [maxLen]; omega) (by omega) er_g4.size ?_)
    intro a_g4 c_g4 wk8 ow_g4 gr_g4 _; refine Lib.hid ?_
    have er_g4 := er_g4.grown gr_g4 er_g4.size (fun k hk => (own_g4.lt k hk).1)
    clear gr_g4 own_g4; have own_g4 := ow_g4; clear ow_g4
    have ex_g4 : Ext wk4 wk8 := er_g4
    have hE := hE.t ex_g4
    have r_b := r_b.ext ex_g4
    have r_g1 := r_g1.ext ex_g4
    have r_out := r_out.ext ex_g4
    have r_f := r_f.ext ex_g4
    have r_w := Rd.of_own (f := u8v) (xs := b ++ Num.form x) (by rw [List.map_append]; exact own_g4)
    go_wp2_with fail
    refine (sameBytes _ _ _ _ _ _ _ _ _ r_out r_w (by simp only [maxLen]; omega) (by simp only [maxLen]; omega)).mono ?_
    rintro e wk9 ⟨rfl, ek9⟩
    have hE := hE.t ek9
    have r_b := r_b.ext ek9
    have r_g1 := r_g1.ext ek9
    have r_out := r_out.ext ek9
    have r_f := r_f.ext ek9
    have r_w := r_w.ext ek9
    clear ek9
    go_wp2_with fail
    refine (sameBytes _ _ _ _ _ _ _ _ _ r_g1 r_b (by simp only [maxLen]; omega) (by simp only [maxLen]; omega)).mono ?_
    rintro e wk10 ⟨rfl, ek10⟩
    have hE := hE.t ek10
    have r_b := r_b.ext ek10
    have r_g1 := r_g1.ext ek10
    have r_out := r_out.ext ek10
    have r_f := r_f.ext ek10
    have r_w := r_w.ext ek10
    clear ek10
    go_wp2_with fail
    refine (num_Fold y _ hy.1 hy.2).mono ?_
    rintro e wy11 ⟨rfl, rfl⟩
    go_wp2_with fail
    refine (ref_Fold y _ hy.1 hy.2).mono ?_
    rintro e wy12 ⟨rfl, rfl⟩
    go_wp2_with fail
    refine (num_Unfold x _ (by omega) (by have := Hx64.out; omega)).mono ?_
    rintro e wy13 ⟨rfl, rfl⟩
    go_wp2_with fail
    refine (ref_Unfold x _ (by omega) (by have := Hx64.out; omega)).mono ?_
    rintro e wy14 ⟨rfl, rfl⟩
    go_wp2_with fail
    go_ret
    exact ⟨rfl, hE⟩
  · have h1 : (100 : Int) < (n : Int) := by omega
    have h2 : (100 : Int) ≤ (c : Int) := by omega
    have r_b := r_b.take (k := 100) (by omega)
    generalize b.take 100 = b at r_b
    go_enter Try.func16, Try.ntmps16
    have hE := Ext.refl w
    go_wp2_with (refine wpl_build (by rfl) rfl ul_u8 info_u8 [] (by rfl) (by rfl) (by decide) (f := u8v) [] (by rfl) (fun _ => rfl) ?_)
    intro b_g1 wk15 blk_g1 er_g1 lo_g1 rd_g1; refine Lib.hid ?_
    have own_g1 : wk15.ownsRow w.heap.size 5 1 (.slice (some ⟨b_g1, 0, none⟩) 0 0) 0 (([] : List Nat).map u8v) := own_of_blk blk_g1 lo_g1 rfl (by simp [maxLen])
    clear blk_g1 rd_g1
    go_wp2_with (refine wpl_append (by rfl) rfl ul_u8 info_u8 rfl rfl own_g1 rfl (r_b.ext er_g1) (fun _ => rfl) (by simp only [maxLen]; omega) (by omega) er_g1.size ?_)
    intro a_g1 c_g1 wk16 ow_g1 gr_g1 _; refine Lib.hid ?_
    have er_g1 := er_g1.grown gr_g1 er_g1.size (fun k hk => (own_g1.lt k hk).1)
    clear gr_g1 own_g1; have own_g1 := ow_g1; clear ow_g1
    have ex_g1 : Ext w wk16 := er_g1
    have hE := hE.t ex_g1
    have r_b := r_b.ext ex_g1
    have r_g1 := Rd.of_own own_g1
    have hcap := own_cap own_g1
    have hcap' : ((100 : Nat) : Int) ≤ (c_g1 : Int) := by omega
    go_wp2_with fail
    refine (num_Append_new _ 100 b x _ (Dst.full r_g1) Hx64.out (by omega)).mono ?_
    rw [Hs.out]
    rintro e wk17 ⟨A2, c2, rfl, hown, ek17⟩
    have hE := hE.t ek17
    have r_b := r_b.ext ek17
    have r_g1 := r_g1.ext ek17
    clear ek17
    have r_out := Rd.of_own hown
    go_wp2_with fail
    refine (ref_Form x _ Hx64.out).mono ?_
    rw [Hs.out]
    rintro e wk18 ⟨A3, c3, rfl, hown3, ek18⟩
    have hE := hE.t ek18
    have r_b := r_b.ext ek18
    have r_g1 := r_g1.ext ek18
    have r_out := r_out.ext ek18
    clear ek18
    have r_f := Rd.of_own hown3
    go_wp2_with fail
    refine (num_Size x _ Hx64.out).mono ?_
    rw [Hs.out]
    rintro e wy19 ⟨rfl, rfl⟩
    go_wp2_with (refine wpl_build (by rfl) rfl ul_u8 info_u8 [] (by rfl) (by rfl) (by decide) (f := u8v) [] (by rfl) (fun _ => rfl) ?_)
    intro b_g4 wk20 blk_g4 er_g4 lo_g4 rd_g4; refine Lib.hid ?_
    have own_g4 : wk20.ownsRow wk18.heap.size 5 1 (.slice (some ⟨b_g4, 0, none⟩) 0 0) 0 (([] : List Nat).map u8v) := own_of_blk blk_g4 lo_g4 rfl (by simp [maxLen])
    clear blk_g4 rd_g4
    go_wp2_with (refine wpl_append (by rfl) rfl ul_u8 info_u8 rfl rfl own_g4 rfl (r_b.ext er_g4) (fun _ => rfl) (by simp only [maxLen]; omega) (by omega) er_g4.size ?_)
    intro a_g4 c_g4 wk21 ow_g4 gr_g4 _; refine Lib.hid ?_
    have er_g4 := er_g4.grown gr_g4 er_g4.size (fun k hk => (own_g4.lt k hk).1)
    clear gr_g4 own_g4; have own_g4 := ow_g4; clear ow_g4
    go_wp2_with (refine wpl_append (by rfl) rfl ul_u8 info_u8 rfl rfl own_g4 rfl (r_f.ext er_g4) (fun _ => rfl) (by simp only [maxLen]; omega) (by omega) er_g4.size ?_)
    intro a_g4 c_g4 wk22 ow_g4 gr_g4 _; refine Lib.hid ?_
    have er_g4 := er_g4.grown gr_g4 er_g4.size (fun k hk => (own_g4.lt k hk).1)
    clear gr_g4 own_g4; have own_g4 := ow_g4; clear ow_g4
    have ex_g4 : Ext wk18 wk22 := er_g4
    have hE := hE.t ex_g4
    have r_b := r_b.ext ex_g4
    have r_g1 := r_g1.ext ex_g4
    have r_out := r_out.ext ex_g4
    have r_f := r_f.ext ex_g4
    have r_w := Rd.of_own (f := u8v) (xs := b ++ Num.form x) (by rw [List.map_append]; exact own_g4)
    go_wp2_with fail
    refine (sameBytes _ _ _ _ _ _ _ _ _ r_out r_w (by simp only [maxLen]; omega) (by simp only [maxLen]; omega)).mono ?_
    rintro e wk23 ⟨rfl, ek23⟩
    have hE := hE.t ek23
    have r_b := r_b.ext ek23
    have r_g1 := r_g1.ext ek23
    have r_out := r_out.ext ek23
    have r_f := r_f.ext ek23
    have r_w := r_w.ext ek23
    clear ek23
    go_wp2_with fail
    refine (sameBytes _ _ _ _ _ _ _ _ _ r_g1 r_b (by simp only [maxLen]; omega) (by simp only [maxLen]; omega)).mono ?_
    rintro e wk24 ⟨rfl, ek24⟩
    have hE := hE.t ek24
    have r_b := r_b.ext ek24
    have r_g1 := r_g1.ext ek24
    have r_out := r_out.ext ek24
    have r_f := r_f.ext ek24
    have r_w := r_w.ext ek24
    clear ek24
    go_wp2_with fail
    refine (num_Fold y _ hy.1 hy.2).mono ?_
    rintro e wy25 ⟨rfl, rfl⟩
    go_wp2_with fail
    refine (ref_Fold y _ hy.1 hy.2).mono ?_
    rintro e wy26 ⟨rfl, rfl⟩
    go_wp2_with fail
    refine (num_Unfold x _ (by omega) (by have := Hx64.out; omega)).mono ?_
    rintro e wy27 ⟨rfl, rfl⟩
    go_wp2_with fail
    refine (ref_Unfold x _ (by omega) (by have := Hx64.out; omega)).mono ?_
    rintro e wy28 ⟨rfl, rfl⟩
    go_wp2_with fail
    go_ret
    exact ⟨rfl, hE⟩

set_option maxRecDepth 100000 in
theorem walkNumWrites (x y : Int) (A : Option Addr) (n c : Nat) (b : List Nat) (w : World) (hx : (Lit.int .u64 x).wf = true) (hy : (Lit.int .i64 y).wf = true) (hA : Arg .u8 256 w A n c b) :
    Calls Try.prog 4 #[.int .u64 x, .int .i64 y, .slice A n c] w fun e w' => e = .returned (.bool true) ∧ Below w.heap.size w w' := by
  have hx := bounds_u64 hx
  have hy := bounds_i64 hy
  obtain ⟨x, rfl⟩ := Int.eq_ofNat_of_zero_le hx.1
  have HW := Lib.hid (writes_ x y A n c b w (by omega) hy hA)
  clear hA
  go_enter Try.func4, Try.ntmps4
  have hE := Ext.refl w
  go_wp2_with fail
  refine (HW.out).mono ?_
  rintro e wk29 ⟨rfl, ek29⟩
  have hE := hE.t ek29
  clear ek29
  go_wp2_with fail
  refine (awake _).mono ?_
  rintro e wk30 ⟨rfl, ek30⟩
  have hE := hE.t ek30
  clear ek30
  go_wp2_with fail
  go_ret
  exact ⟨rfl, hE⟩
end Go.Proofs.Ytidjimkhppfjjaa
