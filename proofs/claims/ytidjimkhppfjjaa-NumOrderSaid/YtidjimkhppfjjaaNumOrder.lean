/- NumOrder: the walk of the law. -/
import Derived.Test.YtidjimkhppfjjaaNumA
import Derived.Test.YtidjimkhppfjjaaNumC
import Derived.Test.YtidjimkhppfjjaaRefD
import Derived.Test.YtidjimkhppfjjaaLex
import Derived.Test.YtidjimkhppfjjaaStep
import Derived.Test.YtidjimkhppfjjaaOpen
import Derived.Deep.CutRange
namespace Go.Proofs.Ytidjimkhppfjjaa
open Go.RowKit Go.Fx Go.ChangeShapes Go.WideShapes

set_option maxRecDepth 100000 in
set_option maxHeartbeats 400000 in
theorem walkNumOrder (xi yi : Int) (A : Option Addr) (n c : Nat) (b : List Nat) (w : World) (hx : (Lit.int .u64 xi).wf = true) (hy : (Lit.int .u64 yi).wf = true) (hA : Arg .u8 256 w A n c b) :
    Calls Try.prog 10 #[.int .u64 xi, .int .u64 yi, .slice A n c] w fun e w' => e = .returned (.bool true) ∧ Below w.heap.size w w' := by
  have hx := bounds_u64 hx
  have hy := bounds_u64 hy
  obtain ⟨x, rfl⟩ := Int.eq_ofNat_of_zero_le hx.1
  obtain ⟨y, rfl⟩ := Int.eq_ofNat_of_zero_le hy.1
  have hx64 : x < 18446744073709551616 := by omega
  have hy64 : y < 18446744073709551616 := by omega
  clear hx hy
  obtain ⟨k, hk1, hk2, hk3⟩ : ∃ k, k ≤ n ∧ k ≤ 100 ∧ Hid ((n ≤ 100 ∧ k = n) ∨ (100 < n ∧ k = 100)) := ⟨min n 100, by omega, by omega, Lib.hid (by omega)⟩
  have r_b0 : Rd u8v w A n b := hA.rd
  have hle := hA.le
  have hmx : c ≤ 9223372036854775807 := hA.max
  have hmx' : (c : Int) ≤ 9223372036854775807 := by omega
  have h2 : (k : Int) ≤ (c : Int) := by omega
  have hlt0 := hA.lt
  have r_b := r_b0.take hk1
  have Hbl := Lib.hid (fun x hx => hlt0 x (List.mem_of_mem_take hx) : ∀ x ∈ b.take k, x < 256)
  generalize b.take k = bk at r_b Hbl
  clear hA r_b0 hlt0
  have Hlx := Lib.hid (Num.form_lt x)
  have Hly := Lib.hid (Num.form_lt y)
  have Hread := Lib.hid (Num.readAt_form x hx64 bk)
  have Hlast := Lib.hid (Num.last_form y hy64)
  have Hcmp := Lib.hid (Num.compare_form x y hx64 hy64)
  have Hlex := Lib.hid (Num.form_cmp x y hx64 hy64)
  have Hlen := Lib.hid (Num.form_length x)
  have Hleny := Lib.hid (Num.form_length y)
  have Hpre : Hid (x = y ∨ (decide ((Num.form y).length ≤ (Num.form x).length ∧ (Num.form x).take (Num.form y).length = Num.form y) = false ∧ decide ((Num.form x).length ≤ (Num.form y).length ∧ (Num.form y).take (Num.form x).length = Num.form x) = false)) := Lib.hid (by
    by_cases e : x = y
    · exact .inl e
    · refine .inr ⟨?_, ?_⟩
      · rw [decide_eq_false_iff_not]; rintro ⟨_, h⟩; exact e (Num.form_prefix x y hx64 hy64 h)
      · rw [decide_eq_false_iff_not]; rintro ⟨_, h⟩; exact e (Num.form_prefix y x hy64 hx64 h).symm)
  have Hltl : Hid (∀ d ∈ Num.form x ++ bk, d < 256) := Lib.hid (fun d hd => by
    rcases List.mem_append.1 hd with h | h
    · exact Hlx.out d h
    · exact Hbl.out d h)
  obtain ⟨s, Hs⟩ : ∃ s, Hid (Num.size x = s) := ⟨_, Lib.hid rfl⟩
  obtain ⟨t, Ht⟩ : ∃ t, Hid (Num.size y = t) := ⟨_, Lib.hid rfl⟩
  have hs1 := Num.size_pos x
  have hs9 := Num.size_le x
  have ht1 := Num.size_pos y
  have ht9 := Num.size_le y
  rw [Hs.out] at hs1 hs9 Hread Hlen
  rw [Ht.out] at ht1 ht9 Hlast Hleny
  have Hx64 := Lib.hid hx64
  have Hy64 := Lib.hid hy64
  clear hx64 hy64
  go_enter Try.func10, Try.ntmps10
  have hE := Ext.refl w
  go_wp2_with fail
  refine (awake _).mono ?_
  rintro e wk1 ⟨rfl, ek1⟩
  have hE := hE.t ek1
  have r_b := r_b.ext ek1
  clear ek1
  go_wp2_with fail
  refine (num_Append_new _ 0 [] x _ Dst.nil Hx64.out (by omega)).mono ?_
  rw [Hs.out]
  rintro e wk2 ⟨A1, c1, rfl, own1, ek2⟩
  have hE := hE.t ek2
  have r_b := r_b.ext ek2
  clear ek2
  have r_x := Rd.of_own own1
  go_wp2_with fail
  refine (num_Append_new _ 0 [] y _ Dst.nil Hy64.out (by omega)).mono ?_
  rw [Ht.out]
  rintro e wk3 ⟨A2, c2, rfl, own2, ek3⟩
  have hE := hE.t ek3
  have r_b := r_b.ext ek3
  have r_x := r_x.ext ek3
  clear ek3
  have r_y := Rd.of_own own2
  have hc1 := own_cap own1
  have hc2 := own_cap own2
  rw [Nat.zero_add] at hc1 hc2 r_x r_y
  rw [List.nil_append] at r_x r_y
  rw [Nat.zero_add]
  go_upto_region 4 with fail
  go_cut [9, 10, 11] from 24 to 37 (fun va vb vc wx => va = .int .u64 (x : Int) ∧ vb = .int .i64 (s : Int) ∧ vc = .int .i64 0 ∧ Below wk3.heap.size wk3 wx)
  case first =>
    have h1 : (if (100 : Int) < (n : Int) then (100 : Int) else (n : Int)) = (k : Int) := by
      have := hk3.out
      split <;> omega
    have own0 : ∀ W : World, (W.alloc (.cells #[] 5)).ownsRow W.heap.size 5 1 (.slice (some ⟨W.heap.size, 0, none⟩) 0 0) 0 (([] : List Nat).map u8v) := fun W => World.ownsRow_lit W _ 0 (Nat.le_refl _) (by simp [maxLen]) (by simp)
    go_region_law (first
        | (refine step_append (f := u8v) rfl rfl Try.underlying24 info_u8 rfl (by simp [Act.eval, Act.put]) (own0 _) (by simp [Act.eval, Act.put]; rfl) ((r_x.drew).alloc _) (fun _ => rfl) (by simp only [maxLen]; omega) (by omega) (by simp) ?_
           intro A4 c4 w4 own4 grow4
           have e4 : Below wk3.heap.size wk3 w4 := ((Ext.drew wk3).t (Ext.alloc _ _)).grown grow4 (by simp) (fun k hk => blk_ge (g := wk3.heap.size) hk))
        | (refine step_append (f := u8v) rfl rfl Try.underlying24 info_u8 rfl (by simp [Act.eval, Act.put]) own4 (by simp [Act.eval, Act.put]; rfl) (r_b.ext e4) (fun _ => rfl) (by simp only [maxLen]; omega) (by omega) e4.size ?_
           intro A5 c5 w5 own5 grow5
           have e5 : Below wk3.heap.size wk3 w5 := e4.grown grow5 e4.size (fun k hk => (own4.lt k hk).1)
           have r_w := Rd.of_own (f := u8v) own5
           rw [List.nil_append, Nat.zero_add] at r_w
           have HRd := Lib.hid (num_Read _ _ c5 _ 0 _ r_w Hltl.out (by simp only [maxLen]; omega)))
        | (go_simp; go_at_call 15; refine HRd.out.mono ?_
           rw [Hread.out]; unfold rets; rintro e w6 ⟨rfl, rfl⟩))
    all_goals go_wp2_with fail
    all_goals go_simp
    all_goals go_meet
    all_goals exact ⟨rfl, rfl, rfl, e5⟩
  case rest =>
    obtain ⟨rfl, rfl, rfl, ek⟩ := hcut
    have hE := hE.t ek
    have r_x := r_x.ext ek
    have r_y := r_y.ext ek
    clear ek
    go_wp2_with fail
    refine (num_Last _ _ _ _ _ r_y Hly.out (by simp only [maxLen]; omega)).mono ?_
    rw [Hlast.out]; unfold rets
    rintro e wy4 ⟨rfl, rfl⟩
    have HC := Lib.hid (num_Compare _ _ _ _ c1 c2 _ _ _ r_x r_y Hlx.out Hly.out (by simp only [maxLen]; omega) (by simp only [maxLen]; omega))
    have HB := Lib.hid (bytes_Compare _ _ _ _ c1 c2 _ _ _ r_x r_y Hlx.out Hly.out)
    have HP := Lib.hid (bytes_HasPrefix _ _ _ _ c1 c2 _ _ _ r_x r_y Hlx.out Hly.out hc1)
    have HP2 := Lib.hid (bytes_HasPrefix _ _ _ _ c2 c1 _ _ _ r_y r_x Hly.out Hlx.out hc2)
    rw [Hcmp.out] at HC
    rw [Hlex.out] at HB
    unfold crets at HC
    rcases Nat.lt_trichotomy x y with hxy | hxy | hxy
    · have ec : Num.cmpN x y = -1 := by unfold Num.cmpN; rw [if_pos hxy]
      obtain ⟨p1, p2⟩ := Hpre.out.resolve_left (by omega)
      rw [ec] at HC HB
      rw [p1] at HP
      rw [p2] at HP2
      clear ec p1 p2
      have hxy1 : (x : Int) < (y : Int) := by omega
      have hxy2 : ((x : Int) == (y : Int)) = false := by simp; omega
      clear hxy
      go_wp2_with fail; refine HC.out.mono ?_
      rintro e wy5 ⟨rfl, rfl⟩
      go_wp2_with fail
      refine (num_Size x _ Hx64.out).mono ?_
      rw [Hs.out]
      rintro e wy6 ⟨rfl, rfl⟩
      go_wp2_with fail; refine HB.out.mono ?_
      rintro e wy7 ⟨rfl, rfl⟩
      go_wp2_with fail; refine HP.out.mono ?_
      rintro e wy8 ⟨rfl, rfl⟩
      go_wp2_with fail; refine HP2.out.mono ?_
      rintro e wy9 ⟨rfl, rfl⟩
      go_wp2_with fail
      go_ret
      exact ⟨rfl, hE⟩
    · have ec : Num.cmpN x y = 0 := by unfold Num.cmpN; rw [if_neg (by omega), if_neg (by omega)]
      rw [ec] at HC HB
      clear ec Hpre HP HP2
      subst hxy
      go_wp2_with fail; refine HC.out.mono ?_
      rintro e wy10 ⟨rfl, rfl⟩
      go_wp2_with fail
      refine (num_Size x _ Hx64.out).mono ?_
      rw [Hs.out]
      rintro e wy11 ⟨rfl, rfl⟩
      go_wp2_with fail; refine HB.out.mono ?_
      rintro e wy12 ⟨rfl, rfl⟩
      go_wp2_with fail
      go_ret
      exact ⟨rfl, hE⟩
    · have ec : Num.cmpN x y = 1 := by unfold Num.cmpN; rw [if_neg (by omega), if_pos hxy]
      obtain ⟨p1, p2⟩ := Hpre.out.resolve_left (by omega)
      rw [ec] at HC HB
      rw [p1] at HP
      rw [p2] at HP2
      clear ec p1 p2
      have hxy1 : (y : Int) < (x : Int) := by omega
      have hxy2 : ((x : Int) == (y : Int)) = false := by simp; omega
      clear hxy
      go_wp2_with fail; refine HC.out.mono ?_
      rintro e wy13 ⟨rfl, rfl⟩
      go_wp2_with fail
      refine (num_Size x _ Hx64.out).mono ?_
      rw [Hs.out]
      rintro e wy14 ⟨rfl, rfl⟩
      go_wp2_with fail; refine HB.out.mono ?_
      rintro e wy15 ⟨rfl, rfl⟩
      go_wp2_with fail; refine HP.out.mono ?_
      rintro e wy16 ⟨rfl, rfl⟩
      go_wp2_with fail; refine HP2.out.mono ?_
      rintro e wy17 ⟨rfl, rfl⟩
      go_wp2_with fail
      go_ret
      exact ⟨rfl, hE⟩
end Go.Proofs.Ytidjimkhppfjjaa
