/- InboxSmall: the walk of the law. -/
import Derived.Test.YtpipnefepnknoaaSmallP
import Derived.Deep.RegionHeldLaw
namespace Go.Proofs.Ytpipnefepnknoaa
open Go.RowKit Go.Fx
set_option maxRecDepth 100000 in
set_option maxHeartbeats 4000000 in
theorem walkInboxSmall (w : World) :
    Calls Try.prog 6 #[] w fun e w' => e = .returned (.bool true) ∧ Ext w w' := by
  go_enter Try.func6, Try.ntmps6
  have hE := Ext.refl w
  go_wp2_with (refine wpl_build (by rfl) rfl ul_u8 info_u8 [.const (.int .u8 0)] (by rfl) (by rfl) (by decide) (f := u8v) [0] (by rfl) (fun _ => rfl) ?_)
  intro ga wk1 b_ga ek1 lo_ga r_ga; refine Lib.hid ?_
  have hE := hE.t ek1
  clear ek1
  go_wp2_with (refine wpl_build (by rfl) rfl ul_u8 info_u8 [.const (.int .u8 1), .const (.int .u8 5)] (by rfl) (by rfl) (by decide) (f := u8v) [1, 5] (by rfl) (fun _ => rfl) ?_)
  intro gb wk2 b_gb ek2 lo_gb r_gb; refine Lib.hid ?_
  have hE := hE.t ek2
  have r_ga := r_ga.ext ek2
  clear ek2
  go_wp2_with (refine wpl_build (by rfl) rfl ul_u8 info_u8 [.const (.int .u8 2), .const (.int .u8 6), .const (.int .u8 7)] (by rfl) (by rfl) (by decide) (f := u8v) [2, 6, 7] (by rfl) (fun _ => rfl) ?_)
  intro gc wk3 b_gc ek3 lo_gc r_gc; refine Lib.hid ?_
  have hE := hE.t ek3
  have r_ga := r_ga.ext ek3
  have r_gb := r_gb.ext ek3
  clear ek3
  go_wp2_with (refine wpl_build (by rfl) rfl ul_u8 info_u8 [] (by rfl) (by rfl) (by decide) (f := u8v) [] (by rfl) (fun _ => rfl) ?_)
  intro gd wk4 b_gd ek4 lo_gd r_gd; refine Lib.hid ?_
  have hE := hE.t ek4
  have r_ga := r_ga.ext ek4
  have r_gb := r_gb.ext ek4
  have r_gc := r_gc.ext ek4
  clear ek4
  go_wp2_with (refine wpl_buildN (by rfl) rfl ul_act info_act [.tmp 19, .tmp 20, .tmp 22, .tmp 24, .tmp 26, .tmp 28] (by rfl) rfl (by decide) (by decide) ((al0 ga gb gc gd).map actv) (by rfl) (actv_size _) ?_)
  intro b o w0 hrow ee _; refine Lib.hid ?_
  obtain ⟨al, hacts⟩ := acts0 hrow (r_ga.ext ee) (r_gb.ext ee) (r_gc.ext ee) (r_gd.ext ee)
  have HE := Lib.hid (hE.t ee)
  have HA := Lib.hid hacts
  clear hacts hrow ee hE r_ga r_gb r_gc r_gd
  go_wp2_with fail
  go_loopw [30] (fun i wr => ∃ (k : Nat), k ≤ 7776 ∧ i = .int .i64 (k : Int) ∧ Hid (Ext w0 wr)) (fun i _ => 7776 - (intOf i).toNat)
  case atStart => exact ⟨0, by omega, rfl, Lib.hid (Ext.refl w0)⟩
  case round =>
    obtain ⟨k, hk, rfl, HEr⟩ := hrel
    by_cases hlt : k < 7776
    · have hlt' : (k : Int) < 7776 := by omega
      obtain ⟨i1, hi1⟩ : ∃ i1, i1 = k % 6 := ⟨_, rfl⟩
      obtain ⟨d2, hd2⟩ : ∃ d2, d2 = k / 6 := ⟨_, rfl⟩
      obtain ⟨i2, hi2⟩ : ∃ i2, i2 = d2 % 6 := ⟨_, rfl⟩
      obtain ⟨d3, hd3⟩ : ∃ d3, d3 = k / 36 := ⟨_, rfl⟩
      obtain ⟨i3, hi3⟩ : ∃ i3, i3 = d3 % 6 := ⟨_, rfl⟩
      obtain ⟨d4, hd4⟩ : ∃ d4, d4 = k / 216 := ⟨_, rfl⟩
      obtain ⟨i4, hi4⟩ : ∃ i4, i4 = d4 % 6 := ⟨_, rfl⟩
      obtain ⟨i5, hi5⟩ : ∃ i5, i5 = k / 1296 := ⟨_, rfl⟩
      have l1 : i1 < 6 := by omega
      have l2 : i2 < 6 := by omega
      have l3 : i3 < 6 := by omega
      have l4 : i4 < 6 := by omega
      have l5 : i5 < 6 := by omega
      have eb : ∀ i, i < 6 → ∃ (a : ActN) (s : Sl), a.1 < 256 ∧ FrameV w0 s a.2 ∧ w0.cell? ⟨b, o + i * 2, none⟩ = some (.int .u8 (a.1 : Int)) ∧ w0.cell? ⟨b, o + i * 2 + 1, none⟩ = some (.slice s.A s.n s.c) ∧ b < w0.heap.size := by
        intro i hi
        obtain ⟨a, ha⟩ : ∃ a, al[i]? = some a := ⟨al[i]'(by rw [HA.out.len]; exact hi), List.getElem?_eq_getElem _⟩
        obtain ⟨b', o', s, e, hb, h⟩ := HA.out.at_ i a ha
        cases e
        exact ⟨a, s, h.lt, h.v, h.t, h.f, hb⟩
      obtain ⟨a1, s1, u1, v1, c1, f1, _⟩ := eb i1 l1
      obtain ⟨a2, s2, u2, v2, c2, f2, _⟩ := eb i2 l2
      obtain ⟨a3, s3, u3, v3, c3, f3, _⟩ := eb i3 l3
      obtain ⟨a4, s4, u4, v4, c4, f4, _⟩ := eb i4 l4
      obtain ⟨a5, s5, u5, v5, c5, f5, hb⟩ := eb i5 l5
      have hS : ∀ w', Ext wr w' → w'.cell? ⟨b, o + i1 * 2, none⟩ = some (.int .u8 (a1.1 : Int)) ∧ w'.cell? ⟨b, o + i1 * 2 + 1, none⟩ = some (.slice s1.A s1.n s1.c) ∧ w'.cell? ⟨b, o + i2 * 2, none⟩ = some (.int .u8 (a2.1 : Int)) ∧ w'.cell? ⟨b, o + i2 * 2 + 1, none⟩ = some (.slice s2.A s2.n s2.c) ∧ w'.cell? ⟨b, o + i3 * 2, none⟩ = some (.int .u8 (a3.1 : Int)) ∧ w'.cell? ⟨b, o + i3 * 2 + 1, none⟩ = some (.slice s3.A s3.n s3.c) ∧ w'.cell? ⟨b, o + i4 * 2, none⟩ = some (.int .u8 (a4.1 : Int)) ∧ w'.cell? ⟨b, o + i4 * 2 + 1, none⟩ = some (.slice s4.A s4.n s4.c) ∧ w'.cell? ⟨b, o + i5 * 2, none⟩ = some (.int .u8 (a5.1 : Int)) ∧ w'.cell? ⟨b, o + i5 * 2 + 1, none⟩ = some (.slice s5.A s5.n s5.c) := by
        intro w' ex
        have e := HEr.out.t ex
        have k := fun (j : Nat) => e.cell (p := ⟨b, j, none⟩) hb
        exact ⟨(k _).trans c1, (k _).trans f1, (k _).trans c2, (k _).trans f2, (k _).trans c3, (k _).trans f3, (k _).trans c4, (k _).trans f4, (k _).trans c5, (k _).trans f5⟩
      have e1 : (k : Int) % 6 = (i1 : Int) := by omega
      have e2 : (k : Int) / 6 = (d2 : Int) := by omega
      have e3 : (d2 : Int) % 6 = (i2 : Int) := by omega
      have e4 : (k : Int) / 36 = (d3 : Int) := by omega
      have e5 : (d3 : Int) % 6 = (i3 : Int) := by omega
      have e6 : (k : Int) / 216 = (d4 : Int) := by omega
      have e7 : (d4 : Int) % 6 = (i4 : Int) := by omega
      have e8 : (k : Int) / 1296 = (i5 : Int) := by omega
      have t1 : (k : Int).tmod 6 = (i1 : Int) := by rw [Int.tmod_eq_emod_of_nonneg (by omega)]; exact e1
      have t2 : (k : Int).tdiv 6 = (d2 : Int) := by rw [Int.tdiv_eq_ediv_of_nonneg (by omega)]; exact e2
      have t3 : (d2 : Int).tmod 6 = (i2 : Int) := by rw [Int.tmod_eq_emod_of_nonneg (by omega)]; exact e3
      have t4 : (k : Int).tdiv 36 = (d3 : Int) := by rw [Int.tdiv_eq_ediv_of_nonneg (by omega)]; exact e4
      have t5 : (d3 : Int).tmod 6 = (i3 : Int) := by rw [Int.tmod_eq_emod_of_nonneg (by omega)]; exact e5
      have t6 : (k : Int).tdiv 216 = (d4 : Int) := by rw [Int.tdiv_eq_ediv_of_nonneg (by omega)]; exact e6
      have t7 : (d4 : Int).tmod 6 = (i4 : Int) := by rw [Int.tmod_eq_emod_of_nonneg (by omega)]; exact e7
      have t8 : (k : Int).tdiv 1296 = (i5 : Int) := by rw [Int.tdiv_eq_ediv_of_nonneg (by omega)]; exact e8
      have z2 : IntKind.i64.wrap (d2 : Int) = (d2 : Int) := IntWalk.i64_in _ (by omega)
      have z3 : IntKind.i64.wrap (d3 : Int) = (d3 : Int) := IntWalk.i64_in _ (by omega)
      have z4 : IntKind.i64.wrap (d4 : Int) = (d4 : Int) := IntWalk.i64_in _ (by omega)
      have z5 : IntKind.i64.wrap (i5 : Int) = (i5 : Int) := IntWalk.i64_in _ (by omega)
      have m1 : (i1 : Int) < 6 := by omega
      have m2 : (i2 : Int) < 6 := by omega
      have m3 : (i3 : Int) < 6 := by omega
      have m4 : (i4 : Int) < 6 := by omega
      have m5 : (i5 : Int) < 6 := by omega
      have HS := Lib.hid hS
      have HS0 := Lib.hid (hS _ (Ext.drew wr))
      have e7 : Ext wr (wr.alloc (.cells #[.int .u8 9] 5)).drew := (Ext.alloc wr _).t (Ext.drew _)
      have e8 : Ext wr ((wr.alloc (.cells #[.int .u8 9] 5)).alloc (.cells #[.int .u8 (a1.1 : Int), .slice s1.A s1.n s1.c, .int .u8 (a2.1 : Int), .slice s2.A s2.n s2.c, .int .u8 (a3.1 : Int), .slice s3.A s3.n s3.c, .int .u8 (a4.1 : Int), .slice s4.A s4.n s4.c, .int .u8 (a5.1 : Int), .slice s5.A s5.n s5.c, .int .u8 3, .slice (some ⟨wr.heap.size, 0, none⟩) 1 1, .int .u8 9, .slice none 0 0] 47)).drew := ((Ext.alloc wr _).t (Ext.alloc _ _)).t (Ext.drew _)
      have HS7 := Lib.hid (hS _ e7)
      have HS8 := Lib.hid (hS _ e8)
      have HE8 := Lib.hid e8
      have hr7 : RowAt ((wr.alloc (.cells #[.int .u8 9] 5)).alloc (.cells #[.int .u8 (a1.1 : Int), .slice s1.A s1.n s1.c, .int .u8 (a2.1 : Int), .slice s2.A s2.n s2.c, .int .u8 (a3.1 : Int), .slice s3.A s3.n s3.c, .int .u8 (a4.1 : Int), .slice s4.A s4.n s4.c, .int .u8 (a5.1 : Int), .slice s5.A s5.n s5.c, .int .u8 3, .slice (some ⟨wr.heap.size, 0, none⟩) 1 1, .int .u8 9, .slice none 0 0] 47)).drew (wr.heap.size + 1) 0 (((al7 (a1, s1) (a2, s2) (a3, s3) (a4, s4) (a5, s5) wr.heap.size 0).map actv).flatMap (·.cells.toList)) := by
        have h := row_of_blk (l := ((al7 (a1, s1) (a2, s2) (a3, s3) (a4, s4) (a5, s5) wr.heap.size 0).map actv).flatMap (·.cells.toList)) (Blk.new (wr.alloc (.cells #[.int .u8 9] 5)) 47 #[.int .u8 (a1.1 : Int), .slice s1.A s1.n s1.c, .int .u8 (a2.1 : Int), .slice s2.A s2.n s2.c, .int .u8 (a3.1 : Int), .slice s3.A s3.n s3.c, .int .u8 (a4.1 : Int), .slice s4.A s4.n s4.c, .int .u8 (a5.1 : Int), .slice s5.A s5.n s5.c, .int .u8 3, .slice (some ⟨wr.heap.size, 0, none⟩) 1 1, .int .u8 9, .slice none 0 0]) rfl
        rw [World.size_alloc] at h
        exact h.drew
      have r9 : Rd u8v ((wr.alloc (.cells #[.int .u8 9] 5)).alloc (.cells #[.int .u8 (a1.1 : Int), .slice s1.A s1.n s1.c, .int .u8 (a2.1 : Int), .slice s2.A s2.n s2.c, .int .u8 (a3.1 : Int), .slice s3.A s3.n s3.c, .int .u8 (a4.1 : Int), .slice s4.A s4.n s4.c, .int .u8 (a5.1 : Int), .slice s5.A s5.n s5.c, .int .u8 3, .slice (some ⟨wr.heap.size, 0, none⟩) 1 1, .int .u8 9, .slice none 0 0] 47)).drew (some ⟨wr.heap.size, 0, none⟩) 1 [9] := (((Blk.new wr 5 #[.int .u8 9]).alloc _).drew).rd rfl rfl
      obtain ⟨al2, hal2⟩ := acts7 hr7 ⟨u1, v1.ext (HEr.out.t e8)⟩ ⟨u2, v2.ext (HEr.out.t e8)⟩ ⟨u3, v3.ext (HEr.out.t e8)⟩ ⟨u4, v4.ext (HEr.out.t e8)⟩ ⟨u5, v5.ext (HEr.out.t e8)⟩ r9
      have Hal2 := Lib.hid hal2
      clear e7 e8 hr7 r9 hal2
      clear hi1 hi2 hi3 hi4 hi5 hd2 hd3 hd4 eb hS u1 u2 u3 u4 u5 v1 v2 v3 v4 v5 c1 c2 c3 c4 c5 f1 f2 f3 f4 f5
      go_upto_region 5 with fail
      go_cut [66] from 33 to 66 (fun v wx => v = .bool false ∧ Ext wr wx)
      case first =>
        first
        | (go_region_held_law (fun w' => w'.cell? ⟨b, o + i1 * 2, none⟩ = some (.int .u8 (a1.1 : Int)) ∧ w'.cell? ⟨b, o + i1 * 2 + 1, none⟩ = some (.slice s1.A s1.n s1.c) ∧ w'.cell? ⟨b, o + i2 * 2, none⟩ = some (.int .u8 (a2.1 : Int)) ∧ w'.cell? ⟨b, o + i2 * 2 + 1, none⟩ = some (.slice s2.A s2.n s2.c) ∧ w'.cell? ⟨b, o + i3 * 2, none⟩ = some (.int .u8 (a3.1 : Int)) ∧ w'.cell? ⟨b, o + i3 * 2 + 1, none⟩ = some (.slice s3.A s3.n s3.c) ∧ w'.cell? ⟨b, o + i4 * 2, none⟩ = some (.int .u8 (a4.1 : Int)) ∧ w'.cell? ⟨b, o + i4 * 2 + 1, none⟩ = some (.slice s4.A s4.n s4.c) ∧ w'.cell? ⟨b, o + i5 * 2, none⟩ = some (.int .u8 (a5.1 : Int)) ∧ w'.cell? ⟨b, o + i5 * 2 + 1, none⟩ = some (.slice s5.A s5.n s5.c))
            (first | with_reducible exact HS9.out | with_reducible exact HS8.out | with_reducible exact HS7.out | with_reducible exact HS0.out)
            (first
              | (go_at_call 21; refine (tells_ _ _ _ al2 _ Hal2.out (by decide) (by decide)).mono ?_; rintro e w9 ⟨rfl, e9⟩; have HS9 := Lib.hid (HS.out w9 (HE8.out.t e9)); have He9 := Lib.hid (HE8.out.t e9); clear e9)
              | fail))
        | fail
        all_goals go_wp2_with fail
        all_goals go_simp
        all_goals go_meet
        all_goals exact ⟨rfl, He9.out⟩
      case rest =>
        obtain ⟨rfl, ex⟩ := hcut
        have HEx := Lib.hid (HEr.out.t ex)
        clear ex
        go_wp2_with fail
        go_roundw
        case rel => exact ⟨k + 1, by omega, by go_num, HEx⟩
        case measure => simp [intOf]; omega
    · obtain rfl : k = 7776 := by omega
      have HE1 := Lib.hid (HE.out.t HEr.out)
      clear HE HEr HA hk hlt
      obtain ⟨W, hW⟩ : ∃ W : World, W = wr := ⟨_, rfl⟩
      subst hW
      go_wp2_with fail
      refine (ib_New _ _).mono ?_
      rintro e w1 ⟨rfl, hib, he, hsz⟩
      have hsb := Blk.new W 31 #[.slice none 0 0, .int .i64 0, .slice none 0 0, .slice none 0 0]
      have hSy := sys_new HE1.out (Ext.alloc W _) (Nat.le_refl _) hsb hib he
      rw [World.size_alloc] at *
      generalize hibe : W.heap.size + 1 = ib at hSy ⊢
      generalize hL : lay0 W.heap.size = L0 at hSy
      have HSy := Lib.hid hSy
      clear hSy hsb hib he hsz hibe hL HE1
      have hSy := HSy.out
      clear HSy
      go_upto_region 12 with fail
      go_wp2_with (refine wpl_build (by rfl) rfl ul_u8 info_u8 [.const (.int .u8 1)] (by rfl) (by rfl) (by decide) (f := u8v) [1] (by rfl) (fun _ => rfl) ?_)
      intro g1 wk5 b_g1 ek5 lo_g1 r_g1; refine Lib.hid ?_
      have hSy := hSy.ext ek5
      clear ek5
      have HP := Lib.hid (sys_Put hSy (good0 2001 (by omega)) (some ⟨g1, 0, none⟩) 1 1 [1] r_g1 (by simp) (by simp))
      rw [put_first] at HP
      clear hSy r_g1 b_g1
      go_wp2_with fail
      refine HP.out.mono ?_
      rintro e w3 ⟨L1, A1, n1, c1, os1, got⟩
      have hret := got.ret
      have HSy : Hid (∃ L, Sys w w3 ib L (stK 0) ∧ Good (stK 0) (1000 - 0)) := Lib.hid ⟨L1, got.sys, good_first.mono (by omega)⟩
      clear got HP
      subst hret
      go_wp2_with fail
      go_loopw [85] (fun i wr => ∃ (k : Nat), k ≤ 300 ∧ i = .int .i64 (k : Int) ∧ Hid (∃ L, Sys w wr ib L (stK k) ∧ Good (stK k) (1000 - k))) (fun i _ => 300 - (intOf i).toNat)
      case atStart => exact ⟨0, by omega, rfl, HSy⟩
      case round =>
        clear HSy
        obtain ⟨k, hk, rfl, H⟩ := hrel
        by_cases hlt : k < 300
        · have hlt' : (k : Int) < 300 := by omega
          obtain ⟨m, hm⟩ : ∃ m, m = k % 256 := ⟨_, rfl⟩
          have ew : IntKind.u8.wrap (k : Int) = (m : Int) := by rw [IntKind.wrap_u8]; omega
          have hm2 : m < 256 := by omega
          have Hm := Lib.hid hm
          obtain ⟨L, hS, hG⟩ := H.out
          have hG2 : Good (stK k) (1000 - (k + 1) + 1) := hG.mono (by omega)
          have HG := Lib.hid hG2
          clear hm H hG hG2
          go_wp2_with (refine wpl_build (by rfl) rfl ul_u8 info_u8 [.const (.int .u8 0), .tmp 91] (by rfl) (by rfl) (by decide) (f := u8v) [0, m] (by rfl) (fun _ => rfl) ?_)
          intro g2 wk6 b_g2 ek6 lo_g2 r_g2; refine Lib.hid ?_
          have hS := hS.ext ek6
          clear ek6
          have HP := Lib.hid (sys_Put hS HG.out (some ⟨g2, 0, none⟩) 2 2 [0, m] r_g2 (by simp; omega) (by simp))
          rw [Hm.out, put_next] at HP
          clear hS r_g2 b_g2
          go_wp2_with fail
          refine HP.out.mono ?_
          rintro e w5 ⟨L5, A5, n5, c5, os5, got⟩
          have hret := got.ret
          have hn := got.resp.n_
          obtain rfl : n5 = 0 := hn
          have HSy : Hid (∃ L, Sys w w5 ib L (stK (k + 1)) ∧ Good (stK (k + 1)) (1000 - (k + 1))) := Lib.hid ⟨L5, got.sys, good_next HG.out⟩
          clear got HP ew
          subst hret
          go_wp2_with fail
          go_roundw
          case rel => exact ⟨k + 1, by omega, by go_num, HSy⟩
          case measure => simp [intOf]; omega
        · obtain rfl : k = 300 := by omega
          obtain ⟨L, hS, hG⟩ := H.out
          have hT := sys_Turn hS (N := 699) hG
          obtain ⟨t1, t2, t3⟩ := turn_all 300
          generalize turnF (stK 300) = q at hT t1 t2 t3
          have HT := Lib.hid hT
          have Ht1 := Lib.hid t1
          have Ht2 := Lib.hid t2
          have Ht3 := Lib.hid t3
          clear H hS hG hT t1 t2 t3 hk hlt
          go_wp2_with fail
          refine HT.out.mono ?_
          rintro e w5 ⟨L5, A5, n5, c5, os5, got⟩
          have hret := got.ret
          have hn := got.resp.n_
          rw [Ht1.out] at hn
          obtain rfl : n5 = 301 := by simpa [frs_len] using hn
          have hW := ib_Waiting ib L5 q.1 w5 got.sys.box
          rw [Ht2.out] at hW
          have hP := ib_Pending ib L5 q.1 w5 got.sys.box
          rw [Ht3.out] at hP
          have HW := Lib.hid hW
          have HP := Lib.hid hP
          have hc5 := got.resp.room.2.1
          have hc6 : (1 : Int) < (c5 : Int) := by omega
          have hc7 : (301 : Int) ≤ (c5 : Int) := by omega
          have hby := got.resp.byt
          rw [Ht1.out] at hby
          obtain ⟨bo, oo, hA, hbl, hcell⟩ := got.resp.rd.2 (by omega)
          have HBel := Lib.hid got.sys.below
          have Hby := Lib.hid hby
          have Hcell := Lib.hid hcell
          have Hlen := Lib.hid got.resp.len
          subst hA
          subst hret
          clear got hn hW hP hc5 hby hcell HT
          go_wp2_with fail
          refine HW.out.mono ?_; rintro e wx ⟨rfl, rfl⟩
          go_wp2_with fail
          refine HP.out.mono ?_; rintro e wx ⟨rfl, rfl⟩
          go_wp2_with fail
          go_loopw [128] (fun i wr => ∃ (k : Nat), k ≤ 300 ∧ i = .int .i64 (k : Int) ∧ Hid (Ext w5 wr)) (fun i _ => 300 - (intOf i).toNat)
          case atStart => exact ⟨0, by omega, rfl, Lib.hid (Ext.refl _)⟩
          case round =>
            obtain ⟨k, hk, rfl, HEk⟩ := hrel
            by_cases hlt : k < 300
            · have hlt' : (k : Int) < 300 := by omega
              obtain ⟨m, hm⟩ : ∃ m, m = k % 256 := ⟨_, rfl⟩
              have ew : IntKind.u8.wrap (k : Int) = (m : Int) := by rw [IntKind.wrap_u8]; omega
              have hm2 : m < 256 := by omega
              obtain ⟨s, hs⟩ : ∃ s, os5[k + 1]? = some s := ⟨os5[k + 1]'(by rw [Hlen.out]; omega), List.getElem?_eq_getElem _⟩
              have hce := (HEk.out.cell (p := ⟨bo, oo + (k + 1), none⟩) hbl).trans (Hcell.out (k + 1) s hs)
              rw [show oo + (k + 1) = oo + 1 + k by omega] at hce
              unfold slv at hce
              obtain ⟨xs, hx, hbs⟩ := Hby.out.at_ (k + 1) s hs
              obtain rfl : xs = [0, m] := by
                rw [List.getElem?_cons_succ, frs_at hlt, ← hm] at hx
                exact (Option.some.inj hx).symm
              have hrs := hbs.rd.ext HEk.out
              have hE := HEk.out
              have hx2 : ∀ x ∈ [0, m], x < 256 := by simp; omega
              have Hx2 := Lib.hid hx2
              clear hm hs hx hbs hx2
              go_upto_region 26 with fail
              go_wp2_with (refine wpl_build (by rfl) rfl ul_u8 info_u8 [.const (.int .u8 0), .tmp 135] (by rfl) (by rfl) (by decide) (f := u8v) [0, m] (by rfl) (fun _ => rfl) ?_)
              intro g3 wk7 b_g3 ek7 lo_g3 r_g3; refine Lib.hid ?_
              have hrs := hrs.ext ek7
              have hE := hE.t ek7
              clear ek7
              have hEq := bytes_Equal s.A (some ⟨g3, 0, none⟩) s.n 2 s.c 2 [0, m] [0, m] wk7 hrs r_g3 Hx2.out Hx2.out
              rw [decide_eq_true (rfl : [0, m] = [0, m])] at hEq
              have HEq := Lib.hid hEq
              have HE := Lib.hid hE
              clear hEq hrs r_g3 b_g3 hE
              go_wp2_with fail
              refine HEq.out.mono ?_; rintro e wx ⟨rfl, rfl⟩
              clear hce ew HEq
              go_wp2_with fail
              go_roundw
              case rel => exact ⟨k + 1, by omega, by go_num, HE⟩
              case measure => simp [intOf]; omega
            · obtain rfl : k = 300 := by omega
              have HBe := Lib.hid (HBel.out.t HEk.out)
              clear HEk HBel Hby Hcell Hlen HW HP hk hlt hc6 hc7 hbl
              obtain ⟨W5, hW5⟩ : ∃ W5 : World, W5 = wr := ⟨_, rfl⟩
              subst hW5
              go_wp2_with fail
              refine (no_New _).mono ?_; rintro e wx ⟨rfl, rfl⟩
              go_upto_region 32 with fail
              have hz0 := Blk.new W5 52 #[.nilIface, .bool false, .slice none 0 0, .int .i64 0, .int .i64 0, .int .i64 0, .int .i64 0]
              have HZ := Lib.hid hz0
              clear hz0
              go_wp2_with (refine wpl_build (by rfl) rfl ul_ibs info_ibs [.const (.pointer none), .tmp 151] (by rfl) (by rfl) (by decide) (f := Value.pointer) [none, some ⟨W5.heap.size, 0, none⟩] (by rfl) (fun _ => rfl) ?_)
              intro g w7 b_g e7 lo_g r_g; refine Lib.hid ?_
              have hnb : ∀ k, k < 2 → ∃ v, w7.cell? ⟨g, k, none⟩ = some v ∧ NoBox w7 v := by
                intro k hk
                rcases (by omega : k = 0 ∨ k = 1) with rfl | rfl
                · exact ⟨.pointer none, by rw [b_g.cell]; rfl, .inl rfl⟩
                · exact ⟨.pointer (some ⟨W5.heap.size, 0, none⟩), by rw [b_g.cell]; rfl, .inr ⟨_, rfl, HZ.out.ext e7⟩⟩
              have hgl := b_g.lt
              have HNB := Lib.hid hnb
              have HE7 := Lib.hid (HBe.out.t ((Ext.alloc _ _).t e7))
              clear hnb b_g r_g e7 lo_g HZ HBe
              go_wp2_with fail
              go_loopw [154] (fun i wr => ∃ (k : Nat), k ≤ 2 ∧ i = .int .i64 (k : Int) ∧ Hid (Ext w7 wr)) (fun i _ => 2 - (intOf i).toNat)
              case atStart => exact ⟨0, by omega, rfl, Lib.hid (Ext.refl _)⟩
              case round =>
                obtain ⟨k, hk, rfl, HEk⟩ := hrel
                by_cases hlt : k < 2
                · have hlt' : (k : Int) < 2 := by omega
                  obtain ⟨v, hcv, hnv⟩ := HNB.out k hlt
                  have hce := (HEk.out.cell (p := ⟨g, k, none⟩) hgl).trans hcv
                  have hE := HEk.out
                  have hnv2 := hnv.ext HEk.out
                  have Hnv := Lib.hid hnv2
                  clear hcv hnv hnv2
                  go_upto_region 35 with fail
                  have hnv := Hnv.out
                  clear Hnv
                  go_wp2_with (refine wpl_build (by rfl) rfl ul_u8 info_u8 [.const (.int .u8 0)] (by rfl) (by rfl) (by decide) (f := u8v) [0] (by rfl) (fun _ => rfl) ?_)
                  intro g8 wk8 b_g8 ek8 lo_g8 r_g8; refine Lib.hid ?_
                  have hnv := hnv.ext ek8
                  have hE := hE.t ek8
                  clear ek8
                  have Hnv := Lib.hid hnv
                  have HE := Lib.hid hE
                  clear hnv hE r_g8 b_g8
                  go_wp2_with fail
                  refine (no_Put v _ _ _ _ Hnv.out).mono ?_; rintro e wx ⟨rfl, rfl⟩
                  go_wp2_with fail
                  refine (no_Turn v _ Hnv.out).mono ?_; rintro e wx ⟨rfl, rfl⟩
                  go_wp2_with fail
                  refine (no_Waiting v _ Hnv.out).mono ?_; rintro e wx ⟨rfl, rfl⟩
                  go_wp2_with fail
                  refine (no_Frames v _ Hnv.out).mono ?_; rintro e wx ⟨rfl, rfl⟩
                  go_wp2_with fail
                  refine (no_Pending v _ Hnv.out).mono ?_; rintro e wx ⟨rfl, rfl⟩
                  go_wp2_with fail
                  refine (no_Counts v _ Hnv.out).mono ?_; rintro e wx ⟨rfl, ex⟩
                  have HE2 := Lib.hid (HE.out.t ex)
                  clear hce ex
                  go_wp2_with fail
                  go_roundw
                  case rel => exact ⟨k + 1, by omega, by go_num, HE2⟩
                  case measure => simp [intOf]; omega
                · obtain rfl : k = 2 := by omega
                  have HE2 := Lib.hid (HE7.out.t HEk.out)
                  clear HEk HE7 HNB
                  go_wp2_with fail
                  refine (awake _).mono ?_; rintro e wx ⟨rfl, ex⟩
                  have HE3 := Lib.hid (HE2.out.t ex)
                  clear ex
                  go_wp2_with fail
                  go_ret
                  exact ⟨rfl, HE3.out⟩
end Go.Proofs.Ytpipnefepnknoaa
