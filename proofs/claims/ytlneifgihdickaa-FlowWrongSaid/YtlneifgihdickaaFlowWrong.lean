/- FlowWrong: the walk of the law: for any list of small instructions, any defect, any place, any number it answers true and leaves all memory as it was (no condition). -/
import Derived.Test.YtlneifgihdickaaFcs
namespace Go.Proofs.Ytlneifgihdickaa
open Go.RowKit Go.Fx
set_option maxRecDepth 100000 in
set_option maxHeartbeats 4000000 in
theorem walkFlowWrong (A0 : Option Addr) (n0 c0 : Nat) (l : List Ins) (wi ai zi : Int) (w : World) (h0 : InArg w A0 n0 c0 l) (hwi : (Lit.int .u8 wi).wf = true) (hai : (Lit.int .u8 ai).wf = true) (hzi : (Lit.int .i64 zi).wf = true) :
    Calls Try.prog 9 #[.slice A0 n0 c0, .int .u8 wi, .int .u8 ai, .int .i64 zi] w fun e w' => e = .returned (.bool true) ∧ Ext w w' := by
  have hwb := bounds_u8 hwi
  have hab := bounds_u8 hai
  have hzb := bounds_i64 hzi
  obtain ⟨wy, rfl⟩ := Int.eq_ofNat_of_zero_le hwb.1
  obtain ⟨ta, rfl⟩ := Int.eq_ofNat_of_zero_le hab.1
  obtain ⟨p, hp⟩ : ∃ p, p = madeF l := ⟨_, rfl⟩
  have HM0 := Lib.hid (fun w' e => makes_ A0 n0 c0 l w' (h0.rd.ext e) h0.ok h0.le h0.max)
  have HRP := Lib.hid (made_right h0.ok)
  have hpl := made_le l
  rw [← hp] at HM0 HRP hpl
  have Hpl := Lib.hid hpl
  have hta : ta < 256 := by omega
  have hwy : wy < 256 := by omega
  have hz1 : -9223372036854775808 ≤ zi := by omega
  have hz2 : zi ≤ 9223372036854775807 := by omega
  clear h0 hp hpl hwi hai hwb hab hzi hzb
  go_enter Try.func9, Try.ntmps9
  go_wp2_with fail
  refine (awake_ w).mono ?_; rintro e w1 ⟨rfl, e1⟩
  have E1 := Lib.hid e1
  clear e1
  go_wp2_with fail
  refine (HM0.out _ E1.out).mono ?_; rintro e w2 ⟨A2, n2, c2, rfl, hn⟩
  have hpn := hn.n_
  obtain ⟨b2, o2, hA2⟩ := hn.rd.some_ (by have := Hpl.out; omega)
  subst hA2
  have N2 : Hid (NewS w p w2 (some ⟨b2, o2, none⟩) n2 c2) := Lib.hid ⟨hn.room, E1.out.t hn.ext, fun k hk => by have := hn.ft k hk; have := E1.out.size; omega⟩
  have hn2 : 1 ≤ n2 ∧ n2 ≤ 41 := by have := Hpl.out; omega
  have Hpn : Hid (p.length = n2) := Lib.hid hpn.symm
  obtain ⟨hn2a, hn2b⟩ := hn2
  clear hn E1 hpn
  by_cases q1 : zi ≤ -1
  · have q2 : ¬ (-1 < zi) := by omega
    have q3 : zi ≤ (n2 : Int) := by omega
    have q4 : ¬ ((n2 : Int) < zi) := by omega
    have q5 : zi < (n2 : Int) := by omega
    go_wp2_with (refine wpl_build (by rfl) rfl ul_in info_in [.tmp 38, .tmp 42] (by rfl) (by rfl) (by decide) (f := intz) [zi, (n2 : Int)] (by rfl) (fun _ => rfl) ?_)
    intro g w3 b1 e1 lo1 r1; refine Lib.hid ?_
    have HL : Hid (Rd intz w3 (some ⟨g, 0, none⟩) 2 [zi, (n2 : Int)] ∧ ∀ (i : Nat) (z : Int), ([zi, (n2 : Int)] : List Int)[i]? = some z → z < 0 ∨ (n2 : Int) ≤ z) := Lib.hid ⟨r1, fun i z hz => by
      match i, hz with
      | 0, hz => cases hz; omega
      | 1, hz => cases hz; omega
      | i + 2, hz => cases hz⟩
    have N3 := Lib.hid (N2.out.exte e1)
    clear b1 e1 lo1 r1 N2
    generalize ([zi, (n2 : Int)] : List Int) = zs at HL
    go_wp2_with fail
    go_loopw [45] (fun v45 wr => ∃ k : Nat, k ≤ 2 ∧ v45 = .int .i64 (k : Int) ∧ Hid (NewS w p wr (some ⟨b2, o2, none⟩) n2 c2 ∧ Ext w3 wr)) (fun v _ => 2 - (intOf v).toNat)
    case atStart => exact ⟨0, by omega, rfl, Lib.hid ⟨N3.out, Ext.refl _⟩⟩
    case round =>
      obtain ⟨k, hk, rfl, HJ⟩ := hrel
      by_cases hlt : k < 2
      · have hltI : (k : Int) < 2 := by omega
        obtain ⟨b, o, z, hgo, hz, cz⟩ := rd_get (HL.out.1.ext HJ.out.2) hlt
        cases hgo
        unfold intz at cz
        have HZ := Lib.hid (HL.out.2 k z hz)
        rw [Nat.zero_add] at cz
        clear hz
        go_wp2_with fail
        refine (next_out HJ.out.1.rd HRP.out HZ.out).mono ?_; rintro e w4 ⟨A4, c4, rfl, x1⟩
        have HJ1 : Hid (NewS w p w4 (some ⟨b2, o2, none⟩) n2 c2 ∧ Ext w3 w4) := Lib.hid ⟨HJ.out.1.exte x1, HJ.out.2.t x1⟩
        clear x1 HJ cz
        go_wp2_with fail
        refine (before_out HJ1.out.1.rd HRP.out HZ.out).mono ?_; rintro e w5 ⟨A5, c5, rfl, x1⟩
        have HJ2 : Hid (NewS w p w5 (some ⟨b2, o2, none⟩) n2 c2 ∧ Ext w3 w5) := Lib.hid ⟨HJ1.out.1.exte x1, HJ1.out.2.t x1⟩
        clear x1 HJ1
        go_wp2_with fail
        go_roundw
        case rel => exact ⟨k + 1, by omega, by go_num, HJ2⟩
        case measure => simp [intOf]; omega
      · obtain rfl : k = 2 := by omega
        have N4 := Lib.hid HJ.out.1
        clear HJ HL N3
        obtain ⟨k, hkk⟩ : ∃ k, k = ta % n2 := ⟨_, rfl⟩
        have hk2 : k < n2 := by rw [hkk]; exact Nat.mod_lt _ (by omega)
        have Hat : Hid ((wrap64 (ta : Int)).tmod (n2 : Int) = (k : Int)) := Lib.hid (by rw [show wrap64 (ta : Int) = (ta : Int) by unfold wrap64; omega, hkk]; rfl)
        have Hat2 : Hid ((ta : Int) % (n2 : Int) = (k : Int)) := Lib.hid (by rw [hkk]; rfl)
        have heq0 : ((n2 : Int) == 0) = false := by simp; omega
        obtain ⟨r, hr⟩ : ∃ r, r = wy % 4 := ⟨_, rfl⟩
        have hrI : (wy : Int) % 4 = (r : Int) := by omega
        have hrI2 : (wy : Int).tmod 4 = (r : Int) := by rw [Int.tmod_eq_emod_of_nonneg (Int.natCast_nonneg _)]; omega
        have hr4 : r < 4 := by omega
        have hr4I : (r : Int) < 4 := by omega
        clear hr hkk
        go_upto_region 13 with fail
        first | rw [Hat2.out] | rw [Hat.out]
        clear Hat Hat2
        have hkI : (k : Int) < (n2 : Int) := by omega
        go_wp2_with (refine wpl_buildS insC_len (by decide) (by rfl) rfl ul_ins info_ins [.tmp 83, .tmp 84, .tmp 87, .tmp 88] (by rfl) (by rfl) (by decide) [⟨0, 0, 0, 0, 0⟩, ⟨1, 0, 0, 1, 0⟩, ⟨9, 0, 0, 0, (n2 : Int)⟩, ⟨3, 8, 0, 0, 0⟩] (by rfl) ?_)
        intro g4 w4 b1 e1 lo1 r1; refine Lib.hid ?_
        have N5 := Lib.hid (N4.out.exte e1)
        obtain ⟨b', o', x, h1, _, hx, d0, d1, d2, d3, d4⟩ := r1.ins (k := r) hr4
        cases h1
        have HB : Hid ((checkF (p.set k x)).2 ≠ 0) := Lib.hid (bad_set (by rw [Hpn.out]; exact hk2) (by
          rw [Hpn.out]
          rcases (by omega : r = 0 ∨ r = 1 ∨ r = 2 ∨ r = 3) with rfl | rfl | rfl | rfl
          · cases hx; exact .inl (by decide)
          · cases hx; exact .inl (by decide)
          · cases hx
            refine .inr ⟨?_, Int.le_refl _⟩
            unfold tgtF oneF
            simp [okOp, rgOk, nOk, nrOf, tlOf]; omega
          · cases hx; exact .inl (by decide)))
        simp only [Nat.zero_add] at d0 d1 d2 d3 d4
        obtain ⟨xo, xa, xb, xc, xn⟩ := x
        simp only at d0 d1 d2 d3 d4
        clear b1 e1 lo1 r1 hx N4
        obtain ⟨v0, v1, v2, v3, v4, y0, y1, y2, y3, y4, hf⟩ := N5.out.cells5 hk2
        have f0 := hf 0 (by decide)
        have f1 := hf 1 (by decide)
        have f2 := hf 2 (by decide)
        have f3 := hf 3 (by decide)
        have f4 := hf 4 (by decide)
        rw [Nat.add_zero] at f0
        have N6 := Lib.hid (N5.out.five hk2 ⟨xo, xa, xb, xc, xn⟩)
        clear hf HM0
        go_wp2_with fail
        change Calls _ _ _ (fiveAt w4 b2 (o2 + k * 5) ⟨xo, xa, xb, xc, xn⟩) _
        generalize fiveAt w4 b2 (o2 + k * 5) ⟨xo, xa, xb, xc, xn⟩ = wq at *
        generalize p.set k ⟨xo, xa, xb, xc, xn⟩ = q at *
        clear d0 d1 d2 d3 d4 y0 y1 y2 y3 y4 f0 f1 f2 f3 f4 N5 HRP Hpn Hpl
        refine (next_bad (z := _) N6.out.rd HB.out).mono ?_; rintro e w11 ⟨A11, c11, rfl, x1⟩
        replace N6 := Lib.hid (N6.out.exte x1)
        clear x1
        go_wp2_with fail
        refine (before_bad (z := _) N6.out.rd HB.out).mono ?_; rintro e w12 ⟨A12, c12, rfl, x1⟩
        replace N6 := Lib.hid (N6.out.exte x1)
        clear x1
        go_wp2_with fail
        refine (reached_bad _ _ _ _ _ N6.out.rd HB.out).mono ?_; rintro e w13 ⟨rfl, x1⟩
        replace N6 := Lib.hid (N6.out.exte x1)
        clear x1
        go_wp2_with fail
        refine (ends_bad _ _ _ _ _ N6.out.rd HB.out).mono ?_; rintro e w14 ⟨rfl, x1⟩
        replace N6 := Lib.hid (N6.out.exte x1)
        clear x1
        go_wp2_with fail
        refine (dist_bad _ _ _ _ _ N6.out.rd HB.out).mono ?_; rintro e w15 ⟨rfl, x1⟩
        replace N6 := Lib.hid (N6.out.exte x1)
        clear x1
        go_wp2_with fail
        refine (dom_bad _ _ _ _ _ N6.out.rd HB.out).mono ?_; rintro e w16 ⟨rfl, x1⟩
        replace N6 := Lib.hid (N6.out.exte x1)
        clear x1
        go_wp2_with fail
        refine (blocks_bad _ _ _ _ _ N6.out.rd HB.out).mono ?_; rintro e w17 ⟨rfl, x1⟩
        replace N6 := Lib.hid (N6.out.exte x1)
        clear x1
        have E6 := Lib.hid N6.out.ext
        clear N6 HB
        go_wp2_with (refine wpl_build (by rfl) rfl ul_er info_er [.tmp 132, .tmp 133, .tmp 134, .tmp 135, .tmp 136, .tmp 137, .tmp 138] (by rfl) (by rfl) (by decide) (f := intz) [160, 160, 160, 160, 160, 160, 160] (by rfl) (fun _ => rfl) ?_)
        intro g6 w6 b1 e1 lo1 r1; refine Lib.hid ?_
        have HL : Hid (Rd intz w6 (some ⟨g6, 0, none⟩) 7 [160, 160, 160, 160, 160, 160, 160] ∧ ∀ (i : Nat) (z : Int), ([160, 160, 160, 160, 160, 160, 160] : List Int)[i]? = some z → z = 160) := Lib.hid ⟨r1, fun i z hz => by
          have := List.mem_of_getElem? hz
          simpa using this⟩
        replace E6 := Lib.hid (E6.out.t e1)
        clear b1 e1 lo1 r1
        generalize ([160, 160, 160, 160, 160, 160, 160] : List Int) = es at HL
        go_wp2_with fail
        go_loopw [141] (fun v141 wr => ∃ j : Nat, j ≤ 7 ∧ v141 = .int .i64 (j : Int) ∧ Hid (Ext w6 wr)) (fun v _ => 7 - (intOf v).toNat)
        case atStart => exact ⟨0, by omega, rfl, Lib.hid (Ext.refl _)⟩
        case round =>
          obtain ⟨j, hj, rfl, HJ⟩ := hrel
          by_cases hlt : j < 7
          · have hltI : (j : Int) < 7 := by omega
            obtain ⟨b, o, z, hgo, hz, cz⟩ := rd_get (HL.out.1.ext HJ.out) hlt
            cases hgo
            obtain rfl := HL.out.2 j z hz
            unfold intz at cz
            rw [Nat.zero_add] at cz
            clear hz
            go_wp2_with fail
            go_roundw
            case rel => exact ⟨j + 1, by omega, by go_num, HJ⟩
            case measure => simp [intOf]; omega
          · obtain rfl : j = 7 := by omega
            have E7 := Lib.hid (E6.out.t HJ.out)
            clear HJ HL E6
            go_wp2_with fail
            go_ret
            exact ⟨rfl, E7.out⟩
  · have q2 : -1 < zi := by omega
    have q2' : (-1 : Int) ≤ zi := by omega
    by_cases q3 : (n2 : Int) ≤ zi
    · by_cases q6 : zi = (n2 : Int)
      · subst q6
        go_wp2_with (refine wpl_build (by rfl) rfl ul_in info_in [.tmp 38, .tmp 42] (by rfl) (by rfl) (by decide) (f := intz) [(-1 : Int), (n2 : Int)] (by rfl) (fun _ => rfl) ?_)
        intro g w3 b1 e1 lo1 r1; refine Lib.hid ?_
        have HL : Hid (Rd intz w3 (some ⟨g, 0, none⟩) 2 [(-1 : Int), (n2 : Int)] ∧ ∀ (i : Nat) (z : Int), ([(-1 : Int), (n2 : Int)] : List Int)[i]? = some z → z < 0 ∨ (n2 : Int) ≤ z) := Lib.hid ⟨r1, fun i z hz => by
          match i, hz with
          | 0, hz => cases hz; omega
          | 1, hz => cases hz; omega
          | i + 2, hz => cases hz⟩
        have N3 := Lib.hid (N2.out.exte e1)
        clear b1 e1 lo1 r1 N2
        generalize ([(-1 : Int), (n2 : Int)] : List Int) = zs at HL
        go_wp2_with fail
        go_loopw [45] (fun v45 wr => ∃ k : Nat, k ≤ 2 ∧ v45 = .int .i64 (k : Int) ∧ Hid (NewS w p wr (some ⟨b2, o2, none⟩) n2 c2 ∧ Ext w3 wr)) (fun v _ => 2 - (intOf v).toNat)
        case atStart => exact ⟨0, by omega, rfl, Lib.hid ⟨N3.out, Ext.refl _⟩⟩
        case round =>
          obtain ⟨k, hk, rfl, HJ⟩ := hrel
          by_cases hlt : k < 2
          · have hltI : (k : Int) < 2 := by omega
            obtain ⟨b, o, z, hgo, hz, cz⟩ := rd_get (HL.out.1.ext HJ.out.2) hlt
            cases hgo
            unfold intz at cz
            have HZ := Lib.hid (HL.out.2 k z hz)
            rw [Nat.zero_add] at cz
            clear hz
            go_wp2_with fail
            refine (next_out HJ.out.1.rd HRP.out HZ.out).mono ?_; rintro e w4 ⟨A4, c4, rfl, x1⟩
            have HJ1 : Hid (NewS w p w4 (some ⟨b2, o2, none⟩) n2 c2 ∧ Ext w3 w4) := Lib.hid ⟨HJ.out.1.exte x1, HJ.out.2.t x1⟩
            clear x1 HJ cz
            go_wp2_with fail
            refine (before_out HJ1.out.1.rd HRP.out HZ.out).mono ?_; rintro e w5 ⟨A5, c5, rfl, x1⟩
            have HJ2 : Hid (NewS w p w5 (some ⟨b2, o2, none⟩) n2 c2 ∧ Ext w3 w5) := Lib.hid ⟨HJ1.out.1.exte x1, HJ1.out.2.t x1⟩
            clear x1 HJ1
            go_wp2_with fail
            go_roundw
            case rel => exact ⟨k + 1, by omega, by go_num, HJ2⟩
            case measure => simp [intOf]; omega
          · obtain rfl : k = 2 := by omega
            have N4 := Lib.hid HJ.out.1
            clear HJ HL N3
            obtain ⟨k, hkk⟩ : ∃ k, k = ta % n2 := ⟨_, rfl⟩
            have hk2 : k < n2 := by rw [hkk]; exact Nat.mod_lt _ (by omega)
            have Hat : Hid ((wrap64 (ta : Int)).tmod (n2 : Int) = (k : Int)) := Lib.hid (by rw [show wrap64 (ta : Int) = (ta : Int) by unfold wrap64; omega, hkk]; rfl)
            have Hat2 : Hid ((ta : Int) % (n2 : Int) = (k : Int)) := Lib.hid (by rw [hkk]; rfl)
            have heq0 : ((n2 : Int) == 0) = false := by simp; omega
            obtain ⟨r, hr⟩ : ∃ r, r = wy % 4 := ⟨_, rfl⟩
            have hrI : (wy : Int) % 4 = (r : Int) := by omega
            have hrI2 : (wy : Int).tmod 4 = (r : Int) := by rw [Int.tmod_eq_emod_of_nonneg (Int.natCast_nonneg _)]; omega
            have hr4 : r < 4 := by omega
            have hr4I : (r : Int) < 4 := by omega
            clear hr hkk
            go_upto_region 13 with fail
            first | rw [Hat2.out] | rw [Hat.out]
            clear Hat Hat2
            have hkI : (k : Int) < (n2 : Int) := by omega
            go_wp2_with (refine wpl_buildS insC_len (by decide) (by rfl) rfl ul_ins info_ins [.tmp 83, .tmp 84, .tmp 87, .tmp 88] (by rfl) (by rfl) (by decide) [⟨0, 0, 0, 0, 0⟩, ⟨1, 0, 0, 1, 0⟩, ⟨9, 0, 0, 0, (n2 : Int)⟩, ⟨3, 8, 0, 0, 0⟩] (by rfl) ?_)
            intro g4 w4 b1 e1 lo1 r1; refine Lib.hid ?_
            have N5 := Lib.hid (N4.out.exte e1)
            obtain ⟨b', o', x, h1, _, hx, d0, d1, d2, d3, d4⟩ := r1.ins (k := r) hr4
            cases h1
            have HB : Hid ((checkF (p.set k x)).2 ≠ 0) := Lib.hid (bad_set (by rw [Hpn.out]; exact hk2) (by
              rw [Hpn.out]
              rcases (by omega : r = 0 ∨ r = 1 ∨ r = 2 ∨ r = 3) with rfl | rfl | rfl | rfl
              · cases hx; exact .inl (by decide)
              · cases hx; exact .inl (by decide)
              · cases hx
                refine .inr ⟨?_, Int.le_refl _⟩
                unfold tgtF oneF
                simp [okOp, rgOk, nOk, nrOf, tlOf]; omega
              · cases hx; exact .inl (by decide)))
            simp only [Nat.zero_add] at d0 d1 d2 d3 d4
            obtain ⟨xo, xa, xb, xc, xn⟩ := x
            simp only at d0 d1 d2 d3 d4
            clear b1 e1 lo1 r1 hx N4
            obtain ⟨v0, v1, v2, v3, v4, y0, y1, y2, y3, y4, hf⟩ := N5.out.cells5 hk2
            have f0 := hf 0 (by decide)
            have f1 := hf 1 (by decide)
            have f2 := hf 2 (by decide)
            have f3 := hf 3 (by decide)
            have f4 := hf 4 (by decide)
            rw [Nat.add_zero] at f0
            have N6 := Lib.hid (N5.out.five hk2 ⟨xo, xa, xb, xc, xn⟩)
            clear hf HM0
            go_wp2_with fail
            change Calls _ _ _ (fiveAt w4 b2 (o2 + k * 5) ⟨xo, xa, xb, xc, xn⟩) _
            generalize fiveAt w4 b2 (o2 + k * 5) ⟨xo, xa, xb, xc, xn⟩ = wq at *
            generalize p.set k ⟨xo, xa, xb, xc, xn⟩ = q at *
            clear d0 d1 d2 d3 d4 y0 y1 y2 y3 y4 f0 f1 f2 f3 f4 N5 HRP Hpn Hpl
            refine (next_bad (z := _) N6.out.rd HB.out).mono ?_; rintro e w11 ⟨A11, c11, rfl, x1⟩
            replace N6 := Lib.hid (N6.out.exte x1)
            clear x1
            go_wp2_with fail
            refine (before_bad (z := _) N6.out.rd HB.out).mono ?_; rintro e w12 ⟨A12, c12, rfl, x1⟩
            replace N6 := Lib.hid (N6.out.exte x1)
            clear x1
            go_wp2_with fail
            refine (reached_bad _ _ _ _ _ N6.out.rd HB.out).mono ?_; rintro e w13 ⟨rfl, x1⟩
            replace N6 := Lib.hid (N6.out.exte x1)
            clear x1
            go_wp2_with fail
            refine (ends_bad _ _ _ _ _ N6.out.rd HB.out).mono ?_; rintro e w14 ⟨rfl, x1⟩
            replace N6 := Lib.hid (N6.out.exte x1)
            clear x1
            go_wp2_with fail
            refine (dist_bad _ _ _ _ _ N6.out.rd HB.out).mono ?_; rintro e w15 ⟨rfl, x1⟩
            replace N6 := Lib.hid (N6.out.exte x1)
            clear x1
            go_wp2_with fail
            refine (dom_bad _ _ _ _ _ N6.out.rd HB.out).mono ?_; rintro e w16 ⟨rfl, x1⟩
            replace N6 := Lib.hid (N6.out.exte x1)
            clear x1
            go_wp2_with fail
            refine (blocks_bad _ _ _ _ _ N6.out.rd HB.out).mono ?_; rintro e w17 ⟨rfl, x1⟩
            replace N6 := Lib.hid (N6.out.exte x1)
            clear x1
            have E6 := Lib.hid N6.out.ext
            clear N6 HB
            go_wp2_with (refine wpl_build (by rfl) rfl ul_er info_er [.tmp 132, .tmp 133, .tmp 134, .tmp 135, .tmp 136, .tmp 137, .tmp 138] (by rfl) (by rfl) (by decide) (f := intz) [160, 160, 160, 160, 160, 160, 160] (by rfl) (fun _ => rfl) ?_)
            intro g6 w6 b1 e1 lo1 r1; refine Lib.hid ?_
            have HL : Hid (Rd intz w6 (some ⟨g6, 0, none⟩) 7 [160, 160, 160, 160, 160, 160, 160] ∧ ∀ (i : Nat) (z : Int), ([160, 160, 160, 160, 160, 160, 160] : List Int)[i]? = some z → z = 160) := Lib.hid ⟨r1, fun i z hz => by
              have := List.mem_of_getElem? hz
              simpa using this⟩
            replace E6 := Lib.hid (E6.out.t e1)
            clear b1 e1 lo1 r1
            generalize ([160, 160, 160, 160, 160, 160, 160] : List Int) = es at HL
            go_wp2_with fail
            go_loopw [141] (fun v141 wr => ∃ j : Nat, j ≤ 7 ∧ v141 = .int .i64 (j : Int) ∧ Hid (Ext w6 wr)) (fun v _ => 7 - (intOf v).toNat)
            case atStart => exact ⟨0, by omega, rfl, Lib.hid (Ext.refl _)⟩
            case round =>
              obtain ⟨j, hj, rfl, HJ⟩ := hrel
              by_cases hlt : j < 7
              · have hltI : (j : Int) < 7 := by omega
                obtain ⟨b, o, z, hgo, hz, cz⟩ := rd_get (HL.out.1.ext HJ.out) hlt
                cases hgo
                obtain rfl := HL.out.2 j z hz
                unfold intz at cz
                rw [Nat.zero_add] at cz
                clear hz
                go_wp2_with fail
                go_roundw
                case rel => exact ⟨j + 1, by omega, by go_num, HJ⟩
                case measure => simp [intOf]; omega
              · obtain rfl : j = 7 := by omega
                have E7 := Lib.hid (E6.out.t HJ.out)
                clear HJ HL E6
                go_wp2_with fail
                go_ret
                exact ⟨rfl, E7.out⟩
      · have q4 : (n2 : Int) < zi := by omega
        have q5 : ¬ zi ≤ (n2 : Int) := by omega
        have q7 : ¬ zi < (n2 : Int) := by omega
        go_wp2_with (refine wpl_build (by rfl) rfl ul_in info_in [.tmp 38, .tmp 42] (by rfl) (by rfl) (by decide) (f := intz) [(-1 : Int), zi] (by rfl) (fun _ => rfl) ?_)
        intro g w3 b1 e1 lo1 r1; refine Lib.hid ?_
        have HL : Hid (Rd intz w3 (some ⟨g, 0, none⟩) 2 [(-1 : Int), zi] ∧ ∀ (i : Nat) (z : Int), ([(-1 : Int), zi] : List Int)[i]? = some z → z < 0 ∨ (n2 : Int) ≤ z) := Lib.hid ⟨r1, fun i z hz => by
          match i, hz with
          | 0, hz => cases hz; omega
          | 1, hz => cases hz; omega
          | i + 2, hz => cases hz⟩
        have N3 := Lib.hid (N2.out.exte e1)
        clear b1 e1 lo1 r1 N2
        generalize ([(-1 : Int), zi] : List Int) = zs at HL
        go_wp2_with fail
        go_loopw [45] (fun v45 wr => ∃ k : Nat, k ≤ 2 ∧ v45 = .int .i64 (k : Int) ∧ Hid (NewS w p wr (some ⟨b2, o2, none⟩) n2 c2 ∧ Ext w3 wr)) (fun v _ => 2 - (intOf v).toNat)
        case atStart => exact ⟨0, by omega, rfl, Lib.hid ⟨N3.out, Ext.refl _⟩⟩
        case round =>
          obtain ⟨k, hk, rfl, HJ⟩ := hrel
          by_cases hlt : k < 2
          · have hltI : (k : Int) < 2 := by omega
            obtain ⟨b, o, z, hgo, hz, cz⟩ := rd_get (HL.out.1.ext HJ.out.2) hlt
            cases hgo
            unfold intz at cz
            have HZ := Lib.hid (HL.out.2 k z hz)
            rw [Nat.zero_add] at cz
            clear hz
            go_wp2_with fail
            refine (next_out HJ.out.1.rd HRP.out HZ.out).mono ?_; rintro e w4 ⟨A4, c4, rfl, x1⟩
            have HJ1 : Hid (NewS w p w4 (some ⟨b2, o2, none⟩) n2 c2 ∧ Ext w3 w4) := Lib.hid ⟨HJ.out.1.exte x1, HJ.out.2.t x1⟩
            clear x1 HJ cz
            go_wp2_with fail
            refine (before_out HJ1.out.1.rd HRP.out HZ.out).mono ?_; rintro e w5 ⟨A5, c5, rfl, x1⟩
            have HJ2 : Hid (NewS w p w5 (some ⟨b2, o2, none⟩) n2 c2 ∧ Ext w3 w5) := Lib.hid ⟨HJ1.out.1.exte x1, HJ1.out.2.t x1⟩
            clear x1 HJ1
            go_wp2_with fail
            go_roundw
            case rel => exact ⟨k + 1, by omega, by go_num, HJ2⟩
            case measure => simp [intOf]; omega
          · obtain rfl : k = 2 := by omega
            have N4 := Lib.hid HJ.out.1
            clear HJ HL N3
            obtain ⟨k, hkk⟩ : ∃ k, k = ta % n2 := ⟨_, rfl⟩
            have hk2 : k < n2 := by rw [hkk]; exact Nat.mod_lt _ (by omega)
            have Hat : Hid ((wrap64 (ta : Int)).tmod (n2 : Int) = (k : Int)) := Lib.hid (by rw [show wrap64 (ta : Int) = (ta : Int) by unfold wrap64; omega, hkk]; rfl)
            have Hat2 : Hid ((ta : Int) % (n2 : Int) = (k : Int)) := Lib.hid (by rw [hkk]; rfl)
            have heq0 : ((n2 : Int) == 0) = false := by simp; omega
            obtain ⟨r, hr⟩ : ∃ r, r = wy % 4 := ⟨_, rfl⟩
            have hrI : (wy : Int) % 4 = (r : Int) := by omega
            have hrI2 : (wy : Int).tmod 4 = (r : Int) := by rw [Int.tmod_eq_emod_of_nonneg (Int.natCast_nonneg _)]; omega
            have hr4 : r < 4 := by omega
            have hr4I : (r : Int) < 4 := by omega
            clear hr hkk
            go_upto_region 13 with fail
            first | rw [Hat2.out] | rw [Hat.out]
            clear Hat Hat2
            have hkI : (k : Int) < (n2 : Int) := by omega
            go_wp2_with (refine wpl_buildS insC_len (by decide) (by rfl) rfl ul_ins info_ins [.tmp 83, .tmp 84, .tmp 87, .tmp 88] (by rfl) (by rfl) (by decide) [⟨0, 0, 0, 0, 0⟩, ⟨1, 0, 0, 1, 0⟩, ⟨9, 0, 0, 0, (n2 : Int)⟩, ⟨3, 8, 0, 0, 0⟩] (by rfl) ?_)
            intro g4 w4 b1 e1 lo1 r1; refine Lib.hid ?_
            have N5 := Lib.hid (N4.out.exte e1)
            obtain ⟨b', o', x, h1, _, hx, d0, d1, d2, d3, d4⟩ := r1.ins (k := r) hr4
            cases h1
            have HB : Hid ((checkF (p.set k x)).2 ≠ 0) := Lib.hid (bad_set (by rw [Hpn.out]; exact hk2) (by
              rw [Hpn.out]
              rcases (by omega : r = 0 ∨ r = 1 ∨ r = 2 ∨ r = 3) with rfl | rfl | rfl | rfl
              · cases hx; exact .inl (by decide)
              · cases hx; exact .inl (by decide)
              · cases hx
                refine .inr ⟨?_, Int.le_refl _⟩
                unfold tgtF oneF
                simp [okOp, rgOk, nOk, nrOf, tlOf]; omega
              · cases hx; exact .inl (by decide)))
            simp only [Nat.zero_add] at d0 d1 d2 d3 d4
            obtain ⟨xo, xa, xb, xc, xn⟩ := x
            simp only at d0 d1 d2 d3 d4
            clear b1 e1 lo1 r1 hx N4
            obtain ⟨v0, v1, v2, v3, v4, y0, y1, y2, y3, y4, hf⟩ := N5.out.cells5 hk2
            have f0 := hf 0 (by decide)
            have f1 := hf 1 (by decide)
            have f2 := hf 2 (by decide)
            have f3 := hf 3 (by decide)
            have f4 := hf 4 (by decide)
            rw [Nat.add_zero] at f0
            have N6 := Lib.hid (N5.out.five hk2 ⟨xo, xa, xb, xc, xn⟩)
            clear hf HM0
            go_wp2_with fail
            change Calls _ _ _ (fiveAt w4 b2 (o2 + k * 5) ⟨xo, xa, xb, xc, xn⟩) _
            generalize fiveAt w4 b2 (o2 + k * 5) ⟨xo, xa, xb, xc, xn⟩ = wq at *
            generalize p.set k ⟨xo, xa, xb, xc, xn⟩ = q at *
            clear d0 d1 d2 d3 d4 y0 y1 y2 y3 y4 f0 f1 f2 f3 f4 N5 HRP Hpn Hpl
            refine (next_bad (z := _) N6.out.rd HB.out).mono ?_; rintro e w11 ⟨A11, c11, rfl, x1⟩
            replace N6 := Lib.hid (N6.out.exte x1)
            clear x1
            go_wp2_with fail
            refine (before_bad (z := _) N6.out.rd HB.out).mono ?_; rintro e w12 ⟨A12, c12, rfl, x1⟩
            replace N6 := Lib.hid (N6.out.exte x1)
            clear x1
            go_wp2_with fail
            refine (reached_bad _ _ _ _ _ N6.out.rd HB.out).mono ?_; rintro e w13 ⟨rfl, x1⟩
            replace N6 := Lib.hid (N6.out.exte x1)
            clear x1
            go_wp2_with fail
            refine (ends_bad _ _ _ _ _ N6.out.rd HB.out).mono ?_; rintro e w14 ⟨rfl, x1⟩
            replace N6 := Lib.hid (N6.out.exte x1)
            clear x1
            go_wp2_with fail
            refine (dist_bad _ _ _ _ _ N6.out.rd HB.out).mono ?_; rintro e w15 ⟨rfl, x1⟩
            replace N6 := Lib.hid (N6.out.exte x1)
            clear x1
            go_wp2_with fail
            refine (dom_bad _ _ _ _ _ N6.out.rd HB.out).mono ?_; rintro e w16 ⟨rfl, x1⟩
            replace N6 := Lib.hid (N6.out.exte x1)
            clear x1
            go_wp2_with fail
            refine (blocks_bad _ _ _ _ _ N6.out.rd HB.out).mono ?_; rintro e w17 ⟨rfl, x1⟩
            replace N6 := Lib.hid (N6.out.exte x1)
            clear x1
            have E6 := Lib.hid N6.out.ext
            clear N6 HB
            go_wp2_with (refine wpl_build (by rfl) rfl ul_er info_er [.tmp 132, .tmp 133, .tmp 134, .tmp 135, .tmp 136, .tmp 137, .tmp 138] (by rfl) (by rfl) (by decide) (f := intz) [160, 160, 160, 160, 160, 160, 160] (by rfl) (fun _ => rfl) ?_)
            intro g6 w6 b1 e1 lo1 r1; refine Lib.hid ?_
            have HL : Hid (Rd intz w6 (some ⟨g6, 0, none⟩) 7 [160, 160, 160, 160, 160, 160, 160] ∧ ∀ (i : Nat) (z : Int), ([160, 160, 160, 160, 160, 160, 160] : List Int)[i]? = some z → z = 160) := Lib.hid ⟨r1, fun i z hz => by
              have := List.mem_of_getElem? hz
              simpa using this⟩
            replace E6 := Lib.hid (E6.out.t e1)
            clear b1 e1 lo1 r1
            generalize ([160, 160, 160, 160, 160, 160, 160] : List Int) = es at HL
            go_wp2_with fail
            go_loopw [141] (fun v141 wr => ∃ j : Nat, j ≤ 7 ∧ v141 = .int .i64 (j : Int) ∧ Hid (Ext w6 wr)) (fun v _ => 7 - (intOf v).toNat)
            case atStart => exact ⟨0, by omega, rfl, Lib.hid (Ext.refl _)⟩
            case round =>
              obtain ⟨j, hj, rfl, HJ⟩ := hrel
              by_cases hlt : j < 7
              · have hltI : (j : Int) < 7 := by omega
                obtain ⟨b, o, z, hgo, hz, cz⟩ := rd_get (HL.out.1.ext HJ.out) hlt
                cases hgo
                obtain rfl := HL.out.2 j z hz
                unfold intz at cz
                rw [Nat.zero_add] at cz
                clear hz
                go_wp2_with fail
                go_roundw
                case rel => exact ⟨j + 1, by omega, by go_num, HJ⟩
                case measure => simp [intOf]; omega
              · obtain rfl : j = 7 := by omega
                have E7 := Lib.hid (E6.out.t HJ.out)
                clear HJ HL E6
                go_wp2_with fail
                go_ret
                exact ⟨rfl, E7.out⟩
    · have q4 : zi < (n2 : Int) := by omega
      have q5 : ¬ (n2 : Int) < zi := by omega
      have q6 : zi ≤ (n2 : Int) := by omega
      go_wp2_with (refine wpl_build (by rfl) rfl ul_in info_in [.tmp 38, .tmp 42] (by rfl) (by rfl) (by decide) (f := intz) [(-1 : Int), (n2 : Int)] (by rfl) (fun _ => rfl) ?_)
      intro g w3 b1 e1 lo1 r1; refine Lib.hid ?_
      have HL : Hid (Rd intz w3 (some ⟨g, 0, none⟩) 2 [(-1 : Int), (n2 : Int)] ∧ ∀ (i : Nat) (z : Int), ([(-1 : Int), (n2 : Int)] : List Int)[i]? = some z → z < 0 ∨ (n2 : Int) ≤ z) := Lib.hid ⟨r1, fun i z hz => by
        match i, hz with
        | 0, hz => cases hz; omega
        | 1, hz => cases hz; omega
        | i + 2, hz => cases hz⟩
      have N3 := Lib.hid (N2.out.exte e1)
      clear b1 e1 lo1 r1 N2
      generalize ([(-1 : Int), (n2 : Int)] : List Int) = zs at HL
      go_wp2_with fail
      go_loopw [45] (fun v45 wr => ∃ k : Nat, k ≤ 2 ∧ v45 = .int .i64 (k : Int) ∧ Hid (NewS w p wr (some ⟨b2, o2, none⟩) n2 c2 ∧ Ext w3 wr)) (fun v _ => 2 - (intOf v).toNat)
      case atStart => exact ⟨0, by omega, rfl, Lib.hid ⟨N3.out, Ext.refl _⟩⟩
      case round =>
        obtain ⟨k, hk, rfl, HJ⟩ := hrel
        by_cases hlt : k < 2
        · have hltI : (k : Int) < 2 := by omega
          obtain ⟨b, o, z, hgo, hz, cz⟩ := rd_get (HL.out.1.ext HJ.out.2) hlt
          cases hgo
          unfold intz at cz
          have HZ := Lib.hid (HL.out.2 k z hz)
          rw [Nat.zero_add] at cz
          clear hz
          go_wp2_with fail
          refine (next_out HJ.out.1.rd HRP.out HZ.out).mono ?_; rintro e w4 ⟨A4, c4, rfl, x1⟩
          have HJ1 : Hid (NewS w p w4 (some ⟨b2, o2, none⟩) n2 c2 ∧ Ext w3 w4) := Lib.hid ⟨HJ.out.1.exte x1, HJ.out.2.t x1⟩
          clear x1 HJ cz
          go_wp2_with fail
          refine (before_out HJ1.out.1.rd HRP.out HZ.out).mono ?_; rintro e w5 ⟨A5, c5, rfl, x1⟩
          have HJ2 : Hid (NewS w p w5 (some ⟨b2, o2, none⟩) n2 c2 ∧ Ext w3 w5) := Lib.hid ⟨HJ1.out.1.exte x1, HJ1.out.2.t x1⟩
          clear x1 HJ1
          go_wp2_with fail
          go_roundw
          case rel => exact ⟨k + 1, by omega, by go_num, HJ2⟩
          case measure => simp [intOf]; omega
        · obtain rfl : k = 2 := by omega
          have N4 := Lib.hid HJ.out.1
          clear HJ HL N3
          obtain ⟨k, hkk⟩ : ∃ k, k = ta % n2 := ⟨_, rfl⟩
          have hk2 : k < n2 := by rw [hkk]; exact Nat.mod_lt _ (by omega)
          have Hat : Hid ((wrap64 (ta : Int)).tmod (n2 : Int) = (k : Int)) := Lib.hid (by rw [show wrap64 (ta : Int) = (ta : Int) by unfold wrap64; omega, hkk]; rfl)
          have Hat2 : Hid ((ta : Int) % (n2 : Int) = (k : Int)) := Lib.hid (by rw [hkk]; rfl)
          have heq0 : ((n2 : Int) == 0) = false := by simp; omega
          obtain ⟨r, hr⟩ : ∃ r, r = wy % 4 := ⟨_, rfl⟩
          have hrI : (wy : Int) % 4 = (r : Int) := by omega
          have hrI2 : (wy : Int).tmod 4 = (r : Int) := by rw [Int.tmod_eq_emod_of_nonneg (Int.natCast_nonneg _)]; omega
          have hr4 : r < 4 := by omega
          have hr4I : (r : Int) < 4 := by omega
          clear hr hkk
          go_upto_region 13 with fail
          first | rw [Hat2.out] | rw [Hat.out]
          clear Hat Hat2
          have hkI : (k : Int) < (n2 : Int) := by omega
          go_wp2_with (refine wpl_buildS insC_len (by decide) (by rfl) rfl ul_ins info_ins [.tmp 83, .tmp 84, .tmp 87, .tmp 88] (by rfl) (by rfl) (by decide) [⟨0, 0, 0, 0, 0⟩, ⟨1, 0, 0, 1, 0⟩, ⟨9, 0, 0, 0, (n2 : Int)⟩, ⟨3, 8, 0, 0, 0⟩] (by rfl) ?_)
          intro g4 w4 b1 e1 lo1 r1; refine Lib.hid ?_
          have N5 := Lib.hid (N4.out.exte e1)
          obtain ⟨b', o', x, h1, _, hx, d0, d1, d2, d3, d4⟩ := r1.ins (k := r) hr4
          cases h1
          have HB : Hid ((checkF (p.set k x)).2 ≠ 0) := Lib.hid (bad_set (by rw [Hpn.out]; exact hk2) (by
            rw [Hpn.out]
            rcases (by omega : r = 0 ∨ r = 1 ∨ r = 2 ∨ r = 3) with rfl | rfl | rfl | rfl
            · cases hx; exact .inl (by decide)
            · cases hx; exact .inl (by decide)
            · cases hx
              refine .inr ⟨?_, Int.le_refl _⟩
              unfold tgtF oneF
              simp [okOp, rgOk, nOk, nrOf, tlOf]; omega
            · cases hx; exact .inl (by decide)))
          simp only [Nat.zero_add] at d0 d1 d2 d3 d4
          obtain ⟨xo, xa, xb, xc, xn⟩ := x
          simp only at d0 d1 d2 d3 d4
          clear b1 e1 lo1 r1 hx N4
          obtain ⟨v0, v1, v2, v3, v4, y0, y1, y2, y3, y4, hf⟩ := N5.out.cells5 hk2
          have f0 := hf 0 (by decide)
          have f1 := hf 1 (by decide)
          have f2 := hf 2 (by decide)
          have f3 := hf 3 (by decide)
          have f4 := hf 4 (by decide)
          rw [Nat.add_zero] at f0
          have N6 := Lib.hid (N5.out.five hk2 ⟨xo, xa, xb, xc, xn⟩)
          clear hf HM0
          go_wp2_with fail
          change Calls _ _ _ (fiveAt w4 b2 (o2 + k * 5) ⟨xo, xa, xb, xc, xn⟩) _
          generalize fiveAt w4 b2 (o2 + k * 5) ⟨xo, xa, xb, xc, xn⟩ = wq at *
          generalize p.set k ⟨xo, xa, xb, xc, xn⟩ = q at *
          clear d0 d1 d2 d3 d4 y0 y1 y2 y3 y4 f0 f1 f2 f3 f4 N5 HRP Hpn Hpl
          refine (next_bad (z := _) N6.out.rd HB.out).mono ?_; rintro e w11 ⟨A11, c11, rfl, x1⟩
          replace N6 := Lib.hid (N6.out.exte x1)
          clear x1
          go_wp2_with fail
          refine (before_bad (z := _) N6.out.rd HB.out).mono ?_; rintro e w12 ⟨A12, c12, rfl, x1⟩
          replace N6 := Lib.hid (N6.out.exte x1)
          clear x1
          go_wp2_with fail
          refine (reached_bad _ _ _ _ _ N6.out.rd HB.out).mono ?_; rintro e w13 ⟨rfl, x1⟩
          replace N6 := Lib.hid (N6.out.exte x1)
          clear x1
          go_wp2_with fail
          refine (ends_bad _ _ _ _ _ N6.out.rd HB.out).mono ?_; rintro e w14 ⟨rfl, x1⟩
          replace N6 := Lib.hid (N6.out.exte x1)
          clear x1
          go_wp2_with fail
          refine (dist_bad _ _ _ _ _ N6.out.rd HB.out).mono ?_; rintro e w15 ⟨rfl, x1⟩
          replace N6 := Lib.hid (N6.out.exte x1)
          clear x1
          go_wp2_with fail
          refine (dom_bad _ _ _ _ _ N6.out.rd HB.out).mono ?_; rintro e w16 ⟨rfl, x1⟩
          replace N6 := Lib.hid (N6.out.exte x1)
          clear x1
          go_wp2_with fail
          refine (blocks_bad _ _ _ _ _ N6.out.rd HB.out).mono ?_; rintro e w17 ⟨rfl, x1⟩
          replace N6 := Lib.hid (N6.out.exte x1)
          clear x1
          have E6 := Lib.hid N6.out.ext
          clear N6 HB
          go_wp2_with (refine wpl_build (by rfl) rfl ul_er info_er [.tmp 132, .tmp 133, .tmp 134, .tmp 135, .tmp 136, .tmp 137, .tmp 138] (by rfl) (by rfl) (by decide) (f := intz) [160, 160, 160, 160, 160, 160, 160] (by rfl) (fun _ => rfl) ?_)
          intro g6 w6 b1 e1 lo1 r1; refine Lib.hid ?_
          have HL : Hid (Rd intz w6 (some ⟨g6, 0, none⟩) 7 [160, 160, 160, 160, 160, 160, 160] ∧ ∀ (i : Nat) (z : Int), ([160, 160, 160, 160, 160, 160, 160] : List Int)[i]? = some z → z = 160) := Lib.hid ⟨r1, fun i z hz => by
            have := List.mem_of_getElem? hz
            simpa using this⟩
          replace E6 := Lib.hid (E6.out.t e1)
          clear b1 e1 lo1 r1
          generalize ([160, 160, 160, 160, 160, 160, 160] : List Int) = es at HL
          go_wp2_with fail
          go_loopw [141] (fun v141 wr => ∃ j : Nat, j ≤ 7 ∧ v141 = .int .i64 (j : Int) ∧ Hid (Ext w6 wr)) (fun v _ => 7 - (intOf v).toNat)
          case atStart => exact ⟨0, by omega, rfl, Lib.hid (Ext.refl _)⟩
          case round =>
            obtain ⟨j, hj, rfl, HJ⟩ := hrel
            by_cases hlt : j < 7
            · have hltI : (j : Int) < 7 := by omega
              obtain ⟨b, o, z, hgo, hz, cz⟩ := rd_get (HL.out.1.ext HJ.out) hlt
              cases hgo
              obtain rfl := HL.out.2 j z hz
              unfold intz at cz
              rw [Nat.zero_add] at cz
              clear hz
              go_wp2_with fail
              go_roundw
              case rel => exact ⟨j + 1, by omega, by go_num, HJ⟩
              case measure => simp [intOf]; omega
            · obtain rfl : j = 7 := by omega
              have E7 := Lib.hid (E6.out.t HJ.out)
              clear HJ HL E6
              go_wp2_with fail
              go_ret
              exact ⟨rfl, E7.out⟩
end Go.Proofs.Ytlneifgihdickaa
