/- MergeDeal: the walk of the law: for any list of small numbers it answers true and leaves all memory as it was (no condition). -/
import Derived.Test.YtkeapijehfacfaaMergeAll
import Derived.Test.YtkeapijehfacfaaMdp
namespace Go.Proofs.Ytkeapijehfacfaa
open Go.RowKit Go.Fx
theorem ul_is : Try.prog.underlying 45 = some (.slice 3) := by kernel_rfl
theorem info_is : (Try.prog.info? 3).map (fun i => (i.zero, i.size, i.bytes)) = some (some (.int .i64 0), 1, 8) := by kernel_rfl
/-- A list that is dealt: a slice, and what it holds. -/
structure DlL (w : World) (A : Option Addr) (n : Nat) (L : List Ev) : Prop where
  rd : RdS 5 evC w A n L
  le : n ≤ 50
  rng : ∀ x ∈ L, 1 ≤ x.to ∧ x.to ≤ 16
theorem law_deal {A : Option Addr} {n c : Nat} {L : List Ev} {w : World} (h : DlL w A n L) :
    Calls Try.prog 21 #[.slice A n c, .int .i64 16] w fun e w' => ∃ A' c' ss, e = .returned (.tuple #[.slice A' 16 c', .int .i64 (-1), .int .i64 0]) ∧ Lse w.heap.size w' A' 16 c' ss (dealL L 16) ∧ Ext w w' := by
  refine (deal_ A n c L 16 w h.rd (by have := h.le; omega)).mono ?_
  rintro e w' ⟨A', n', c', ss, rfl, hl, he⟩
  rw [dealF_ok h.rng] at hl ⊢
  have hn := hl.n_
  rw [dealL_len] at hn
  subst hn
  exact ⟨A', c', ss, rfl, hl, he⟩
set_option maxRecDepth 100000 in
set_option maxHeartbeats 8000000 in
theorem walkMergeDeal (A0 : Option Addr) (n0 c0 : Nat) (l : List Sm) (w : World) (h0 : SmArg w A0 n0 c0 l) :
    Calls Try.prog 4 #[.slice A0 n0 c0] w fun e w' => e = .returned (.bool true) ∧ Ext w w' := by
  obtain ⟨L, hL⟩ : ∃ L, L = evsF l 50 := ⟨_, rfl⟩
  have hLd : Dif L := by rw [hL]; exact evsF_dif _ _
  have hLo : ∀ x ∈ L, EvOk x := fun x hx => by rw [hL] at hx; obtain ⟨y, hy, rfl⟩ := evsF_in hx; exact mkE_ok (h0.ok y hy)
  have hLt : ∀ x ∈ L, 1 ≤ x.to ∧ x.to ≤ 16 := fun x hx => by rw [hL] at hx; obtain ⟨y, hy, rfl⟩ := evsF_in hx; simp only [mkE]; omega
  have HEv := Lib.hid (fun w' (e : Ext w w') => law_evs hL (h0.ext e))
  obtain ⟨S, hS⟩ : ∃ S, S = isort L := ⟨_, rfl⟩
  have HSs := Lib.hid (show Srt S by rw [hS]; exact isort_srt hLd)
  have HSo := Lib.hid (show ∀ x ∈ S, EvOk x from fun x hx => by rw [hS] at hx; exact hLo x ((isort_perm L).mem_iff.1 hx))
  have HSt := Lib.hid (show ∀ x ∈ S, 1 ≤ x.to ∧ x.to ≤ 16 from fun x hx => by rw [hS] at hx; exact hLt x ((isort_perm L).mem_iff.1 hx))
  have HS := Lib.hid hS
  have HLd := Lib.hid hLd
  have HLo := Lib.hid hLo
  have HLt := Lib.hid hLt
  clear h0 hL hLd hLo hLt hS
  go_enter Try.func4, Try.ntmps4
  go_wp2_with fail
  refine (awake_ w).mono ?_; rintro e w1 ⟨rfl, e1⟩
  have E1 := Lib.hid e1
  clear e1
  go_wp2_with fail
  refine (HEv.out _ E1.out).mono ?_; rintro e w2 ⟨A2, n2, c2, rfl, r2, q2, m2, e2⟩
  have R2 := Lib.hid r2
  have M2 := Lib.hid m2
  have Q2 := Lib.hid q2
  have E2 := Lib.hid (E1.out.t e2)
  clear r2 q2 m2 e2 E1 HEv
  go_wp2_with fail
  refine (law_sort HS.out HLd.out R2.out Q2.out M2.out HLo.out).mono ?_; rintro e w3 ⟨A3, n3, c3, rfl, r3, q3, m3, e3⟩
  obtain ⟨g4, hg4⟩ : ∃ g4, g4 = w3.heap.size := ⟨_, rfl⟩
  have hb4 := Blk.new w3 24 #[.slice A2 n2 c2, .slice A3 n3 c3]
  obtain ⟨w4, hw4⟩ : ∃ w4, w4 = w3.alloc (.cells #[.slice A2 n2 c2, .slice A3 n3 c3] 24) := ⟨_, rfl⟩
  have hx4 : Ext w3 w4 := by rw [hw4]; exact Ext.alloc _ _
  rw [← hw4, ← hg4] at hb4
  have HB4 := Lib.hid hb4
  have HD2 : Hid (DlL w4 A2 n2 L) := Lib.hid ⟨(R2.out.ext e3).ext hx4, M2.out, HLt.out⟩
  have HD3 : Hid (DlL w4 A3 n3 S) := Lib.hid ⟨r3.ext hx4, m3, HSt.out⟩
  have E4 := Lib.hid ((E2.out.t e3).t hx4)
  have Q3 := Lib.hid q3
  have HW4 := Lib.hid hw4
  have HG4 := Lib.hid hg4
  clear r3 q3 m3 e3 hx4 hb4 hw4 hg4 R2 M2 Q2 E2 HS HLd HLo HLt
  go_wp2_with fail
  change Code.wp _ _ _ _ (w3.alloc (.cells #[.slice A2 n2 c2, .slice A3 n3 c3] 24))
  rw [← HW4.out, ← HG4.out]
  clear HW4 HG4
  go_loopw [36] (fun i wr => ∃ t : Nat, t ≤ 2 ∧ i = .int .i64 (t : Int) ∧ Hid (Ext w4 wr)) (fun i _ => 2 - (intOf i).toNat)
  case atStart => exact ⟨0, by omega, rfl, Lib.hid (Ext.refl _)⟩
  case round =>
    obtain ⟨t, ht, rfl, HX⟩ := hrel
    by_cases hlt : t < 2
    · have hltI : (t : Int) < 2 := by omega
      obtain ⟨AL, nL, cL, LL, hcL, hDL⟩ : ∃ AL nL cL LL, wr.cell? ⟨g4, 0 + t, none⟩ = some (.slice AL nL cL) ∧ DlL w4 AL nL LL := by
        have hc := fun i => (HB4.out.ext HX.out).cell i
        rcases (show t = 0 ∨ t = 1 by omega) with rfl | rfl
        · exact ⟨A2, n2, c2, L, by rw [hc]; rfl, HD2.out⟩
        · exact ⟨A3, n3, c3, S, by rw [hc]; rfl, HD3.out⟩
      have HDL := Lib.hid hDL
      simp only [Nat.zero_add] at hcL
      clear hDL
      go_wp2_with fail
      refine (law_deal ⟨HDL.out.rd.ext HX.out, HDL.out.le, HDL.out.rng⟩).mono ?_; rintro e w5 ⟨A5, c5, ss, rfl, hl5, e5⟩
      obtain ⟨gD, oD, rfl, _⟩ := hl5.room.some_ (by have := hl5.room.2.1; omega)
      have HL5 := Lib.hid hl5
      have HX5 := Lib.hid (HX.out.t e5)
      clear hl5 e5 hcL
      go_wp2_with (refine wpl_makeN (n := 16) rfl rfl ul_is info_is rfl rfl rfl rfl rfl (by omega) (by unfold maxLen; omega) ?_)
      intro A6 w6 r6 e6 f6; refine Lib.hid ?_
      obtain ⟨g6, o6, rfl, _⟩ := r6.some_ (by omega)
      have H6 : Hid (Room w6 (some ⟨g6, o6, none⟩) 16 16 (cntsL (LL.take 0)) ∧ Ext w5 w6) := Lib.hid ⟨by rw [List.take_zero, cntsL_nil]; exact r6, e6⟩
      have HG6 := Lib.hid (f6 g6 ⟨by omega, o6, rfl⟩)
      clear r6 e6 f6
      go_wp2_with fail
      obtain ⟨w0, rfl⟩ : ∃ w0, w0 = wr := ⟨_, rfl⟩
      go_loopw [60] (fun i wx => ∃ p : Nat, p ≤ nL ∧ i = .int .i64 (p : Int) ∧ Hid (Room wx (some ⟨g6, o6, none⟩) 16 16 (cntsL (LL.take p)) ∧ Ext w5 wx)) (fun i _ => nL - (intOf i).toNat)
      case atStart => exact ⟨0, by omega, rfl, H6⟩
      case round =>
        clear H6
        obtain ⟨p, hp, rfl, HJ⟩ := hrel
        have hn50 := HDL.out.le
        by_cases hpl : p < nL
        · obtain ⟨b2, o2, x, rfl, _, hx, c0, c1, c2', c3', c4⟩ := (HDL.out.rd.ext (HX5.out.t HJ.out.2)).ev hpl
          have hpI : (p : Int) < (nL : Int) := by omega
          have hto := HDL.out.rng x (List.mem_of_getElem? hx)
          obtain ⟨j, hj⟩ : ∃ j : Nat, x.to = (j : Int) + 1 := ⟨(x.to - 1).toNat, by omega⟩
          have hj16 : j < 16 := by omega
          have hjI : (j : Int) < 16 := by omega
          -- the event's own block
          obtain ⟨g8, hg8⟩ : ∃ g8, g8 = wr.heap.size := ⟨_, rfl⟩
          obtain ⟨w8, hw8⟩ : ∃ w8, w8 = wr.alloc (.cells (evC x).toArray 37) := ⟨_, rfl⟩
          have hb8 := Blk.new wr 37 (evC x).toArray
          rw [← hw8, ← hg8] at hb8
          have hx8 : Ext wr w8 := by rw [hw8]; exact Ext.alloc _ _
          have HR8 := Lib.hid (HJ.out.1.ext hx8)
          have HX8 := Lib.hid (HJ.out.2.t hx8)
          have HB8 := Lib.hid hb8
          have HW8 := Lib.hid hw8
          have HG8 := Lib.hid hg8
          -- what is dealt to the process
          obtain ⟨⟨sA, sn, sc⟩, hsj⟩ : ∃ s, ss[j]? = some s := ⟨ss[j]'(by have h1 := HL5.out.n_; have h2 := HL5.out.len; omega), List.getElem?_eq_getElem _⟩
          obtain ⟨lj, hlj, hrj⟩ := HL5.out.at_ j _ hsj
          rw [dealL_at _ hj16] at hlj
          cases hlj
          obtain ⟨q, hq⟩ : ∃ q, q = (forE (LL.take p) ((j : Int) + 1)).length := ⟨_, rfl⟩
          have hxq := forE_at hx
          rw [hj, ← hq] at hxq
          have hrd := (show RdS 5 evC w5 sA sn (forE LL ((j : Int) + 1)) from hrj.rd evC_len (by decide))
          have hqs : q < sn := by have h1 := (List.getElem?_eq_some_iff.1 hxq).1; have h2 := hrd.1; omega
          have hqI : (q : Int) < (sn : Int) := by omega
          have hdq : decide ((sn : Int) ≤ (q : Int)) = false := decide_eq_false (by omega)
          obtain ⟨b3, o3, y, e3, _, hy, z0, z1, z2, z3, z4⟩ := (hrd.ext HX8.out).ev hqs
          rw [hxq] at hy
          cases hy
          subst e3
          have hqn : q ≤ 50 := by rw [hq]; have h1 := forE_le (LL.take p) ((j : Int) + 1); rw [List.length_take] at h1; omega
          have Hq := Lib.hid hq
          have Hx := Lib.hid hx
          have Hj := Lib.hid hj
          have hAc := HR8.out.cellAt (k := j) (u := .int .i64 (q : Int)) (by rw [cntsL_at _ hj16, hq])
          have hAf := HR8.out.frozenAt (k := j) hj16
          have Hsj := Lib.hid hsj
          have hDc := (HL5.out.ext HX8.out).room.cellAt (k := j) (u := slv ⟨some ⟨b3, o3, none⟩, sn, sc⟩) (by rw [List.getElem?_map, hsj]; rfl)
          unfold slv at hDc
          simp only at hDc
          have hneq := fun w' => neq_ev w' x x
          rw [show decide (x = x) = true from decide_eq_true rfl] at hneq
          unfold evV at hneq
          have hgu := fun w' op a b xs ys => guard_ev w' op a b xs ys
          have hw1 : IntKind.i64.wrap (x.to - 1) = (j : Int) := by rw [show x.to - 1 = (j : Int) by omega]; exact IntWalk.i64_in _ (by omega)
          clear hx hj hb8 hw8 hg8 hx8 hsj hrj hq hxq hrd hto
          go_upto_region 17 with fail
          change Code.wp _ _ _ _ (wr.alloc (.cells (evC x).toArray 37))
          rw [← HW8.out, ← HG8.out]
          clear HW8 HG8 c0 c1 c2' c3' c4
          obtain ⟨d0, d1, d2, d3, d4⟩ := HB8.out.ev
          go_wp2_with fail
          go_quiet (fail)
          go_upto_region 20 with fail
          have HR9 := Lib.hid (HR8.out.ext (Ext.drewN w8 nq))
          have HX9 := Lib.hid (HX8.out.t (Ext.drewN w8 nq))
          generalize w8.drewN nq = w9 at *
          clear HR8 HX8 hAc hAf hDc z0 z1 z2 z3 z4 d0 d1 d2 d3 d4 hneq hgu HB8
          have hAc := HR9.out.cellAt (k := j) (u := .int .i64 (q : Int)) (by rw [cntsL_at _ hj16, Hq.out])
          have hAf := HR9.out.frozenAt (k := j) hj16
          have hw2 : IntKind.i64.wrap ((q : Int) + 1) = (q : Int) + 1 := IntWalk.i64_in _ (by omega)
          have HN : Hid (Room (w9.setCell ⟨g6, o6 + j, none⟩ (.int .i64 ((q : Int) + 1))) (some ⟨g6, o6, none⟩) 16 16 (cntsL (LL.take (p + 1))) ∧ Ext w5 (w9.setCell ⟨g6, o6 + j, none⟩ (.int .i64 ((q : Int) + 1)))) := Lib.hid ⟨by
            rw [take_snoc Hx.out, cntsL_snoc hj16 Hj.out, ← Hq.out]
            exact HR9.out.set (k := j) hj16 _, below_set HX9.out HG6.out _⟩
          clear HR9 HX9 Hq Hx Hj
          go_wp2_with fail
          go_roundw
          case rel => exact ⟨p + 1, by omega, by go_num, HN⟩
          case measure => simp [intOf]; omega
        · have hpI : ¬ ((p : Int) < (nL : Int)) := by omega
          have hfull : LL.take p = LL := List.take_of_length_le (by have := HDL.out.rd.1; omega)
          have HJ2 := HJ.out
          rw [hfull] at HJ2
          have HJ3 := Lib.hid HJ2
          clear HJ HJ2 hfull
          go_wp2_with fail
          go_loopw [100] (fun i wx => ∃ k : Nat, k ≤ 16 ∧ i = .int .i64 (k : Int) ∧ Hid (Room wx (some ⟨g6, o6, none⟩) 16 16 (cntsL LL) ∧ Ext w5 wx)) (fun i _ => 16 - (intOf i).toNat)
          case atStart => exact ⟨0, by omega, rfl, HJ3⟩
          case round =>
            clear HJ3
            obtain ⟨k, hk, rfl, HJ⟩ := hrel
            by_cases hkl : k < 16
            · have hkI : (k : Int) < 16 := by omega
              obtain ⟨⟨sA, sn, sc⟩, hsj⟩ : ∃ s, ss[k]? = some s := ⟨ss[k]'(by have h1 := HL5.out.n_; have h2 := HL5.out.len; omega), List.getElem?_eq_getElem _⟩
              obtain ⟨lj, hlj, hrj⟩ := HL5.out.at_ k _ hsj
              rw [dealL_at _ hkl] at hlj
              cases hlj
              have hsn : (forE LL ((k : Int) + 1)).length = sn := (hrj.rd evC_len (by decide)).1
              have hAc := HJ.out.1.cellAt (k := k) (u := .int .i64 (sn : Int)) (by rw [cntsL_at _ hkl, hsn])
              have hDc := (HL5.out.ext HJ.out.2).room.cellAt (k := k) (u := slv ⟨sA, sn, sc⟩) (by rw [List.getElem?_map, hsj]; rfl)
              unfold slv at hDc
              simp only at hDc
              have hne : ((sn : Int) != (sn : Int)) = false := by simp
              clear hsj hrj hsn
              go_wp2_with fail
              go_quiet (fail)
              go_wp2_with fail
              go_roundw
              case rel => exact ⟨k + 1, by omega, by go_num, Lib.hid ⟨HJ.out.1.ext (by first | exact Ext.drewN _ _ | exact Ext.drew _), HJ.out.2.t (by first | exact Ext.drewN _ _ | exact Ext.drew _)⟩⟩
              case measure => simp [intOf]; omega
            · have hkI : ¬ ((k : Int) < 16) := by omega
              have HZ := Lib.hid (HX5.out.t HJ.out.2)
              clear HJ
              go_wp2_with fail
              go_roundw
              case rel => exact ⟨t + 1, by omega, by go_num, HZ⟩
              case measure => simp [intOf]; omega
    · have hltI : ¬ ((t : Int) < 2) := by omega
      have HD3 : Hid (DlL wr A3 n3 S) := Lib.hid ⟨HD3.out.rd.ext HX.out, HD3.out.le, HD3.out.rng⟩
      have E5 := Lib.hid (E4.out.t HX.out)
      have HMD := Lib.hid (merge_deal HSs.out HSt.out)
      clear hlt ht HX E4
      go_wp2_with fail
      refine (law_deal HD3.out).mono ?_; rintro e w5 ⟨A5, c5, ss, rfl, hl5, e5⟩
      have HL5 := Lib.hid hl5
      have HD3 : Hid (DlL w5 A3 n3 S) := Lib.hid ⟨HD3.out.rd.ext e5, HD3.out.le, HD3.out.rng⟩
      have E6 := Lib.hid (E5.out.t e5)
      clear hl5 e5 E5
      go_wp2_with fail
      refine (law_merge HMD.out.1 HL5.out.room.rd HL5.out.els (by omega) (fun x hx => HSo.out x (HMD.out.2.1 x hx)) (by rw [HMD.out.2.2]; have h1 := HD3.out.rd.1; have h2 := HD3.out.le; omega)).mono ?_; rintro e w6 ⟨A6, n6, c6, rfl, r6, q6, m6, e6⟩
      have R6 := Lib.hid r6
      have M6 := Lib.hid m6
      have HD3 : Hid (DlL w6 A3 n3 S) := Lib.hid ⟨HD3.out.rd.ext e6, HD3.out.le, HD3.out.rng⟩
      have E7 := Lib.hid (E6.out.t e6)
      clear r6 q6 m6 e6 E6 HL5
      go_wp2_with fail
      refine (aw_same rfl R6.out HD3.out.rd M6.out (by have := HD3.out.le; omega)).mono ?_; rintro e w7 ⟨rfl, e7⟩
      have E8 := Lib.hid (E7.out.t e7)
      clear e7 E7
      go_wp2_with fail
      go_ret
      exact ⟨rfl, E8.out⟩
end Go.Proofs.Ytkeapijehfacfaa
