/- FrameBeginnings: the walk of the law: for any body, cut and bytes behind it answers true and leaves all memory as it was (no condition). -/
import Derived.Test.YtippgnbmilnjbaaFbg
import Derived.Test.YtippgnbmilnjbaaFdw
import Derived.Test.YtippgnbmilnjbaaFops
namespace Go.Proofs.Ytippgnbmilnjbaa
open Go.RowKit Go.Fx
abbrev smC (a : Nat × Nat) : List Value := [.int .u16 (a.1 : Int), .int .u8 (a.2 : Int)]
theorem ul_sm : Try.prog.underlying 22 = some (.slice 53) := Try.underlying22
theorem info_sm : (Try.prog.info? 53).map (fun i => (i.zero, i.size, i.bytes)) = some (some (.agg #[.int .u16 0, .int .u8 0]), 2, 4) := by kernel_rfl
theorem smalls_one {w : World} {g : Nat} {x : Nat × Nat} (h : RdS 2 smC w (some ⟨g, 0, none⟩) 1 [x]) (h1 : x.1 < 65536) (h2 : x.2 < 256) : Smalls w (some ⟨g, 0, none⟩) 1 [x] := by
  refine ⟨rfl, fun i a ha => ?_⟩
  obtain ⟨hi, rfl⟩ := List.getElem?_eq_some_iff.1 ha
  simp at hi
  subst hi
  obtain ⟨b, o, y, e, hb, hy, hc⟩ := h.at_ (k := 0) (by omega)
  simp at hy
  subst hy
  exact ⟨b, o, e, hb, by have := hc 0 _ rfl; simpa using this, by have := hc 1 _ rfl; simpa using this, h1, h2⟩
theorem fFs_pos {x : List Nat} : x.length < (frF x).length := by rw [frF_len]; have := (fmF_len x.length).1; omega
theorem Cloned.later {w w' w'' : World} {xs : List Nat} {n : Nat} {s : Sl} (h : Cloned w xs n s w') (e : Ext w' w'') : Cloned w xs n s w'' := ⟨h.n_, h.byt.ext e, h.ext.t e, h.new⟩
set_option maxRecDepth 100000 in
set_option maxHeartbeats 4000000 in
theorem beg_ (x : Nat × Nat) (cut : Nat) (A2 : Option Addr) (n2 c2 : Nat) (more : List Nat) (w : World) (hx1 : x.1 < 65536) (hx2 : x.2 < 256) (hcut : cut < 65536) (h2 : Arg .u8 256 w A2 n2 c2 more) :
    Calls Try.prog 8 #[.agg #[.int .u16 (x.1 : Int), .int .u8 (x.2 : Int)], .int .u16 (cut : Int), .slice A2 n2 c2] w fun e w' => e = .returned (.bool true) ∧ Ext w w' := by
  have hml := mdF_mem (l := [x]) (fun a ha => by simp at ha; subst ha; exact hx2)
  obtain ⟨body, hbody⟩ : ∃ b, b = bodyOf x := ⟨_, rfl⟩
  have hmd : mdF [x] = [body] := by rw [hbody]; rfl
  rw [hmd] at hml
  have hb59 := (hml body (by simp)).2
  have hbl := (hml body (by simp)).1
  have Hmd := Lib.hid hmd
  have Hbl := Lib.hid hbl
  have HBh := Lib.hid h2
  have hn2m : n2 ≤ maxLen := Nat.le_trans h2.le h2.max
  unfold maxLen at hn2m
  have Hx1 := Lib.hid hx1
  have Hx2 := Lib.hid hx2
  obtain ⟨xa, xb⟩ := x
  clear hbody hmd hml hbl h2
  simp only at hx1 hx2
  go_enter Try.func8, Try.ntmps8
  go_wp2_with fail
  refine (awake _).mono ?_; rintro e w1 ⟨rfl, e1⟩
  have hb1 := (Blk.new w 53 #[.int .u16 (xa : Int), .int .u8 (xb : Int)]).ext e1
  have hc0 : w1.cell? ⟨w.heap.size, 0, none⟩ = some (.int .u16 (xa : Int)) := by rw [hb1.cell]; rfl
  have hc1 : w1.cell? ⟨w.heap.size, 1, none⟩ = some (.int .u8 (xb : Int)) := by rw [hb1.cell]; rfl
  have E1 := Lib.hid ((Ext.alloc w _).t e1)
  clear e1 hb1
  go_wp2_with (refine wpl_buildS (f := smC) (s := 2) (fun _ => rfl) (by omega) (by rfl) rfl ul_sm info_sm [.tmp 24] (by rfl) (by rfl) (by decide) [(xa, xb)] (by rfl) ?_)
  intro g2 w2 b2 e2 lo2 r2; refine Lib.hid ?_
  have HM := Lib.hid (made_ (some ⟨g2, 0, none⟩) 1 1 [(xa, xb)] w2 (smalls_one r2 Hx1.out Hx2.out) (Nat.le_refl _))
  unfold MadeP at HM
  rw [Hmd.out] at HM
  have E2 := Lib.hid (E1.out.t e2)
  clear b2 e2 lo2 r2 hc0 hc1
  go_wp2_with fail
  refine HM.out.mono ?_; rintro e w3 ⟨A7, n7, c7, os7, rfl, hl7, e3⟩
  obtain rfl : n7 = 1 := hl7.n_
  obtain ⟨b, o, s, rfl, _, hs, hc⟩ := hl7.rd.at_ (k := 0) (by omega)
  obtain ⟨y, hy, hyb⟩ := hl7.byt.at_ 0 s hs
  simp only [List.getElem?_cons_zero, Option.some.injEq] at hy
  subst hy
  rw [Nat.add_zero] at hc
  obtain ⟨sA, sN, sC⟩ := s
  have hsN : sN = body.length := by have := hyb.room.1; simpa using this.symm
  have HW := Lib.hid (write_ sA sN sC body w3 hyb.rd hyb.lt)
  unfold WriteP at HW
  rw [wrF_ok (by omega)] at HW
  have E3 := Lib.hid (E2.out.t e3)
  obtain ⟨F, hF⟩ : ∃ F, F = (frF body).length := ⟨_, rfl⟩
  have hfl := frF_len body
  have hfm := fmF_len body.length
  have hF1 : sN < F := by omega
  have hF2 : F ≤ 1000 := by omega
  obtain ⟨k, hk⟩ : ∃ k, k = cut % F := ⟨_, rfl⟩
  have hkF : k < F := by rw [hk]; exact Nat.mod_lt _ (by omega)
  obtain ⟨P, hP⟩ : ∃ P, P = (frF body).take k := ⟨_, rfl⟩
  have hpre := pre_frame (x := body) (by omega) (k := k) (by omega)
  rw [← hP] at hpre
  obtain ⟨hp1, hp2, hp3, hp4⟩ := hpre
  obtain ⟨Z, hZ⟩ : ∃ Z, Z = (sz P).1 := ⟨_, rfl⟩
  obtain ⟨need, hneed⟩ : ∃ need, need = Z - k := ⟨_, rfl⟩
  have hkZ : k + need = Z := by omega
  have hnd1 : 1 ≤ need := by omega
  have hnd2 : need ≤ F - k := by omega
  have hrP := rdF_pre hp1 (by omega : P.length < (sz P).1)
  have hnP := ndF_pre hp1
  rw [hp4, ← hZ, ← hneed] at hnP
  have hlP := rdF_least hp1 (by omega : P.length < (sz P).1)
  rw [hp4, ← hZ, ← hneed] at hlP
  obtain ⟨nd1, hnd⟩ : ∃ nd1, nd1 + 1 = need := ⟨need - 1, by omega⟩
  have HrP := Lib.hid hrP
  have HnP := Lib.hid hnP
  have HlP := Lib.hid hlP
  have HF := Lib.hid hF
  have HP := Lib.hid hP
  have HPk := Lib.hid hp4
  have HZ := Lib.hid hZ
  have hmod1 : (cut : Int) % (F : Int) = (k : Int) := (tmod_nat hk).1
  have hmod2 : (cut : Int).tmod (F : Int) = (k : Int) := (tmod_nat hk).2
  have hF0 : 0 < F := by omega
  have hFle : ¬ (F : Int) ≤ (sN : Int) := by omega
  have hneI : ¬ (need : Int) < 1 := by omega
  have hne2 : ¬ ((F : Int) - (k : Int) < (need : Int)) := by omega
  have hnd3 : (need : Int) - 1 = (nd1 : Int) := by omega
  have hkZI : (k : Int) + (need : Int) = (Z : Int) := by omega
  have hZle : Z ≤ 1000 := by omega
  clear hP hp1 hp2 hp3 hp4 hZ hneed hrP hnP hlP hk hfl hfm hF hyb hl7 e3 HM hs hsN hkZ hnd
  unfold slv at hc
  go_wp2_with fail
  refine HW.out.mono ?_; rintro e w4 ⟨sf, rfl, hsf⟩
  have hsfn : sf.n = F := by rw [hsf.n_]; exact HF.out.symm
  obtain ⟨fA, fN, fC⟩ := sf
  simp only at hsfn
  subst hsfn
  have hbt := hsf.byt
  have hfC : fN ≤ fC := hbt.room.2.1
  have hsl := fun w' => u8_toI (A := fA) (n := fN) (c := fC) (hi := k) (li := (k : Int)) w' rfl (by omega)
  have hPr := hbt.rd.take (k := k) (by simp only; omega)
  rw [← HP.out] at hPr
  have HPr := Lib.hid hPr
  have hPl : ∀ y ∈ P, y < 256 := fun y hy => hbt.lt y (List.mem_of_mem_take (by rw [← HP.out]; exact hy))
  have HPl := Lib.hid hPl
  have hkC : k ≤ fC := by omega
  have HR := Lib.hid (read_ fA k fC P w4 hPr hPl hkC hbt.room.2.2.1 (by omega))
  unfold ReadP at HR
  rw [HrP.out] at HR
  have HN := Lib.hid (fun w' (e : Ext w4 w') => need_ fA k fC P w' (hPr.ext e) hPl (by omega))
  unfold NeedP at HN
  rw [HnP.out] at HN
  have HCl0 : Hid (∀ w', Ext w4 w' → Calls Try.prog 32 #[.slice fA k fC] w' fun e w'' => ∃ s : Sl, e = .returned (slv s) ∧ Cloned w' P k s w'') := Lib.hid (fun w' e => clone_ fA k fC P w' (hPr.ext e) hPl (by omega))
  have HLs0 : Hid (∀ w', Ext w4 w' → Calls Try.prog 33 #[.slice fA k fC, .int .i64 (need : Int)] w' (LeastP P need w')) := Lib.hid (fun w' e => fleast_ fA k fC P need w' (hPr.ext e) hnd1 (by omega))
  have E4 := Lib.hid (E3.out.t hsf.ext)
  clear hsf hbt hPr hPl HW
  unfold slv
  go_wp2_with fail
  refine HR.out.mono ?_; rintro e w5 ⟨sr, rfl, hcl⟩
  have E45 := Lib.hid hcl.ext
  have E5 := Lib.hid (E4.out.t hcl.ext)
  have HCl := Lib.hid (fun w' (e : Ext w5 w') => HCl0.out w' (E45.out.t e))
  have HLs := Lib.hid (fun w' (e : Ext w5 w') => HLs0.out w' (E45.out.t e))
  clear hcl HR HCl0 HLs0
  unfold slv
  go_wp2_with fail
  refine (HN.out _ E45.out).mono ?_; rintro e w' ⟨rfl, rfl⟩
  clear HN
  have hw1 : IntKind.i64.wrap (nd1 : Int) = (nd1 : Int) := IntWalk.i64_in _ (by omega)
  by_cases hm : nd1 < n2
  · have hmI : (nd1 : Int) < (n2 : Int) := by omega
    have hsl2 := fun w' => u8_toI (A := A2) (n := n2) (c := c2) (hi := nd1) (li := (nd1 : Int)) w' rfl (by have := HBh.out.le; omega)
    have Hmr := Lib.hid ((HBh.out.rd.ext E5.out).take (k := nd1) (by omega))
    have Hml : Hid (∀ y ∈ more.take nd1, y < 256) := Lib.hid (fun y hy => HBh.out.lt y (List.mem_of_mem_take hy))
    go_upto_region 12 with fail
    go_cut [16] from 81 to 92 (fun v1 wx => ∃ (A : Option Addr) (n c : Nat), v1 = .slice A n c ∧ Hid (Cloned w5 (P ++ more.take nd1) n ⟨A, n, c⟩ wx))
    case first =>
      go_region_law (first
        | (go_simp; go_at_call 32; refine (HCl.out _ (Ext.drew _)).mono ?_; rintro e w8 ⟨sc, rfl, hsc⟩; have hscn : sc.n ≤ 100000 := (by rw [hsc.n_]; omega); rw [← HPk.out] at hsc; have Hsc := Lib.hid hsc; clear hsc; unfold slv)
        | (refine step_append_at (A := sc.A) (n := sc.n) (c := sc.c) (v := .slice A2 nd1 c2) rfl rfl ul_u8 info_u8 rfl (by go_simp) Hsc.out.byt.room (by first | (simp [Act.eval]; done) | (go_simp; done)) (Src.ofRd ul_u8 (Hmr.out.ext ((Ext.drew _).t Hsc.out.ext)) (fun _ => rfl)) (by simp only [maxLen]; omega) (by omega) ?_
           intro A9 c9 w9 r9 ch9 ft9
           have hcl := cloned_app Hsc.out Hml.out Hmr.out.1 r9 ch9 ft9
           have Hcl := Lib.hid (Cloned.down hcl (Ext.drew _))
           clear hcl r9 ch9 ft9))
      all_goals go_wp2_with fail
      all_goals go_simp
      all_goals go_meet
      all_goals exact ⟨A9, sc.n + nd1, c9, rfl, Lib.hid (by have h := Hcl.out; have e := h.n_; simp only at e; rw [← e] at h; exact h)⟩
    case rest =>
    obtain ⟨Al, nl, cl, rfl, Hx⟩ := hcut
    have hx := Hx.out
    have hnl : nl ≤ 1000000 := by have := hx.byt.room.1; simp only [List.length_map, List.length_append, HPk.out, Hmr.out.1] at this; omega
    have HR2 := Lib.hid (read_ Al nl cl (P ++ more.take nd1) wc hx.byt.rd hx.byt.lt hx.byt.room.2.1 hx.byt.room.2.2.1 (by omega))
    unfold ReadP at HR2
    have hne : (rdF (P ++ more.take nd1)).2.2 ≠ 0 := rdF_less (by rw [HPk.out, Hmr.out.1, ← HZ.out]; omega)
    have E56 := Lib.hid hx.ext
    clear hx Hx
    generalize (rdF (P ++ more.take nd1)).1 = y1 at *
    generalize (rdF (P ++ more.take nd1)).2.1 = y2 at *
    generalize (rdF (P ++ more.take nd1)).2.2 = er at *
    have herI : ((er : Int) == 0) = false := by simp; omega
    clear hne
    go_wp2_with fail
    refine HR2.out.mono ?_; rintro e w6 ⟨sr2, rfl, hcl⟩
    have E6 := Lib.hid (E56.out.t hcl.ext)
    clear hcl HR2
    unfold slv
    go_upto_region 16 with fail
    go_cut [20, 21, 9] from 101 to 115 (fun v1 v2 v3 wx => ∃ s : Sl, v1 = .slice s.A s.n s.c ∧ v2 = .int .i64 (Z : Int) ∧ v3 = .int .i64 0 ∧ Hid (Ext w6 wx))
    case first =>
      go_region_law (first
        | (go_simp; go_at_call 32; refine (HCl.out _ (E6.out.t (Ext.drew _))).mono ?_; rintro e w8 ⟨sc, rfl, hsc⟩; have hscn : sc.n ≤ 100000 := (by rw [hsc.n_]; omega); rw [← HPk.out] at hsc; have Hsc := Lib.hid hsc; clear hsc; unfold slv)
        | (go_simp; go_at_call 33; refine (HLs.out _ (E6.out.t ((Ext.drew _).t Hsc.out.ext))).mono ?_; rintro e w9 ⟨st, rfl, hst⟩; have hstn : st.n = need := hst.n_; obtain ⟨tA, tN, tC⟩ := st; simp only at hstn; subst hstn; have Hst := Lib.hid hst; clear hst; unfold slv)
        | (refine step_append_at (A := sc.A) (n := sc.n) (c := sc.c) (v := .slice tA tN tC) rfl rfl ul_u8 info_u8 rfl (by go_simp) (Hsc.out.byt.ext Hst.out.ext).room (by first | (simp [Act.eval]; done) | (go_simp; done)) (Src.ofRd ul_u8 Hst.out.byt.rd (fun _ => rfl)) (by simp only [maxLen]; omega) (by omega) ?_
           intro A9 c9 w10 r9 ch9 ft9
           have hcl := cloned_app (Hsc.out.later Hst.out.ext) Hst.out.byt.lt (leastF_len P hnd1) r9 ch9 ft9
           have hb9 := hcl.byt
           have HRd := Lib.hid (read_ A9 (sc.n + tN) c9 (P ++ leastF P tN) w10 hb9.rd hb9.lt hb9.room.2.1 hb9.room.2.2.1 (by omega))
           have E9 := Lib.hid hcl.ext
           unfold ReadP at HRd
           rw [show (rdF (P ++ leastF P tN)).2.1 = Z by rw [HlP.out], show (rdF (P ++ leastF P tN)).2.2 = 0 by rw [HlP.out]] at HRd
           clear hcl hb9 r9 ch9 ft9)
        | (go_simp; go_at_call 18; refine HRd.out.mono ?_; rintro e w11 ⟨t, rfl, ht⟩; have Ht := Lib.hid ht.ext; clear ht; unfold slv))
      all_goals go_wp2_with fail
      all_goals go_simp
      all_goals go_meet
      all_goals exact ⟨t, rfl, rfl, rfl, Lib.hid ((Ext.drew _).t (E9.out.t Ht.out))⟩
    case rest =>
    obtain ⟨t, rfl, rfl, rfl, Hx⟩ := hcut
    have HFin := Lib.hid (E5.out.t (E6.out.t Hx.out))
    go_wp2_with fail
    go_ret
    exact ⟨rfl, HFin.out⟩
  · have hmI : ¬ (nd1 : Int) < (n2 : Int) := by omega
    have hif : (if (nd1 : Int) < (n2 : Int) then (nd1 : Int) else (n2 : Int)) = (n2 : Int) := if_neg hmI
    have hsl2 := fun w' => u8_toI (A := A2) (n := n2) (c := c2) (hi := n2) (li := (n2 : Int)) w' rfl HBh.out.le
    have Hmr := Lib.hid ((HBh.out.rd.ext E5.out).take (k := n2) (by omega))
    have Hml : Hid (∀ y ∈ more.take n2, y < 256) := Lib.hid (fun y hy => HBh.out.lt y (List.mem_of_mem_take hy))
    go_upto_region 12 with fail
    go_cut [16] from 81 to 92 (fun v1 wx => ∃ (A : Option Addr) (n c : Nat), v1 = .slice A n c ∧ Hid (Cloned w5 (P ++ more.take n2) n ⟨A, n, c⟩ wx))
    case first =>
      go_region_law (first
        | (go_simp; go_at_call 32; refine (HCl.out _ (Ext.drew _)).mono ?_; rintro e w8 ⟨sc, rfl, hsc⟩; have hscn : sc.n ≤ 100000 := (by rw [hsc.n_]; omega); rw [← HPk.out] at hsc; have Hsc := Lib.hid hsc; clear hsc; unfold slv)
        | (refine step_append_at (A := sc.A) (n := sc.n) (c := sc.c) (v := .slice A2 n2 c2) rfl rfl ul_u8 info_u8 rfl (by go_simp) Hsc.out.byt.room (by first | (simp [Act.eval]; done) | (go_simp; done)) (Src.ofRd ul_u8 (Hmr.out.ext ((Ext.drew _).t Hsc.out.ext)) (fun _ => rfl)) (by simp only [maxLen]; omega) (by omega) ?_
           intro A9 c9 w9 r9 ch9 ft9
           have hcl := cloned_app Hsc.out Hml.out Hmr.out.1 r9 ch9 ft9
           have Hcl := Lib.hid (Cloned.down hcl (Ext.drew _))
           clear hcl r9 ch9 ft9))
      all_goals go_wp2_with fail
      all_goals go_simp
      all_goals go_meet
      all_goals exact ⟨A9, sc.n + n2, c9, rfl, Lib.hid (by have h := Hcl.out; have e := h.n_; simp only at e; rw [← e] at h; exact h)⟩
    case rest =>
    obtain ⟨Al, nl, cl, rfl, Hx⟩ := hcut
    have hx := Hx.out
    have hnl : nl ≤ 1000000 := by have := hx.byt.room.1; simp only [List.length_map, List.length_append, HPk.out, Hmr.out.1] at this; omega
    have HR2 := Lib.hid (read_ Al nl cl (P ++ more.take n2) wc hx.byt.rd hx.byt.lt hx.byt.room.2.1 hx.byt.room.2.2.1 (by omega))
    unfold ReadP at HR2
    have hne : (rdF (P ++ more.take n2)).2.2 ≠ 0 := rdF_less (by rw [HPk.out, Hmr.out.1, ← HZ.out]; omega)
    have E56 := Lib.hid hx.ext
    clear hx Hx
    generalize (rdF (P ++ more.take n2)).1 = y1 at *
    generalize (rdF (P ++ more.take n2)).2.1 = y2 at *
    generalize (rdF (P ++ more.take n2)).2.2 = er at *
    have herI : ((er : Int) == 0) = false := by simp; omega
    clear hne
    go_wp2_with fail
    refine HR2.out.mono ?_; rintro e w6 ⟨sr2, rfl, hcl⟩
    have E6 := Lib.hid (E56.out.t hcl.ext)
    clear hcl HR2
    unfold slv
    go_upto_region 16 with fail
    go_cut [20, 21, 9] from 101 to 115 (fun v1 v2 v3 wx => ∃ s : Sl, v1 = .slice s.A s.n s.c ∧ v2 = .int .i64 (Z : Int) ∧ v3 = .int .i64 0 ∧ Hid (Ext w6 wx))
    case first =>
      go_region_law (first
        | (go_simp; go_at_call 32; refine (HCl.out _ (E6.out.t (Ext.drew _))).mono ?_; rintro e w8 ⟨sc, rfl, hsc⟩; have hscn : sc.n ≤ 100000 := (by rw [hsc.n_]; omega); rw [← HPk.out] at hsc; have Hsc := Lib.hid hsc; clear hsc; unfold slv)
        | (go_simp; go_at_call 33; refine (HLs.out _ (E6.out.t ((Ext.drew _).t Hsc.out.ext))).mono ?_; rintro e w9 ⟨st, rfl, hst⟩; have hstn : st.n = need := hst.n_; obtain ⟨tA, tN, tC⟩ := st; simp only at hstn; subst hstn; have Hst := Lib.hid hst; clear hst; unfold slv)
        | (refine step_append_at (A := sc.A) (n := sc.n) (c := sc.c) (v := .slice tA tN tC) rfl rfl ul_u8 info_u8 rfl (by go_simp) (Hsc.out.byt.ext Hst.out.ext).room (by first | (simp [Act.eval]; done) | (go_simp; done)) (Src.ofRd ul_u8 Hst.out.byt.rd (fun _ => rfl)) (by simp only [maxLen]; omega) (by omega) ?_
           intro A9 c9 w10 r9 ch9 ft9
           have hcl := cloned_app (Hsc.out.later Hst.out.ext) Hst.out.byt.lt (leastF_len P hnd1) r9 ch9 ft9
           have hb9 := hcl.byt
           have HRd := Lib.hid (read_ A9 (sc.n + tN) c9 (P ++ leastF P tN) w10 hb9.rd hb9.lt hb9.room.2.1 hb9.room.2.2.1 (by omega))
           have E9 := Lib.hid hcl.ext
           unfold ReadP at HRd
           rw [show (rdF (P ++ leastF P tN)).2.1 = Z by rw [HlP.out], show (rdF (P ++ leastF P tN)).2.2 = 0 by rw [HlP.out]] at HRd
           clear hcl hb9 r9 ch9 ft9)
        | (go_simp; go_at_call 18; refine HRd.out.mono ?_; rintro e w11 ⟨t, rfl, ht⟩; have Ht := Lib.hid ht.ext; clear ht; unfold slv))
      all_goals go_wp2_with fail
      all_goals go_simp
      all_goals go_meet
      all_goals exact ⟨t, rfl, rfl, rfl, Lib.hid ((Ext.drew _).t (E9.out.t Ht.out))⟩
    case rest =>
    obtain ⟨t, rfl, rfl, rfl, Hx⟩ := hcut
    have HFin := Lib.hid (E5.out.t (E6.out.t Hx.out))
    go_wp2_with fail
    go_ret
    exact ⟨rfl, HFin.out⟩
set_option maxRecDepth 100000 in
open Go.ChangeShapes Go.WideShapes Go.ChangeAt Go.Deep in
theorem open_t53 {H : Type} {enc : TypeId × Value → H} {w : World} {base b0 : Nat} {spare : Nat → Bool} {held : Bool} {r : Reach} {v : Value} {d : DataW H} {p : List MemPlace} (hv : Value.okWide Try.prog w r b0 53 v) (h : DataW.Trod enc Try.prog w base spare held 53 v d p) :
    ∃ a : Nat × Nat, v = .agg #[.int .u16 (a.1 : Int), .int .u8 (a.2 : Int)] ∧ a.1 < 65536 ∧ a.2 < 256 := by
  obtain ⟨cs, rfl, hsz⟩ := okWide_struct Try.underlying53 hv
  obtain ⟨fuel, hf⟩ := h
  rw [e_small] at hsz
  obtain ⟨a, ha, h1, h2⟩ := small_cells (by simpa [Value.cells] using hsz) hf
  refine ⟨a, ?_, h1, h2⟩
  obtain ⟨l⟩ := cs
  simp only [Value.cells] at ha
  rw [ha]
theorem walkFrameBeginnings (x : Nat × Nat) (a1 : Int) (A2 : Option Addr) (n2 c2 : Nat) (more : List Nat) (w : World) (hx : x.1 < 65536 ∧ x.2 < 256) (hw : (Lit.int .u16 a1).wf = true) (h2 : Arg .u8 256 w A2 n2 c2 more) :
    Calls Try.prog 8 #[.agg #[.int .u16 (x.1 : Int), .int .u8 (x.2 : Int)], .int .u16 a1, .slice A2 n2 c2] w fun e w' => e = .returned (.bool true) ∧ Ext w w' := by
  obtain ⟨cut, rfl⟩ := Int.eq_ofNat_of_zero_le (bounds_u16 hw).1
  exact beg_ x cut A2 n2 c2 more w hx.1 hx.2 (by have := (bounds_u16 hw).2; omega) h2
end Go.Proofs.Ytippgnbmilnjbaa
