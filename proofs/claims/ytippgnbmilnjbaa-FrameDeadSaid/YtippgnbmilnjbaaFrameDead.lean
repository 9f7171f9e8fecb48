/- FrameDead: the walk of the law: for any bodies, defect, cuts and bytes behind it answers true and leaves all memory as it was (no condition). -/
import Derived.Test.YtippgnbmilnjbaaFdw
import Derived.Test.YtippgnbmilnjbaaFops
namespace Go.Proofs.Ytippgnbmilnjbaa
open Go.RowKit Go.Fx
set_option maxRecDepth 100000 in
set_option maxHeartbeats 4000000 in
theorem dead1 (A0 : Option Addr) (n0 c0 : Nat) (l : List (Nat × Nat)) (way : Nat) (A2 : Option Addr) (n2 c2 : Nat) (behind : List Nat) (A1 : Option Addr) (n1 c1 : Nat) (cuts : List Nat) (w : World) (h0 : SmArg w A0 n0 c0 l) (h2 : Arg .u8 256 w A2 n2 c2 behind) (h1 : Arg .u8 256 w A1 n1 c1 cuts) (h50 : 100 < n2) :
    Calls Try.prog 10 #[.slice A0 n0 c0, .int .u8 (way : Int), .slice A2 n2 c2, .slice A1 n1 c1] w fun e w' => e = .returned (.bool true) ∧ Ext w w' := by
  have hml := mdF_mem (l := l) (fun a ha => by
    obtain ⟨i, hi, rfl⟩ := List.mem_iff_getElem.1 ha
    obtain ⟨_, _, _, _, _, _, _, h⟩ := h0.sm.at_ i _ (List.getElem?_eq_getElem hi)
    exact h)
  have HB : Hid (∀ x ∈ mdF l, x.length ≤ 16384) := Lib.hid (fun x hx => by have := (hml x hx).2; omega)
  have HB5 : Hid (∀ x ∈ mdF l, x.length ≤ 599) := Lib.hid (fun x hx => (hml x hx).2)
  have HS := Lib.hid h0
  have HC := Lib.hid h1
  have HBh := Lib.hid h2
  have h50I : (100 : Int) < (n2 : Int) := by omega
  have hsl := fun w' => u8_toI (A := A2) (n := n2) (c := c2) (hi := 100) (li := 100) w' rfl (by have := h2.le; omega)
  clear h0 h1 h2 hml
  obtain ⟨q7, hq7⟩ : ∃ q, q = way % 7 := ⟨_, rfl⟩
  obtain ⟨q247, hq247⟩ : ∃ q, q = way % 247 := ⟨_, rfl⟩
  obtain ⟨q191, hq191⟩ : ∃ q, q = way % 191 := ⟨_, rfl⟩
  obtain ⟨q255, hq255⟩ : ∃ q, q = way % 255 := ⟨_, rfl⟩
  obtain ⟨q5, hq5⟩ : ∃ q, q = way % 5 := ⟨_, rfl⟩
  obtain ⟨d0, hd0⟩ : ∃ d, d = 249 + q7 := ⟨_, rfl⟩
  obtain ⟨d3, hd3⟩ : ∃ d, d = 65 + q191 := ⟨_, rfl⟩
  obtain ⟨d4, hd4⟩ : ∃ d, d = 1 + q255 := ⟨_, rfl⟩
  have q7lt : q7 < 7 := by omega
  have q247lt : q247 < 247 := by omega
  have q191lt : q191 < 191 := by omega
  have q255lt : q255 < 255 := by omega
  have q5lt : q5 < 5 := by omega
  have Hq : Hid (q5 = way % 5 ∧ d0 = 249 + way % 7 ∧ q247 = way % 247 ∧ d3 = 65 + way % 191 ∧ d4 = 1 + way % 255) := Lib.hid ⟨hq5, by omega, hq247, by omega, by omega⟩
  have d0lt : d0 < 256 := by omega
  have d3lt : d3 < 256 := by omega
  have d4lt : d4 < 256 := by omega
  have b247 : q247 < 256 := by omega
  have b7 : q7 < 256 := by omega
  have b191 : q191 < 256 := by omega
  have b255 : q255 < 256 := by omega
  have b5 : q5 < 256 := by omega
  have s0' : (249 : Int) + (q7 : Int) = (d0 : Int) := by omega
  have s3' : (65 : Int) + (q191 : Int) = (d3 : Int) := by omega
  have s4' : (1 : Int) + (q255 : Int) = (d4 : Int) := by omega
  have m7 : (way : Int) % 7 = (q7 : Int) := (tmod_nat (m := 7) hq7).1
  have t7 : (way : Int).tmod 7 = (q7 : Int) := (tmod_nat (m := 7) hq7).2
  have m247 : (way : Int) % 247 = (q247 : Int) := (tmod_nat (m := 247) hq247).1
  have t247 : (way : Int).tmod 247 = (q247 : Int) := (tmod_nat (m := 247) hq247).2
  have m191 : (way : Int) % 191 = (q191 : Int) := (tmod_nat (m := 191) hq191).1
  have t191 : (way : Int).tmod 191 = (q191 : Int) := (tmod_nat (m := 191) hq191).2
  have m255 : (way : Int) % 255 = (q255 : Int) := (tmod_nat (m := 255) hq255).1
  have t255 : (way : Int).tmod 255 = (q255 : Int) := (tmod_nat (m := 255) hq255).2
  have m5 : (way : Int) % 5 = (q5 : Int) := (tmod_nat (m := 5) hq5).1
  have t5 : (way : Int).tmod 5 = (q5 : Int) := (tmod_nat (m := 5) hq5).2
  clear hq7 hq247 hq191 hq255 hq5 hd0 hd3 hd4
  go_enter Try.func10, Try.ntmps10
  go_wp2_with fail
  refine (awake w).mono ?_; rintro e w1 ⟨rfl, e1⟩
  have E1 := Lib.hid e1
  clear e1
  have HM := Lib.hid (made_ A0 n0 c0 l w1 (HS.out.sm.ext E1.out) HS.out.le)
  go_wp2_with fail
  refine HM.out.mono ?_; rintro e w2 ⟨A7, n7, c7, os7, rfl, hl7, e2⟩
  have hn7 := hl7.n_
  rw [mdF_len] at hn7
  have HL7 := Lib.hid hl7
  have E2 := Lib.hid (E1.out.t e2)
  have HN7 := Lib.hid hl7.n_
  have hn30 : n7 ≤ 30 := by omega
  have HJ := Lib.hid (join_ A7 n7 c7 os7 (mdF l) w2 hl7.rd (Reads.of hl7.byt) (by omega))
  unfold JoinP at HJ
  rw [jnF_ok _ _ _ HB.out, List.nil_append] at HJ
  clear hl7 e2 HM hn7
  go_wp2_with fail
  refine HJ.out.mono ?_; rintro e w3 ⟨s8, rfl, hs8⟩
  have hs8n : s8.n ≤ 100000 := by rw [hs8.n_]; have := joF_len HB5.out; have := HN7.out; omega
  have HJL : Hid ((joF (mdF l)).length = s8.n) := Lib.hid hs8.n_.symm
  have Hs8 := Lib.hid hs8
  have E3 := Lib.hid (E2.out.t hs8.ext)
  have E23 := Lib.hid hs8.ext
  clear hs8 HJ
  unfold slv
  go_wp2_with fail
  refine (new_ w3).mono ?_; rintro e w4 ⟨sb, rfl, hst, e4, lo4⟩
  have E34 := Lib.hid e4
  have E4 := Lib.hid (E3.out.t e4)
  have Hst := Lib.hid hst
  have Hsb : Hid (w3.heap.size ≤ sb ∧ sb < w4.heap.size) := Lib.hid ⟨lo4, hst.blk.lt⟩
  clear hst e4 lo4
  go_wp2_with (refine wpl_build (by rfl) rfl ul_u8 info_u8 [.tmp 44] (by rfl) (by rfl) (by decide) (f := u8v) [d0] (by rfl) (fun _ => rfl) ?_)
  intro g0 v1 b1 x1 l1 r1; refine Lib.hid ?_
  clear b1
  go_wp2_with (refine wpl_build (by rfl) rfl ul_u8 info_u8 [.const (.int .u8 247), .tmp 47] (by rfl) (by rfl) (by decide) (f := u8v) [247, q247] (by rfl) (fun _ => rfl) ?_)
  intro g1 v2 b2 x2 l2 r2; refine Lib.hid ?_
  clear b2
  go_wp2_with (refine wpl_build (by rfl) rfl ul_u8 info_u8 [.const (.int .u8 248), .const (.int .u8 0)] (by rfl) (by rfl) (by decide) (f := u8v) [248, 0] (by rfl) (fun _ => rfl) ?_)
  intro g2 v3 b3 x3 l3 r3; refine Lib.hid ?_
  clear b3
  go_wp2_with (refine wpl_build (by rfl) rfl ul_u8 info_u8 [.const (.int .u8 248), .tmp 52] (by rfl) (by rfl) (by decide) (f := u8v) [248, d3] (by rfl) (fun _ => rfl) ?_)
  intro g3 v4 b4 x4 l4 r4; refine Lib.hid ?_
  clear b4
  go_wp2_with (refine wpl_build (by rfl) rfl ul_u8 info_u8 [.const (.int .u8 248), .const (.int .u8 64), .tmp 56] (by rfl) (by rfl) (by decide) (f := u8v) [248, 64, d4] (by rfl) (fun _ => rfl) ?_)
  intro g4 v5 b5 x5 l5 r5; refine Lib.hid ?_
  clear b5
  go_wp2_with (refine wpl_build (by rfl) rfl ul_bb info_bb [.tmp 45, .tmp 48, .tmp 49, .tmp 53, .tmp 57] (by rfl) (by rfl) (by decide) (f := slv) [⟨some ⟨g0, 0, none⟩, 1, 1⟩, ⟨some ⟨g1, 0, none⟩, 2, 2⟩, ⟨some ⟨g2, 0, none⟩, 2, 2⟩, ⟨some ⟨g3, 0, none⟩, 2, 2⟩, ⟨some ⟨g4, 0, none⟩, 3, 3⟩] (by rfl) (fun _ => rfl) ?_)
  intro g5 w5 b6 x6 l6 r6; refine Lib.hid ?_
  clear b6 m7 t7 m247 t247 m191 t191 m255 t255 s0' s3' s4'
  obtain ⟨gb, go, sW, hgb, _, hsW, hcW⟩ := r6.at_ q5lt
  have hz4 := x1.size
  have hz5 := x2.size
  have hz6 := x3.size
  have hz7 := x4.size
  have hz8 := x5.size
  have E45 : Hid (Ext w4 w5) := Lib.hid (x1.t (x2.t (x3.t (x4.t (x5.t x6)))))
  have HBad := Lib.hid (badS_of (lo := w4.heap.size) Hq.out.1 Hq.out.2.1 Hq.out.2.2.1 Hq.out.2.2.2.1 Hq.out.2.2.2.2 (r1.ext (x2.t (x3.t (x4.t (x5.t x6))))) (r2.ext (x3.t (x4.t (x5.t x6)))) (r3.ext (x4.t (x5.t x6))) (r4.ext (x5.t x6)) (r5.ext x6) l1 (by omega) (by omega) (by omega) (by omega) hsW)
  cases hgb
  clear hsW r1 r2 r3 r4 r5 r6 l1 l2 l3 l4 l5 l6 x1 x2 x3 x4 x5 x6 hz4 hz5 hz6 hz7 hz8
  have HBd := Lib.hid (Bad.of way)
  unfold slv at hcW
  rw [Nat.zero_add] at hcW
  go_upto_region 9 with fail
  clear hcW m5 t5
  obtain ⟨sA, sN, sC⟩ := sW
  obtain ⟨P, hP⟩ : ∃ P, P = badP way := ⟨_, rfl⟩
  obtain ⟨d, hd⟩ : ∃ d, d = badD way := ⟨_, rfl⟩
  obtain ⟨pn, hpn⟩ : ∃ pn, pn = P.length := ⟨_, rfl⟩
  have hp2 : pn ≤ 2 := by rw [hpn, hP]; exact HBd.out.len
  have hsN : sN = pn + 1 := by rw [hpn, hP]; exact HBad.out.eq
  have hsC : sN ≤ sC ∧ sC ≤ 3 := ⟨HBad.out.le, HBad.out.le3⟩
  have hsNe : ∀ k o, sA = some ⟨k, o, none⟩ → w4.heap.size ≤ k := HBad.out.ne
  have hsR : Rd u8v w5 sA sN (P ++ [d]) := by rw [hP, hd]; exact HBad.out.rd
  have HB1 : Hid (Bad P d) := Lib.hid (by rw [hP, hd]; exact HBd.out)
  have HsNe := Lib.hid hsNe
  have HsR := Lib.hid hsR
  have HPn := Lib.hid hpn
  have HsN := Lib.hid hsN
  have hi1 : (sN : Int) - 1 = (pn : Int) := by omega
  have hi2 : IntKind.i64.wrap ((sN : Int) - 1) = (pn : Int) := by rw [hi1]; exact IntWalk.i64_in _ (by omega)
  have hi3 : IntKind.i64.wrap (pn : Int) = (pn : Int) := IntWalk.i64_in _ (by omega)
  have hpN : pn ≤ sN := by omega
  obtain ⟨hsC1, hsC2⟩ := hsC
  have hslT := fun w' => u8_toI (A := sA) (n := sN) (c := sC) (hi := pn) (li := (pn : Int)) w' rfl (by omega)
  have hslF := fun w' => u8_fromI (A := sA) (n := sN) (c := sC) (lo := pn) (li := (pn : Int)) w' rfl hpN
  have HPR : Hid (Rd u8v w5 sA pn P) := Lib.hid (by have := hsR.take (k := pn) (by omega); rwa [List.take_left' hpn.symm] at this)
  have HDS : Hid (DS w5 sb w5 ⟨none, 0, 0⟩ fst0) := Lib.hid ⟨Hst.out.ext E45.out, Chg.refl _ _, fun k hk => hk.elim .inl (fun h => absurd h foot_none)⟩
  have E35 := Lib.hid (E34.out.t E45.out)
  have E5 := Lib.hid (E4.out.t E45.out)
  have HL75 := Lib.hid (HL7.out.ext (E23.out.t E35.out))
  have HL7n : Hid (∀ k, foot A7 c7 k ∨ foots os7 k → k ≠ sb) := Lib.hid (fun k hk => by have := HL7.out.lt hk; have := E23.out.size; have := Hsb.out; omega)
  have Hall := Lib.hid (Hs8.out.byt.ext E35.out)
  have Halln : Hid (∀ k o, s8.A = some ⟨k, o, none⟩ → 0 < s8.n → k ≠ sb) := Lib.hid (fun k o h hn => by have := Hs8.out.byt.room.lt (k := k) ⟨by have := Hs8.out.byt.room.2.1; omega, o, h⟩; have := Hsb.out; omega)
  have Hold : Hid (∀ {α : Type} (f : α → Value) (A : Option Addr) (n : Nat) (xs : List α), Rd f w A n xs → ∀ k o, A = some ⟨k, o, none⟩ → 0 < n → k ≠ sb) := Lib.hid (fun f A n xs h k o ha hn => by
    obtain ⟨b, o', e, hb, _⟩ := h.2 hn
    rw [ha] at e; cases e
    have := E3.out.size; have := Hsb.out; omega)
  have HCl := Lib.hid (fun w' (e : Ext w5 w') => clone_ s8.A s8.n s8.c (joF (mdF l)) w' (Hall.out.ext e).rd Hall.out.lt (by omega))
  clear hP hd hsN hsNe hsR HBad HBd hpn Hst HL7 Hs8
  have hbe := HB1.out.behind HB.out
  have Hbe := Lib.hid hbe
  have HPl0 : Hid (∀ y ∈ P, y < 256) := Lib.hid (fun y hy => HB1.out.lt y (List.mem_append_left _ hy))
  have hz35 := E35.out.size
  have HZ : Hid (sb < w5.heap.size) := Lib.hid (by have := Hsb.out; have := E45.out.size; omega)
  clear hbe hz35
  go_cut [15, 16] from 63 to 76 (fun v1 v2 wx => ∃ (Ao : Option Addr) (no co : Nat), v1 = .slice Ao no co ∧ v2 = .int .i64 0 ∧ Hid (∃ os s, Lst w5.heap.size wx Ao no co os (mdF l) ∧ DS w5 sb wx s ⟨P, (mdF l).length, false⟩))
  case first =>
    go_region_law (first
      | (go_simp; go_at_call 32; refine (HCl.out _ (Ext.drew _)).mono ?_; rintro e w8 ⟨sc, rfl, hsc⟩; have hscn : sc.n ≤ 100000 := (by rw [hsc.n_]; omega); rw [← HJL.out] at hsc; have Hsc := Lib.hid hsc; clear hsc; unfold slv)
      | (refine step_append_at (A := sc.A) (n := sc.n) (c := sc.c) (v := .slice sA pn sC) rfl rfl ul_u8 info_u8 rfl (by go_simp) Hsc.out.byt.room (by first | (simp [Act.eval]; done) | (go_simp; done)) (Src.ofRd ul_u8 (HPR.out.ext ((Ext.drew _).t Hsc.out.ext)) (fun _ => rfl)) (by simp only [maxLen]; omega) (by omega) ?_
         intro A9 c9 w9 r9 ch9 ft9
         have hcl := cloned_app Hsc.out HPl0.out HPR.out.1 r9 ch9 ft9
         have hb9 := hcl.byt
         have e59 : Ext w5 w9 := (Ext.drew _).t hcl.ext
         have HPy := Lib.hid (played_ w9 sb ⟨none, 0, 0⟩ A9 (sc.n + pn) c9 (joF (mdF l) ++ P) A1 n1 c1 cuts (HDS.out.stm.ext e59) (fun w' ch => (hb9.chg ch (fun k hk ht => ht.elim (fun h => by have := hcl.new k hk; have : w5.drew.heap.size = w5.heap.size := rfl; have := HZ.out; omega) (fun h => absurd h foot_none))).rd) hb9.lt hb9.room.2.1 (by omega)
           (fun w' ch => (HC.out.rd.ext (E5.out.t e59)).chg ch (fun k o ha hn ht => ht.elim (Hold.out _ _ _ _ HC.out.rd k o ha hn) (fun h => absurd h foot_none))) HC.out.lt (Nat.le_trans HC.out.le HC.out.max))
         have E59 := Lib.hid e59
         unfold PldP at HPy
         rw [Hbe.out.2.1] at HPy
         clear hcl hb9 r9 ch9 ft9 e59)
      | (go_simp; go_at_call 25; refine HPy.out.mono ?_; rintro e w10 ⟨Ao, no, co, oo, s6, rfl, p⟩; have Hp := Lib.hid p; clear p))
    all_goals go_wp2_with fail
    all_goals go_simp
    all_goals go_meet
    all_goals exact ⟨Ao, no, co, rfl, rfl, Lib.hid ⟨oo, s6, by have h1 := Hp.out.lst; rw [Hbe.out.2.2] at h1; exact h1.down E59.out.size, ((HDS.out.ext E59.out).pld Hp.out).st_ Hbe.out.1⟩⟩
  case rest =>
  obtain ⟨Ao, no, co, rfl, rfl, Hx⟩ := hcut
  obtain ⟨oo, s6, hlo, hds⟩ := Hx.out
  have hl7 := lst_ds HL75.out hds HL7n.out
  have HQ1 := Lib.hid (equal_ Ao A7 no n7 co c7 oo os7 _ _ wc hlo.rd (Reads.of hlo.byt) hl7.rd (Reads.of hl7.byt) hlo.le hl7.le)
  rw [decide_eq_true (rfl : mdF l = mdF l)] at HQ1
  have HD1 := Lib.hid (dead_ hds.stm)
  have HH1 := Lib.hid (held_ hds.stm)
  simp only at HD1 HH1
  rw [← HPn.out] at HH1
  have HF1 := Lib.hid (feed_ hds.stm (from_ sA sC pn) (sN - pn) (sC - pn) [d] (by
    have h1 := (rd_ds (HsR.out.from_ (k := pn) hpN hsC1) hds (fun k o ha hn => by
      obtain ⟨b, o', rfl⟩ := HsR.out.some_ (by omega)
      unfold from_ at ha
      rw [if_neg (by omega)] at ha
      simp [Addr.add_lit] at ha
      have := HsNe.out b o' rfl
      have := Hsb.out
      omega))
    rwa [List.drop_left' HPn.out.symm] at h1) (fun y hy => HB1.out.lt y (List.mem_append_right _ hy)) (by simp only; have := HPn.out; omega) (by simp only; have := HN7.out; omega))
  have Hds := Lib.hid hds
  clear Hx hlo hds hl7
  go_wp2_with fail
  refine HQ1.out.mono ?_; rintro e w' ⟨rfl, rfl⟩
  go_wp2_with fail
  refine HD1.out.mono ?_; rintro e w' ⟨rfl, rfl⟩
  go_wp2_with fail
  refine HH1.out.mono ?_; rintro e w' ⟨rfl, rfl⟩
  go_wp2_with fail
  refine HF1.out.mono ?_; rintro e w11 ⟨Ap, np, cp, op, s7, f⟩
  have hret := f.ret
  have hnp := f.lst.n_
  have hds := Hds.out.fed f
  rw [HB1.out.fed] at hret hnp hds
  simp only [List.length_nil] at hret hnp hds
  subst hnp
  subst hret
  have HF2 := Lib.hid (feed_ hds.stm A2 100 c2 (behind.take 100) (rd_ds ((HBh.out.rd.take (k := 100) (by omega)).ext E5.out) hds (fun k o ha hn => Hold.out _ _ _ _ (HBh.out.rd.take (k := 100) (by omega)) k o ha hn)) (fun y hy => HBh.out.lt y (List.mem_of_mem_take hy)) (by simp only [List.length_nil]; omega) (by simp only; have := HN7.out; omega))
  have Hds := Lib.hid hds
  clear f hds HQ1 HD1 HH1 HF1
  go_wp2_with fail
  refine HF2.out.mono ?_; rintro e w12 ⟨Aq, nq, cq, oq, sq, f⟩
  have hret := f.ret
  have hnp := f.lst.n_
  have hds := Hds.out.fed f
  rw [fdF_dead] at hret hnp hds
  simp only [List.length_nil] at hret hnp hds
  subst hnp
  subst hret
  have HF3 := Lib.hid (feed_ hds.stm s8.A s8.n s8.c (joF (mdF l)) (rd_ds Hall.out.rd hds Halln.out) Hall.out.lt (by simp only [List.length_nil]; omega) (by simp only; have := HN7.out; omega))
  have Hds := Lib.hid hds
  clear f hds HF2
  go_wp2_with fail
  refine HF3.out.mono ?_; rintro e w13 ⟨Ar, nr, cr, or, sr, f⟩
  have hret := f.ret
  have hnp := f.lst.n_
  have hds := Hds.out.fed f
  rw [fdF_dead] at hret hnp hds
  simp only [List.length_nil] at hret hnp hds
  subst hnp
  subst hret
  have HD2 := Lib.hid (dead_ hds.stm)
  have HR2 := Lib.hid (frames2_ hds.stm)
  have HH2 := Lib.hid (held_ hds.stm)
  have HN2 := Lib.hid (need2_ hds.stm (by simp))
  have HRs := Lib.hid (reset_ hds.stm)
  simp only [List.length_nil] at HD2 HR2 HH2
  rw [← HN7.out] at HR2
  rw [show tlF ⟨[], (mdF l).length, true⟩ = 0 from rfl] at HN2
  have Hds := Lib.hid hds
  clear f hds HF3
  go_wp2_with fail
  refine HD2.out.mono ?_; rintro e w' ⟨rfl, rfl⟩
  go_wp2_with fail
  refine HR2.out.mono ?_; rintro e w' ⟨rfl, rfl⟩
  go_wp2_with fail
  refine HH2.out.mono ?_; rintro e w' ⟨rfl, rfl⟩
  go_wp2_with fail
  refine HN2.out.mono ?_; rintro e w' ⟨rfl, rfl⟩
  go_wp2_with fail
  refine HRs.out.mono ?_; rintro e w14 ⟨rfl, hst, ch⟩
  have hds := Hds.out.reset hst ch
  have HD3 := Lib.hid (dead_ hds.stm)
  have HR3 := Lib.hid (frames2_ hds.stm)
  have HN3 := Lib.hid (need2_ hds.stm (by simp [fst0]))
  rw [show fst0.dead = false from rfl] at HD3
  rw [show fst0.n = 0 from rfl] at HR3
  rw [show tlF fst0 = 1 from rfl] at HN3
  have hall := rd_ds Hall.out.rd hds Halln.out
  have hcut2 := rd_ds (HC.out.rd.ext E5.out) hds (fun k o ha hn => Hold.out _ _ _ _ HC.out.rd k o ha hn)
  have HP2 := Lib.hid (played_ w14 sb ⟨none, 0, 0⟩ s8.A s8.n s8.c (joF (mdF l)) A1 n1 c1 cuts hds.stm (fun w' ch => hall.chg ch (fun k o ha hn ht => ht.elim (Halln.out k o ha hn) (fun h => absurd h foot_none))) Hall.out.lt Hall.out.room.2.1 (by omega)
    (fun w' ch => hcut2.chg ch (fun k o ha hn ht => ht.elim (Hold.out _ _ _ _ HC.out.rd k o ha hn) (fun h => absurd h foot_none))) HC.out.lt (Nat.le_trans HC.out.le HC.out.max))
  unfold PldP at HP2
  rw [(stOf_back HB.out).2] at HP2
  have Hds := Lib.hid hds
  clear hst ch hds hall hcut2 HD2 HR2 HH2 HN2 HRs
  go_wp2_with fail
  refine HD3.out.mono ?_; rintro e w' ⟨rfl, rfl⟩
  go_wp2_with fail
  refine HR3.out.mono ?_; rintro e w' ⟨rfl, rfl⟩
  go_wp2_with fail
  refine HN3.out.mono ?_; rintro e w' ⟨rfl, rfl⟩
  go_wp2_with fail
  refine HP2.out.mono ?_; rintro e w15 ⟨At, nt, ct, ot, st, rfl, p⟩
  have hds := Hds.out.pld p
  have hlo := p.lst
  rw [splF_back HB.out] at hlo
  have hl7 := lst_ds HL75.out hds HL7n.out
  have HQ2 := Lib.hid (equal_ At A7 nt n7 ct c7 ot os7 _ _ w15 hlo.rd (Reads.of hlo.byt) hl7.rd (Reads.of hl7.byt) hlo.le hl7.le)
  rw [decide_eq_true (rfl : mdF l = mdF l)] at HQ2
  have hfin := hds.out E5.out (by have := Hsb.out; have := E3.out.size; omega)
  have HFin := Lib.hid hfin
  clear p hds hlo hl7 hfin HD3 HR3 HN3 HP2
  go_wp2_with fail
  refine HQ2.out.mono ?_; rintro e w' ⟨rfl, rfl⟩
  go_wp2_with fail
  go_ret
  exact ⟨rfl, HFin.out⟩
set_option maxRecDepth 100000 in
set_option maxHeartbeats 4000000 in
theorem dead2 (A0 : Option Addr) (n0 c0 : Nat) (l : List (Nat × Nat)) (way : Nat) (A2 : Option Addr) (n2 c2 : Nat) (behind : List Nat) (A1 : Option Addr) (n1 c1 : Nat) (cuts : List Nat) (w : World) (h0 : SmArg w A0 n0 c0 l) (h2 : Arg .u8 256 w A2 n2 c2 behind) (h1 : Arg .u8 256 w A1 n1 c1 cuts) (h50 : n2 ≤ 100) :
    Calls Try.prog 10 #[.slice A0 n0 c0, .int .u8 (way : Int), .slice A2 n2 c2, .slice A1 n1 c1] w fun e w' => e = .returned (.bool true) ∧ Ext w w' := by
  have hml := mdF_mem (l := l) (fun a ha => by
    obtain ⟨i, hi, rfl⟩ := List.mem_iff_getElem.1 ha
    obtain ⟨_, _, _, _, _, _, _, h⟩ := h0.sm.at_ i _ (List.getElem?_eq_getElem hi)
    exact h)
  have HB : Hid (∀ x ∈ mdF l, x.length ≤ 16384) := Lib.hid (fun x hx => by have := (hml x hx).2; omega)
  have HB5 : Hid (∀ x ∈ mdF l, x.length ≤ 599) := Lib.hid (fun x hx => (hml x hx).2)
  have HS := Lib.hid h0
  have HC := Lib.hid h1
  have HBh := Lib.hid h2
  have h50I : ¬ (100 : Int) < (n2 : Int) := by omega
  have hif : (if (100 : Int) < (n2 : Int) then (100 : Int) else (n2 : Int)) = (n2 : Int) := if_neg h50I
  have hsl := fun w' => u8_toI (A := A2) (n := n2) (c := c2) (hi := n2) (li := (n2 : Int)) w' rfl h2.le
  clear h0 h1 h2 hml
  obtain ⟨q7, hq7⟩ : ∃ q, q = way % 7 := ⟨_, rfl⟩
  obtain ⟨q247, hq247⟩ : ∃ q, q = way % 247 := ⟨_, rfl⟩
  obtain ⟨q191, hq191⟩ : ∃ q, q = way % 191 := ⟨_, rfl⟩
  obtain ⟨q255, hq255⟩ : ∃ q, q = way % 255 := ⟨_, rfl⟩
  obtain ⟨q5, hq5⟩ : ∃ q, q = way % 5 := ⟨_, rfl⟩
  obtain ⟨d0, hd0⟩ : ∃ d, d = 249 + q7 := ⟨_, rfl⟩
  obtain ⟨d3, hd3⟩ : ∃ d, d = 65 + q191 := ⟨_, rfl⟩
  obtain ⟨d4, hd4⟩ : ∃ d, d = 1 + q255 := ⟨_, rfl⟩
  have q7lt : q7 < 7 := by omega
  have q247lt : q247 < 247 := by omega
  have q191lt : q191 < 191 := by omega
  have q255lt : q255 < 255 := by omega
  have q5lt : q5 < 5 := by omega
  have Hq : Hid (q5 = way % 5 ∧ d0 = 249 + way % 7 ∧ q247 = way % 247 ∧ d3 = 65 + way % 191 ∧ d4 = 1 + way % 255) := Lib.hid ⟨hq5, by omega, hq247, by omega, by omega⟩
  have d0lt : d0 < 256 := by omega
  have d3lt : d3 < 256 := by omega
  have d4lt : d4 < 256 := by omega
  have b247 : q247 < 256 := by omega
  have b7 : q7 < 256 := by omega
  have b191 : q191 < 256 := by omega
  have b255 : q255 < 256 := by omega
  have b5 : q5 < 256 := by omega
  have s0' : (249 : Int) + (q7 : Int) = (d0 : Int) := by omega
  have s3' : (65 : Int) + (q191 : Int) = (d3 : Int) := by omega
  have s4' : (1 : Int) + (q255 : Int) = (d4 : Int) := by omega
  have m7 : (way : Int) % 7 = (q7 : Int) := (tmod_nat (m := 7) hq7).1
  have t7 : (way : Int).tmod 7 = (q7 : Int) := (tmod_nat (m := 7) hq7).2
  have m247 : (way : Int) % 247 = (q247 : Int) := (tmod_nat (m := 247) hq247).1
  have t247 : (way : Int).tmod 247 = (q247 : Int) := (tmod_nat (m := 247) hq247).2
  have m191 : (way : Int) % 191 = (q191 : Int) := (tmod_nat (m := 191) hq191).1
  have t191 : (way : Int).tmod 191 = (q191 : Int) := (tmod_nat (m := 191) hq191).2
  have m255 : (way : Int) % 255 = (q255 : Int) := (tmod_nat (m := 255) hq255).1
  have t255 : (way : Int).tmod 255 = (q255 : Int) := (tmod_nat (m := 255) hq255).2
  have m5 : (way : Int) % 5 = (q5 : Int) := (tmod_nat (m := 5) hq5).1
  have t5 : (way : Int).tmod 5 = (q5 : Int) := (tmod_nat (m := 5) hq5).2
  clear hq7 hq247 hq191 hq255 hq5 hd0 hd3 hd4
  go_enter Try.func10, Try.ntmps10
  go_wp2_with fail
  refine (awake w).mono ?_; rintro e w1 ⟨rfl, e1⟩
  have E1 := Lib.hid e1
  clear e1
  have HM := Lib.hid (made_ A0 n0 c0 l w1 (HS.out.sm.ext E1.out) HS.out.le)
  go_wp2_with fail
  refine HM.out.mono ?_; rintro e w2 ⟨A7, n7, c7, os7, rfl, hl7, e2⟩
  have hn7 := hl7.n_
  rw [mdF_len] at hn7
  have HL7 := Lib.hid hl7
  have E2 := Lib.hid (E1.out.t e2)
  have HN7 := Lib.hid hl7.n_
  have hn30 : n7 ≤ 30 := by omega
  have HJ := Lib.hid (join_ A7 n7 c7 os7 (mdF l) w2 hl7.rd (Reads.of hl7.byt) (by omega))
  unfold JoinP at HJ
  rw [jnF_ok _ _ _ HB.out, List.nil_append] at HJ
  clear hl7 e2 HM hn7
  go_wp2_with fail
  refine HJ.out.mono ?_; rintro e w3 ⟨s8, rfl, hs8⟩
  have hs8n : s8.n ≤ 100000 := by rw [hs8.n_]; have := joF_len HB5.out; have := HN7.out; omega
  have HJL : Hid ((joF (mdF l)).length = s8.n) := Lib.hid hs8.n_.symm
  have Hs8 := Lib.hid hs8
  have E3 := Lib.hid (E2.out.t hs8.ext)
  have E23 := Lib.hid hs8.ext
  clear hs8 HJ
  unfold slv
  go_wp2_with fail
  refine (new_ w3).mono ?_; rintro e w4 ⟨sb, rfl, hst, e4, lo4⟩
  have E34 := Lib.hid e4
  have E4 := Lib.hid (E3.out.t e4)
  have Hst := Lib.hid hst
  have Hsb : Hid (w3.heap.size ≤ sb ∧ sb < w4.heap.size) := Lib.hid ⟨lo4, hst.blk.lt⟩
  clear hst e4 lo4
  go_wp2_with (refine wpl_build (by rfl) rfl ul_u8 info_u8 [.tmp 44] (by rfl) (by rfl) (by decide) (f := u8v) [d0] (by rfl) (fun _ => rfl) ?_)
  intro g0 v1 b1 x1 l1 r1; refine Lib.hid ?_
  clear b1
  go_wp2_with (refine wpl_build (by rfl) rfl ul_u8 info_u8 [.const (.int .u8 247), .tmp 47] (by rfl) (by rfl) (by decide) (f := u8v) [247, q247] (by rfl) (fun _ => rfl) ?_)
  intro g1 v2 b2 x2 l2 r2; refine Lib.hid ?_
  clear b2
  go_wp2_with (refine wpl_build (by rfl) rfl ul_u8 info_u8 [.const (.int .u8 248), .const (.int .u8 0)] (by rfl) (by rfl) (by decide) (f := u8v) [248, 0] (by rfl) (fun _ => rfl) ?_)
  intro g2 v3 b3 x3 l3 r3; refine Lib.hid ?_
  clear b3
  go_wp2_with (refine wpl_build (by rfl) rfl ul_u8 info_u8 [.const (.int .u8 248), .tmp 52] (by rfl) (by rfl) (by decide) (f := u8v) [248, d3] (by rfl) (fun _ => rfl) ?_)
  intro g3 v4 b4 x4 l4 r4; refine Lib.hid ?_
  clear b4
  go_wp2_with (refine wpl_build (by rfl) rfl ul_u8 info_u8 [.const (.int .u8 248), .const (.int .u8 64), .tmp 56] (by rfl) (by rfl) (by decide) (f := u8v) [248, 64, d4] (by rfl) (fun _ => rfl) ?_)
  intro g4 v5 b5 x5 l5 r5; refine Lib.hid ?_
  clear b5
  go_wp2_with (refine wpl_build (by rfl) rfl ul_bb info_bb [.tmp 45, .tmp 48, .tmp 49, .tmp 53, .tmp 57] (by rfl) (by rfl) (by decide) (f := slv) [⟨some ⟨g0, 0, none⟩, 1, 1⟩, ⟨some ⟨g1, 0, none⟩, 2, 2⟩, ⟨some ⟨g2, 0, none⟩, 2, 2⟩, ⟨some ⟨g3, 0, none⟩, 2, 2⟩, ⟨some ⟨g4, 0, none⟩, 3, 3⟩] (by rfl) (fun _ => rfl) ?_)
  intro g5 w5 b6 x6 l6 r6; refine Lib.hid ?_
  clear b6 m7 t7 m247 t247 m191 t191 m255 t255 s0' s3' s4'
  obtain ⟨gb, go, sW, hgb, _, hsW, hcW⟩ := r6.at_ q5lt
  have hz4 := x1.size
  have hz5 := x2.size
  have hz6 := x3.size
  have hz7 := x4.size
  have hz8 := x5.size
  have E45 : Hid (Ext w4 w5) := Lib.hid (x1.t (x2.t (x3.t (x4.t (x5.t x6)))))
  have HBad := Lib.hid (badS_of (lo := w4.heap.size) Hq.out.1 Hq.out.2.1 Hq.out.2.2.1 Hq.out.2.2.2.1 Hq.out.2.2.2.2 (r1.ext (x2.t (x3.t (x4.t (x5.t x6))))) (r2.ext (x3.t (x4.t (x5.t x6)))) (r3.ext (x4.t (x5.t x6))) (r4.ext (x5.t x6)) (r5.ext x6) l1 (by omega) (by omega) (by omega) (by omega) hsW)
  cases hgb
  clear hsW r1 r2 r3 r4 r5 r6 l1 l2 l3 l4 l5 l6 x1 x2 x3 x4 x5 x6 hz4 hz5 hz6 hz7 hz8
  have HBd := Lib.hid (Bad.of way)
  unfold slv at hcW
  rw [Nat.zero_add] at hcW
  go_upto_region 9 with fail
  clear hcW m5 t5
  obtain ⟨sA, sN, sC⟩ := sW
  obtain ⟨P, hP⟩ : ∃ P, P = badP way := ⟨_, rfl⟩
  obtain ⟨d, hd⟩ : ∃ d, d = badD way := ⟨_, rfl⟩
  obtain ⟨pn, hpn⟩ : ∃ pn, pn = P.length := ⟨_, rfl⟩
  have hp2 : pn ≤ 2 := by rw [hpn, hP]; exact HBd.out.len
  have hsN : sN = pn + 1 := by rw [hpn, hP]; exact HBad.out.eq
  have hsC : sN ≤ sC ∧ sC ≤ 3 := ⟨HBad.out.le, HBad.out.le3⟩
  have hsNe : ∀ k o, sA = some ⟨k, o, none⟩ → w4.heap.size ≤ k := HBad.out.ne
  have hsR : Rd u8v w5 sA sN (P ++ [d]) := by rw [hP, hd]; exact HBad.out.rd
  have HB1 : Hid (Bad P d) := Lib.hid (by rw [hP, hd]; exact HBd.out)
  have HsNe := Lib.hid hsNe
  have HsR := Lib.hid hsR
  have HPn := Lib.hid hpn
  have HsN := Lib.hid hsN
  have hi1 : (sN : Int) - 1 = (pn : Int) := by omega
  have hi2 : IntKind.i64.wrap ((sN : Int) - 1) = (pn : Int) := by rw [hi1]; exact IntWalk.i64_in _ (by omega)
  have hi3 : IntKind.i64.wrap (pn : Int) = (pn : Int) := IntWalk.i64_in _ (by omega)
  have hpN : pn ≤ sN := by omega
  obtain ⟨hsC1, hsC2⟩ := hsC
  have hslT := fun w' => u8_toI (A := sA) (n := sN) (c := sC) (hi := pn) (li := (pn : Int)) w' rfl (by omega)
  have hslF := fun w' => u8_fromI (A := sA) (n := sN) (c := sC) (lo := pn) (li := (pn : Int)) w' rfl hpN
  have HPR : Hid (Rd u8v w5 sA pn P) := Lib.hid (by have := hsR.take (k := pn) (by omega); rwa [List.take_left' hpn.symm] at this)
  have HDS : Hid (DS w5 sb w5 ⟨none, 0, 0⟩ fst0) := Lib.hid ⟨Hst.out.ext E45.out, Chg.refl _ _, fun k hk => hk.elim .inl (fun h => absurd h foot_none)⟩
  have E35 := Lib.hid (E34.out.t E45.out)
  have E5 := Lib.hid (E4.out.t E45.out)
  have HL75 := Lib.hid (HL7.out.ext (E23.out.t E35.out))
  have HL7n : Hid (∀ k, foot A7 c7 k ∨ foots os7 k → k ≠ sb) := Lib.hid (fun k hk => by have := HL7.out.lt hk; have := E23.out.size; have := Hsb.out; omega)
  have Hall := Lib.hid (Hs8.out.byt.ext E35.out)
  have Halln : Hid (∀ k o, s8.A = some ⟨k, o, none⟩ → 0 < s8.n → k ≠ sb) := Lib.hid (fun k o h hn => by have := Hs8.out.byt.room.lt (k := k) ⟨by have := Hs8.out.byt.room.2.1; omega, o, h⟩; have := Hsb.out; omega)
  have Hold : Hid (∀ {α : Type} (f : α → Value) (A : Option Addr) (n : Nat) (xs : List α), Rd f w A n xs → ∀ k o, A = some ⟨k, o, none⟩ → 0 < n → k ≠ sb) := Lib.hid (fun f A n xs h k o ha hn => by
    obtain ⟨b, o', e, hb, _⟩ := h.2 hn
    rw [ha] at e; cases e
    have := E3.out.size; have := Hsb.out; omega)
  have HCl := Lib.hid (fun w' (e : Ext w5 w') => clone_ s8.A s8.n s8.c (joF (mdF l)) w' (Hall.out.ext e).rd Hall.out.lt (by omega))
  clear hP hd hsN hsNe hsR HBad HBd hpn Hst HL7 Hs8
  have hbe := HB1.out.behind HB.out
  have Hbe := Lib.hid hbe
  have HPl0 : Hid (∀ y ∈ P, y < 256) := Lib.hid (fun y hy => HB1.out.lt y (List.mem_append_left _ hy))
  have hz35 := E35.out.size
  have HZ : Hid (sb < w5.heap.size) := Lib.hid (by have := Hsb.out; have := E45.out.size; omega)
  clear hbe hz35
  go_cut [15, 16] from 63 to 76 (fun v1 v2 wx => ∃ (Ao : Option Addr) (no co : Nat), v1 = .slice Ao no co ∧ v2 = .int .i64 0 ∧ Hid (∃ os s, Lst w5.heap.size wx Ao no co os (mdF l) ∧ DS w5 sb wx s ⟨P, (mdF l).length, false⟩))
  case first =>
    go_region_law (first
      | (go_simp; go_at_call 32; refine (HCl.out _ (Ext.drew _)).mono ?_; rintro e w8 ⟨sc, rfl, hsc⟩; have hscn : sc.n ≤ 100000 := (by rw [hsc.n_]; omega); rw [← HJL.out] at hsc; have Hsc := Lib.hid hsc; clear hsc; unfold slv)
      | (refine step_append_at (A := sc.A) (n := sc.n) (c := sc.c) (v := .slice sA pn sC) rfl rfl ul_u8 info_u8 rfl (by go_simp) Hsc.out.byt.room (by first | (simp [Act.eval]; done) | (go_simp; done)) (Src.ofRd ul_u8 (HPR.out.ext ((Ext.drew _).t Hsc.out.ext)) (fun _ => rfl)) (by simp only [maxLen]; omega) (by omega) ?_
         intro A9 c9 w9 r9 ch9 ft9
         have hcl := cloned_app Hsc.out HPl0.out HPR.out.1 r9 ch9 ft9
         have hb9 := hcl.byt
         have e59 : Ext w5 w9 := (Ext.drew _).t hcl.ext
         have HPy := Lib.hid (played_ w9 sb ⟨none, 0, 0⟩ A9 (sc.n + pn) c9 (joF (mdF l) ++ P) A1 n1 c1 cuts (HDS.out.stm.ext e59) (fun w' ch => (hb9.chg ch (fun k hk ht => ht.elim (fun h => by have := hcl.new k hk; have : w5.drew.heap.size = w5.heap.size := rfl; have := HZ.out; omega) (fun h => absurd h foot_none))).rd) hb9.lt hb9.room.2.1 (by omega)
           (fun w' ch => (HC.out.rd.ext (E5.out.t e59)).chg ch (fun k o ha hn ht => ht.elim (Hold.out _ _ _ _ HC.out.rd k o ha hn) (fun h => absurd h foot_none))) HC.out.lt (Nat.le_trans HC.out.le HC.out.max))
         have E59 := Lib.hid e59
         unfold PldP at HPy
         rw [Hbe.out.2.1] at HPy
         clear hcl hb9 r9 ch9 ft9 e59)
      | (go_simp; go_at_call 25; refine HPy.out.mono ?_; rintro e w10 ⟨Ao, no, co, oo, s6, rfl, p⟩; have Hp := Lib.hid p; clear p))
    all_goals go_wp2_with fail
    all_goals go_simp
    all_goals go_meet
    all_goals exact ⟨Ao, no, co, rfl, rfl, Lib.hid ⟨oo, s6, by have h1 := Hp.out.lst; rw [Hbe.out.2.2] at h1; exact h1.down E59.out.size, ((HDS.out.ext E59.out).pld Hp.out).st_ Hbe.out.1⟩⟩
  case rest =>
  obtain ⟨Ao, no, co, rfl, rfl, Hx⟩ := hcut
  obtain ⟨oo, s6, hlo, hds⟩ := Hx.out
  have hl7 := lst_ds HL75.out hds HL7n.out
  have HQ1 := Lib.hid (equal_ Ao A7 no n7 co c7 oo os7 _ _ wc hlo.rd (Reads.of hlo.byt) hl7.rd (Reads.of hl7.byt) hlo.le hl7.le)
  rw [decide_eq_true (rfl : mdF l = mdF l)] at HQ1
  have HD1 := Lib.hid (dead_ hds.stm)
  have HH1 := Lib.hid (held_ hds.stm)
  simp only at HD1 HH1
  rw [← HPn.out] at HH1
  have HF1 := Lib.hid (feed_ hds.stm (from_ sA sC pn) (sN - pn) (sC - pn) [d] (by
    have h1 := (rd_ds (HsR.out.from_ (k := pn) hpN hsC1) hds (fun k o ha hn => by
      obtain ⟨b, o', rfl⟩ := HsR.out.some_ (by omega)
      unfold from_ at ha
      rw [if_neg (by omega)] at ha
      simp [Addr.add_lit] at ha
      have := HsNe.out b o' rfl
      have := Hsb.out
      omega))
    rwa [List.drop_left' HPn.out.symm] at h1) (fun y hy => HB1.out.lt y (List.mem_append_right _ hy)) (by simp only; have := HPn.out; omega) (by simp only; have := HN7.out; omega))
  have Hds := Lib.hid hds
  clear Hx hlo hds hl7
  go_wp2_with fail
  refine HQ1.out.mono ?_; rintro e w' ⟨rfl, rfl⟩
  go_wp2_with fail
  refine HD1.out.mono ?_; rintro e w' ⟨rfl, rfl⟩
  go_wp2_with fail
  refine HH1.out.mono ?_; rintro e w' ⟨rfl, rfl⟩
  go_wp2_with fail
  refine HF1.out.mono ?_; rintro e w11 ⟨Ap, np, cp, op, s7, f⟩
  have hret := f.ret
  have hnp := f.lst.n_
  have hds := Hds.out.fed f
  rw [HB1.out.fed] at hret hnp hds
  simp only [List.length_nil] at hret hnp hds
  subst hnp
  subst hret
  have HF2 := Lib.hid (feed_ hds.stm A2 n2 c2 (behind.take n2) (rd_ds ((HBh.out.rd.take (k := n2) (by omega)).ext E5.out) hds (fun k o ha hn => Hold.out _ _ _ _ (HBh.out.rd.take (k := n2) (by omega)) k o ha hn)) (fun y hy => HBh.out.lt y (List.mem_of_mem_take hy)) (by simp only [List.length_nil]; omega) (by simp only; have := HN7.out; omega))
  have Hds := Lib.hid hds
  clear f hds HQ1 HD1 HH1 HF1
  go_wp2_with fail
  refine HF2.out.mono ?_; rintro e w12 ⟨Aq, nq, cq, oq, sq, f⟩
  have hret := f.ret
  have hnp := f.lst.n_
  have hds := Hds.out.fed f
  rw [fdF_dead] at hret hnp hds
  simp only [List.length_nil] at hret hnp hds
  subst hnp
  subst hret
  have HF3 := Lib.hid (feed_ hds.stm s8.A s8.n s8.c (joF (mdF l)) (rd_ds Hall.out.rd hds Halln.out) Hall.out.lt (by simp only [List.length_nil]; omega) (by simp only; have := HN7.out; omega))
  have Hds := Lib.hid hds
  clear f hds HF2
  go_wp2_with fail
  refine HF3.out.mono ?_; rintro e w13 ⟨Ar, nr, cr, or, sr, f⟩
  have hret := f.ret
  have hnp := f.lst.n_
  have hds := Hds.out.fed f
  rw [fdF_dead] at hret hnp hds
  simp only [List.length_nil] at hret hnp hds
  subst hnp
  subst hret
  have HD2 := Lib.hid (dead_ hds.stm)
  have HR2 := Lib.hid (frames2_ hds.stm)
  have HH2 := Lib.hid (held_ hds.stm)
  have HN2 := Lib.hid (need2_ hds.stm (by simp))
  have HRs := Lib.hid (reset_ hds.stm)
  simp only [List.length_nil] at HD2 HR2 HH2
  rw [← HN7.out] at HR2
  rw [show tlF ⟨[], (mdF l).length, true⟩ = 0 from rfl] at HN2
  have Hds := Lib.hid hds
  clear f hds HF3
  go_wp2_with fail
  refine HD2.out.mono ?_; rintro e w' ⟨rfl, rfl⟩
  go_wp2_with fail
  refine HR2.out.mono ?_; rintro e w' ⟨rfl, rfl⟩
  go_wp2_with fail
  refine HH2.out.mono ?_; rintro e w' ⟨rfl, rfl⟩
  go_wp2_with fail
  refine HN2.out.mono ?_; rintro e w' ⟨rfl, rfl⟩
  go_wp2_with fail
  refine HRs.out.mono ?_; rintro e w14 ⟨rfl, hst, ch⟩
  have hds := Hds.out.reset hst ch
  have HD3 := Lib.hid (dead_ hds.stm)
  have HR3 := Lib.hid (frames2_ hds.stm)
  have HN3 := Lib.hid (need2_ hds.stm (by simp [fst0]))
  rw [show fst0.dead = false from rfl] at HD3
  rw [show fst0.n = 0 from rfl] at HR3
  rw [show tlF fst0 = 1 from rfl] at HN3
  have hall := rd_ds Hall.out.rd hds Halln.out
  have hcut2 := rd_ds (HC.out.rd.ext E5.out) hds (fun k o ha hn => Hold.out _ _ _ _ HC.out.rd k o ha hn)
  have HP2 := Lib.hid (played_ w14 sb ⟨none, 0, 0⟩ s8.A s8.n s8.c (joF (mdF l)) A1 n1 c1 cuts hds.stm (fun w' ch => hall.chg ch (fun k o ha hn ht => ht.elim (Halln.out k o ha hn) (fun h => absurd h foot_none))) Hall.out.lt Hall.out.room.2.1 (by omega)
    (fun w' ch => hcut2.chg ch (fun k o ha hn ht => ht.elim (Hold.out _ _ _ _ HC.out.rd k o ha hn) (fun h => absurd h foot_none))) HC.out.lt (Nat.le_trans HC.out.le HC.out.max))
  unfold PldP at HP2
  rw [(stOf_back HB.out).2] at HP2
  have Hds := Lib.hid hds
  clear hst ch hds hall hcut2 HD2 HR2 HH2 HN2 HRs
  go_wp2_with fail
  refine HD3.out.mono ?_; rintro e w' ⟨rfl, rfl⟩
  go_wp2_with fail
  refine HR3.out.mono ?_; rintro e w' ⟨rfl, rfl⟩
  go_wp2_with fail
  refine HN3.out.mono ?_; rintro e w' ⟨rfl, rfl⟩
  go_wp2_with fail
  refine HP2.out.mono ?_; rintro e w15 ⟨At, nt, ct, ot, st, rfl, p⟩
  have hds := Hds.out.pld p
  have hlo := p.lst
  rw [splF_back HB.out] at hlo
  have hl7 := lst_ds HL75.out hds HL7n.out
  have HQ2 := Lib.hid (equal_ At A7 nt n7 ct c7 ot os7 _ _ w15 hlo.rd (Reads.of hlo.byt) hl7.rd (Reads.of hl7.byt) hlo.le hl7.le)
  rw [decide_eq_true (rfl : mdF l = mdF l)] at HQ2
  have hfin := hds.out E5.out (by have := Hsb.out; have := E3.out.size; omega)
  have HFin := Lib.hid hfin
  clear p hds hlo hl7 hfin HD3 HR3 HN3 HP2
  go_wp2_with fail
  refine HQ2.out.mono ?_; rintro e w' ⟨rfl, rfl⟩
  go_wp2_with fail
  go_ret
  exact ⟨rfl, HFin.out⟩
theorem walkFrameDead (A0 : Option Addr) (n0 c0 : Nat) (l : List (Nat × Nat)) (a1 : Int) (A2 : Option Addr) (n2 c2 : Nat) (behind : List Nat) (A1 : Option Addr) (n1 c1 : Nat) (cuts : List Nat) (w : World) (h0 : SmArg w A0 n0 c0 l) (hw : (Lit.int .u8 a1).wf = true) (h2 : Arg .u8 256 w A2 n2 c2 behind) (h1 : Arg .u8 256 w A1 n1 c1 cuts) :
    Calls Try.prog 10 #[.slice A0 n0 c0, .int .u8 a1, .slice A2 n2 c2, .slice A1 n1 c1] w fun e w' => e = .returned (.bool true) ∧ Ext w w' := by
  obtain ⟨way, rfl⟩ := Int.eq_ofNat_of_zero_le (bounds_u8 hw).1
  by_cases h50 : 100 < n2
  · exact dead1 A0 n0 c0 l way A2 n2 c2 behind A1 n1 c1 cuts w h0 h2 h1 h50
  · exact dead2 A0 n0 c0 l way A2 n2 c2 behind A1 n1 c1 cuts w h0 h2 h1 (by omega)
end Go.Proofs.Ytippgnbmilnjbaa
