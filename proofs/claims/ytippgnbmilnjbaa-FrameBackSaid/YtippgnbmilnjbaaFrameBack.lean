/- FrameBack: the walk of the law: for any bodies, cuts and bytes behind it answers true and leaves all memory as it was (no condition). -/
import Derived.Test.YtippgnbmilnjbaaFjn
import Derived.Test.YtippgnbmilnjbaaFrameCuts
import Derived.Test.YtippgnbmilnjbaaFops
namespace Go.Fx
open Go.RowKit
theorem splF_back {xs : List (List Nat)} (h : ∀ x ∈ xs, x.length ≤ 16384) : splF (joF xs) = (xs, []) := by
  have h1 := splF_joF [] h
  rwa [List.append_nil, splF_nil, List.append_nil] at h1
theorem erF_nil : erF [] = 0 := by unfold erF; rw [if_pos rfl]
theorem stOf_back {xs : List (List Nat)} (h : ∀ x ∈ xs, x.length ≤ 16384) : stOf (joF xs) = ⟨[], xs.length, false⟩ ∧ erD (joF xs) = 0 := by
  unfold stOf erD
  rw [splF_back h]
  simp only [erF_nil]
  exact ⟨rfl, rfl⟩
theorem joF_len {xs : List (List Nat)} (h : ∀ x ∈ xs, x.length ≤ 599) : (joF xs).length ≤ xs.length * 602 := by
  induction xs with
  | nil => simp [joF]
  | cons x r ih =>
    have h1 := ih (fun y hy => h y (by simp [hy]))
    have h2 := h x (by simp)
    have h3 := frF_len x
    have h4 := fmF_len x.length
    rw [joF_cons, List.length_append, List.length_cons]
    omega
end Go.Fx
namespace Go.Proofs.Ytippgnbmilnjbaa
open Go.RowKit Go.Fx
theorem size_form {n : Nat} (h : n ≤ 16384) : Num.size n = (fmF n).length := by rw [← form_fmF h, Num.form_length]
set_option maxRecDepth 100000 in
set_option maxHeartbeats 4000000 in
theorem back1 (A0 : Option Addr) (n0 c0 : Nat) (l : List (Nat × Nat)) (A1 : Option Addr) (n1 c1 : Nat) (cuts : List Nat) (A2 : Option Addr) (n2 c2 : Nat) (behind : List Nat) (w : World) (h0 : SmArg w A0 n0 c0 l) (h1 : Arg .u8 256 w A1 n1 c1 cuts) (h2 : Arg .u8 256 w A2 n2 c2 behind) (h50 : 50 < n2) :
    Calls Try.prog 9 #[.slice A0 n0 c0, .slice A1 n1 c1, .slice A2 n2 c2] w fun e w' => e = .returned (.bool true) ∧ Ext w w' := by
  have hml := mdF_mem (l := l) (fun a ha => by
    obtain ⟨i, hi, rfl⟩ := List.mem_iff_getElem.1 ha
    obtain ⟨_, _, _, _, _, _, _, h⟩ := h0.sm.at_ i _ (List.getElem?_eq_getElem hi)
    exact h)
  have HB : Hid (∀ x ∈ mdF l, x.length ≤ 16384) := Lib.hid (fun x hx => by have := (hml x hx).2; omega)
  have HB5 : Hid (∀ x ∈ mdF l, x.length ≤ 599) := Lib.hid (fun x hx => (hml x hx).2)
  have HS := Lib.hid h0
  have HC := Lib.hid h1
  have HBh := Lib.hid h2
  have h50I : (50 : Int) < (n2 : Int) := by omega
  have hsl := fun w' => u8_toI (A := A2) (n := n2) (c := c2) (hi := 50) (li := 50) w' rfl (by have := h2.le; omega)
  clear h0 h1 h2 hml
  go_enter Try.func9, Try.ntmps9
  go_wp2_with fail
  refine (awake w).mono ?_; rintro e w1 ⟨rfl, e1⟩
  have E1 := Lib.hid e1
  clear e1
  have HM := Lib.hid (made_ A0 n0 c0 l w1 (HS.out.sm.ext E1.out) HS.out.le)
  go_wp2_with fail
  refine HM.out.mono ?_; rintro e w2 ⟨A7, n7, c7, os7, rfl, hl7, e2⟩
  have hn7 := hl7.n_
  rw [mdF_len] at hn7
  have HL7 := Lib.hid hl7
  have E2 := Lib.hid (E1.out.t e2)
  have HN7 := Lib.hid hl7.n_
  have hn30 : n7 ≤ 30 := by omega
  have HJ := Lib.hid (join_ A7 n7 c7 os7 (mdF l) w2 hl7.rd (Reads.of hl7.byt) (by omega))
  unfold JoinP at HJ
  rw [jnF_ok _ _ _ HB.out, List.nil_append] at HJ
  clear hl7 e2 HM hn7
  go_wp2_with fail
  refine HJ.out.mono ?_; rintro e w3 ⟨s8, rfl, hs8⟩
  have hs8n : s8.n ≤ 1000000 := by rw [hs8.n_]; have := joF_len HB5.out; have := HN7.out; omega
  have HJL : Hid ((joF (mdF l)).length = s8.n) := Lib.hid hs8.n_.symm
  have Hs8 := Lib.hid hs8
  have E3 := Lib.hid (E2.out.t hs8.ext)
  have E23 := Lib.hid hs8.ext
  have HSp := Lib.hid (split_ s8.A s8.n s8.c (joF (mdF l)) w3 hs8.byt.rd hs8.byt.lt hs8.byt.room.2.1 hs8.byt.room.2.2.1 (by omega))
  unfold SplitP at HSp
  rw [splF_back HB.out, erF_nil, HJL.out, List.length_nil, Nat.sub_zero] at HSp
  clear hs8 HJ
  unfold slv
  go_wp2_with fail
  refine HSp.out.mono ?_; rintro e w4 ⟨Ab, nb, cb, ob, rfl, hlb, e4⟩
  have HLb := Lib.hid hlb
  have E34 := Lib.hid e4
  have E4 := Lib.hid (E3.out.t e4)
  clear hlb e4 HSp
  go_wp2_with fail
  refine (new_ w4).mono ?_; rintro e w5 ⟨sb, rfl, hst, e5, lo5⟩
  have E45 := Lib.hid e5
  have E5 := Lib.hid (E4.out.t e5)
  have hl7 := HL7.out.ext (E23.out.t (E34.out.t E45.out))
  have hlb := HLb.out.ext E45.out
  have HQ1 := Lib.hid (equal_ Ab A7 nb n7 cb c7 ob os7 _ _ w5 hlb.rd (Reads.of hlb.byt) hl7.rd (Reads.of hl7.byt) hlb.le hl7.le)
  rw [decide_eq_true (rfl : mdF l = mdF l)] at HQ1
  have hT : ∀ k, stmF sb ⟨none, 0, 0⟩ k → w4.heap.size ≤ k := fun k hk => hk.elim (fun h => by omega) (fun h => absurd h foot_none)
  have hs5 := Hs8.out.byt.ext (E34.out.t E45.out)
  have HP := Lib.hid (played_ w5 sb ⟨none, 0, 0⟩ s8.A s8.n s8.c (joF (mdF l)) A1 n1 c1 cuts hst (fun w' ch => (hs5.chg ch (fun k hk ht => by have := hT k ht; have := Hs8.out.byt.room.lt hk; have := E34.out.size; omega)).rd) hs5.lt hs5.room.2.1 hs8n
    (fun w' ch => HC.out.rd.old E5.out ch (fun k hk => by have := hT k hk; have := E4.out.size; omega)) HC.out.lt (Nat.le_trans HC.out.le HC.out.max))
  unfold PldP at HP
  rw [(stOf_back HB.out).2] at HP
  have HT := Lib.hid hT
  have HL75 := Lib.hid hl7
  clear hl7 hlb hs5 hst e5 lo5 hT
  go_wp2_with fail
  refine HQ1.out.mono ?_; rintro e w5' ⟨rfl, rfl⟩
  go_wp2_with fail
  refine HP.out.mono ?_; rintro e w6 ⟨Ao, no, co, oo, s6, rfl, p⟩
  have hstm := p.stm
  rw [(stOf_back HB.out).1] at hstm
  have hlo := p.lst
  rw [splF_back HB.out] at hlo
  have ch6 : Chg (fun k => w4.heap.size ≤ k) w5 w6 := p.chg.mono (fun k _ hk => HT.out k hk)
  have hz4 := E4.out.size
  have he6 : Ext w w6 := E5.out.trans (ch6.below E5.out.size (fun k hk ht => by omega))
  have hl6 : Lst w1.heap.size w6 A7 n7 c7 os7 (mdF l) := HL75.out.chg ch6 (fun k hk ht => by have := HL7.out.lt hk; have := E23.out.size; have := E34.out.size; omega)
  have HQ2 := Lib.hid (equal_ Ao A7 no n7 co c7 oo os7 _ _ w6 hlo.rd (Reads.of hlo.byt) hl6.rd (Reads.of hl6.byt) hlo.le hl6.le)
  rw [decide_eq_true (rfl : mdF l = mdF l)] at HQ2
  have HH := Lib.hid (held_ hstm)
  have HNd := Lib.hid (need2_ hstm (by simp))
  have HFr := Lib.hid (frames2_ hstm)
  have HDd := Lib.hid (dead_ hstm)
  simp only [List.length_nil] at HH HFr HDd
  rw [show tlF ⟨[], (mdF l).length, false⟩ = 1 from rfl] at HNd
  rw [← HN7.out] at HFr
  have E6 := Lib.hid he6
  have HL6 := Lib.hid hl6
  clear p hstm hlo ch6 hz4 he6 hl6 HP HQ1 HT HL75 HLb
  go_wp2_with fail
  refine HQ2.out.mono ?_; rintro e w7 ⟨rfl, rfl⟩
  go_wp2_with fail
  refine HH.out.mono ?_; rintro e w7 ⟨rfl, rfl⟩
  go_wp2_with fail
  refine HNd.out.mono ?_; rintro e w7 ⟨rfl, rfl⟩
  go_wp2_with fail
  refine HFr.out.mono ?_; rintro e w7 ⟨rfl, rfl⟩
  go_wp2_with fail
  refine HDd.out.mono ?_; rintro e w7 ⟨rfl, rfl⟩
  go_wp2_with fail
  clear HQ2 HH HNd HFr HDd Hs8 HL7 E1 E2 E3 E4 E5 E23 E34 E45
  go_loopw [103] (fun i wr => ∃ (k : Nat), k ≤ n7 ∧ i = .int .i64 (k : Int) ∧ Ext w6 wr) (fun i _ => n7 - (intOf i).toNat)
  case atStart => exact ⟨0, by omega, rfl, Ext.refl _⟩
  case round =>
    obtain ⟨k, hk, rfl, hEr⟩ := hrel
    have HEr := Lib.hid hEr
    clear hEr
    by_cases hlt : k < n7
    · have hltI : (k : Int) < (n7 : Int) := by omega
      have hl := HL6.out.ext HEr.out
      obtain ⟨b, o, s, rfl, _, hs, hc⟩ := hl.rd.at_ hlt
      obtain ⟨x, hx, hxb⟩ := hl.byt.at_ k s hs
      have hxm := HB5.out x (List.mem_of_getElem? hx)
      have hxn : s.n = x.length := by have := hxb.room.1; simpa using this.symm
      have hsn : s.n ≤ 599 := by omega
      have HW := Lib.hid (write_ s.A s.n s.c x wr hxb.rd hxb.lt)
      unfold WriteP at HW
      rw [wrF_ok (by omega)] at HW
      have Hxb := Lib.hid hxb
      have Hxn := Lib.hid hxn
      have Hrf : Hid (rdF (frF x ++ behind.take 50) = (x, (frF x).length, 0)) := Lib.hid (rdF_frF (by omega) _)
      have HSz := Lib.hid (fun w' => num_Size s.n w' (by omega))
      have hfl := frF_len x
      have hfm := fmF_len x.length
      obtain ⟨F, hF⟩ : ∃ F, F = (frF x).length := ⟨_, rfl⟩
      obtain ⟨G, hG⟩ : ∃ G, G = (fmF x.length).length := ⟨_, rfl⟩
      rw [← hF] at Hrf
      have hG2 : (fmF s.n).length = G := by rw [hxn]; exact hG.symm
      rw [size_form (by omega), hG2] at HSz
      have hFG : (F : Int) = (s.n : Int) + (G : Int) := by omega
      have hF1 : F ≤ 1000 := by omega
      have HF := Lib.hid hF
      have hw1 : IntKind.u64.wrap (s.n : Int) = (s.n : Int) := by rw [IntKind.wrap_u64]; omega
      have hw2 : IntKind.i64.wrap ((s.n : Int) + (G : Int)) = (F : Int) := by rw [hFG]; exact IntWalk.i64_in _ (by omega)
      unfold slv at hc
      clear hl hs hx hxb hxm hxn hfl hfm hF hG hG2 hFG
      go_wp2_with fail
      refine HW.out.mono ?_; rintro e w7 ⟨sf, rfl, hsf⟩
      have hsfn : sf.n = F := by rw [hsf.n_]; exact HF.out.symm
      have Hsf := Lib.hid hsf
      have hbr := (HBh.out.rd.ext (E6.out.t (HEr.out.t hsf.ext))).take (k := 50) (by omega)
      have Hbr := Lib.hid hbr
      have Hbl : Hid (∀ y ∈ behind.take 50, y < 256) := Lib.hid (fun y hy => HBh.out.lt y (List.mem_of_mem_take hy))
      have HE7 := Lib.hid (HEr.out.t hsf.ext)
      have E67 := Lib.hid hsf.ext
      obtain ⟨sA, sN, sC⟩ := sf
      obtain rfl : sN = F := hsfn
      have HCl := Lib.hid (fun w' (e : Ext w7 w') => clone_ sA sN sC (frF x) w' (hsf.byt.ext e).rd hsf.byt.lt (by omega))
      have Hflt : Hid (∀ y ∈ frF x ++ behind.take 50, y < 256) := Lib.hid (fun y hy => (List.mem_append.1 hy).elim (hsf.byt.lt y) (fun h => HBh.out.lt y (List.mem_of_mem_take h)))
      clear hsf hbr HW
      unfold slv
      go_upto_region 16 with fail
      go_cut [21, 22, 23] from 112 to 124 (fun v1 v2 v3 wx => ∃ t : Sl, v1 = .slice t.A t.n t.c ∧ v2 = .int .i64 (sN : Int) ∧ v3 = .int .i64 0 ∧ Hid (Byt wx t x ∧ Ext w7 wx))
      case first =>
        go_region_law (first
          | (go_simp; go_at_call 32; refine (HCl.out _ (Ext.drew _)).mono ?_; rintro e w8 ⟨sc, rfl, hsc⟩; have hscn : sc.n ≤ 1000 := (by rw [hsc.n_]; omega); rw [HF.out] at hsc; have Hsc := Lib.hid hsc; clear hsc; unfold slv)
          | (refine step_append_at (A := sc.A) (n := sc.n) (c := sc.c) (v := .slice A2 50 c2) rfl rfl ul_u8 info_u8 rfl (by first | (simp [Act.eval, Act.put]; done) | (go_simp; done) | (simp [Act.eval, Act.put]; rfl)) Hsc.out.byt.room (by first | (simp [Act.eval, Act.put]; done) | (go_simp; done) | (simp [Act.eval, Act.put]; rfl)) (Src.ofRd ul_u8 ((Hbr.out.ext ((Ext.drew _).t Hsc.out.ext))) (fun _ => rfl)) (by simp only [maxLen]; omega) (by omega) ?_
             intro A9 c9 w9 r9 ch9 ft9
             have hcl := cloned_app Hsc.out Hbl.out Hbr.out.1 r9 ch9 ft9
             have hb9 := hcl.byt
             have HRd := Lib.hid (read_ A9 (sc.n + 50) c9 (frF x ++ behind.take 50) w9 hb9.rd hb9.lt hb9.room.2.1 hb9.room.2.2.1 (by omega))
             have E9 := Lib.hid hcl.ext
             unfold ReadP at HRd
             rw [Hrf.out] at HRd
             clear hcl hb9 r9 ch9 ft9)
          | (go_simp; go_at_call 18; refine HRd.out.mono ?_; rintro e w10 ⟨t, rfl, ht⟩; have Ht := Lib.hid ht; clear ht; unfold slv))
        all_goals go_wp2_with fail
        all_goals go_simp
        all_goals go_meet
        all_goals exact ⟨t, rfl, rfl, rfl, Lib.hid ⟨Ht.out.byt, (Ext.drew _).t (E9.out.t Ht.out.ext)⟩⟩
      case rest =>
      obtain ⟨t, rfl, rfl, rfl, ht⟩ := hcut
      have HE := Lib.hid (bytes_Equal t.A s.A t.n s.n t.c s.c x x wc ht.out.1.rd (Hxb.out.ext (E67.out.t ht.out.2)).rd Hxb.out.lt Hxb.out.lt)
      rw [decide_eq_true (rfl : x = x)] at HE
      have hfin := HE7.out.t ht.out.2
      have HFin := Lib.hid hfin
      clear ht hfin
      go_wp2_with fail
      refine HE.out.mono ?_; rintro e w11 ⟨rfl, rfl⟩
      go_wp2_with fail
      refine (HSz.out _).mono ?_; rintro e w11 ⟨rfl, rfl⟩
      go_wp2_with fail
      go_roundw
      case rel => exact ⟨k + 1, by omega, by go_num, HFin.out⟩
      case measure => simp [intOf]; omega
    · obtain rfl : n7 = k := by omega
      go_wp2_with fail
      go_ret
      exact ⟨rfl, E6.out.t HEr.out⟩
set_option maxRecDepth 100000 in
set_option maxHeartbeats 4000000 in
theorem back2 (A0 : Option Addr) (n0 c0 : Nat) (l : List (Nat × Nat)) (A1 : Option Addr) (n1 c1 : Nat) (cuts : List Nat) (A2 : Option Addr) (n2 c2 : Nat) (behind : List Nat) (w : World) (h0 : SmArg w A0 n0 c0 l) (h1 : Arg .u8 256 w A1 n1 c1 cuts) (h2 : Arg .u8 256 w A2 n2 c2 behind) (h50 : n2 ≤ 50) :
    Calls Try.prog 9 #[.slice A0 n0 c0, .slice A1 n1 c1, .slice A2 n2 c2] w fun e w' => e = .returned (.bool true) ∧ Ext w w' := by
  have hml := mdF_mem (l := l) (fun a ha => by
    obtain ⟨i, hi, rfl⟩ := List.mem_iff_getElem.1 ha
    obtain ⟨_, _, _, _, _, _, _, h⟩ := h0.sm.at_ i _ (List.getElem?_eq_getElem hi)
    exact h)
  have HB : Hid (∀ x ∈ mdF l, x.length ≤ 16384) := Lib.hid (fun x hx => by have := (hml x hx).2; omega)
  have HB5 : Hid (∀ x ∈ mdF l, x.length ≤ 599) := Lib.hid (fun x hx => (hml x hx).2)
  have HS := Lib.hid h0
  have HC := Lib.hid h1
  have HBh := Lib.hid h2
  have h50I : ¬ (50 : Int) < (n2 : Int) := by omega
  have hif : (if (50 : Int) < (n2 : Int) then (50 : Int) else (n2 : Int)) = (n2 : Int) := if_neg h50I
  have hsl := fun w' => u8_toI (A := A2) (n := n2) (c := c2) (hi := n2) (li := (n2 : Int)) w' rfl h2.le
  clear h0 h1 h2 hml
  go_enter Try.func9, Try.ntmps9
  go_wp2_with fail
  refine (awake w).mono ?_; rintro e w1 ⟨rfl, e1⟩
  have E1 := Lib.hid e1
  clear e1
  have HM := Lib.hid (made_ A0 n0 c0 l w1 (HS.out.sm.ext E1.out) HS.out.le)
  go_wp2_with fail
  refine HM.out.mono ?_; rintro e w2 ⟨A7, n7, c7, os7, rfl, hl7, e2⟩
  have hn7 := hl7.n_
  rw [mdF_len] at hn7
  have HL7 := Lib.hid hl7
  have E2 := Lib.hid (E1.out.t e2)
  have HN7 := Lib.hid hl7.n_
  have hn30 : n7 ≤ 30 := by omega
  have HJ := Lib.hid (join_ A7 n7 c7 os7 (mdF l) w2 hl7.rd (Reads.of hl7.byt) (by omega))
  unfold JoinP at HJ
  rw [jnF_ok _ _ _ HB.out, List.nil_append] at HJ
  clear hl7 e2 HM hn7
  go_wp2_with fail
  refine HJ.out.mono ?_; rintro e w3 ⟨s8, rfl, hs8⟩
  have hs8n : s8.n ≤ 1000000 := by rw [hs8.n_]; have := joF_len HB5.out; have := HN7.out; omega
  have HJL : Hid ((joF (mdF l)).length = s8.n) := Lib.hid hs8.n_.symm
  have Hs8 := Lib.hid hs8
  have E3 := Lib.hid (E2.out.t hs8.ext)
  have E23 := Lib.hid hs8.ext
  have HSp := Lib.hid (split_ s8.A s8.n s8.c (joF (mdF l)) w3 hs8.byt.rd hs8.byt.lt hs8.byt.room.2.1 hs8.byt.room.2.2.1 (by omega))
  unfold SplitP at HSp
  rw [splF_back HB.out, erF_nil, HJL.out, List.length_nil, Nat.sub_zero] at HSp
  clear hs8 HJ
  unfold slv
  go_wp2_with fail
  refine HSp.out.mono ?_; rintro e w4 ⟨Ab, nb, cb, ob, rfl, hlb, e4⟩
  have HLb := Lib.hid hlb
  have E34 := Lib.hid e4
  have E4 := Lib.hid (E3.out.t e4)
  clear hlb e4 HSp
  go_wp2_with fail
  refine (new_ w4).mono ?_; rintro e w5 ⟨sb, rfl, hst, e5, lo5⟩
  have E45 := Lib.hid e5
  have E5 := Lib.hid (E4.out.t e5)
  have hl7 := HL7.out.ext (E23.out.t (E34.out.t E45.out))
  have hlb := HLb.out.ext E45.out
  have HQ1 := Lib.hid (equal_ Ab A7 nb n7 cb c7 ob os7 _ _ w5 hlb.rd (Reads.of hlb.byt) hl7.rd (Reads.of hl7.byt) hlb.le hl7.le)
  rw [decide_eq_true (rfl : mdF l = mdF l)] at HQ1
  have hT : ∀ k, stmF sb ⟨none, 0, 0⟩ k → w4.heap.size ≤ k := fun k hk => hk.elim (fun h => by omega) (fun h => absurd h foot_none)
  have hs5 := Hs8.out.byt.ext (E34.out.t E45.out)
  have HP := Lib.hid (played_ w5 sb ⟨none, 0, 0⟩ s8.A s8.n s8.c (joF (mdF l)) A1 n1 c1 cuts hst (fun w' ch => (hs5.chg ch (fun k hk ht => by have := hT k ht; have := Hs8.out.byt.room.lt hk; have := E34.out.size; omega)).rd) hs5.lt hs5.room.2.1 hs8n
    (fun w' ch => HC.out.rd.old E5.out ch (fun k hk => by have := hT k hk; have := E4.out.size; omega)) HC.out.lt (Nat.le_trans HC.out.le HC.out.max))
  unfold PldP at HP
  rw [(stOf_back HB.out).2] at HP
  have HT := Lib.hid hT
  have HL75 := Lib.hid hl7
  clear hl7 hlb hs5 hst e5 lo5 hT
  go_wp2_with fail
  refine HQ1.out.mono ?_; rintro e w5' ⟨rfl, rfl⟩
  go_wp2_with fail
  refine HP.out.mono ?_; rintro e w6 ⟨Ao, no, co, oo, s6, rfl, p⟩
  have hstm := p.stm
  rw [(stOf_back HB.out).1] at hstm
  have hlo := p.lst
  rw [splF_back HB.out] at hlo
  have ch6 : Chg (fun k => w4.heap.size ≤ k) w5 w6 := p.chg.mono (fun k _ hk => HT.out k hk)
  have hz4 := E4.out.size
  have he6 : Ext w w6 := E5.out.trans (ch6.below E5.out.size (fun k hk ht => by omega))
  have hl6 : Lst w1.heap.size w6 A7 n7 c7 os7 (mdF l) := HL75.out.chg ch6 (fun k hk ht => by have := HL7.out.lt hk; have := E23.out.size; have := E34.out.size; omega)
  have HQ2 := Lib.hid (equal_ Ao A7 no n7 co c7 oo os7 _ _ w6 hlo.rd (Reads.of hlo.byt) hl6.rd (Reads.of hl6.byt) hlo.le hl6.le)
  rw [decide_eq_true (rfl : mdF l = mdF l)] at HQ2
  have HH := Lib.hid (held_ hstm)
  have HNd := Lib.hid (need2_ hstm (by simp))
  have HFr := Lib.hid (frames2_ hstm)
  have HDd := Lib.hid (dead_ hstm)
  simp only [List.length_nil] at HH HFr HDd
  rw [show tlF ⟨[], (mdF l).length, false⟩ = 1 from rfl] at HNd
  rw [← HN7.out] at HFr
  have E6 := Lib.hid he6
  have HL6 := Lib.hid hl6
  clear p hstm hlo ch6 hz4 he6 hl6 HP HQ1 HT HL75 HLb
  go_wp2_with fail
  refine HQ2.out.mono ?_; rintro e w7 ⟨rfl, rfl⟩
  go_wp2_with fail
  refine HH.out.mono ?_; rintro e w7 ⟨rfl, rfl⟩
  go_wp2_with fail
  refine HNd.out.mono ?_; rintro e w7 ⟨rfl, rfl⟩
  go_wp2_with fail
  refine HFr.out.mono ?_; rintro e w7 ⟨rfl, rfl⟩
  go_wp2_with fail
  refine HDd.out.mono ?_; rintro e w7 ⟨rfl, rfl⟩
  go_wp2_with fail
  clear HQ2 HH HNd HFr HDd Hs8 HL7 E1 E2 E3 E4 E5 E23 E34 E45
  go_loopw [103] (fun i wr => ∃ (k : Nat), k ≤ n7 ∧ i = .int .i64 (k : Int) ∧ Ext w6 wr) (fun i _ => n7 - (intOf i).toNat)
  case atStart => exact ⟨0, by omega, rfl, Ext.refl _⟩
  case round =>
    obtain ⟨k, hk, rfl, hEr⟩ := hrel
    have HEr := Lib.hid hEr
    clear hEr
    by_cases hlt : k < n7
    · have hltI : (k : Int) < (n7 : Int) := by omega
      have hl := HL6.out.ext HEr.out
      obtain ⟨b, o, s, rfl, _, hs, hc⟩ := hl.rd.at_ hlt
      obtain ⟨x, hx, hxb⟩ := hl.byt.at_ k s hs
      have hxm := HB5.out x (List.mem_of_getElem? hx)
      have hxn : s.n = x.length := by have := hxb.room.1; simpa using this.symm
      have hsn : s.n ≤ 599 := by omega
      have HW := Lib.hid (write_ s.A s.n s.c x wr hxb.rd hxb.lt)
      unfold WriteP at HW
      rw [wrF_ok (by omega)] at HW
      have Hxb := Lib.hid hxb
      have Hxn := Lib.hid hxn
      have Hrf : Hid (rdF (frF x ++ behind.take n2) = (x, (frF x).length, 0)) := Lib.hid (rdF_frF (by omega) _)
      have HSz := Lib.hid (fun w' => num_Size s.n w' (by omega))
      have hfl := frF_len x
      have hfm := fmF_len x.length
      obtain ⟨F, hF⟩ : ∃ F, F = (frF x).length := ⟨_, rfl⟩
      obtain ⟨G, hG⟩ : ∃ G, G = (fmF x.length).length := ⟨_, rfl⟩
      rw [← hF] at Hrf
      have hG2 : (fmF s.n).length = G := by rw [hxn]; exact hG.symm
      rw [size_form (by omega), hG2] at HSz
      have hFG : (F : Int) = (s.n : Int) + (G : Int) := by omega
      have hF1 : F ≤ 1000 := by omega
      have HF := Lib.hid hF
      have hw1 : IntKind.u64.wrap (s.n : Int) = (s.n : Int) := by rw [IntKind.wrap_u64]; omega
      have hw2 : IntKind.i64.wrap ((s.n : Int) + (G : Int)) = (F : Int) := by rw [hFG]; exact IntWalk.i64_in _ (by omega)
      unfold slv at hc
      clear hl hs hx hxb hxm hxn hfl hfm hF hG hG2 hFG
      go_wp2_with fail
      refine HW.out.mono ?_; rintro e w7 ⟨sf, rfl, hsf⟩
      have hsfn : sf.n = F := by rw [hsf.n_]; exact HF.out.symm
      have Hsf := Lib.hid hsf
      have hbr := (HBh.out.rd.ext (E6.out.t (HEr.out.t hsf.ext))).take (k := n2) (by omega)
      have Hbr := Lib.hid hbr
      have Hbl : Hid (∀ y ∈ behind.take n2, y < 256) := Lib.hid (fun y hy => HBh.out.lt y (List.mem_of_mem_take hy))
      have HE7 := Lib.hid (HEr.out.t hsf.ext)
      have E67 := Lib.hid hsf.ext
      obtain ⟨sA, sN, sC⟩ := sf
      obtain rfl : sN = F := hsfn
      have HCl := Lib.hid (fun w' (e : Ext w7 w') => clone_ sA sN sC (frF x) w' (hsf.byt.ext e).rd hsf.byt.lt (by omega))
      have Hflt : Hid (∀ y ∈ frF x ++ behind.take n2, y < 256) := Lib.hid (fun y hy => (List.mem_append.1 hy).elim (hsf.byt.lt y) (fun h => HBh.out.lt y (List.mem_of_mem_take h)))
      clear hsf hbr HW
      unfold slv
      go_upto_region 16 with fail
      go_cut [21, 22, 23] from 112 to 124 (fun v1 v2 v3 wx => ∃ t : Sl, v1 = .slice t.A t.n t.c ∧ v2 = .int .i64 (sN : Int) ∧ v3 = .int .i64 0 ∧ Hid (Byt wx t x ∧ Ext w7 wx))
      case first =>
        go_region_law (first
          | (go_simp; go_at_call 32; refine (HCl.out _ (Ext.drew _)).mono ?_; rintro e w8 ⟨sc, rfl, hsc⟩; have hscn : sc.n ≤ 1000 := (by rw [hsc.n_]; omega); rw [HF.out] at hsc; have Hsc := Lib.hid hsc; clear hsc; unfold slv)
          | (refine step_append_at (A := sc.A) (n := sc.n) (c := sc.c) (v := .slice A2 n2 c2) rfl rfl ul_u8 info_u8 rfl (by first | (simp [Act.eval, Act.put]; done) | (go_simp; done) | (simp [Act.eval, Act.put]; rfl)) Hsc.out.byt.room (by first | (simp [Act.eval, Act.put]; done) | (go_simp; done) | (simp [Act.eval, Act.put]; rfl)) (Src.ofRd ul_u8 ((Hbr.out.ext ((Ext.drew _).t Hsc.out.ext))) (fun _ => rfl)) (by simp only [maxLen]; omega) (by omega) ?_
             intro A9 c9 w9 r9 ch9 ft9
             have hcl := cloned_app Hsc.out Hbl.out Hbr.out.1 r9 ch9 ft9
             have hb9 := hcl.byt
             have HRd := Lib.hid (read_ A9 (sc.n + n2) c9 (frF x ++ behind.take n2) w9 hb9.rd hb9.lt hb9.room.2.1 hb9.room.2.2.1 (by omega))
             have E9 := Lib.hid hcl.ext
             unfold ReadP at HRd
             rw [Hrf.out] at HRd
             clear hcl hb9 r9 ch9 ft9)
          | (go_simp; go_at_call 18; refine HRd.out.mono ?_; rintro e w10 ⟨t, rfl, ht⟩; have Ht := Lib.hid ht; clear ht; unfold slv))
        all_goals go_wp2_with fail
        all_goals go_simp
        all_goals go_meet
        all_goals exact ⟨t, rfl, rfl, rfl, Lib.hid ⟨Ht.out.byt, (Ext.drew _).t (E9.out.t Ht.out.ext)⟩⟩
      case rest =>
      obtain ⟨t, rfl, rfl, rfl, ht⟩ := hcut
      have HE := Lib.hid (bytes_Equal t.A s.A t.n s.n t.c s.c x x wc ht.out.1.rd (Hxb.out.ext (E67.out.t ht.out.2)).rd Hxb.out.lt Hxb.out.lt)
      rw [decide_eq_true (rfl : x = x)] at HE
      have hfin := HE7.out.t ht.out.2
      have HFin := Lib.hid hfin
      clear ht hfin
      go_wp2_with fail
      refine HE.out.mono ?_; rintro e w11 ⟨rfl, rfl⟩
      go_wp2_with fail
      refine (HSz.out _).mono ?_; rintro e w11 ⟨rfl, rfl⟩
      go_wp2_with fail
      go_roundw
      case rel => exact ⟨k + 1, by omega, by go_num, HFin.out⟩
      case measure => simp [intOf]; omega
    · obtain rfl : n7 = k := by omega
      go_wp2_with fail
      go_ret
      exact ⟨rfl, E6.out.t HEr.out⟩
theorem walkFrameBack (A0 : Option Addr) (n0 c0 : Nat) (l : List (Nat × Nat)) (A1 : Option Addr) (n1 c1 : Nat) (cuts : List Nat) (A2 : Option Addr) (n2 c2 : Nat) (behind : List Nat) (w : World) (h0 : SmArg w A0 n0 c0 l) (h1 : Arg .u8 256 w A1 n1 c1 cuts) (h2 : Arg .u8 256 w A2 n2 c2 behind) :
    Calls Try.prog 9 #[.slice A0 n0 c0, .slice A1 n1 c1, .slice A2 n2 c2] w fun e w' => e = .returned (.bool true) ∧ Ext w w' := by
  by_cases h50 : 50 < n2
  · exact back1 A0 n0 c0 l A1 n1 c1 cuts A2 n2 c2 behind w h0 h1 h2 h50
  · exact back2 A0 n0 c0 l A1 n1 c1 cuts A2 n2 c2 behind w h0 h1 h2 (by omega)
end Go.Proofs.Ytippgnbmilnjbaa
