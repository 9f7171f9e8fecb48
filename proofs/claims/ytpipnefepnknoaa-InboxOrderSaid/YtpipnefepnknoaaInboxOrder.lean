/- InboxOrder: the walk of the law. -/
import Derived.Test.YtpipnefepnknoaaHeld
import Derived.Deep.CutRange
import Derived.Deep.RegionHeldLaw
namespace Go.Proofs.Ytpipnefepnknoaa
open Go.RowKit Go.Fx
theorem quiet_eq2 {P : Program} {f : FuncId} {args : Array Value} {w : World} {n : Nat} {v : Value}
    (h : Calls P f args (w.drewN n) fun e w' => e = .returned v ∧ w.drewN n = w') : Calls P f args (w.drewN n) fun e w'' => e = .returned v ∧ ∃ m, w'' = w.drewN m :=
  h.mono fun _ _ ⟨he, hm⟩ => ⟨he, n, hm.symm⟩
set_option maxRecDepth 100000 in
set_option maxHeartbeats 4000000 in
theorem order_ (A : Option Addr) (n c : Nat) (al : List ActN) (w : World) (hacts : Acts w A n al) (hnc : n ≤ c) (hc : c ≤ maxLen) :
    Calls Try.prog 7 #[.slice A n c] w fun e w' => e = .returned (.bool true) ∧ Ext w w' := by
  have HP := Lib.hid (fun w' (e : Ext w w') => play_ A n c al w' (hacts.ext e) hnc hc)
  have HU := Lib.hid (fun w' (e : Ext w w') => put_ A n c al w w' hacts e hnc hc)
  have HA := Lib.hid (awake w)
  clear hacts hnc hc
  go_enter Try.func7, Try.ntmps7
  go_wp2_with fail
  refine HA.out.mono ?_; rintro e w1 ⟨rfl, e1⟩
  go_wp2_with fail
  refine (HP.out w1 e1).mono ?_
  rintro e w2 ⟨ib, L, A2, n2, c2, os, st, outs0, hpl⟩
  have hret := hpl.ret
  have hord := play_ord (al.take 40)
  rw [← hpl.res] at hord
  have h40 := putL_40 al
  have e12 := e1.t hpl.sys.below
  have Hpl := Lib.hid hpl
  have E1 := Lib.hid e1
  have Hn2 := Lib.hid hpl.resp.n_
  clear hpl e1
  subst hret
  go_wp2_with fail
  refine (HU.out w2 e12).mono ?_
  generalize putL (al.take 40) = all at hord h40 ⊢
  rintro e w3 ⟨A4, n4, c4, ps, rfl, hpu⟩
  have hn4 : n4 = all.length := by rw [← hpu.len, hpu.reads.len]
  have Hn4 := Lib.hid hn4
  have hnn : n2 ≤ n4 := by rw [hn4, Hn2.out]; exact hord.le
  have hn40 : n4 ≤ 40 := by omega
  have hc4 : n4 ≤ c4 := hpu.room.2.1
  have hpd : st.pend = decide (n2 < n4) := by rw [hord.pend_eq, Hn2.out, hn4]
  have hwt : st.wait = all.drop (n2 + 1) := by rw [hord.wait_eq, Hn2.out]
  have hfr := framesR A2 A4 n2 n2 c2 c4 os (ps.take n2) outs0 (all.take n2) w3 (Hpl.out.resp.ext hpu.ext).rd (Reads.of (Hpl.out.resp.ext hpu.ext).byt) ((Room.rd hpu.room).take hnn) ((hpu.reads.ext (e12.t hpu.ext)).take n2) Hpl.out.resp.le (by simp only [maxLen]; omega)
  rw [show decide (outs0 = all.take n2) = true from decide_eq_true (by rw [Hn2.out, hord.take])] at hfr
  have HFr := Lib.hid hfr
  have hsys := Hpl.out.sys.ext hpu.ext
  have HPe := Lib.hid (ib_Pending _ _ _ _ hsys.box)
  have hfar : Far w3 ib L A2 c2 (foot A4 c4) := ⟨fun k hk => hpu.room.lt hk, fun k hk hk2 => by have := hpu.na k hk; have := Hpl.out.sys.box.lt hk2; omega, fun k hk hk2 => by have := hpu.na k hk; have := Hpl.out.resp.room.lt hk2; omega⟩
  have Hsl := Lib.hid (fun w' => bb_from A4 n4 c4 n2 w' hnn)
  have HY := Lib.hid (fun w' (e : Ext w3 w') => (Room.rd (f := slv) (by rw [List.map_drop]; exact Room.from_ (hpu.room.ext e) hnn) : Rd slv w' (from_ A4 c4 n2) (n4 - n2) (ps.drop n2)))
  have HYr := Lib.hid (fun w' (e : Ext w3 w') => ((hpu.reads.ext (e12.t hpu.ext)).ext e).drop n2)
  have Hsys := Lib.hid hsys
  have Hres := Lib.hid (Hpl.out.resp.ext hpu.ext)
  have Hfar := Lib.hid hfar
  have Hgood := Lib.hid Hpl.out.good
  have Hrm := Lib.hid hpu.room
  have Hreads := Lib.hid (hpu.reads.ext E1.out)
  have Hord := Lib.hid hord
  have Hpu := Lib.hid hpu
  have Hwt := Lib.hid hwt
  have Hal : Hid (all.length ≤ 40) := Lib.hid h40
  have hnc4 : (n2 : Int) ≤ (c4 : Int) := by omega
  have hnn' : (n2 : Int) ≤ (n4 : Int) := by omega
  clear hpu hn4 h40 hord hwt hfr hsys hfar e12
  by_cases hlt : n2 < n4
  · rw [show decide (n2 < n4) = true from decide_eq_true hlt] at hpd
    have hlt' : (n2 : Int) < (n4 : Int) := by omega
    rw [hpd] at HPe
    clear hpd
    go_wp2_with fail
    refine HFr.out.mono ?_; rintro e wx ⟨rfl, rfl⟩
    go_wp2_with fail
    refine HPe.out.mono ?_; rintro e wx ⟨rfl, rfl⟩
    have hs1 : ∀ w', (Instr.sliceAt 25 (.slice A4 n4 c4) (some (.int .i64 ((n2 : Int) + 1))) none none).run Try.prog w' = .ok (.slice (from_ A4 c4 (n2 + 1)) (n4 - (n2 + 1)) (c4 - (n2 + 1))) w' := fun w' => by
      have h := bb_from A4 n4 c4 (n2 + 1) w' (by omega)
      rw [show (((n2 + 1 : Nat)) : Int) = (n2 : Int) + 1 by omega] at h
      exact h
    have HFm : Hid (∀ w', Ext w3 w' → Calls Try.prog 23 #[.pointer (some ⟨ib, 0, none⟩)] w' (ListedP w' st.wait)) := Lib.hid (fun w' e => ib_Frames ib L st w' (Hsys.out.ext e).box (by have := Hgood.out.wait; omega) Hgood.out.fine.wait)
    have HFr2 : Hid (∀ w' Af cf osf AX nX cX, (AX = from_ A4 c4 (n2 + 1) ∧ nX = n4 - (n2 + 1) ∧ cX = c4 - (n2 + 1)) → Ext w3 w' → Rd slv w' Af osf.length osf → Byts w' osf st.wait → osf.length ≤ maxLen → Calls Try.prog 20 #[.slice Af osf.length cf, .slice AX nX cX] w' fun e w'' => e = .returned (.bool true) ∧ w' = w'') := Lib.hid (fun w' Af cf osf AX nX cX hX e hr hb hm => by
      obtain ⟨rfl, rfl, rfl⟩ := hX
      have h := framesR Af (from_ A4 c4 (n2 + 1)) osf.length (n4 - (n2 + 1)) cf (c4 - (n2 + 1)) osf (ps.drop (n2 + 1)) st.wait (all.drop (n2 + 1)) w' hr (Reads.of hb) (Room.rd (by rw [List.map_drop]; exact Room.from_ (Hrm.out.ext e) (by omega))) ((Hreads.out.ext (Hpl.out.sys.below.trans ((Hpu.out.ext.t e).mono Hpl.out.sys.below.size))).drop _) hm (by simp only [maxLen]; omega)
      rwa [show decide (st.wait = all.drop (n2 + 1)) = true from decide_eq_true Hwt.out] at h)
    go_upto_region 10 with fail
    rw [show decide (n4 < n2) = false from decide_eq_false (by omega)]
    go_cut [74] from 50 to 73 (fun v wx => v = .bool false ∧ Ext w3 wx)
    case first =>
      have hto : ((n2 : Int) + 1).toNat = n2 + 1 := by omega
      have hle : (0 : Int) ≤ (n2 : Int) + 1 := by omega
      have hle2 : (n2 : Int) + 1 ≤ (n4 : Int) := by omega
      have hwr : IntKind.i64.wrap ((n2 : Int) + 1) = (n2 : Int) + 1 := IntWalk.i64_in _ (by omega)
      have hne4 : (((n2 : Nat) : Int) == ((n4 : Nat) : Int)) = false := by simp; omega
      have hne5 : ¬ n2 = n4 := by omega
      have hne6 : ¬ (n2 : Int) = (n4 : Int) := by omega
      clear hs1 hlt hc4 hnn hn40
      by_cases hc : c4 = n2 + 1
      · have HX : Hid (∀ AX nX cX, AX = A4 → nX = n4 - (n2 + 1) → cX = c4 - (n2 + 1) → (AX = from_ A4 c4 (n2 + 1) ∧ nX = n4 - (n2 + 1) ∧ cX = c4 - (n2 + 1))) := Lib.hid (fun AX nX cX h1 h2 h3 => ⟨by unfold from_; rw [if_pos hc]; exact h1, h2, h3⟩)
        have hcd : (c4 = n2 + 1) = True := eq_true hc
        clear hc
        first
        | (go_region_held_law (fun w' => Ext w3 w') (first | assumption | exact Ext.drew _ | exact (Ext.drew _).t Hlf.out.ext)
          (first
            | (go_at_call 23; refine (HFm.out _ (Ext.drew _)).mono ?_; rintro e wf ⟨Af, cf, osf, hlf⟩; have hretf := hlf.ret; have Hlf := Lib.hid hlf; clear hlf; subst hretf)
            | (go_at_call 20; refine (HFr2.out _ _ _ _ _ _ _ (HX.out _ _ _ (by first | rfl | simp) (by first | rfl | simp) (by first | rfl | simp)) ((Ext.drew _).t Hlf.out.ext) (Room.rd Hlf.out.room) Hlf.out.outs (Nat.le_trans Hlf.out.room.2.1 Hlf.out.room.2.2.1)).mono ?_; rintro e wg ⟨rfl, rfl⟩)))
        | fail
        all_goals go_wp2_with fail
        all_goals go_simp
        all_goals go_meet
        all_goals exact ⟨rfl, (Ext.drew _).t Hlf.out.ext⟩
      · have HX : Hid (∀ AX nX cX, AX = A4.map (·.add (n2 + 1)) → nX = n4 - (n2 + 1) → cX = c4 - (n2 + 1) → (AX = from_ A4 c4 (n2 + 1) ∧ nX = n4 - (n2 + 1) ∧ cX = c4 - (n2 + 1))) := Lib.hid (fun AX nX cX h1 h2 h3 => ⟨by unfold from_; rw [if_neg hc]; exact h1, h2, h3⟩)
        have hcd : (c4 = n2 + 1) = False := eq_false hc
        clear hc
        first
        | (go_region_held_law (fun w' => Ext w3 w') (first | assumption | exact Ext.drew _ | exact (Ext.drew _).t Hlf.out.ext)
          (first
            | (go_at_call 23; refine (HFm.out _ (Ext.drew _)).mono ?_; rintro e wf ⟨Af, cf, osf, hlf⟩; have hretf := hlf.ret; have Hlf := Lib.hid hlf; clear hlf; subst hretf)
            | (go_at_call 20; refine (HFr2.out _ _ _ _ _ _ _ (HX.out _ _ _ (by first | rfl | simp) (by first | rfl | simp) (by first | rfl | simp)) ((Ext.drew _).t Hlf.out.ext) (Room.rd Hlf.out.room) Hlf.out.outs (Nat.le_trans Hlf.out.room.2.1 Hlf.out.room.2.2.1)).mono ?_; rintro e wg ⟨rfl, rfl⟩)))
        | fail
        all_goals go_wp2_with fail
        all_goals go_simp
        all_goals go_meet
        all_goals exact ⟨rfl, (Ext.drew _).t Hlf.out.ext⟩
    case rest =>
    obtain ⟨rfl, eW⟩ := hcut
    clear hs1 HFm HFr2
    obtain ⟨m, hm⟩ : ∃ m, m = n4 - n2 := ⟨_, rfl⟩
    have Hm := Lib.hid hm
    have hm0 : m ≤ 40 := by omega
    go_upto_region 13 with fail
    go_cut [77, 78, 79] from 75 to 76 (fun v v2 v3 wx => v = .slice (from_ A4 c4 n2) m (c4 - n2) ∧ v2 = .int .i64 (m : Int) ∧ v3 = .int .i64 0 ∧ Ext w3 wx)
    case first =>
      have h0 : (0 : Int) ≤ (n2 : Int) := by omega
      have hmi : ((n4 - n2 : Nat) : Int) = (m : Int) := by omega
      by_cases hcc : c4 = n2
      · have hfv : from_ A4 c4 n2 = A4 := by unfold from_; rw [if_pos hcc]
        have hcd : (c4 = n2) = True := eq_true hcc
        have Hfv := Lib.hid hfv
        clear hcc hfv hm
        go_wp2_with fail
        go_show
        go_simp
        go_meet
        exact ⟨by rw [Hfv.out, Hm.out], by rw [Hm.out], rfl, eW⟩
      · have hfv : from_ A4 c4 n2 = A4.map (·.add n2) := by unfold from_; rw [if_neg hcc]
        have hcd : (c4 = n2) = False := eq_false hcc
        have Hfv := Lib.hid hfv
        clear hcc hfv hm
        go_wp2_with fail
        go_simp
        go_meet
        exact ⟨by rw [Hfv.out, Hm.out], by rw [Hm.out], rfl, eW⟩
    case rest =>
    obtain ⟨rfl, rfl, rfl, eX⟩ := hcut
    have EX := Lib.hid eX
    clear eW eX hm
    go_wp2_with fail
    go_loopw [9, 79] (fun v i wr => ∃ (k : Nat), k ≤ m ∧ i = .int .i64 (k : Int) ∧ Hid (v = .int .i64 ((sumN ((all.drop n2).take k) : Nat) : Int)) ∧ Hid (Ext w3 wr)) (fun _ i _ => m - (intOf i).toNat)
    case atStart => exact ⟨0, by omega, rfl, Lib.hid (by simp [sumN]), EX⟩
    case round =>
      obtain ⟨k, hk, rfl, HV, HE⟩ := hrel
      obtain ⟨sv, hsv⟩ : ∃ sv, sv = sumN ((all.drop n2).take k) := ⟨_, rfl⟩
      have hsb : sv ≤ 1000 := by rw [hsv]; have := sumN_le ((all.drop n2).take k); have := Hal.out; simp at *; omega
      rw [← hsv] at HV
      obtain rfl := HV.out
      have Hsv := Lib.hid hsv
      clear HV hsv
      by_cases hlt : k < m
      · have hlt' : (k : Int) < (m : Int) := by omega
        obtain ⟨b, o, s, hA, _, hs, hc⟩ := (HY.out wr HE.out).at_ (show k < n4 - n2 by have := Hm.out; omega)
        obtain ⟨f, hf, hbf, hlf⟩ := (HYr.out wr HE.out).at_ k s hs
        have HD := Lib.hid (needs_ s.A s.n s.c f wr hbf hlf)
        have hfn := needs_lt f
        have Hf := Lib.hid hf
        unfold slv at hc
        clear hs hf hbf hlf
        have hwr : IntKind.i64.wrap ((sv : Int) + ((needs f : Nat) : Int)) = (((sv + needs f : Nat) : Nat) : Int) := by rw [IntWalk.i64_in _ (by omega)]; omega
        rw [hA]
        clear hA
        go_wp2_with fail
        refine HD.out.mono ?_; rintro e wx ⟨rfl, rfl⟩
        go_wp2_with fail
        go_roundw
        case rel => exact ⟨k + 1, by omega, by go_num, Lib.hid (by rw [take_snoc Hf.out, sumN_append, sumN_one, ← Hsv.out]; rfl), HE⟩
        case measure => simp [intOf]; omega
      · obtain rfl : m = k := by omega
        have hsum : sv = sumN (all.drop n2) := by rw [Hsv.out, List.take_of_length_le (by rw [(HYr.out wr HE.out).len.symm, (HY.out wr HE.out).1]; have := Hm.out; omega)]
        have HQ : Hid (∃ L os st outs, Ord st outs all ∧ Sys w1 wr ib L st ∧ Resp w1.heap.size wr ib L A2 n2 c2 os outs ∧ Far wr ib L A2 c2 (foot A4 c4) ∧ Good st 1000 ∧ (st.pend = true → sumN outs0 + 0 ≤ st.turns) ∧ Room wr A4 n4 c4 (ps.map slv)) := Lib.hid
          ⟨L, os, st, outs0, Hord.out, Hsys.out.ext HE.out, Hres.out.ext HE.out, Hfar.out.ext HE.out, Hgood.out, fun _ => Hord.out.turns_ge, Hrm.out.ext HE.out⟩
        have Hsum := Lib.hid hsum
        clear hsum Hsv
        go_wp2_with fail
        go_loopw [4, 89] (fun v i wr => ∃ (j : Nat) (A' : Option Addr) (n' c' : Nat), j ≤ sv ∧ i = .int .i64 (j : Int) ∧ v = .slice A' n' c' ∧ Hid (∃ L os st outs, Ord st outs all ∧ Sys w1 wr ib L st ∧ Resp w1.heap.size wr ib L A' n' c' os outs ∧ Far wr ib L A' c' (foot A4 c4) ∧ Good st (1000 - j) ∧ (st.pend = true → sumN outs0 + j ≤ st.turns) ∧ Room wr A4 n4 c4 (ps.map slv))) (fun _ i _ => sv - (intOf i).toNat)
        case atStart => exact ⟨0, A2, n2, c2, by omega, rfl, rfl, HQ⟩
        case round =>
          clear HQ
          obtain ⟨j, A', n', c', hj, rfl, rfl, H⟩ := hrel
          by_cases hjt : j < sv
          · have hjt' : (j : Int) < (sv : Int) := by omega
            obtain ⟨L3, os3, st3, outs3, hO, hS, hR, hF, hG, hT, hRm⟩ := H.out
            have hG1 : Good st3 ((1000 - (j + 1)) + 1) := hG.mono (by omega)
            have HT := Lib.hid (sys_Turn hS hG1)
            have hO2 := turn_ord hO
            have hbd : n' + (turnF st3).2.length ≤ 100000000 := by
              have h1 := hO2.le
              have h2 := hR.n_
              have h3 := Hal.out
              rw [List.length_append] at h1
              omega
            have Hbd := Lib.hid hbd
            have HO2 := Lib.hid hO2
            have HR := Lib.hid hR
            have HF := Lib.hid hF
            have HG1 := Lib.hid hG1
            have HTg := Lib.hid (turn_ge hT)
            have HRm := Lib.hid hRm
            clear H hO hS hR hF hG hT hG1 hO2 hbd hRm
            go_wp2_with fail
            refine HT.out.mono ?_
            rintro e w3 ⟨L4, A6, n6, c6, os6, got⟩
            have Hgot := Lib.hid got
            have hret := got.ret
            have hRs := HR.out.step got.step
            have hrr := hRs.room
            have hrd := got.resp.rd
            have hbd2 : n' + n6 ≤ 100000000 := by have := Hbd.out; rw [got.resp.n_]; exact this
            clear got
            subst hret
            go_wp2_with (refine wpl_append_at (by rfl) rfl ul_bb info_bb rfl rfl hrr rfl (Src.ofRd ul_bb hrd (fun _ => rfl)) (by simp only [maxLen]; omega) (by omega) ?_)
            intro A7 c7 w7 r7 ch7 ft7; refine Lib.hid ?_
            have hfin : ∃ L os st outs, Ord st outs all ∧ Sys w1 w7 ib L st ∧ Resp w1.heap.size w7 ib L A7 (n' + n6) c7 os outs ∧ Far w7 ib L A7 c7 (foot A4 c4) ∧ Good st (1000 - (j + 1)) ∧ (st.pend = true → sumN outs0 + (j + 1) ≤ st.turns) ∧ Room w7 A4 n4 c4 (ps.map slv) := by
              have got := Hgot.out
              have hz := got.step.chg.size
              have hF3 := HF.out.step got.step
              refine ⟨L4, os3 ++ os6, (turnF st3).1, outs3 ++ (turnF st3).2, HO2.out, got.sys.chg ch7 (fun k hk => ⟨hRs.na k hk, hRs.base k hk⟩), hRs.append got.sys.below.size got.resp.byt got.resp.len (fun k hk => ⟨got.resp.no k hk, fun h1 => ?_⟩) (fun k hk => got.sys.box.lt hk) r7 ch7 ft7, hF3.app ch7 ft7, turn_good st3 _ HG1.out, HTg.out, (HRm.out.chg got.step.chg HF.out.box).chg ch7 HF.out.row⟩
              have := got.new k (.inr hk); have := HR.out.room.lt h1; omega
            have Hfin := Lib.hid hfin
            clear hfin r7 ch7 ft7 hRs hrr hrd
            go_wp2_with fail
            go_roundw
            case rel => exact ⟨j + 1, A7, n' + n6, c7, by omega, by go_num, rfl, Hfin⟩
            case measure => simp [intOf]; omega
          · obtain rfl : sv = j := by omega
            obtain ⟨L3, os3, st3, outs3, hO, hS, hR, hF, hG, hT, hRm⟩ := H.out
            have hpe : st3.pend = false := by
              cases hp : st3.pend with
              | false => rfl
              | true =>
                have h1 := hT hp
                have h2 := hO.turns_lt hp
                have h3 := Hord.out.take
                have h4 : sumN all = sumN outs0 + sumN (all.drop n2) := by
                  rw [← sumN_append, Hn2.out]
                  conv => lhs; rw [← List.take_append_drop outs0.length all, h3]
                have h5 := Hsum.out
                omega
            have hout := hO.all_eq hpe
            have hwl : ((st3.wait.length : Nat) : Int) = 0 := by rw [hO.idle hpe]; rfl
            have han : ((st3.ans : Nat) : Int) = ((n4 : Nat) : Int) := by rw [hO.ans, hout, Hn4.out]
            have hfr := framesR A' A4 n' n4 c' c4 os3 ps outs3 all wr hR.rd (Reads.of hR.byt) (Room.rd hRm) (Hreads.out.ext hS.below) hR.le (Nat.le_trans hRm.2.1 hRm.2.2.1)
            rw [show decide (outs3 = all) = true from decide_eq_true hout] at hfr
            have HFr := Lib.hid hfr
            have HP := Lib.hid (ib_Pending _ _ _ _ hS.box)
            have HW := Lib.hid (ib_Waiting _ _ _ _ hS.box)
            have HC := Lib.hid (ib_Counts _ _ _ _ hS.box)
            have Hend := Lib.hid (E1.out.t hS.below)
            rw [hpe] at HP
            rw [hwl] at HW
            rw [han] at HC
            have hqq : (((n4 : Nat) : Int) == ((n4 : Nat) : Int)) = true := by simp
            have hfd := fun w' => fd_cnt1 (st3.put : Int) (n4 : Int) (st3.turns : Int) (st3.idle : Int) w'
            clear H hO hS hR hF hG hT hRm hpe hout hwl han hfr
            go_wp2_with fail
            refine HFr.out.mono ?_; rintro e wx ⟨rfl, rfl⟩
            go_wp2_with fail
            refine HP.out.mono ?_; rintro e wx ⟨rfl, rfl⟩
            go_wp2_with fail
            refine HW.out.mono ?_; rintro e wx ⟨rfl, rfl⟩
            go_wp2_with fail
            refine HC.out.mono ?_; rintro e wx ⟨rfl, ex⟩
            go_wp2_with fail
            go_ret
            exact ⟨rfl, Hend.out.t ex⟩
  · rw [show decide (n2 < n4) = false from decide_eq_false hlt] at hpd
    have hlt' : ¬ (n2 : Int) < (n4 : Int) := by omega
    have hq : (((n2 : Nat) : Int) == ((n4 : Nat) : Int)) = true := by simp; omega
    rw [hpd] at HPe
    clear hpd
    have HWa : Hid (∀ w', Ext w3 w' → Calls Try.prog 15 #[.pointer (some ⟨ib, 0, none⟩)] w' fun e w'' => e = .returned (.int .i64 0) ∧ w' = w'') := Lib.hid (fun w' e => by
      have h := ib_Waiting ib L st w' (Hsys.out.ext e).box
      rwa [show ((st.wait.length : Nat) : Int) = 0 from by rw [Hwt.out, List.drop_eq_nil_of_le (by rw [← Hn4.out]; omega)]; rfl] at h)
    go_wp2_with fail
    refine HFr.out.mono ?_; rintro e wx ⟨rfl, rfl⟩
    go_wp2_with fail
    refine HPe.out.mono ?_; rintro e wx ⟨rfl, rfl⟩
    go_upto_region 10 with fail
    rw [show decide (n4 < n2) = false from decide_eq_false (by omega)]
    go_cut [74] from 50 to 73 (fun v wx => v = .bool false ∧ Ext w3 wx)
    case first =>
      obtain rfl : n2 = n4 := by omega
      have hq : (((n2 : Nat) : Int) == ((n2 : Nat) : Int)) = true := by simp
      have hir : ((n2 : Nat) : Int) < ((n2 : Nat) : Int) ↔ False := by simp
      clear hc4 hnn hn40 hlt hlt' hnc4 hnn'
      have HQW := Lib.hid (fun m => quiet_eq2 (HWa.out (w3.drewN m) (Ext.drewN w3 m)))
      go_quiet ((go_at_call 15; exact HQW.out _))
      go_wp2_with fail
      go_simp
      go_meet
      exact ⟨rfl, Ext.drewN _ _⟩
    case rest =>
    obtain ⟨rfl, eW⟩ := hcut
    clear HWa
    obtain ⟨m, hm⟩ : ∃ m, m = n4 - n2 := ⟨_, rfl⟩
    have Hm := Lib.hid hm
    have hm0 : m ≤ 40 := by omega
    go_upto_region 13 with fail
    go_cut [77, 78, 79] from 75 to 76 (fun v v2 v3 wx => v = .slice (from_ A4 c4 n2) m (c4 - n2) ∧ v2 = .int .i64 (m : Int) ∧ v3 = .int .i64 0 ∧ Ext w3 wx)
    case first =>
      have h0 : (0 : Int) ≤ (n2 : Int) := by omega
      have hmi : ((n4 - n2 : Nat) : Int) = (m : Int) := by omega
      by_cases hcc : c4 = n2
      · have hfv : from_ A4 c4 n2 = A4 := by unfold from_; rw [if_pos hcc]
        have hcd : (c4 = n2) = True := eq_true hcc
        have Hfv := Lib.hid hfv
        clear hcc hfv hm
        go_wp2_with fail
        go_show
        go_simp
        go_meet
        exact ⟨by rw [Hfv.out, Hm.out], by rw [Hm.out], rfl, eW⟩
      · have hfv : from_ A4 c4 n2 = A4.map (·.add n2) := by unfold from_; rw [if_neg hcc]
        have hcd : (c4 = n2) = False := eq_false hcc
        have Hfv := Lib.hid hfv
        clear hcc hfv hm
        go_wp2_with fail
        go_simp
        go_meet
        exact ⟨by rw [Hfv.out, Hm.out], by rw [Hm.out], rfl, eW⟩
    case rest =>
    obtain ⟨rfl, rfl, rfl, eX⟩ := hcut
    have EX := Lib.hid eX
    clear eW eX hm
    go_wp2_with fail
    go_loopw [9, 79] (fun v i wr => ∃ (k : Nat), k ≤ m ∧ i = .int .i64 (k : Int) ∧ Hid (v = .int .i64 ((sumN ((all.drop n2).take k) : Nat) : Int)) ∧ Hid (Ext w3 wr)) (fun _ i _ => m - (intOf i).toNat)
    case atStart => exact ⟨0, by omega, rfl, Lib.hid (by simp [sumN]), EX⟩
    case round =>
      obtain ⟨k, hk, rfl, HV, HE⟩ := hrel
      obtain ⟨sv, hsv⟩ : ∃ sv, sv = sumN ((all.drop n2).take k) := ⟨_, rfl⟩
      have hsb : sv ≤ 1000 := by rw [hsv]; have := sumN_le ((all.drop n2).take k); have := Hal.out; simp at *; omega
      rw [← hsv] at HV
      obtain rfl := HV.out
      have Hsv := Lib.hid hsv
      clear HV hsv
      by_cases hlt : k < m
      · have hlt' : (k : Int) < (m : Int) := by omega
        obtain ⟨b, o, s, hA, _, hs, hc⟩ := (HY.out wr HE.out).at_ (show k < n4 - n2 by have := Hm.out; omega)
        obtain ⟨f, hf, hbf, hlf⟩ := (HYr.out wr HE.out).at_ k s hs
        have HD := Lib.hid (needs_ s.A s.n s.c f wr hbf hlf)
        have hfn := needs_lt f
        have Hf := Lib.hid hf
        unfold slv at hc
        clear hs hf hbf hlf
        have hwr : IntKind.i64.wrap ((sv : Int) + ((needs f : Nat) : Int)) = (((sv + needs f : Nat) : Nat) : Int) := by rw [IntWalk.i64_in _ (by omega)]; omega
        rw [hA]
        clear hA
        go_wp2_with fail
        refine HD.out.mono ?_; rintro e wx ⟨rfl, rfl⟩
        go_wp2_with fail
        go_roundw
        case rel => exact ⟨k + 1, by omega, by go_num, Lib.hid (by rw [take_snoc Hf.out, sumN_append, sumN_one, ← Hsv.out]; rfl), HE⟩
        case measure => simp [intOf]; omega
      · obtain rfl : m = k := by omega
        have hsum : sv = sumN (all.drop n2) := by rw [Hsv.out, List.take_of_length_le (by rw [(HYr.out wr HE.out).len.symm, (HY.out wr HE.out).1]; have := Hm.out; omega)]
        have HQ : Hid (∃ L os st outs, Ord st outs all ∧ Sys w1 wr ib L st ∧ Resp w1.heap.size wr ib L A2 n2 c2 os outs ∧ Far wr ib L A2 c2 (foot A4 c4) ∧ Good st 1000 ∧ (st.pend = true → sumN outs0 + 0 ≤ st.turns) ∧ Room wr A4 n4 c4 (ps.map slv)) := Lib.hid
          ⟨L, os, st, outs0, Hord.out, Hsys.out.ext HE.out, Hres.out.ext HE.out, Hfar.out.ext HE.out, Hgood.out, fun _ => Hord.out.turns_ge, Hrm.out.ext HE.out⟩
        have Hsum := Lib.hid hsum
        clear hsum Hsv
        go_wp2_with fail
        go_loopw [4, 89] (fun v i wr => ∃ (j : Nat) (A' : Option Addr) (n' c' : Nat), j ≤ sv ∧ i = .int .i64 (j : Int) ∧ v = .slice A' n' c' ∧ Hid (∃ L os st outs, Ord st outs all ∧ Sys w1 wr ib L st ∧ Resp w1.heap.size wr ib L A' n' c' os outs ∧ Far wr ib L A' c' (foot A4 c4) ∧ Good st (1000 - j) ∧ (st.pend = true → sumN outs0 + j ≤ st.turns) ∧ Room wr A4 n4 c4 (ps.map slv))) (fun _ i _ => sv - (intOf i).toNat)
        case atStart => exact ⟨0, A2, n2, c2, by omega, rfl, rfl, HQ⟩
        case round =>
          clear HQ
          obtain ⟨j, A', n', c', hj, rfl, rfl, H⟩ := hrel
          by_cases hjt : j < sv
          · have hjt' : (j : Int) < (sv : Int) := by omega
            obtain ⟨L3, os3, st3, outs3, hO, hS, hR, hF, hG, hT, hRm⟩ := H.out
            have hG1 : Good st3 ((1000 - (j + 1)) + 1) := hG.mono (by omega)
            have HT := Lib.hid (sys_Turn hS hG1)
            have hO2 := turn_ord hO
            have hbd : n' + (turnF st3).2.length ≤ 100000000 := by
              have h1 := hO2.le
              have h2 := hR.n_
              have h3 := Hal.out
              rw [List.length_append] at h1
              omega
            have Hbd := Lib.hid hbd
            have HO2 := Lib.hid hO2
            have HR := Lib.hid hR
            have HF := Lib.hid hF
            have HG1 := Lib.hid hG1
            have HTg := Lib.hid (turn_ge hT)
            have HRm := Lib.hid hRm
            clear H hO hS hR hF hG hT hG1 hO2 hbd hRm
            go_wp2_with fail
            refine HT.out.mono ?_
            rintro e w3 ⟨L4, A6, n6, c6, os6, got⟩
            have Hgot := Lib.hid got
            have hret := got.ret
            have hRs := HR.out.step got.step
            have hrr := hRs.room
            have hrd := got.resp.rd
            have hbd2 : n' + n6 ≤ 100000000 := by have := Hbd.out; rw [got.resp.n_]; exact this
            clear got
            subst hret
            go_wp2_with (refine wpl_append_at (by rfl) rfl ul_bb info_bb rfl rfl hrr rfl (Src.ofRd ul_bb hrd (fun _ => rfl)) (by simp only [maxLen]; omega) (by omega) ?_)
            intro A7 c7 w7 r7 ch7 ft7; refine Lib.hid ?_
            have hfin : ∃ L os st outs, Ord st outs all ∧ Sys w1 w7 ib L st ∧ Resp w1.heap.size w7 ib L A7 (n' + n6) c7 os outs ∧ Far w7 ib L A7 c7 (foot A4 c4) ∧ Good st (1000 - (j + 1)) ∧ (st.pend = true → sumN outs0 + (j + 1) ≤ st.turns) ∧ Room w7 A4 n4 c4 (ps.map slv) := by
              have got := Hgot.out
              have hz := got.step.chg.size
              have hF3 := HF.out.step got.step
              refine ⟨L4, os3 ++ os6, (turnF st3).1, outs3 ++ (turnF st3).2, HO2.out, got.sys.chg ch7 (fun k hk => ⟨hRs.na k hk, hRs.base k hk⟩), hRs.append got.sys.below.size got.resp.byt got.resp.len (fun k hk => ⟨got.resp.no k hk, fun h1 => ?_⟩) (fun k hk => got.sys.box.lt hk) r7 ch7 ft7, hF3.app ch7 ft7, turn_good st3 _ HG1.out, HTg.out, (HRm.out.chg got.step.chg HF.out.box).chg ch7 HF.out.row⟩
              have := got.new k (.inr hk); have := HR.out.room.lt h1; omega
            have Hfin := Lib.hid hfin
            clear hfin r7 ch7 ft7 hRs hrr hrd
            go_wp2_with fail
            go_roundw
            case rel => exact ⟨j + 1, A7, n' + n6, c7, by omega, by go_num, rfl, Hfin⟩
            case measure => simp [intOf]; omega
          · obtain rfl : sv = j := by omega
            obtain ⟨L3, os3, st3, outs3, hO, hS, hR, hF, hG, hT, hRm⟩ := H.out
            have hpe : st3.pend = false := by
              cases hp : st3.pend with
              | false => rfl
              | true =>
                have h1 := hT hp
                have h2 := hO.turns_lt hp
                have h3 := Hord.out.take
                have h4 : sumN all = sumN outs0 + sumN (all.drop n2) := by
                  rw [← sumN_append, Hn2.out]
                  conv => lhs; rw [← List.take_append_drop outs0.length all, h3]
                have h5 := Hsum.out
                omega
            have hout := hO.all_eq hpe
            have hwl : ((st3.wait.length : Nat) : Int) = 0 := by rw [hO.idle hpe]; rfl
            have han : ((st3.ans : Nat) : Int) = ((n4 : Nat) : Int) := by rw [hO.ans, hout, Hn4.out]
            have hfr := framesR A' A4 n' n4 c' c4 os3 ps outs3 all wr hR.rd (Reads.of hR.byt) (Room.rd hRm) (Hreads.out.ext hS.below) hR.le (Nat.le_trans hRm.2.1 hRm.2.2.1)
            rw [show decide (outs3 = all) = true from decide_eq_true hout] at hfr
            have HFr := Lib.hid hfr
            have HP := Lib.hid (ib_Pending _ _ _ _ hS.box)
            have HW := Lib.hid (ib_Waiting _ _ _ _ hS.box)
            have HC := Lib.hid (ib_Counts _ _ _ _ hS.box)
            have Hend := Lib.hid (E1.out.t hS.below)
            rw [hpe] at HP
            rw [hwl] at HW
            rw [han] at HC
            have hqq : (((n4 : Nat) : Int) == ((n4 : Nat) : Int)) = true := by simp
            have hfd := fun w' => fd_cnt1 (st3.put : Int) (n4 : Int) (st3.turns : Int) (st3.idle : Int) w'
            clear H hO hS hR hF hG hT hRm hpe hout hwl han hfr
            go_wp2_with fail
            refine HFr.out.mono ?_; rintro e wx ⟨rfl, rfl⟩
            go_wp2_with fail
            refine HP.out.mono ?_; rintro e wx ⟨rfl, rfl⟩
            go_wp2_with fail
            refine HW.out.mono ?_; rintro e wx ⟨rfl, rfl⟩
            go_wp2_with fail
            refine HC.out.mono ?_; rintro e wx ⟨rfl, ex⟩
            go_wp2_with fail
            go_ret
            exact ⟨rfl, Hend.out.t ex⟩
theorem walkInboxOrder (A : Option Addr) (n c : Nat) (al : List ActN) (w : World) (h : ActsArg w A n c al) :
    Calls Try.prog 7 #[.slice A n c] w fun e w' => e = .returned (.bool true) ∧ Ext w w' := order_ A n c al w h.acts h.le h.max
end Go.Proofs.Ytpipnefepnknoaa
