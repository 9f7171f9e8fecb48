/- What same does: it compares all that an inbox tells with the reference's state. -/
import Derived.Test.YtpipnefepnknoaaRefT
import Derived.Deep.RegionHeldLaw
namespace Go.Proofs.Ytpipnefepnknoaa
open Go.RowKit Go.Fx
/-- The list of the waiting frames, made anew. -/
structure Waits (w wr : World) (g : Nat) (cs : Array Value) (fs : List Fr) (A : Option Addr) (k c : Nat) : Prop where
  room : Room wr A k c (((fs.take k).map (·.1)).map slv)
  new : ∀ j, foot A c j → w.heap.size ≤ j ∧ j ≠ g
  blk : Blk wr g 69 cs
  ext : Ext w wr
set_option maxRecDepth 100000 in
set_option maxHeartbeats 4000000 in
theorem same_ (wb w0 w : World) (ib : Nat) (L : Lay) (st : St) (W P : Sl) (pn : Int) (fs : List Fr) (N : Nat) (hS : Sys w0 w ib L st) (hG : Good st N) (hk : RefOk wb w W P fs st) (hwb : Ext wb w) (hfl : Flag st) :
    Calls Try.prog 34 #[.pointer (some ⟨ib, 0, none⟩), refV W P pn st.left st.put st.ans st.turns st.idle] w fun e w' => e = .returned (.bool true) ∧ Ext w w' := by
  have hwl : W.n = st.wait.length := by have := hk.frl.len; have h2 := congrArg List.length hk.wait; simp at h2; omega
  have hnW : W.n ≤ 1000000 := by have := hG.wait; omega
  have HS0 := Lib.hid hS
  have HG := Lib.hid hG
  have HK := Lib.hid hk
  have Hwb := Lib.hid hwb
  have Hfl := Lib.hid hfl
  have Hwl := Lib.hid hwl
  clear hS hG hk hwb hfl hwl
  unfold refV
  go_enter Try.func34, Try.ntmps34
  go_upto_region 2 with fail
  have hb1 := Blk.new w 69 (refC W P pn st.left st.put st.ans st.turns st.idle)
  have he := Ext.alloc w (.cells (refC W P pn st.left st.put st.ans st.turns st.idle) 69)
  unfold refC at hb1 he
  generalize w.alloc (.cells #[.slice W.A W.n W.c, .slice P.A P.n P.c, .int .i64 pn, .int .i64 (st.left : Int), .int .i64 (st.put : Int), .int .i64 (st.ans : Int), .int .i64 (st.turns : Int), .int .i64 (st.idle : Int)] 69) = W1 at hb1 he ⊢
  obtain ⟨g, hg⟩ : ∃ g, w.heap.size = g := ⟨_, rfl⟩
  rw [hg] at hb1 ⊢
  have Hg := Lib.hid hg
  have H0 : Hid (Waits w W1 g #[.slice W.A W.n W.c, .slice P.A P.n P.c, .int .i64 pn, .int .i64 (st.left : Int), .int .i64 (st.put : Int), .int .i64 (st.ans : Int), .int .i64 (st.turns : Int), .int .i64 (st.idle : Int)] fs none 0 0) := Lib.hid ⟨Room.nil, fun j hj => absurd hj foot_none, hb1, he⟩
  have x0 := hb1.c8.1
  clear hb1 he hg
  go_wp2_with fail
  clear x0
  go_loopw [5, 16] (fun v i wr => ∃ (k : Nat) (A' : Option Addr) (c' : Nat), k ≤ W.n ∧ i = .int .i64 (k : Int) ∧ v = .slice A' k c' ∧ Hid (Waits w wr g #[.slice W.A W.n W.c, .slice P.A P.n P.c, .int .i64 pn, .int .i64 (st.left : Int), .int .i64 (st.put : Int), .int .i64 (st.ans : Int), .int .i64 (st.turns : Int), .int .i64 (st.idle : Int)] fs A' k c')) (fun _ i _ => W.n - (intOf i).toNat)
  case atStart => exact ⟨0, none, 0, by omega, rfl, rfl, H0⟩
  case round =>
    clear H0
    obtain ⟨k, A', c', hk, rfl, rfl, H⟩ := hrel
    by_cases hlt : k < W.n
    · have hlt' : (k : Int) < (W.n : Int) := by omega
      obtain ⟨b, o, p, hA, hb, hp, hc0, hc1⟩ := (HK.out.frl.ext H.out.ext).get hlt
      unfold slv at hc0
      have Hp := Lib.hid hp
      clear hp
      rw [hA] at H ⊢
      have he1 := Ext.alloc wr (.cells #[.slice p.1.A p.1.n p.1.c, .int .i64 ((needs p.2 : Nat) : Int)] 67)
      have He1 := Lib.hid he1
      clear he1
      go_wp2_with (refine wpl_build (by rfl) rfl ul_bb info_bb [.tmp 22] (by rfl) (by rfl) (by decide) (f := slv) [p.1] (by rfl) (fun _ => rfl) ?_)
      intro g3 w3 b3 e3 lo3 r3; refine Lib.hid ?_
      have hrm3 := (H.out.room.ext He1.out).ext e3
      obtain ⟨zs, hzs⟩ : ∃ zs, zs = ((fs.take k).map (·.1)).map slv := ⟨_, rfl⟩
      rw [← hzs] at hrm3
      have Hzs := Lib.hid hzs
      clear hzs
      have E3 := Lib.hid (He1.out.t e3)
      clear b3 lo3 e3
      go_wp2_with (refine wpl_append_at (by rfl) rfl ul_bb info_bb rfl rfl hrm3 rfl (Src.ofRd ul_bb r3 (fun _ => rfl)) (by simp only [maxLen]; omega) (by omega) ?_)
      intro A4 c4 w4 r4 ch4 ft4; refine Lib.hid ?_
      have hfin : Waits w w4 g #[.slice (some ⟨b, o, none⟩) W.n W.c, .slice P.A P.n P.c, .int .i64 pn, .int .i64 (st.left : Int), .int .i64 (st.put : Int), .int .i64 (st.ans : Int), .int .i64 (st.turns : Int), .int .i64 (st.idle : Int)] fs A4 (k + 1) c4 := by
        have h := H.out
        have hw4 : Ext w w4 := (h.ext.t E3.out).trans (ch4.below (h.ext.t E3.out).size (fun k' hk' hk2 => by have := (h.new k' hk2).1; omega))
        refine ⟨?_, fun j hj => ?_, (Blk.ext h.blk E3.out).chg ch4 (fun hk2 => (h.new g hk2).2 rfl), hw4⟩
        · rw [take_snoc Hp.out, List.map_append, List.map_append, ← Hzs.out]; exact r4
        · rcases ft4 j hj with h1 | h1
          · exact h.new j h1
          · have h2 := E3.out.size; have h3 := h.blk.lt; have h4 := h.ext.size
            exact ⟨by omega, by omega⟩
      have Hfin := Lib.hid hfin
      clear hfin r4 ch4 ft4 hrm3 r3
      go_wp2_with fail
      go_roundw
      case rel => exact ⟨k + 1, A4, c4, by omega, by go_num, rfl, Hfin⟩
      case measure => simp [intOf]; omega
    · obtain rfl : W.n = k := by omega
      have hww : W.n = W.n := rfl
      have hS : ∀ w', Ext w w' → Box w' ib L st := fun w' e => HS0.out.box.ext e
      have HFr := Lib.hid (ib_Frames ib L st wr (hS wr H.out.ext) (by have := HG.out.wait; omega) HG.out.fine.wait)
      clear hS hww
      go_wp2_with fail
      refine HFr.out.mono ?_
      rintro e wF ⟨Af, cf, osf, hlf⟩
      have hretf := hlf.ret
      have HF := Lib.hid hlf
      have EF := Lib.hid (H.out.ext.t hlf.ext)
      have hfs : (fs.take W.n).map (·.1) = fs.map (·.1) := by rw [List.take_of_length_le (by rw [HK.out.frl.len]; exact Nat.le_refl _)]
      have hroom := H.out.room
      rw [hfs] at hroom
      have HRm := Lib.hid hroom
      have hreads : Reads wb (fs.map (·.1)) st.wait := by
        rw [← HK.out.wait]
        refine ⟨by simp, fun i s hs => ?_⟩
        rw [List.getElem?_map] at hs
        cases hz : fs[i]? with
        | none => rw [hz] at hs; cases hs
        | some q =>
          rw [hz] at hs; cases hs
          obtain ⟨h1, h2⟩ := HK.out.rds q (List.mem_of_getElem? hz)
          exact ⟨q.2, by rw [List.getElem?_map, hz]; rfl, h1, h2⟩
      have Hreads := Lib.hid hreads
      have HPe := Lib.hid (fun w' (e : Ext wF w') => ib_Pending ib L st w' (HS0.out.box.ext (EF.out.t e)))
      have HWa := Lib.hid (fun w' (e : Ext wF w') => ib_Waiting ib L st w' (HS0.out.box.ext (EF.out.t e)))
      have HCo := Lib.hid (fun w' (e : Ext wF w') => ib_Counts ib L st w' (HS0.out.box.ext (EF.out.t e)))
      have HFq := Lib.hid (fun w' (e : Ext wF w') => framesR Af A' osf.length W.n cf c' osf (fs.map (·.1)) st.wait st.wait w' ((Room.rd HF.out.room).ext e) (Reads.of (HF.out.outs.ext e)) ((Room.rd HRm.out).ext (HF.out.ext.t e)) (Hreads.out.ext (Hwb.out.t (EF.out.t e))) (Nat.le_trans HF.out.room.2.1 HF.out.room.2.2.1) (Nat.le_trans HRm.out.2.1 HRm.out.2.2.1))
      rw [decide_eq_true (rfl : st.wait = st.wait)] at HFq
      rw [← Hwl.out] at HWa
      have hb2 := Blk.ext H.out.blk hlf.ext
      have HS : Hid (∀ w', Ext wF w' → (Ext wF w' ∧ w'.cell? ⟨g, 3, none⟩ = some (.int .i64 (st.left : Int)) ∧ w'.cell? ⟨g, 4, none⟩ = some (.int .i64 (st.put : Int)) ∧ w'.cell? ⟨g, 5, none⟩ = some (.int .i64 (st.ans : Int)) ∧ w'.cell? ⟨g, 6, none⟩ = some (.int .i64 (st.turns : Int)) ∧ w'.cell? ⟨g, 7, none⟩ = some (.int .i64 (st.idle : Int)))) := Lib.hid (fun w' e => by
        obtain ⟨_, _, _, h3, h4, h5, h6, h7⟩ := (Blk.ext hb2 e).c8
        exact ⟨e, h3, h4, h5, h6, h7⟩)
      have hcq := fun w => cnt_self (st.put : Int) (st.ans : Int) (st.turns : Int) (st.idle : Int) w
      have hol : osf.length ≤ 1000000 := by have := hlf.outs.len; have := HG.out.wait; omega
      clear hfs hroom hreads hb2 hlf HFr
      subst hretf
      cases hpe : st.pend with
      | true =>
        have hpos : (0 : Int) < (st.left : Int) := by have := Hfl.out; unfold Flag at this; rw [hpe] at this; have := of_decide_eq_true this.symm; omega
        rw [hpe] at HPe
        clear hpe
        go_upto_region 8 with fail
        go_cut [9] from 28 to 58 (fun v wx => v = .bool true ∧ Ext wF wx)
        case first =>
          first
          | (go_region_held_law (fun w' => Ext wF w' ∧ w'.cell? ⟨g, 3, none⟩ = some (.int .i64 (st.left : Int)) ∧ w'.cell? ⟨g, 4, none⟩ = some (.int .i64 (st.put : Int)) ∧ w'.cell? ⟨g, 5, none⟩ = some (.int .i64 (st.ans : Int)) ∧ w'.cell? ⟨g, 6, none⟩ = some (.int .i64 (st.turns : Int)) ∧ w'.cell? ⟨g, 7, none⟩ = some (.int .i64 (st.idle : Int)))
              (first | assumption | exact HS.out _ (Ext.drew _) | exact HS.out _ ((Ext.drew _).t ex))
              (first
                | (go_at_call 14; refine (HPe.out _ (Ext.drew _)).mono ?_; rintro e wp ⟨rfl, rfl⟩)
                | (go_at_call 15; refine (HWa.out _ (Ext.drew _)).mono ?_; rintro e wp ⟨rfl, rfl⟩)
                | (go_at_call 20; refine (HFq.out _ (Ext.drew _)).mono ?_; rintro e wp ⟨rfl, rfl⟩)
                | (go_at_call 13; refine (HCo.out _ (Ext.drew _)).mono ?_; rintro e wp ⟨rfl, ex⟩)))
          | fail
          all_goals go_wp2_with fail
          all_goals go_simp
          all_goals go_meet
          all_goals exact ⟨rfl, by first | exact Ext.drew _ | exact (Ext.drew _).t ex⟩
        case rest =>
        obtain ⟨rfl, eC⟩ := hcut
        have EC := Lib.hid eC
        have h0F : Hid (Chg (foots osf) wc wc ∧ Byts wc (osf.drop 0) (st.wait.drop 0)) := Lib.hid ⟨Chg.refl _ _, HF.out.outs.ext eC⟩
        clear eC HPe HWa HCo HFq HS hcq hpos
        go_wp2_with fail
        go_loopw [62] (fun i wz => ∃ (m : Nat), m ≤ osf.length ∧ i = .int .i64 (m : Int) ∧ Hid (Chg (foots osf) wc wz ∧ Byts wz (osf.drop m) (st.wait.drop m))) (fun i _ => osf.length - (intOf i).toNat)
        case atStart => exact ⟨0, by omega, rfl, h0F⟩
        case round =>
          clear h0F
          obtain ⟨m, hm, rfl, HM⟩ := hrel
          by_cases hmt : m < osf.length
          · have hmt' : (m : Int) < (osf.length : Int) := by omega
            have hRm : Room wr Af osf.length cf (osf.map slv) := (HF.out.room.ext EC.out).chg HM.out.1 (fun j hj hT => (HF.out.no j hT).2 hj)
            obtain ⟨bf, oF, sf, hAf, _, hs, hc⟩ := (Room.rd hRm).at_ hmt
            obtain ⟨ff, hf0, hbs⟩ := HM.out.2.at_ 0 sf (by rw [List.getElem?_drop]; simpa using hs)
            have hff : st.wait[m]? = some ff := by rw [List.getElem?_drop] at hf0; simpa using hf0
            have hfl : ff.length ≤ 1000000 := HG.out.fine.wait ff (List.mem_of_getElem? hff)
            have hsn : sf.n = ff.length := by have := hbs.room.1; simpa using this.symm
            have hsm : sf.n ≤ 1000000 := by omega
            have Hs := Lib.hid hs
            have Hff := Lib.hid hff
            have Hbs := Lib.hid hbs
            unfold slv at hc
            clear hRm hs hf0 hff hbs hfl hsn
            rw [hAf]
            go_wp2_with fail
            go_loopw [68] (fun i wy => ∃ (j : Nat) (old : List Nat), j ≤ sf.n ∧ i = .int .i64 (j : Int) ∧ Room wy sf.A sf.n sf.c (old.map u8v) ∧ Chg (foot sf.A sf.c) wr wy) (fun i _ => sf.n - (intOf i).toNat)
            case atStart => exact ⟨0, ff, by omega, rfl, Hbs.out.room, Chg.refl _ _⟩
            case round =>
              clear hc hAf
              obtain ⟨j, old, hj, rfl, hr, hchr⟩ := hrel
              by_cases hjt : j < sf.n
              · have hjt' : (j : Int) < (sf.n : Int) := by omega
                have hsc := hr.2.1
                obtain ⟨g', o', hA, _⟩ := hr.some_ (by omega)
                rw [hA] at hr hchr ⊢
                have hol2 : old.length = sf.n := by have := hr.1; simpa using this
                obtain ⟨u, hu⟩ : ∃ u, old[j]? = some u := ⟨old[j]'(by omega), List.getElem?_eq_getElem _⟩
                have hc1 := hr.cellAt (k := j) (u := u8v u) (by rw [List.getElem?_map, hu]; rfl)
                have hz1 := hr.frozenAt (k := j) (by omega)
                have hwu : IntKind.u8.wrap ((u : Int) + 1) = (((u + 1) % 256 : Nat) : Int) := by rw [IntKind.wrap_u8]; omega
                have hset := hr.set hjt (u8v ((u + 1) % 256))
                rw [← List.map_set] at hset
                have Hset := Lib.hid hset
                have Hchr := Lib.hid hchr
                clear hA hu hsc hr hchr hset hol2
                go_wp2_with fail
                go_roundw
                case rel => exact ⟨j + 1, _, by omega, by go_num, Hset.out, Hchr.out.t (Chg.set _ _ _ _ ⟨by have := Hset.out.2.1; omega, o', rfl⟩)⟩
                case measure => simp [intOf]; omega
              · obtain rfl : j = sf.n := by omega
                have hdr : osf.drop m = sf :: osf.drop (m + 1) := by
                  obtain ⟨h, e⟩ := List.getElem?_eq_some_iff.1 Hs.out
                  rw [List.drop_eq_getElem_cons h, e]
                have hgr : st.wait.drop m = ff :: st.wait.drop (m + 1) := by
                  obtain ⟨h, e⟩ := List.getElem?_eq_some_iff.1 Hff.out
                  rw [List.drop_eq_getElem_cons h, e]
                have h4 := HM.out.2
                rw [hdr, hgr] at h4
                have hap : Apart (sf :: osf.drop (m + 1)) := by
                  rw [← hdr]; exact List.Pairwise.drop HF.out.ap
                have Hfin : Hid (Chg (foots osf) wc wr ∧ Byts wr (osf.drop (m + 1)) (st.wait.drop (m + 1))) := Lib.hid
                  ⟨HM.out.1.trans hchr (fun i _ hT => ⟨sf, List.mem_of_getElem? Hs.out, hT⟩), h4.tail.2.chg hchr (fun i hi h => (apart_cons hap).1 i h hi)⟩
                clear hap h4 hgr hdr hr hchr
                go_wp2_with fail
                go_roundw
                case rel => exact ⟨m + 1, by omega, by go_num, Hfin⟩
                case measure => simp [intOf]; omega
          · obtain rfl : m = osf.length := by omega
            have hbig := fun j (hj : foots osf j) => (HF.out.no j hj).1
            have hE : Ext w wr := (EF.out.t EC.out).trans (HM.out.1.below (EF.out.t EC.out).size (fun k hk hT => by have := hbig k hT; have := H.out.ext.size; omega))
            have hroom : Room wr A' W.n c' ((fs.map (·.1)).map slv) := (HRm.out.ext (HF.out.ext.t EC.out)).chg HM.out.1 (fun k hk hT => by have := hbig k hT; have := HRm.out.lt hk; omega)
            have HFr2 := Lib.hid (ib_Frames ib L st wr (HS0.out.box.ext hE) (by have := HG.out.wait; omega) HG.out.fine.wait)
            have HRm2 := Lib.hid hroom
            have HE := Lib.hid hE
            clear hbig hE hroom HM H EC EF HF hm hmt hol HRm
            go_wp2_with fail
            refine HFr2.out.mono ?_
            rintro e wq ⟨Aq, cq, osq, hlq⟩
            have hret := hlq.ret
            have hfg := framesR Aq A' osq.length W.n cq c' osq (fs.map (·.1)) st.wait st.wait wq (Room.rd hlq.room) (Reads.of hlq.outs) (Room.rd (HRm2.out.ext hlq.ext)) (Hreads.out.ext (Hwb.out.t (HE.out.t hlq.ext))) (Nat.le_trans hlq.room.2.1 hlq.room.2.2.1) (Nat.le_trans HRm2.out.2.1 HRm2.out.2.2.1)
            rw [decide_eq_true (rfl : st.wait = st.wait)] at hfg
            have Hfg := Lib.hid hfg
            have HE2 := Lib.hid (HE.out.t hlq.ext)
            clear hlq hfg
            subst hret
            go_wp2_with fail
            refine Hfg.out.mono ?_; rintro e wx ⟨rfl, rfl⟩
            go_wp2_with fail
            go_ret
            exact ⟨rfl, HE2.out⟩
      | false =>
        have hpos : ¬ (0 : Int) < (st.left : Int) := by have := Hfl.out; unfold Flag at this; rw [hpe] at this; have := of_decide_eq_false this.symm; omega
        have hl0 : ((st.left : Nat) : Int) = 0 := by omega
        rw [hpe] at HPe
        rw [hl0] at HS
        clear hpe hl0 hpos
        have hpos := Lib.hid (rfl : (0 : Nat) = 0)
        go_upto_region 8 with fail
        go_cut [9] from 28 to 58 (fun v wx => v = .bool true ∧ Ext wF wx)
        case first =>
          first
          | (go_region_held_law (fun w' => Ext wF w' ∧ w'.cell? ⟨g, 3, none⟩ = some (.int .i64 0) ∧ w'.cell? ⟨g, 4, none⟩ = some (.int .i64 (st.put : Int)) ∧ w'.cell? ⟨g, 5, none⟩ = some (.int .i64 (st.ans : Int)) ∧ w'.cell? ⟨g, 6, none⟩ = some (.int .i64 (st.turns : Int)) ∧ w'.cell? ⟨g, 7, none⟩ = some (.int .i64 (st.idle : Int)))
              (first | assumption | exact HS.out _ (Ext.drew _) | exact HS.out _ ((Ext.drew _).t ex))
              (first
                | (go_at_call 14; refine (HPe.out _ (Ext.drew _)).mono ?_; rintro e wp ⟨rfl, rfl⟩)
                | (go_at_call 15; refine (HWa.out _ (Ext.drew _)).mono ?_; rintro e wp ⟨rfl, rfl⟩)
                | (go_at_call 20; refine (HFq.out _ (Ext.drew _)).mono ?_; rintro e wp ⟨rfl, rfl⟩)
                | (go_at_call 13; refine (HCo.out _ (Ext.drew _)).mono ?_; rintro e wp ⟨rfl, ex⟩)))
          | fail
          all_goals go_wp2_with fail
          all_goals go_simp
          all_goals go_meet
          all_goals exact ⟨rfl, by first | exact Ext.drew _ | exact (Ext.drew _).t ex⟩
        case rest =>
        obtain ⟨rfl, eC⟩ := hcut
        have EC := Lib.hid eC
        have h0F : Hid (Chg (foots osf) wc wc ∧ Byts wc (osf.drop 0) (st.wait.drop 0)) := Lib.hid ⟨Chg.refl _ _, HF.out.outs.ext eC⟩
        clear eC HPe HWa HCo HFq HS hcq hpos
        go_wp2_with fail
        go_loopw [62] (fun i wz => ∃ (m : Nat), m ≤ osf.length ∧ i = .int .i64 (m : Int) ∧ Hid (Chg (foots osf) wc wz ∧ Byts wz (osf.drop m) (st.wait.drop m))) (fun i _ => osf.length - (intOf i).toNat)
        case atStart => exact ⟨0, by omega, rfl, h0F⟩
        case round =>
          clear h0F
          obtain ⟨m, hm, rfl, HM⟩ := hrel
          by_cases hmt : m < osf.length
          · have hmt' : (m : Int) < (osf.length : Int) := by omega
            have hRm : Room wr Af osf.length cf (osf.map slv) := (HF.out.room.ext EC.out).chg HM.out.1 (fun j hj hT => (HF.out.no j hT).2 hj)
            obtain ⟨bf, oF, sf, hAf, _, hs, hc⟩ := (Room.rd hRm).at_ hmt
            obtain ⟨ff, hf0, hbs⟩ := HM.out.2.at_ 0 sf (by rw [List.getElem?_drop]; simpa using hs)
            have hff : st.wait[m]? = some ff := by rw [List.getElem?_drop] at hf0; simpa using hf0
            have hfl : ff.length ≤ 1000000 := HG.out.fine.wait ff (List.mem_of_getElem? hff)
            have hsn : sf.n = ff.length := by have := hbs.room.1; simpa using this.symm
            have hsm : sf.n ≤ 1000000 := by omega
            have Hs := Lib.hid hs
            have Hff := Lib.hid hff
            have Hbs := Lib.hid hbs
            unfold slv at hc
            clear hRm hs hf0 hff hbs hfl hsn
            rw [hAf]
            go_wp2_with fail
            go_loopw [68] (fun i wy => ∃ (j : Nat) (old : List Nat), j ≤ sf.n ∧ i = .int .i64 (j : Int) ∧ Room wy sf.A sf.n sf.c (old.map u8v) ∧ Chg (foot sf.A sf.c) wr wy) (fun i _ => sf.n - (intOf i).toNat)
            case atStart => exact ⟨0, ff, by omega, rfl, Hbs.out.room, Chg.refl _ _⟩
            case round =>
              clear hc hAf
              obtain ⟨j, old, hj, rfl, hr, hchr⟩ := hrel
              by_cases hjt : j < sf.n
              · have hjt' : (j : Int) < (sf.n : Int) := by omega
                have hsc := hr.2.1
                obtain ⟨g', o', hA, _⟩ := hr.some_ (by omega)
                rw [hA] at hr hchr ⊢
                have hol2 : old.length = sf.n := by have := hr.1; simpa using this
                obtain ⟨u, hu⟩ : ∃ u, old[j]? = some u := ⟨old[j]'(by omega), List.getElem?_eq_getElem _⟩
                have hc1 := hr.cellAt (k := j) (u := u8v u) (by rw [List.getElem?_map, hu]; rfl)
                have hz1 := hr.frozenAt (k := j) (by omega)
                have hwu : IntKind.u8.wrap ((u : Int) + 1) = (((u + 1) % 256 : Nat) : Int) := by rw [IntKind.wrap_u8]; omega
                have hset := hr.set hjt (u8v ((u + 1) % 256))
                rw [← List.map_set] at hset
                have Hset := Lib.hid hset
                have Hchr := Lib.hid hchr
                clear hA hu hsc hr hchr hset hol2
                go_wp2_with fail
                go_roundw
                case rel => exact ⟨j + 1, _, by omega, by go_num, Hset.out, Hchr.out.t (Chg.set _ _ _ _ ⟨by have := Hset.out.2.1; omega, o', rfl⟩)⟩
                case measure => simp [intOf]; omega
              · obtain rfl : j = sf.n := by omega
                have hdr : osf.drop m = sf :: osf.drop (m + 1) := by
                  obtain ⟨h, e⟩ := List.getElem?_eq_some_iff.1 Hs.out
                  rw [List.drop_eq_getElem_cons h, e]
                have hgr : st.wait.drop m = ff :: st.wait.drop (m + 1) := by
                  obtain ⟨h, e⟩ := List.getElem?_eq_some_iff.1 Hff.out
                  rw [List.drop_eq_getElem_cons h, e]
                have h4 := HM.out.2
                rw [hdr, hgr] at h4
                have hap : Apart (sf :: osf.drop (m + 1)) := by
                  rw [← hdr]; exact List.Pairwise.drop HF.out.ap
                have Hfin : Hid (Chg (foots osf) wc wr ∧ Byts wr (osf.drop (m + 1)) (st.wait.drop (m + 1))) := Lib.hid
                  ⟨HM.out.1.trans hchr (fun i _ hT => ⟨sf, List.mem_of_getElem? Hs.out, hT⟩), h4.tail.2.chg hchr (fun i hi h => (apart_cons hap).1 i h hi)⟩
                clear hap h4 hgr hdr hr hchr
                go_wp2_with fail
                go_roundw
                case rel => exact ⟨m + 1, by omega, by go_num, Hfin⟩
                case measure => simp [intOf]; omega
          · obtain rfl : m = osf.length := by omega
            have hbig := fun j (hj : foots osf j) => (HF.out.no j hj).1
            have hE : Ext w wr := (EF.out.t EC.out).trans (HM.out.1.below (EF.out.t EC.out).size (fun k hk hT => by have := hbig k hT; have := H.out.ext.size; omega))
            have hroom : Room wr A' W.n c' ((fs.map (·.1)).map slv) := (HRm.out.ext (HF.out.ext.t EC.out)).chg HM.out.1 (fun k hk hT => by have := hbig k hT; have := HRm.out.lt hk; omega)
            have HFr2 := Lib.hid (ib_Frames ib L st wr (HS0.out.box.ext hE) (by have := HG.out.wait; omega) HG.out.fine.wait)
            have HRm2 := Lib.hid hroom
            have HE := Lib.hid hE
            clear hbig hE hroom HM H EC EF HF hm hmt hol HRm
            go_wp2_with fail
            refine HFr2.out.mono ?_
            rintro e wq ⟨Aq, cq, osq, hlq⟩
            have hret := hlq.ret
            have hfg := framesR Aq A' osq.length W.n cq c' osq (fs.map (·.1)) st.wait st.wait wq (Room.rd hlq.room) (Reads.of hlq.outs) (Room.rd (HRm2.out.ext hlq.ext)) (Hreads.out.ext (Hwb.out.t (HE.out.t hlq.ext))) (Nat.le_trans hlq.room.2.1 hlq.room.2.2.1) (Nat.le_trans HRm2.out.2.1 HRm2.out.2.2.1)
            rw [decide_eq_true (rfl : st.wait = st.wait)] at hfg
            have Hfg := Lib.hid hfg
            have HE2 := Lib.hid (HE.out.t hlq.ext)
            clear hlq hfg
            subst hret
            go_wp2_with fail
            refine Hfg.out.mono ?_; rintro e wx ⟨rfl, rfl⟩
            go_wp2_with fail
            go_ret
            exact ⟨rfl, HE2.out⟩
end Go.Proofs.Ytpipnefepnknoaa
