/- InboxOwn: the walk of the law. -/
import Derived.Test.YtpipnefepnknoaaSpoil
namespace Go.Proofs.Ytpipnefepnknoaa
open Go.RowKit Go.Fx
theorem Ord.short {st : St} {outs all : List (List Nat)} (h : Ord st outs all) (ha : ∀ f ∈ all, f.length ≤ 40) : ∀ f ∈ outs, f.length ≤ 1000000 := fun f hf => by
  have := ha f (by rw [h.eq]; exact List.mem_append_left _ hf)
  omega
/-- What the loop over the acts holds. -/
def OwnK (w0 : World) (ic ob : Nat) (al : List ActN) (k : Nat) (w : World) : Prop :=
  ∃ L A n c os, Own w0 w ic ob L A n c os (playF (al.take k)) ∧ Good (playF (al.take k)).1 (2000 - 20 * k)
/-- .. and the loop over the turns. -/
def OwnJ (w0 : World) (ic ob g : Nat) (cs : Array Value) (al : List ActN) (k j : Nat) (w : World) : Prop :=
  ∃ L A n c os, Own w0 w ic ob L A n c os (turnsF j (playF (al.take k))) ∧ Good (turnsF j (playF (al.take k))).1 (2000 - 20 * k - j) ∧ Blk w g 47 cs ∧ w0.heap.size ≤ g ∧ ¬ boxF ic L g ∧ ¬ outF ob A c os g
theorem turns_short (al : List ActN) (k j : Nat) : ∀ f ∈ (turnF (turnsF j (playF (al.take k))).1).2, f.length ≤ 1000000 := fun f hf =>
  (turns_ord (play_ord (al.take k)) (j + 1)).short (putL_lt _) f (List.mem_append_right _ hf)
set_option maxRecDepth 100000 in
set_option maxHeartbeats 4000000 in
theorem own_ (A : Option Addr) (n c x : Nat) (al : List ActN) (w : World) (hacts : Acts w A n al) (hnc : n ≤ c) (hc : c ≤ maxLen) :
    Calls Try.prog 10 #[.slice A n c, .int .u8 (x : Int)] w fun e w' => e = .returned (.bool true) ∧ Ext w w' := by
  have HP := Lib.hid (fun w' (e : Ext w w') => play_ A n c al w' (hacts.ext e) hnc hc)
  unfold maxLen at hc
  rcases (by omega : n ≤ 40 ∨ 40 < n) with h40 | h40
  · have h1 : (n : Int) ≤ 40 := by omega
    have h2 : (n : Int) ≤ (c : Int) := by omega
    rw [show al.take 40 = al from List.take_of_length_le (by rw [hacts.len]; omega)] at HP
    have HX := Lib.hid hacts
    clear hacts
    go_enter Try.func10, Try.ntmps10
    go_wp2_with fail
    have hb0 := Blk.new w 5 #[.int .u8 (x : Int)]
    have e0 := Ext.alloc w (.cells #[.int .u8 (x : Int)] 5)
    generalize w.alloc (.cells #[.int .u8 (x : Int)] 5) = wa at hb0 e0 ⊢
    generalize w.heap.size = cb at hb0 ⊢
    have E0 := Lib.hid e0
    have B0 := Lib.hid hb0
    clear e0 hb0
    refine (awake wa).mono ?_; rintro e w1 ⟨rfl, e1⟩
    go_wp2_with fail
    refine (HP.out w1 (E0.out.t e1)).mono ?_
    rintro e w2 ⟨ib, L, A2, n2, c2, os, st, outs, hpl⟩
    have hret := hpl.ret
    have E2 := Lib.hid ((E0.out.t e1).t hpl.sys.below)
    have B2 : Hid (Blk w2 cb 5 #[.int .u8 (x : Int)]) := Lib.hid (Blk.ext B0.out (e1.t hpl.sys.below))
    have Hpl := Lib.hid hpl
    clear hpl HP B0 E0 e1
    subst hret
    go_wp2_with fail
    refine (ib_New _ _).mono ?_
    rintro e w3 ⟨rfl, hib, he, hsz⟩
    have hsb := Blk.new w2 31 #[.slice none 0 0, .int .i64 0, .slice none 0 0, .slice none 0 0]
    have hS := sys_new (Below.refl w2.heap.size w2) (Ext.alloc w2 _) (Nat.le_refl _) hsb hib he
    rw [World.size_alloc] at *
    generalize hix : w2.heap.size + 1 = ic at hS ⊢
    have HS := Lib.hid hS
    clear hS hsb hib he hsz hix
    go_wp2_with fail
    have H0 : Hid (OwnK w2 ic w3.heap.size al 0 (w3.alloc (.cells #[.slice none 0 0] 25))) := by
      refine Lib.hid ⟨lay0 w2.heap.size, none, 0, 0, [], ⟨HS.out.ext (Ext.alloc _ _), ⟨Blk.new w3 _ _, Room.nil, Byts.nil, rfl, fun k hk => absurd hk foots_nil, foot_none, foots_nil⟩, rfl, fun j hj => ?_⟩, good0 _ (by omega)⟩
      rcases hj with rfl | hj | hj
      · exact ⟨fun h => by have := HS.out.box.lt h; omega, HS.out.below.size⟩
      · exact absurd hj foot_none
      · exact absurd hj foots_nil
    generalize w3.alloc (.cells #[.slice none 0 0] 25) = w4 at H0 ⊢
    generalize w3.heap.size = ob at H0 ⊢
    clear HS
    try go_wp2_with fail
    go_loopw [57] (fun i wr => ∃ (k : Nat), k ≤ n ∧ i = .int .i64 (k : Int) ∧ Hid (OwnK w2 ic ob al k wr)) (fun i _ => n - (intOf i).toNat)
    case atStart => exact ⟨0, by omega, rfl, H0⟩
    case round =>
      clear H0
      obtain ⟨k, hk, rfl, H⟩ := hrel
      by_cases hlt : k < n
      · have hlt' : (k : Int) < (n : Int) := by omega
        obtain ⟨L0, A0, n0, c0, os0, hO, hG⟩ := H.out
        obtain ⟨a, ha⟩ : ∃ a, al[k]? = some a := ⟨al[k]'(by rw [HX.out.len]; exact hlt), List.getElem?_eq_getElem _⟩
        obtain ⟨b, o, s, rfl, hb, hat⟩ := HX.out.at_ k a ha
        have ew := E2.out.t hO.sys.below
        have ct := (ew.cell (p := ⟨b, o + k * 2, none⟩) hb).trans hat.t
        have cf := (ew.cell (p := ⟨b, o + k * 2 + 1, none⟩) hb).trans hat.f
        have hlt256 := hat.lt
        have Hv := Lib.hid (hat.v.ext E2.out)
        have Ha := Lib.hid ha
        have HO := Lib.hid hO
        have HG := Lib.hid hG
        clear H hO hG ha hat ew
        go_wp2_with fail
        have H1 : Hid (OwnJ w2 ic ob wr.heap.size #[.int .u8 (a.1 : Int), .slice s.A s.n s.c] al k 0 (wr.alloc (.cells #[.int .u8 (a.1 : Int), .slice s.A s.n s.c] 47))) :=
          Lib.hid ⟨L0, A0, n0, c0, os0, HO.out.ext (Ext.alloc _ _), HG.out, Blk.new wr _ _, HO.out.sys.below.size, fun h => by have := HO.out.sys.box.lt h; omega, fun h => by have := HO.out.out.lt h; omega⟩
        have cg0 : (wr.alloc (.cells #[.int .u8 (a.1 : Int), .slice s.A s.n s.c] 47)).cell? ⟨wr.heap.size, 0, none⟩ = some (.int .u8 (a.1 : Int)) := by rw [(Blk.new wr _ _).cell]; rfl
        generalize wr.alloc (.cells #[.int .u8 (a.1 : Int), .slice s.A s.n s.c] 47) = W1 at H1 cg0 ⊢
        generalize wr.heap.size = g at H1 cg0 ⊢
        have ht10 : (a.1 : Int) % 10 < 10 := by omega
        clear ct cf HO HG
        try go_wp2_with fail
        clear cg0
        go_loopw [64] (fun i wr => ∃ (j : Nat), j ≤ a.1 % 10 ∧ i = .int .u8 (j : Int) ∧ Hid (OwnJ w2 ic ob g #[.int .u8 (a.1 : Int), .slice s.A s.n s.c] al k j wr)) (fun i _ => a.1 % 10 - (intOf i).toNat)
        case atStart => exact ⟨0, by omega, rfl, H1⟩
        case round =>
          clear H1
          obtain ⟨j, hj, rfl, H⟩ := hrel
          by_cases hjt : j < a.1 % 10
          · have hjt' : (j : Int) < (a.1 : Int) % 10 := by omega
            have hj9 : (j : Int) < 10 := by omega
            obtain ⟨L0, A0, n0, c0, os0, hO, hG, hB, hg, hgb, hgo⟩ := H.out
            have hG1 : Good (turnsF j (playF (al.take k))).1 ((2000 - 20 * k - (j + 1)) + 1) := hG.mono (by omega)
            have HT := Lib.hid (sys_Turn hO.sys hG1)
            have HO := Lib.hid hO
            have HG1 := Lib.hid hG1
            have HB := Lib.hid hB
            have Hg := Lib.hid (And.intro hg (And.intro hgb hgo))
            clear H hO hG hB hg hgb hgo hG1
            go_wp2_with fail
            refine HT.out.mono ?_
            rintro e w6 ⟨L6, A6, n6, c6, os6, got⟩
            have hret := got.ret
            have hgl := HB.out.lt
            have HSp := Lib.hid (HO.out.spoil (cb := cb) (x := x) got (Chg.refl (fun _ => False) w6) (fun _ t => t.elim) B2.out (turn_ans _) (turns_short al k j) (by have := (turn_good _ _ HG1.out).fine.ans; omega))
            clear got
            subst hret
            go_wp2_with fail
            refine HSp.out.mono ?_
            rintro e w7 ⟨rfl, A7, n7, c7, os7, h1, h2, h3, h4⟩
            have H7 : Hid (OwnJ w2 ic ob g #[.int .u8 (a.1 : Int), .slice s.A s.n s.c] al k (j + 1) w7) := Lib.hid
              ⟨L6, A7, n7, c7, os7, h1, turn_good _ _ HG1.out, HB.out.chg h2 (fun h => h.elim Hg.out.2.1 (fun h => h.elim Hg.out.2.2 id)), Hg.out.1, fun h => (h3 g h).elim Hg.out.2.1 (fun h => by omega), fun h => (h4 g h).elim Hg.out.2.2 (fun h => by omega)⟩
            clear h1 h2 h3 h4 hgl
            go_wp2_with fail
            go_roundw
            case rel => exact ⟨j + 1, by omega, by go_num, H7⟩
            case measure => simp [intOf]; omega
          · obtain rfl : j = a.1 % 10 := by omega
            obtain ⟨L0, A0, n0, c0, os0, hO, hG, hB, hg, hgb, hgo⟩ := H.out
            obtain ⟨q, hq0⟩ : ∃ q, q = turnsF (a.1 % 10) (playF (al.take k)) := ⟨_, rfl⟩
            have hps : playF (al.take (k + 1)) = (match putOf a with | none => q | some f => putS q f) := by rw [take_snoc Ha.out, playF_snoc, hq0]; rfl
            have hoq : Ord q.1 q.2 (putL (al.take k)) := by rw [hq0]; exact turns_ord (play_ord (al.take k)) _
            rw [← hq0] at hO hG
            have Hps := Lib.hid hps
            have Hoq := Lib.hid hoq
            have hG1 : Good q.1 (2000 - 20 * (k + 1) + 1) := hG.mono (by omega)
            have HFr := Lib.hid (ib_Frames ic L0 q.1 wr hO.sys.box (by have := hG.wait; omega) hG.fine.wait)
            have Hw := Lib.hid hG.fine.wait
            have HO := Lib.hid hO
            have HG1 := Lib.hid hG1
            have HB := Lib.hid hB
            have Hg := Lib.hid (And.intro hg (And.intro hgb hgo))
            clear H hO hG hB hg hgb hgo hG1 hps hoq hq0 Ha
            go_wp2_with fail
            refine HFr.out.mono ?_
            rintro e wF ⟨Af, cf, osf, hlf⟩
            have hretf := hlf.ret
            have hcbF : Blk wF cb 5 #[.int .u8 (x : Int)] := Blk.ext B2.out (HO.out.sys.below.t hlf.ext)
            have HcF := Lib.hid hcbF
            have HF := Lib.hid hlf
            have h0F : Hid (Chg (foots osf) wF wF ∧ Byts wF (osf.drop 0) (q.1.wait.drop 0)) := Lib.hid ⟨Chg.refl _ _, hlf.outs⟩
            have hol : osf.length ≤ 1000000 := by have := hlf.outs.len; have := HG1.out.wait; omega
            clear hlf hcbF HFr
            subst hretf
            go_wp2_with fail
            go_loopw [78] (fun i wz => ∃ (m : Nat), m ≤ osf.length ∧ i = .int .i64 (m : Int) ∧ Hid (Chg (foots osf) wF wz ∧ Byts wz (osf.drop m) (q.1.wait.drop m))) (fun i _ => osf.length - (intOf i).toNat)
            case atStart => exact ⟨0, by omega, rfl, h0F⟩
            case round =>
              clear h0F
              obtain ⟨m, hm, rfl, H⟩ := hrel
              by_cases hmt : m < osf.length
              · have hmt' : (m : Int) < (osf.length : Int) := by omega
                have hRm : Room wr Af osf.length cf (osf.map slv) := HF.out.room.chg H.out.1 (fun j hj hT => (HF.out.no j hT).2 hj)
                obtain ⟨bf, oF, sf, hAf, _, hs, hc⟩ := (Room.rd hRm).at_ hmt
                obtain ⟨ff, hf0, hbs⟩ := H.out.2.at_ 0 sf (by rw [List.getElem?_drop]; simpa using hs)
                have hff : q.1.wait[m]? = some ff := by rw [List.getElem?_drop] at hf0; simpa using hf0
                have hfl : ff.length ≤ 1000000 := Hw.out ff (List.mem_of_getElem? hff)
                have hsn : sf.n = ff.length := by have := hbs.room.1; simpa using this.symm
                have hsm : sf.n ≤ 1000000 := by omega
                have Hs := Lib.hid hs
                have Hff := Lib.hid hff
                have Hbs := Lib.hid hbs
                have HcR := Lib.hid (HcF.out.chg H.out.1 (fun h => by have := (HF.out.no cb h).1; have := B2.out.lt; have := HO.out.sys.below.size; omega))
                unfold slv at hc
                clear hRm hs hf0 hff hbs hfl hsn
                rw [hAf]
                go_wp2_with fail
                go_loopw [84] (fun i wy => ∃ (j : Nat) (old : List Value), j ≤ sf.n ∧ i = .int .i64 (j : Int) ∧ Room wy sf.A sf.n sf.c old ∧ Chg (foot sf.A sf.c) wr wy) (fun i _ => sf.n - (intOf i).toNat)
                case atStart => exact ⟨0, _, by omega, rfl, Hbs.out.room, Chg.refl _ _⟩
                case round =>
                  clear hc hAf
                  obtain ⟨j, old, hj, rfl, hr, hchr⟩ := hrel
                  by_cases hjt : j < sf.n
                  · have hjt' : (j : Int) < (sf.n : Int) := by omega
                    have hsc := hr.2.1
                    obtain ⟨g', o', hA, _⟩ := hr.some_ (by omega)
                    have hcc := (HcR.out.chg hchr (fun h => by have := (HF.out.no cb ⟨sf, List.mem_of_getElem? Hs.out, h⟩).1; have := B2.out.lt; have := HO.out.sys.below.size; omega)).cell0
                    rw [hA] at hr hchr ⊢
                    obtain ⟨u, hu⟩ : ∃ u, old[j]? = some u := ⟨old[j]'(by rw [hr.1]; exact hjt), List.getElem?_eq_getElem _⟩
                    have hc1 := hr.cellAt hu
                    have hz1 := hr.frozenAt (k := j) (by omega)
                    have hset := hr.set hjt (.int .u8 (x : Int))
                    have Hset := Lib.hid hset
                    have Hchr := Lib.hid hchr
                    clear hA hu hsc hr hchr hset
                    go_wp2_with fail
                    go_roundw
                    case rel => exact ⟨j + 1, _, by omega, by go_num, Hset.out, Hchr.out.t (Chg.set _ _ _ _ ⟨by have := Hset.out.2.1; omega, o', rfl⟩)⟩
                    case measure => simp [intOf]; omega
                  · obtain rfl : j = sf.n := by omega
                    have hdr : osf.drop m = sf :: osf.drop (m + 1) := by
                      obtain ⟨h, e⟩ := List.getElem?_eq_some_iff.1 Hs.out
                      rw [List.drop_eq_getElem_cons h, e]
                    have hgr : q.1.wait.drop m = ff :: q.1.wait.drop (m + 1) := by
                      obtain ⟨h, e⟩ := List.getElem?_eq_some_iff.1 Hff.out
                      rw [List.drop_eq_getElem_cons h, e]
                    have h4 := H.out.2
                    rw [hdr, hgr] at h4
                    have hap : Apart (sf :: osf.drop (m + 1)) := by
                      rw [← hdr]; exact List.Pairwise.drop HF.out.ap
                    have Hfin : Hid (Chg (foots osf) wF wr ∧ Byts wr (osf.drop (m + 1)) (q.1.wait.drop (m + 1))) := Lib.hid
                      ⟨H.out.1.trans hchr (fun i _ hT => ⟨sf, List.mem_of_getElem? Hs.out, hT⟩), h4.tail.2.chg hchr (fun i hi h => (apart_cons hap).1 i h hi)⟩
                    clear hap h4 hgr hdr hr hchr
                    go_wp2_with fail
                    go_roundw
                    case rel => exact ⟨m + 1, by omega, by go_num, Hfin⟩
                    case measure => simp [intOf]; omega
              · obtain rfl : m = osf.length := by omega
                have hbig : ∀ j, foots osf j → ¬ boxF ic L0 j ∧ ¬ outF ob A0 c0 os0 j ∧ w2.heap.size ≤ j ∧ j ≠ g := fun j hj => by
                  have h1 := (HF.out.no j hj).1
                  have h2 := HO.out.sys.below.size
                  have h3 := HB.out.lt
                  exact ⟨fun h => by have := HO.out.sys.box.lt h; omega, fun h => by have := HO.out.out.lt h; omega, by omega, by omega⟩
                have HO2 := Lib.hid ((HO.out.ext HF.out.ext).chg H.out.1 (fun j hj => ⟨(hbig j hj).1, (hbig j hj).2.1, (hbig j hj).2.2.1⟩))
                have hB2 := (Blk.ext HB.out HF.out.ext).chg H.out.1 (fun h => (hbig g h).2.2.2 rfl)
                have cg1 : wr.cell? ⟨g, 1, none⟩ = some (.slice s.A s.n s.c) := by rw [hB2.cell]; rfl
                have hq := fun w' => run_neq_slice_nil_any (P := Try.prog) w' 29 5 s.A s.n s.c 0 0 ul_u8
                clear H HF HO HB hbig hB2 HcF hm hol hmt
                obtain ⟨tt, fr⟩ := a
                simp only at Hv Hps hlt256 ht10
                have hsame : ∀ (e : putOf (tt, fr) = none), OwnK w2 ic ob al (k + 1) wr := fun e => by
                  unfold OwnK
                  rw [Hps.out, e]
                  exact ⟨L0, A0, n0, c0, os0, HO2.out, HG1.out.mono (by omega)⟩
                have Hsame := Lib.hid hsame
                clear hsame
                cases fr with
                | none =>
                  have hA : s.A = none := Hv.out.1
                  rw [hA] at hq cg1
                  simp only [Option.isNone_none, Bool.not_true] at hq
                  clear hA
                  go_wp2_with fail
                  go_roundw
                  case rel => exact ⟨k + 1, by omega, by go_num, Lib.hid (Hsame.out rfl)⟩
                  case measure => simp [intOf]; omega
                | some xs =>
                  obtain ⟨hA, hrd, hxx⟩ := Hv.out
                  have hi : s.A.isNone = false := by cases hs : s.A with
                    | none => exact absurd hs hA
                    | some _ => rfl
                  rw [hi] at hq
                  simp only [Bool.not_false] at hq
                  have hsl := hrd.1
                  by_cases hx40 : xs.length ≤ 40
                  · have hn40 : (s.n : Int) ≤ 40 := by omega
                    have Hx40 := Lib.hid hx40
                    have HC := Lib.hid (bytes_Clone s.A s.n s.c xs wr (hrd.ext HO2.out.sys.below) hxx (by omega))
                    clear hA hrd hxx hi hx40 Hsame
                    go_wp2_with fail
                    refine HC.out.mono ?_
                    rintro e w5 ⟨sq, he, hcl⟩
                    have hsq : sq.n ≤ 40 := by have := hcl.n_; omega
                    have HPt := Lib.hid (sys_Put (HO2.out.sys.ext hcl.ext) HG1.out sq.A sq.n sq.c xs hcl.byt.rd hcl.byt.lt (by have := Hx40.out; omega))
                    have Hcl := Lib.hid hcl
                    clear hcl HC
                    unfold slv at he
                    subst he
                    go_wp2_with fail
                    refine HPt.out.mono ?_
                    rintro e w6 ⟨L6, A6, n6, c6, os6, got⟩
                    have hret := got.ret
                    have Hgot := Lib.hid got
                    have hr6 : Room w6 sq.A sq.n sq.c (xs.map u8v) := Hcl.out.byt.room.chg got.step.chg (fun j hj hb => by have := Hcl.out.new j hj; have := HO2.out.sys.box.lt hb; omega)
                    have hc6 : Blk w6 cb 5 #[.int .u8 (x : Int)] := Blk.ext B2.out got.sys.below
                    have Hc6 := Lib.hid hc6
                    clear got hc6 HPt
                    subst hret
                    go_wp2_with fail
                    go_loopw [113] (fun i wy => ∃ (j : Nat) (old : List Value), j ≤ sq.n ∧ i = .int .i64 (j : Int) ∧ Room wy sq.A sq.n sq.c old ∧ Chg (foot sq.A sq.c) w6 wy) (fun i _ => sq.n - (intOf i).toNat)
                    case atStart => exact ⟨0, _, by omega, rfl, hr6, Chg.refl _ _⟩
                    case round =>
                      clear hr6
                      obtain ⟨j, old, hj, rfl, hr, hchr⟩ := hrel
                      have hbig : ∀ j, foot sq.A sq.c j → ¬ boxF ic L6 j ∧ ¬ outF ob A0 c0 os0 j ∧ ¬ foot A6 c6 j ∧ ¬ foots os6 j ∧ w2.heap.size ≤ j := fun j hj => by
                        have h1 := Hcl.out.new j hj
                        have h2 := HO2.out.sys.below.size
                        have h3 := Hcl.out.byt.room.lt hj
                        exact ⟨fun h => (Hgot.out.step.nb j h).elim (fun h => by have := HO2.out.sys.box.lt h; omega) (fun h => by omega), fun h => by have := HO2.out.out.lt h; omega, fun h => by have := Hgot.out.new j (.inl h); omega, fun h => by have := Hgot.out.new j (.inr h); omega, by omega⟩
                      by_cases hjt : j < sq.n
                      · have hjt' : (j : Int) < (sq.n : Int) := by omega
                        have hsc := hr.2.1
                        obtain ⟨g', o', hA, _⟩ := hr.some_ (by omega)
                        have hcc := (Hc6.out.chg hchr (fun h => by have := (hbig cb h).2.2.2.2; have := B2.out.lt; omega)).cell0
                        rw [hA] at hr hchr ⊢
                        obtain ⟨u, hu⟩ : ∃ u, old[j]? = some u := ⟨old[j]'(by rw [hr.1]; exact hjt), List.getElem?_eq_getElem _⟩
                        have hc1 := hr.cellAt hu
                        have hz1 := hr.frozenAt (k := j) (by omega)
                        have hset := hr.set hjt (.int .u8 (x : Int))
                        have Hset := Lib.hid hset
                        have Hchr := Lib.hid hchr
                        clear hA hu hsc hr hchr hset hbig
                        go_wp2_with fail
                        go_roundw
                        case rel => exact ⟨j + 1, _, by omega, by go_num, Hset.out, Hchr.out.t (Chg.set _ _ _ _ ⟨by have := Hset.out.2.1; omega, o', rfl⟩)⟩
                        case measure => simp [intOf]; omega
                      · obtain rfl : j = sq.n := by omega
                        have hf1 : ∀ f ∈ (putF q.1 xs).2, f.length ≤ 1000000 := fun f hf =>
                          (put_ord Hoq.out xs).short (fun f hf => (List.mem_append.1 hf).elim (putL_lt _ f) (fun h => by simp at h; rw [h]; exact Hx40.out)) f (List.mem_append_right _ hf)
                        have HSp := Lib.hid ((HO2.out.ext Hcl.out.ext).spoil (cb := cb) (x := x) Hgot.out hchr hbig B2.out (put_ans _ _) hf1 (by have := (put_good _ xs _ HG1.out (by have := Hx40.out; omega)).fine.ans; omega))
                        clear hf1 hbig hr hchr
                        go_wp2_with fail
                        refine HSp.out.mono ?_
                        rintro e w7 ⟨rfl, A7, n7, c7, os7, h1, _, _, _⟩
                        have H7 : Hid (OwnK w2 ic ob al (k + 1) w7) := by
                          have e1 : putOf (tt, some xs) = some xs := by show (if xs.length ≤ 40 then some xs else none) = some xs; rw [if_pos Hx40.out]
                          refine Lib.hid ?_
                          unfold OwnK
                          rw [Hps.out, e1]
                          exact ⟨L6, A7, n7, c7, os7, h1, put_good _ xs _ HG1.out (by have := Hx40.out; omega)⟩
                        clear h1
                        go_wp2_with fail
                        go_roundw
                        case rel => exact ⟨k + 1, by omega, by go_num, H7⟩
                        case measure => simp [intOf]; omega
                  · have hn40 : ¬ (s.n : Int) ≤ 40 := by omega
                    have He : Hid (putOf (tt, some xs) = none) := Lib.hid (by show (if xs.length ≤ 40 then some xs else none) = none; rw [if_neg hx40])
                    clear hA hrd hxx hi hsl hx40
                    go_wp2_with fail
                    go_roundw
                    case rel => exact ⟨k + 1, by omega, by go_num, Lib.hid (Hsame.out He.out)⟩
                    case measure => simp [intOf]; omega
      · obtain rfl : k = n := by omega
        obtain ⟨L0, A0, n0, c0, os0, hO, _⟩ := H.out
        have e0 : ∀ j, al.length ≤ j → al.take j = al := fun j h => List.take_of_length_le h
        rw [e0 _ (by rw [HX.out.len]; exact Nat.le_refl _), ← Hpl.out.res] at hO
        have hRb := Hpl.out.resp.ext hO.sys.below
        have hnn : n0 ≤ maxLen := Nat.le_trans hO.out.room.2.1 hO.out.room.2.2.1
        have hfr := framesR A0 A2 n0 n2 c0 c2 os0 os outs outs wr (Room.rd hO.out.room) (Reads.of hO.out.byt) hRb.rd (Reads.of hRb.byt) hnn hRb.le
        rw [decide_eq_true (rfl : outs = outs)] at hfr
        have HFr := Lib.hid hfr
        have hcb := hO.out.blk.cell0
        have Hend := Lib.hid (E2.out.t hO.sys.below)
        clear H hO hRb hfr e0 hnn
        go_wp2_with fail
        refine HFr.out.mono ?_; rintro e wx ⟨rfl, rfl⟩
        go_wp2_with fail
        go_ret
        exact ⟨rfl, Hend.out⟩
  · have h1 : (40 : Int) < (n : Int) := by omega
    have h2 : (40 : Int) ≤ (c : Int) := by omega
    have hacts := hacts.take (k := 40) (by omega)
    generalize al.take 40 = al at hacts HP
    have HX := Lib.hid hacts
    clear hacts
    go_enter Try.func10, Try.ntmps10
    go_wp2_with fail
    have hb0 := Blk.new w 5 #[.int .u8 (x : Int)]
    have e0 := Ext.alloc w (.cells #[.int .u8 (x : Int)] 5)
    generalize w.alloc (.cells #[.int .u8 (x : Int)] 5) = wa at hb0 e0 ⊢
    generalize w.heap.size = cb at hb0 ⊢
    have E0 := Lib.hid e0
    have B0 := Lib.hid hb0
    clear e0 hb0
    refine (awake wa).mono ?_; rintro e w1 ⟨rfl, e1⟩
    go_wp2_with fail
    refine (HP.out w1 (E0.out.t e1)).mono ?_
    rintro e w2 ⟨ib, L, A2, n2, c2, os, st, outs, hpl⟩
    have hret := hpl.ret
    have E2 := Lib.hid ((E0.out.t e1).t hpl.sys.below)
    have B2 : Hid (Blk w2 cb 5 #[.int .u8 (x : Int)]) := Lib.hid (Blk.ext B0.out (e1.t hpl.sys.below))
    have Hpl := Lib.hid hpl
    clear hpl HP B0 E0 e1
    subst hret
    go_wp2_with fail
    refine (ib_New _ _).mono ?_
    rintro e w3 ⟨rfl, hib, he, hsz⟩
    have hsb := Blk.new w2 31 #[.slice none 0 0, .int .i64 0, .slice none 0 0, .slice none 0 0]
    have hS := sys_new (Below.refl w2.heap.size w2) (Ext.alloc w2 _) (Nat.le_refl _) hsb hib he
    rw [World.size_alloc] at *
    generalize hix : w2.heap.size + 1 = ic at hS ⊢
    have HS := Lib.hid hS
    clear hS hsb hib he hsz hix
    go_wp2_with fail
    have H0 : Hid (OwnK w2 ic w3.heap.size al 0 (w3.alloc (.cells #[.slice none 0 0] 25))) := by
      refine Lib.hid ⟨lay0 w2.heap.size, none, 0, 0, [], ⟨HS.out.ext (Ext.alloc _ _), ⟨Blk.new w3 _ _, Room.nil, Byts.nil, rfl, fun k hk => absurd hk foots_nil, foot_none, foots_nil⟩, rfl, fun j hj => ?_⟩, good0 _ (by omega)⟩
      rcases hj with rfl | hj | hj
      · exact ⟨fun h => by have := HS.out.box.lt h; omega, HS.out.below.size⟩
      · exact absurd hj foot_none
      · exact absurd hj foots_nil
    generalize w3.alloc (.cells #[.slice none 0 0] 25) = w4 at H0 ⊢
    generalize w3.heap.size = ob at H0 ⊢
    clear HS
    try go_wp2_with fail
    go_loopw [57] (fun i wr => ∃ (k : Nat), k ≤ 40 ∧ i = .int .i64 (k : Int) ∧ Hid (OwnK w2 ic ob al k wr)) (fun i _ => 40 - (intOf i).toNat)
    case atStart => exact ⟨0, by omega, rfl, H0⟩
    case round =>
      clear H0
      obtain ⟨k, hk, rfl, H⟩ := hrel
      by_cases hlt : k < 40
      · have hlt' : (k : Int) < (40 : Int) := by omega
        obtain ⟨L0, A0, n0, c0, os0, hO, hG⟩ := H.out
        obtain ⟨a, ha⟩ : ∃ a, al[k]? = some a := ⟨al[k]'(by rw [HX.out.len]; exact hlt), List.getElem?_eq_getElem _⟩
        obtain ⟨b, o, s, rfl, hb, hat⟩ := HX.out.at_ k a ha
        have ew := E2.out.t hO.sys.below
        have ct := (ew.cell (p := ⟨b, o + k * 2, none⟩) hb).trans hat.t
        have cf := (ew.cell (p := ⟨b, o + k * 2 + 1, none⟩) hb).trans hat.f
        have hlt256 := hat.lt
        have Hv := Lib.hid (hat.v.ext E2.out)
        have Ha := Lib.hid ha
        have HO := Lib.hid hO
        have HG := Lib.hid hG
        clear H hO hG ha hat ew
        go_wp2_with fail
        have H1 : Hid (OwnJ w2 ic ob wr.heap.size #[.int .u8 (a.1 : Int), .slice s.A s.n s.c] al k 0 (wr.alloc (.cells #[.int .u8 (a.1 : Int), .slice s.A s.n s.c] 47))) :=
          Lib.hid ⟨L0, A0, n0, c0, os0, HO.out.ext (Ext.alloc _ _), HG.out, Blk.new wr _ _, HO.out.sys.below.size, fun h => by have := HO.out.sys.box.lt h; omega, fun h => by have := HO.out.out.lt h; omega⟩
        have cg0 : (wr.alloc (.cells #[.int .u8 (a.1 : Int), .slice s.A s.n s.c] 47)).cell? ⟨wr.heap.size, 0, none⟩ = some (.int .u8 (a.1 : Int)) := by rw [(Blk.new wr _ _).cell]; rfl
        generalize wr.alloc (.cells #[.int .u8 (a.1 : Int), .slice s.A s.n s.c] 47) = W1 at H1 cg0 ⊢
        generalize wr.heap.size = g at H1 cg0 ⊢
        have ht10 : (a.1 : Int) % 10 < 10 := by omega
        clear ct cf HO HG
        try go_wp2_with fail
        clear cg0
        go_loopw [64] (fun i wr => ∃ (j : Nat), j ≤ a.1 % 10 ∧ i = .int .u8 (j : Int) ∧ Hid (OwnJ w2 ic ob g #[.int .u8 (a.1 : Int), .slice s.A s.n s.c] al k j wr)) (fun i _ => a.1 % 10 - (intOf i).toNat)
        case atStart => exact ⟨0, by omega, rfl, H1⟩
        case round =>
          clear H1
          obtain ⟨j, hj, rfl, H⟩ := hrel
          by_cases hjt : j < a.1 % 10
          · have hjt' : (j : Int) < (a.1 : Int) % 10 := by omega
            have hj9 : (j : Int) < 10 := by omega
            obtain ⟨L0, A0, n0, c0, os0, hO, hG, hB, hg, hgb, hgo⟩ := H.out
            have hG1 : Good (turnsF j (playF (al.take k))).1 ((2000 - 20 * k - (j + 1)) + 1) := hG.mono (by omega)
            have HT := Lib.hid (sys_Turn hO.sys hG1)
            have HO := Lib.hid hO
            have HG1 := Lib.hid hG1
            have HB := Lib.hid hB
            have Hg := Lib.hid (And.intro hg (And.intro hgb hgo))
            clear H hO hG hB hg hgb hgo hG1
            go_wp2_with fail
            refine HT.out.mono ?_
            rintro e w6 ⟨L6, A6, n6, c6, os6, got⟩
            have hret := got.ret
            have hgl := HB.out.lt
            have HSp := Lib.hid (HO.out.spoil (cb := cb) (x := x) got (Chg.refl (fun _ => False) w6) (fun _ t => t.elim) B2.out (turn_ans _) (turns_short al k j) (by have := (turn_good _ _ HG1.out).fine.ans; omega))
            clear got
            subst hret
            go_wp2_with fail
            refine HSp.out.mono ?_
            rintro e w7 ⟨rfl, A7, n7, c7, os7, h1, h2, h3, h4⟩
            have H7 : Hid (OwnJ w2 ic ob g #[.int .u8 (a.1 : Int), .slice s.A s.n s.c] al k (j + 1) w7) := Lib.hid
              ⟨L6, A7, n7, c7, os7, h1, turn_good _ _ HG1.out, HB.out.chg h2 (fun h => h.elim Hg.out.2.1 (fun h => h.elim Hg.out.2.2 id)), Hg.out.1, fun h => (h3 g h).elim Hg.out.2.1 (fun h => by omega), fun h => (h4 g h).elim Hg.out.2.2 (fun h => by omega)⟩
            clear h1 h2 h3 h4 hgl
            go_wp2_with fail
            go_roundw
            case rel => exact ⟨j + 1, by omega, by go_num, H7⟩
            case measure => simp [intOf]; omega
          · obtain rfl : j = a.1 % 10 := by omega
            obtain ⟨L0, A0, n0, c0, os0, hO, hG, hB, hg, hgb, hgo⟩ := H.out
            obtain ⟨q, hq0⟩ : ∃ q, q = turnsF (a.1 % 10) (playF (al.take k)) := ⟨_, rfl⟩
            have hps : playF (al.take (k + 1)) = (match putOf a with | none => q | some f => putS q f) := by rw [take_snoc Ha.out, playF_snoc, hq0]; rfl
            have hoq : Ord q.1 q.2 (putL (al.take k)) := by rw [hq0]; exact turns_ord (play_ord (al.take k)) _
            rw [← hq0] at hO hG
            have Hps := Lib.hid hps
            have Hoq := Lib.hid hoq
            have hG1 : Good q.1 (2000 - 20 * (k + 1) + 1) := hG.mono (by omega)
            have HFr := Lib.hid (ib_Frames ic L0 q.1 wr hO.sys.box (by have := hG.wait; omega) hG.fine.wait)
            have Hw := Lib.hid hG.fine.wait
            have HO := Lib.hid hO
            have HG1 := Lib.hid hG1
            have HB := Lib.hid hB
            have Hg := Lib.hid (And.intro hg (And.intro hgb hgo))
            clear H hO hG hB hg hgb hgo hG1 hps hoq hq0 Ha
            go_wp2_with fail
            refine HFr.out.mono ?_
            rintro e wF ⟨Af, cf, osf, hlf⟩
            have hretf := hlf.ret
            have hcbF : Blk wF cb 5 #[.int .u8 (x : Int)] := Blk.ext B2.out (HO.out.sys.below.t hlf.ext)
            have HcF := Lib.hid hcbF
            have HF := Lib.hid hlf
            have h0F : Hid (Chg (foots osf) wF wF ∧ Byts wF (osf.drop 0) (q.1.wait.drop 0)) := Lib.hid ⟨Chg.refl _ _, hlf.outs⟩
            have hol : osf.length ≤ 1000000 := by have := hlf.outs.len; have := HG1.out.wait; omega
            clear hlf hcbF HFr
            subst hretf
            go_wp2_with fail
            go_loopw [78] (fun i wz => ∃ (m : Nat), m ≤ osf.length ∧ i = .int .i64 (m : Int) ∧ Hid (Chg (foots osf) wF wz ∧ Byts wz (osf.drop m) (q.1.wait.drop m))) (fun i _ => osf.length - (intOf i).toNat)
            case atStart => exact ⟨0, by omega, rfl, h0F⟩
            case round =>
              clear h0F
              obtain ⟨m, hm, rfl, H⟩ := hrel
              by_cases hmt : m < osf.length
              · have hmt' : (m : Int) < (osf.length : Int) := by omega
                have hRm : Room wr Af osf.length cf (osf.map slv) := HF.out.room.chg H.out.1 (fun j hj hT => (HF.out.no j hT).2 hj)
                obtain ⟨bf, oF, sf, hAf, _, hs, hc⟩ := (Room.rd hRm).at_ hmt
                obtain ⟨ff, hf0, hbs⟩ := H.out.2.at_ 0 sf (by rw [List.getElem?_drop]; simpa using hs)
                have hff : q.1.wait[m]? = some ff := by rw [List.getElem?_drop] at hf0; simpa using hf0
                have hfl : ff.length ≤ 1000000 := Hw.out ff (List.mem_of_getElem? hff)
                have hsn : sf.n = ff.length := by have := hbs.room.1; simpa using this.symm
                have hsm : sf.n ≤ 1000000 := by omega
                have Hs := Lib.hid hs
                have Hff := Lib.hid hff
                have Hbs := Lib.hid hbs
                have HcR := Lib.hid (HcF.out.chg H.out.1 (fun h => by have := (HF.out.no cb h).1; have := B2.out.lt; have := HO.out.sys.below.size; omega))
                unfold slv at hc
                clear hRm hs hf0 hff hbs hfl hsn
                rw [hAf]
                go_wp2_with fail
                go_loopw [84] (fun i wy => ∃ (j : Nat) (old : List Value), j ≤ sf.n ∧ i = .int .i64 (j : Int) ∧ Room wy sf.A sf.n sf.c old ∧ Chg (foot sf.A sf.c) wr wy) (fun i _ => sf.n - (intOf i).toNat)
                case atStart => exact ⟨0, _, by omega, rfl, Hbs.out.room, Chg.refl _ _⟩
                case round =>
                  clear hc hAf
                  obtain ⟨j, old, hj, rfl, hr, hchr⟩ := hrel
                  by_cases hjt : j < sf.n
                  · have hjt' : (j : Int) < (sf.n : Int) := by omega
                    have hsc := hr.2.1
                    obtain ⟨g', o', hA, _⟩ := hr.some_ (by omega)
                    have hcc := (HcR.out.chg hchr (fun h => by have := (HF.out.no cb ⟨sf, List.mem_of_getElem? Hs.out, h⟩).1; have := B2.out.lt; have := HO.out.sys.below.size; omega)).cell0
                    rw [hA] at hr hchr ⊢
                    obtain ⟨u, hu⟩ : ∃ u, old[j]? = some u := ⟨old[j]'(by rw [hr.1]; exact hjt), List.getElem?_eq_getElem _⟩
                    have hc1 := hr.cellAt hu
                    have hz1 := hr.frozenAt (k := j) (by omega)
                    have hset := hr.set hjt (.int .u8 (x : Int))
                    have Hset := Lib.hid hset
                    have Hchr := Lib.hid hchr
                    clear hA hu hsc hr hchr hset
                    go_wp2_with fail
                    go_roundw
                    case rel => exact ⟨j + 1, _, by omega, by go_num, Hset.out, Hchr.out.t (Chg.set _ _ _ _ ⟨by have := Hset.out.2.1; omega, o', rfl⟩)⟩
                    case measure => simp [intOf]; omega
                  · obtain rfl : j = sf.n := by omega
                    have hdr : osf.drop m = sf :: osf.drop (m + 1) := by
                      obtain ⟨h, e⟩ := List.getElem?_eq_some_iff.1 Hs.out
                      rw [List.drop_eq_getElem_cons h, e]
                    have hgr : q.1.wait.drop m = ff :: q.1.wait.drop (m + 1) := by
                      obtain ⟨h, e⟩ := List.getElem?_eq_some_iff.1 Hff.out
                      rw [List.drop_eq_getElem_cons h, e]
                    have h4 := H.out.2
                    rw [hdr, hgr] at h4
                    have hap : Apart (sf :: osf.drop (m + 1)) := by
                      rw [← hdr]; exact List.Pairwise.drop HF.out.ap
                    have Hfin : Hid (Chg (foots osf) wF wr ∧ Byts wr (osf.drop (m + 1)) (q.1.wait.drop (m + 1))) := Lib.hid
                      ⟨H.out.1.trans hchr (fun i _ hT => ⟨sf, List.mem_of_getElem? Hs.out, hT⟩), h4.tail.2.chg hchr (fun i hi h => (apart_cons hap).1 i h hi)⟩
                    clear hap h4 hgr hdr hr hchr
                    go_wp2_with fail
                    go_roundw
                    case rel => exact ⟨m + 1, by omega, by go_num, Hfin⟩
                    case measure => simp [intOf]; omega
              · obtain rfl : m = osf.length := by omega
                have hbig : ∀ j, foots osf j → ¬ boxF ic L0 j ∧ ¬ outF ob A0 c0 os0 j ∧ w2.heap.size ≤ j ∧ j ≠ g := fun j hj => by
                  have h1 := (HF.out.no j hj).1
                  have h2 := HO.out.sys.below.size
                  have h3 := HB.out.lt
                  exact ⟨fun h => by have := HO.out.sys.box.lt h; omega, fun h => by have := HO.out.out.lt h; omega, by omega, by omega⟩
                have HO2 := Lib.hid ((HO.out.ext HF.out.ext).chg H.out.1 (fun j hj => ⟨(hbig j hj).1, (hbig j hj).2.1, (hbig j hj).2.2.1⟩))
                have hB2 := (Blk.ext HB.out HF.out.ext).chg H.out.1 (fun h => (hbig g h).2.2.2 rfl)
                have cg1 : wr.cell? ⟨g, 1, none⟩ = some (.slice s.A s.n s.c) := by rw [hB2.cell]; rfl
                have hq := fun w' => run_neq_slice_nil_any (P := Try.prog) w' 29 5 s.A s.n s.c 0 0 ul_u8
                clear H HF HO HB hbig hB2 HcF hm hol hmt
                obtain ⟨tt, fr⟩ := a
                simp only at Hv Hps hlt256 ht10
                have hsame : ∀ (e : putOf (tt, fr) = none), OwnK w2 ic ob al (k + 1) wr := fun e => by
                  unfold OwnK
                  rw [Hps.out, e]
                  exact ⟨L0, A0, n0, c0, os0, HO2.out, HG1.out.mono (by omega)⟩
                have Hsame := Lib.hid hsame
                clear hsame
                cases fr with
                | none =>
                  have hA : s.A = none := Hv.out.1
                  rw [hA] at hq cg1
                  simp only [Option.isNone_none, Bool.not_true] at hq
                  clear hA
                  go_wp2_with fail
                  go_roundw
                  case rel => exact ⟨k + 1, by omega, by go_num, Lib.hid (Hsame.out rfl)⟩
                  case measure => simp [intOf]; omega
                | some xs =>
                  obtain ⟨hA, hrd, hxx⟩ := Hv.out
                  have hi : s.A.isNone = false := by cases hs : s.A with
                    | none => exact absurd hs hA
                    | some _ => rfl
                  rw [hi] at hq
                  simp only [Bool.not_false] at hq
                  have hsl := hrd.1
                  by_cases hx40 : xs.length ≤ 40
                  · have hn40 : (s.n : Int) ≤ 40 := by omega
                    have Hx40 := Lib.hid hx40
                    have HC := Lib.hid (bytes_Clone s.A s.n s.c xs wr (hrd.ext HO2.out.sys.below) hxx (by omega))
                    clear hA hrd hxx hi hx40 Hsame
                    go_wp2_with fail
                    refine HC.out.mono ?_
                    rintro e w5 ⟨sq, he, hcl⟩
                    have hsq : sq.n ≤ 40 := by have := hcl.n_; omega
                    have HPt := Lib.hid (sys_Put (HO2.out.sys.ext hcl.ext) HG1.out sq.A sq.n sq.c xs hcl.byt.rd hcl.byt.lt (by have := Hx40.out; omega))
                    have Hcl := Lib.hid hcl
                    clear hcl HC
                    unfold slv at he
                    subst he
                    go_wp2_with fail
                    refine HPt.out.mono ?_
                    rintro e w6 ⟨L6, A6, n6, c6, os6, got⟩
                    have hret := got.ret
                    have Hgot := Lib.hid got
                    have hr6 : Room w6 sq.A sq.n sq.c (xs.map u8v) := Hcl.out.byt.room.chg got.step.chg (fun j hj hb => by have := Hcl.out.new j hj; have := HO2.out.sys.box.lt hb; omega)
                    have hc6 : Blk w6 cb 5 #[.int .u8 (x : Int)] := Blk.ext B2.out got.sys.below
                    have Hc6 := Lib.hid hc6
                    clear got hc6 HPt
                    subst hret
                    go_wp2_with fail
                    go_loopw [113] (fun i wy => ∃ (j : Nat) (old : List Value), j ≤ sq.n ∧ i = .int .i64 (j : Int) ∧ Room wy sq.A sq.n sq.c old ∧ Chg (foot sq.A sq.c) w6 wy) (fun i _ => sq.n - (intOf i).toNat)
                    case atStart => exact ⟨0, _, by omega, rfl, hr6, Chg.refl _ _⟩
                    case round =>
                      clear hr6
                      obtain ⟨j, old, hj, rfl, hr, hchr⟩ := hrel
                      have hbig : ∀ j, foot sq.A sq.c j → ¬ boxF ic L6 j ∧ ¬ outF ob A0 c0 os0 j ∧ ¬ foot A6 c6 j ∧ ¬ foots os6 j ∧ w2.heap.size ≤ j := fun j hj => by
                        have h1 := Hcl.out.new j hj
                        have h2 := HO2.out.sys.below.size
                        have h3 := Hcl.out.byt.room.lt hj
                        exact ⟨fun h => (Hgot.out.step.nb j h).elim (fun h => by have := HO2.out.sys.box.lt h; omega) (fun h => by omega), fun h => by have := HO2.out.out.lt h; omega, fun h => by have := Hgot.out.new j (.inl h); omega, fun h => by have := Hgot.out.new j (.inr h); omega, by omega⟩
                      by_cases hjt : j < sq.n
                      · have hjt' : (j : Int) < (sq.n : Int) := by omega
                        have hsc := hr.2.1
                        obtain ⟨g', o', hA, _⟩ := hr.some_ (by omega)
                        have hcc := (Hc6.out.chg hchr (fun h => by have := (hbig cb h).2.2.2.2; have := B2.out.lt; omega)).cell0
                        rw [hA] at hr hchr ⊢
                        obtain ⟨u, hu⟩ : ∃ u, old[j]? = some u := ⟨old[j]'(by rw [hr.1]; exact hjt), List.getElem?_eq_getElem _⟩
                        have hc1 := hr.cellAt hu
                        have hz1 := hr.frozenAt (k := j) (by omega)
                        have hset := hr.set hjt (.int .u8 (x : Int))
                        have Hset := Lib.hid hset
                        have Hchr := Lib.hid hchr
                        clear hA hu hsc hr hchr hset hbig
                        go_wp2_with fail
                        go_roundw
                        case rel => exact ⟨j + 1, _, by omega, by go_num, Hset.out, Hchr.out.t (Chg.set _ _ _ _ ⟨by have := Hset.out.2.1; omega, o', rfl⟩)⟩
                        case measure => simp [intOf]; omega
                      · obtain rfl : j = sq.n := by omega
                        have hf1 : ∀ f ∈ (putF q.1 xs).2, f.length ≤ 1000000 := fun f hf =>
                          (put_ord Hoq.out xs).short (fun f hf => (List.mem_append.1 hf).elim (putL_lt _ f) (fun h => by simp at h; rw [h]; exact Hx40.out)) f (List.mem_append_right _ hf)
                        have HSp := Lib.hid ((HO2.out.ext Hcl.out.ext).spoil (cb := cb) (x := x) Hgot.out hchr hbig B2.out (put_ans _ _) hf1 (by have := (put_good _ xs _ HG1.out (by have := Hx40.out; omega)).fine.ans; omega))
                        clear hf1 hbig hr hchr
                        go_wp2_with fail
                        refine HSp.out.mono ?_
                        rintro e w7 ⟨rfl, A7, n7, c7, os7, h1, _, _, _⟩
                        have H7 : Hid (OwnK w2 ic ob al (k + 1) w7) := by
                          have e1 : putOf (tt, some xs) = some xs := by show (if xs.length ≤ 40 then some xs else none) = some xs; rw [if_pos Hx40.out]
                          refine Lib.hid ?_
                          unfold OwnK
                          rw [Hps.out, e1]
                          exact ⟨L6, A7, n7, c7, os7, h1, put_good _ xs _ HG1.out (by have := Hx40.out; omega)⟩
                        clear h1
                        go_wp2_with fail
                        go_roundw
                        case rel => exact ⟨k + 1, by omega, by go_num, H7⟩
                        case measure => simp [intOf]; omega
                  · have hn40 : ¬ (s.n : Int) ≤ 40 := by omega
                    have He : Hid (putOf (tt, some xs) = none) := Lib.hid (by show (if xs.length ≤ 40 then some xs else none) = none; rw [if_neg hx40])
                    clear hA hrd hxx hi hsl hx40
                    go_wp2_with fail
                    go_roundw
                    case rel => exact ⟨k + 1, by omega, by go_num, Lib.hid (Hsame.out He.out)⟩
                    case measure => simp [intOf]; omega
      · obtain rfl : k = 40 := by omega
        obtain ⟨L0, A0, n0, c0, os0, hO, _⟩ := H.out
        have e0 : ∀ j, al.length ≤ j → al.take j = al := fun j h => List.take_of_length_le h
        rw [e0 _ (by rw [HX.out.len]; exact Nat.le_refl _), ← Hpl.out.res] at hO
        have hRb := Hpl.out.resp.ext hO.sys.below
        have hnn : n0 ≤ maxLen := Nat.le_trans hO.out.room.2.1 hO.out.room.2.2.1
        have hfr := framesR A0 A2 n0 n2 c0 c2 os0 os outs outs wr (Room.rd hO.out.room) (Reads.of hO.out.byt) hRb.rd (Reads.of hRb.byt) hnn hRb.le
        rw [decide_eq_true (rfl : outs = outs)] at hfr
        have HFr := Lib.hid hfr
        have hcb := hO.out.blk.cell0
        have Hend := Lib.hid (E2.out.t hO.sys.below)
        clear H hO hRb hfr e0 hnn
        go_wp2_with fail
        refine HFr.out.mono ?_; rintro e wx ⟨rfl, rfl⟩
        go_wp2_with fail
        go_ret
        exact ⟨rfl, Hend.out⟩
theorem walkInboxOwn (A : Option Addr) (n c : Nat) (al : List ActN) (a : Int) (w : World) (h : ActsArg w A n c al) (ha : (Lit.int .u8 a).wf = true) :
    Calls Try.prog 10 #[.slice A n c, .int .u8 a] w fun e w' => e = .returned (.bool true) ∧ Ext w w' := by
  have h1 := bounds_u8 ha
  obtain ⟨d, rfl⟩ : ∃ d : Nat, a = (d : Int) := ⟨a.toNat, by omega⟩
  exact own_ A n c d al w h.acts h.le h.max
end Go.Proofs.Ytpipnefepnknoaa
