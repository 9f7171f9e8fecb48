/- InboxOwn's function value: it puts copies of what came behind what came before, and writes over what came. -/
import Derived.Test.YtpipnefepnknoaaRan
import Derived.Deep.CutRange
import Derived.Deep.RegionHeldLaw
namespace Go.Proofs.Ytpipnefepnknoaa
open Go.RowKit Go.Fx
/-- A list of frames in a variable of its own. -/
structure Out (w : World) (ob : Nat) (A : Option Addr) (n c : Nat) (os : List Sl) (outs : List (List Nat)) : Prop where
  blk : Blk w ob 25 #[.slice A n c]
  room : Room w A n c (os.map slv)
  byt : Byts w os outs
  len : os.length = n
  sep : ∀ k, foots os k → ¬ foot A c k
  ob1 : ¬ foot A c ob
  ob2 : ¬ foots os ob
def outF (ob : Nat) (A : Option Addr) (c : Nat) (os : List Sl) (k : Nat) : Prop := k = ob ∨ foot A c k ∨ foots os k
theorem Out.lt {w : World} {ob : Nat} {A : Option Addr} {n c : Nat} {os : List Sl} {outs : List (List Nat)} (h : Out w ob A n c os outs) {k : Nat} (hk : outF ob A c os k) : k < w.heap.size := by
  rcases hk with rfl | hk | hk
  · exact h.blk.lt
  · exact h.room.lt hk
  · exact Byts.lt h.byt hk
theorem Out.chg {w w' : World} {T : Nat → Prop} {ob : Nat} {A : Option Addr} {n c : Nat} {os : List Sl} {outs : List (List Nat)} (h : Out w ob A n c os outs) (ch : Chg T w w') (hT : ∀ k, outF ob A c os k → ¬ T k) : Out w' ob A n c os outs :=
  ⟨h.blk.chg ch (hT _ (.inl rfl)), h.room.chg ch (fun k hk => hT k (.inr (.inl hk))), h.byt.chg ch (fun k hk => hT k (.inr (.inr hk))), h.len, h.sep, h.ob1, h.ob2⟩
theorem Out.ext {w w' : World} {ob : Nat} {A : Option Addr} {n c : Nat} {os : List Sl} {outs : List (List Nat)} (h : Out w ob A n c os outs) (e : Ext w w') : Out w' ob A n c os outs := h.chg (T := fun _ => False) (Chg.ofExt e) (fun _ _ t => t)
/-- A copy is put behind. -/
theorem Out.push {w w1 w2 : World} {ob : Nat} {A A' : Option Addr} {n c c' : Nat} {os : List Sl} {outs : List (List Nat)} {s : Sl} {f : List Nat} (h : Out w ob A n c os outs) (e1 : Ext w w1) (hb : Byt w1 s f) (hn : ∀ k, foot s.A s.c k → w.heap.size ≤ k)
    (r : Room w2 A' (n + 1) c' (os.map slv ++ [slv s])) (ch : Chg (foot A c) w1 w2) (ft : ∀ k, foot A' c' k → foot A c k ∨ w1.heap.size ≤ k) :
    Out (w2.setCell ⟨ob, 0, none⟩ (.slice A' (n + 1) c')) ob A' (n + 1) c' (os ++ [s]) (outs ++ [f]) ∧ Chg (fun k => k = ob ∨ foot A c k) w (w2.setCell ⟨ob, 0, none⟩ (.slice A' (n + 1) c')) ∧ (∀ k, outF ob A' c' (os ++ [s]) k → outF ob A c os k ∨ w.heap.size ≤ k) := by
  have hz1 := e1.size
  have hlo := h.blk.lt
  have cs : Chg (fun k => k = ob) w2 (w2.setCell ⟨ob, 0, none⟩ (.slice A' (n + 1) c')) := Chg.set _ _ _ _ rfl
  have ob1 : ¬ foot A' c' ob := fun h1 => (ft ob h1).elim h.ob1 (fun h2 => by omega)
  have hbs : ∀ k, foot s.A s.c k → k < w1.heap.size := fun k hk => hb.room.lt hk
  have ob2 : ¬ foots (os ++ [s]) ob := fun h1 => (foots_append.1 h1).elim h.ob2 (fun h2 => by have := hn _ (foots_one.1 h2); omega)
  have hsep : ∀ k, foots (os ++ [s]) k → ¬ foot A c k := fun k hk => (foots_append.1 hk).elim (h.sep k) (fun h2 h3 => by have := hn _ (foots_one.1 h2); have := h.room.lt h3; omega)
  have hlt : ∀ k, foots (os ++ [s]) k → k < w1.heap.size := fun k hk => (foots_append.1 hk).elim (fun h2 => by have := Byts.lt h.byt h2; omega) (fun h2 => hbs k (foots_one.1 h2))
  have hy : Byts w2 (os ++ [s]) (outs ++ [f]) := ((h.byt.ext e1).snoc hb).chg ch hsep
  refine ⟨⟨(((h.blk.ext e1).chg ch h.ob1).set0 _), by rw [List.map_append]; exact r.chg cs (fun k hk e => ob1 (e ▸ hk)), hy.chg cs (fun k hk e => ob2 (e ▸ hk)), by rw [List.length_append, h.len]; rfl, fun k hk hk2 => (ft k hk2).elim (hsep k hk) (fun h2 => by have := hlt k hk; omega), ob1, ob2⟩,
    ((Chg.ofExt e1).trans ch (fun k _ hk => .inr hk)).trans cs (fun k _ hk => .inl hk), fun k hk => ?_⟩
  rcases hk with rfl | hk | hk
  · exact .inl (.inl rfl)
  · exact (ft k hk).imp (fun h1 => .inr (.inl h1)) (fun h1 => by omega)
  · rcases foots_append.1 hk with h1 | h1
    · exact .inl (.inr (.inr h1))
    · exact .inr (hn k (foots_one.1 h1))
/-- What the function value leaves. -/
def SpoilP (w : World) (ob : Nat) (A : Option Addr) (n c : Nat) (os : List Sl) (outs gots : List (List Nat)) (osg : List Sl) (ng : Nat) (e : Ending) (w' : World) : Prop :=
  ∃ A' c' os', e = .returned (.tuple #[]) ∧ Out w' ob A' (n + ng) c' os' (outs ++ gots) ∧ Chg (fun k => outF ob A c os k ∨ foots osg k) w w' ∧ (∀ k, outF ob A' c' os' k → outF ob A c os k ∨ w.heap.size ≤ k)
set_option maxRecDepth 100000 in
set_option maxHeartbeats 2000000 in
theorem spoil_ (w : World) (ob cb x : Nat) (A : Option Addr) (n c : Nat) (os : List Sl) (outs : List (List Nat)) (Ag : Option Addr) (ng cg : Nat) (osg : List Sl) (gots : List (List Nat)) (ho : Out w ob A n c os outs) (hcb : Blk w cb 5 #[.int .u8 (x : Int)])
    (hr : Room w Ag ng cg (osg.map slv)) (hy : Byts w osg gots) (hap : Apart osg) (hl : osg.length = ng) (hsep : ∀ k, foots osg k → ¬ foot Ag cg k) (hd : ∀ k, foot Ag cg k ∨ foots osg k → ¬ outF ob A c os k ∧ k ≠ cb) (hdc : ¬ outF ob A c os cb)
    (hf : ∀ f ∈ gots, f.length ≤ 1000000) (hn : n + ng ≤ 100000000) :
    Calls Try.prog 26 #[.slice Ag ng cg, .pointer (some ⟨ob, 0, none⟩), .pointer (some ⟨cb, 0, none⟩)] w (SpoilP w ob A n c os outs gots osg ng) := by
  have HO := Lib.hid ho
  have Hcb := Lib.hid hcb
  have Hr := Lib.hid hr
  have Hy := Lib.hid hy
  have Hap := Lib.hid hap
  have Hl := Lib.hid hl
  have Hsep := Lib.hid hsep
  have Hd := Lib.hid hd
  have Hdc := Lib.hid hdc
  have Hf := Lib.hid hf
  clear ho hcb hr hy hap hl hsep hd hdc hf
  go_enter Try.func26, Try.ntmps26
  go_wp2_with fail
  go_loopw [9] (fun i wr => ∃ (k : Nat), k ≤ ng ∧ i = .int .i64 (k : Int) ∧ Hid (∃ A' c' os', Out wr ob A' (n + k) c' os' (outs ++ gots.take k) ∧ Chg (fun k => outF ob A c os k ∨ foots osg k) w wr ∧ (∀ k, outF ob A' c' os' k → outF ob A c os k ∨ w.heap.size ≤ k) ∧ Byts wr (osg.drop k) (gots.drop k))) (fun i _ => ng - (intOf i).toNat)
  case atStart => exact ⟨0, by omega, rfl, Lib.hid ⟨A, c, os, by simpa using HO.out, Chg.refl _ _, fun k hk => .inl hk, Hy.out⟩⟩
  case round =>
    obtain ⟨k, hk, rfl, H⟩ := hrel
    by_cases hlt : k < ng
    · have hlt' : (k : Int) < (ng : Int) := by omega
      obtain ⟨A', c', os', h1, h2, h3, h4⟩ := H.out
      have hRg : Room wr Ag ng cg (osg.map slv) := Hr.out.chg h2 (fun j hj hT => hT.elim (fun h => (Hd.out j (.inl hj)).1 h) (fun h => Hsep.out j h hj))
      obtain ⟨b, o, s, rfl, _, hs, hc⟩ := (Room.rd hRg).at_ hlt
      obtain ⟨f, hf0, hbs⟩ := h4.at_ 0 s (by rw [List.getElem?_drop]; simpa using hs)
      have hf : gots[k]? = some f := by rw [List.getElem?_drop] at hf0; simpa using hf0
      have hfl : f.length ≤ 1000000 := Hf.out f (List.mem_of_getElem? hf)
      have hsn : s.n = f.length := by have := hbs.room.1; simpa using this.symm
      have HC := Lib.hid (fun w' (e : Ext wr w') => bytes_Clone s.A s.n s.c f w' (hbs.ext e).rd hbs.lt (by omega))
      have hnk : n + k ≤ 100000000 := by omega
      have hsm : s.n ≤ 1000000 := by omega
      have Hfk := Lib.hid hf
      have Hsk := Lib.hid hs
      have H1 := Lib.hid h1
      have H2 := Lib.hid h2
      have H3 := Lib.hid h3
      have H4 := Lib.hid h4
      have Hbs := Lib.hid hbs
      have hob := h1.blk.lt
      have hcd : wr.drew.cell? ⟨ob, 0, none⟩ = some (.slice A' (n + k) c') := ((Ext.drew wr).cell (p := ⟨ob, 0, none⟩) hob).trans h1.blk.cell0
      unfold slv at hc
      clear H h1 h2 h3 h4 hf0 hf hs hbs hfl hsn hRg
      go_upto_region 3 with fail
      go_cut [17] from 13 to 16 (fun v wx => ∃ A5 c5 os5, v = .slice A5 (n + k + 1) c5 ∧ Hid (Out wx ob A5 (n + k + 1) c5 os5 (outs ++ gots.take k ++ [f]) ∧ Chg (fun k => k = ob ∨ foot A' c' k) wr wx ∧ (∀ k, outF ob A5 c5 os5 k → outF ob A' c' os' k ∨ wr.heap.size ≤ k)))
      case first =>
        clear hc
        go_region_law
          (first
            | (go_simp; go_at_call 27; refine (HC.out _ (Ext.drew _)).mono ?_; rintro e wq ⟨sq, he, hq⟩; have hcq := (hq.ext.cell (p := ⟨ob, 0, none⟩) (by have := hob; simpa using this)).trans hcd; have hca := ((Ext.alloc wq (.cells #[.slice sq.A sq.n sq.c] 29)).cell (p := ⟨ob, 0, none⟩) (Nat.lt_of_lt_of_le hob (by have := hq.ext.size; simpa using this))).trans hcq; have Hq := Lib.hid hq; clear hq; unfold slv at he; subst he)
            | (refine step_append_at (m := 1) rfl rfl ul_bb info_bb rfl (by simp [Act.eval]; try rfl) (H1.out.room.ext (((Ext.drew _).t Hq.out.ext).t (Ext.alloc _ _))) (by simp [Act.eval]; rfl) (Src.ofRd (f := slv) (xs := [sq]) ul_bb ((Blk.new _ _ _).rd rfl rfl) (fun _ => rfl)) (by simp only [maxLen]; omega) (by omega) ?_
               intro A5 c5 w5 r5 ch5 ft5
               have e15 := ((Ext.drew wr).t Hq.out.ext).t (Ext.alloc wq (.cells #[.slice sq.A sq.n sq.c] 29))
               have hb5 := ((H1.out.blk.ext e15).chg ch5 H1.out.ob1)
               have cb5 := hb5.cell0
               have fb5 := hb5.frozen 0))
        all_goals go_wp2_with fail
        all_goals go_simp
        all_goals go_meet
        all_goals exact ⟨A5, c5, os' ++ [sq], rfl, Lib.hid (H1.out.push e15 (Hq.out.byt.ext (Ext.alloc _ _)) (fun j hj => by have := Hq.out.new j hj; simpa using this) r5 ch5 ft5)⟩
      case rest =>
      obtain ⟨A5, c5, os5, rfl, H5⟩ := hcut
      have hr5 : Room wc s.A s.n s.c (f.map u8v) := by
        refine Hbs.out.room.chg H5.out.2.1 (fun j hj hT => ?_)
        have hfs : foots osg j := ⟨s, List.mem_of_getElem? Hsk.out, hj⟩
        have hn1 : ¬ outF ob A' c' os' j := fun h => by
          rcases H3.out j h with h1 | h1
          · exact (Hd.out j (.inr hfs)).1 h1
          · have := Byts.lt Hy.out hfs; omega
        exact hT.elim (fun h => hn1 (.inl h)) (fun h => hn1 (.inr (.inl h)))
      have hmem : ∀ j, foot s.A s.c j → foots osg j := fun j hj => ⟨s, List.mem_of_getElem? Hsk.out, hj⟩
      have hn5 : ∀ j, outF ob A5 c5 os5 j → ¬ foots osg j := fun j hj hfs => by
        have hlj := Byts.lt Hy.out hfs
        rcases H5.out.2.2 j hj with h1 | h1
        · rcases H3.out j h1 with h2 | h2
          · exact (Hd.out j (.inr hfs)).1 h2
          · omega
        · have := H2.out.size; omega
      have hn2 : ∀ j, foots osg j → ¬ (j = ob ∨ foot A' c' j) := fun j hfs hT => by
        have hlj := Byts.lt Hy.out hfs
        rcases H3.out j (hT.elim .inl (fun h => .inr (.inl h))) with h2 | h2
        · exact (Hd.out j (.inr hfs)).1 h2
        · omega
      have hcb : Blk wc cb 5 #[.int .u8 (x : Int)] := by
        refine (Hcb.out.chg H2.out (fun h => h.elim Hdc.out (fun h => (Hd.out cb (.inr h)).2 rfl))).chg H5.out.2.1 (fun h => ?_)
        rcases H3.out cb (h.elim .inl (fun h => .inr (.inl h))) with h1 | h1
        · exact Hdc.out h1
        · have := Hcb.out.lt; omega
      have Hmem := Lib.hid hmem
      have Hn5 := Lib.hid hn5
      have Hn2 := Lib.hid hn2
      have HcB := Lib.hid hcb
      clear hmem hn5 hn2
      clear hcb
      go_wp2_with fail
      go_loopw [20] (fun i wr => ∃ (j : Nat) (old : List Value), j ≤ s.n ∧ i = .int .i64 (j : Int) ∧ Room wr s.A s.n s.c old ∧ Chg (foot s.A s.c) wc wr) (fun i _ => s.n - (intOf i).toNat)
      case atStart => exact ⟨0, _, by omega, rfl, hr5, Chg.refl _ _⟩
      case round =>
        obtain ⟨j, old, hj, rfl, hr, hchr⟩ := hrel
        by_cases hjt : j < s.n
        · have hjt' : (j : Int) < (s.n : Int) := by omega
          have hsc := hr.2.1
          obtain ⟨g', o', hA, _⟩ := hr.some_ (by omega)
          have hcc := (HcB.out.chg hchr (fun h => (Hd.out cb (.inr (Hmem.out cb h))).2 rfl)).cell0
          rw [hA] at hr hchr ⊢
          obtain ⟨u, hu⟩ : ∃ u, old[j]? = some u := ⟨old[j]'(by rw [hr.1]; exact hjt), List.getElem?_eq_getElem _⟩
          have hc1 := hr.cellAt hu
          have hz1 := hr.frozenAt (k := j) (by omega)
          have hset := hr.set hjt (.int .u8 (x : Int))
          have Hset := Lib.hid hset
          have Hchr := Lib.hid hchr
          clear hA hu hsc hr hchr hset
          go_wp2_with fail
          go_roundw
          case rel => exact ⟨j + 1, _, by omega, by go_num, Hset.out, Hchr.out.t (Chg.set _ _ _ _ ⟨by have := Hset.out.2.1; omega, o', rfl⟩)⟩
          case measure => simp [intOf]; omega
        · obtain rfl : j = s.n := by omega
          have hdr : osg.drop k = s :: osg.drop (k + 1) := by
            obtain ⟨h, e⟩ := List.getElem?_eq_some_iff.1 Hsk.out
            rw [List.drop_eq_getElem_cons h, e]
          have hgr : gots.drop k = f :: gots.drop (k + 1) := by
            obtain ⟨h, e⟩ := List.getElem?_eq_some_iff.1 Hfk.out
            rw [List.drop_eq_getElem_cons h, e]
          have h4 := H4.out
          rw [hdr, hgr] at h4
          have hap : Apart (s :: osg.drop (k + 1)) := by
            rw [← hdr]; exact List.Pairwise.drop Hap.out
          have hsub : ∀ i, foots (osg.drop (k + 1)) i → foots osg i := fun i ⟨z, hz, hi⟩ => ⟨z, List.mem_of_mem_drop hz, hi⟩
          have hfin : ∃ A' c' os', Out wr ob A' (n + (k + 1)) c' os' (outs ++ gots.take (k + 1)) ∧ Chg (fun k => outF ob A c os k ∨ foots osg k) w wr ∧ (∀ k, outF ob A' c' os' k → outF ob A c os k ∨ w.heap.size ≤ k) ∧ Byts wr (osg.drop (k + 1)) (gots.drop (k + 1)) := by
            have ho5 := H5.out.1.chg hchr (fun i hi h => Hn5.out i hi (Hmem.out i h))
            rw [List.append_assoc, ← take_snoc Hfk.out] at ho5
            refine ⟨A5, c5, os5, ho5, (H2.out.trans H5.out.2.1 (fun i hi hT => ?_)).trans hchr (fun i _ hT => .inr (Hmem.out i hT)), fun i hi => ?_, (h4.tail.2.chg H5.out.2.1 (fun i hi => Hn2.out i (hsub i hi))).chg hchr (fun i hi h => (apart_cons hap).1 i h hi)⟩
            · rcases H3.out i (hT.elim .inl (fun h => .inr (.inl h))) with h1 | h1
              · exact .inl h1
              · omega
            · rcases H5.out.2.2 i hi with h1 | h1
              · exact H3.out i h1
              · exact .inr (Nat.le_trans H2.out.size h1)
          have Hfin := Lib.hid hfin
          clear hfin hsub hap h4 hgr hdr hr hchr
          go_wp2_with fail
          go_roundw
          case rel => exact ⟨k + 1, by omega, by go_num, Hfin⟩
          case measure => simp [intOf]; omega
    · obtain rfl : ng = k := by omega
      obtain ⟨A', c', os', h1, h2, h3, h4⟩ := H.out
      have hg : gots.take ng = gots := List.take_of_length_le (by rw [← Hy.out.len, Hl.out]; exact Nat.le_refl _)
      rw [hg] at h1
      have HF : Hid (SpoilP w ob A n c os outs gots osg ng (.returned (.tuple #[])) wr) := Lib.hid ⟨A', c', os', rfl, h1, h2, h3⟩
      clear H h1 h2 h3 h4 hg
      go_wp2_with fail
      exact bodyPost_ret (v := .tuple #[]) (by simp [results, Try.results26, go_sem]) rfl HF.out
/-- An inbox, and a variable with copies of what it answered. -/
structure Own (w0 w : World) (ic ob : Nat) (L : Lay) (A : Option Addr) (n c : Nat) (os : List Sl) (p : St × List (List Nat)) : Prop where
  sys : Sys w0 w ic L p.1
  out : Out w ob A n c os p.2
  ans : p.2.length = p.1.ans
  far : ∀ j, outF ob A c os j → ¬ boxF ic L j ∧ w0.heap.size ≤ j
theorem Own.chg {w0 w w1 : World} {ic ob : Nat} {L : Lay} {A : Option Addr} {n c : Nat} {os : List Sl} {p : St × List (List Nat)} {T : Nat → Prop} (h : Own w0 w ic ob L A n c os p) (ch : Chg T w w1) (hT : ∀ j, T j → ¬ boxF ic L j ∧ ¬ outF ob A c os j ∧ w0.heap.size ≤ j) : Own w0 w1 ic ob L A n c os p :=
  ⟨h.sys.chg ch (fun j hj => ⟨(hT j hj).1, (hT j hj).2.2⟩), h.out.chg ch (fun j hj ht => (hT j ht).2.1 hj), h.ans, h.far⟩
theorem Own.ext {w0 w w1 : World} {ic ob : Nat} {L : Lay} {A : Option Addr} {n c : Nat} {os : List Sl} {p : St × List (List Nat)} (h : Own w0 w ic ob L A n c os p) (e : Ext w w1) : Own w0 w1 ic ob L A n c os p := h.chg (T := fun _ => False) (Chg.ofExt e) (fun _ t => t.elim)
def OwnP (w0 w : World) (ic ob : Nat) (L L1 : Lay) (A : Option Addr) (c : Nat) (os : List Sl) (T : Nat → Prop) (p : St × List (List Nat)) (e : Ending) (w2 : World) : Prop :=
  e = .returned (.tuple #[]) ∧ ∃ A' n' c' os', Own w0 w2 ic ob L1 A' n' c' os' p ∧ Chg (fun j => boxF ic L j ∨ outF ob A c os j ∨ T j) w w2 ∧ (∀ j, boxF ic L1 j → boxF ic L j ∨ w.heap.size ≤ j) ∧ (∀ j, outF ob A' c' os' j → outF ob A c os j ∨ w.heap.size ≤ j)
/-- A call of the inbox, and the function value behind it (T: what is written between). -/
theorem Own.spoil {w0 w w1 w1' : World} {ic ob cb x : Nat} {L L1 : Lay} {A : Option Addr} {n c : Nat} {os : List Sl} {st : St} {outs : List (List Nat)} {res : St × List (List Nat)} {e : Ending} {Ag : Option Addr} {ng cg : Nat} {osg : List Sl} {T : Nat → Prop}
    (h : Own w0 w ic ob L A n c os (st, outs)) (got : Got w0 w ic L res e w1 L1 Ag ng cg osg) (ch1 : Chg T w1 w1') (hT : ∀ j, T j → ¬ boxF ic L1 j ∧ ¬ outF ob A c os j ∧ ¬ foot Ag cg j ∧ ¬ foots osg j ∧ w0.heap.size ≤ j)
    (hcb : Blk w0 cb 5 #[.int .u8 (x : Int)]) (hres : res.2.length + st.ans = res.1.ans) (hf : ∀ f ∈ res.2, f.length ≤ 1000000) (hb : res.1.ans ≤ 100000000) :
    Calls Try.prog 26 #[.slice Ag ng cg, .pointer (some ⟨ob, 0, none⟩), .pointer (some ⟨cb, 0, none⟩)] w1' (OwnP w0 w ic ob L L1 A c os T (res.1, outs ++ res.2)) := by
  have hz := got.step.chg.size
  have hz1 := ch1.size
  have hz0 := h.sys.below.size
  have hcl := hcb.lt
  have hno : ∀ j, outF ob A c os j → ¬ boxF ic L1 j := fun j hj hb => (got.step.nb j hb).elim (h.far j hj).1 (fun h1 => by have := h.out.lt hj; omega)
  have hsy := got.sys.chg ch1 (fun j hj => ⟨(hT j hj).1, (hT j hj).2.2.2.2⟩)
  have ho : Out w1' ob A n c os outs := (h.out.chg got.step.chg (fun j hj => (h.far j hj).1)).chg ch1 (fun j hj ht => (hT j ht).2.1 hj)
  have hcb1 : Blk w1' cb 5 #[.int .u8 (x : Int)] := Blk.chg (T := fun _ => False) hcb (Chg.ofExt hsy.below) (fun t => t)
  have hnw : ∀ j, foot Ag cg j ∨ foots osg j → ¬ outF ob A c os j ∧ j ≠ cb := fun j hj => by
    have h1 := got.new j hj
    exact ⟨fun h2 => by have := h.out.lt h2; omega, by omega⟩
  have hnn : n = outs.length := by rw [← h.out.len, h.out.byt.len]
  have hng := got.resp.n_
  refine (spoil_ w1' ob cb x A n c os outs Ag ng cg osg res.2 ho hcb1 (got.resp.room.chg ch1 (fun j hj ht => (hT j ht).2.2.1 hj)) (got.resp.byt.chg ch1 (fun j hj ht => (hT j ht).2.2.2.1 hj)) got.ap got.resp.len got.resp.sep hnw
    (fun hj => by have := (h.far cb hj).2; omega) hf (by have := h.ans; simp only at this; omega)).mono ?_
  rintro e' w2 ⟨A', c', os', rfl, h1, h2, h3⟩
  refine ⟨rfl, A', n + ng, c', os', ⟨hsy.chg h2 (fun j hj => ?_), h1, ?_, fun j hj => ?_⟩, ?_, got.step.nb, fun j hj => (h3 j hj).imp id (fun h4 => by omega)⟩
  · rcases hj with hj | hj
    · exact ⟨hno j hj, (h.far j hj).2⟩
    · exact ⟨got.resp.no j hj, by have := got.new j (.inr hj); omega⟩
  · have := h.ans; simp only [List.length_append] at this ⊢; omega
  · rcases h3 j hj with h4 | h4
    · exact ⟨hno j h4, (h.far j h4).2⟩
    · exact ⟨fun h5 => by have := hsy.box.lt h5; omega, by omega⟩
  · refine ((got.step.chg.mono (fun j _ hj => .inl hj)).trans ch1 (fun j _ hj => .inr (.inr hj))).trans h2 (fun j hlj hj => ?_)
    rcases hj with hj | hj
    · exact .inr (.inl hj)
    · have := got.new j (.inr hj); omega
end Go.Proofs.Ytpipnefepnknoaa
