/- Obg: outbox.Merge. -/
import Derived.Test.YtdjpggnadelnaaaObi
import Derived.Test.YtdjpggnadelnaaaLsa
import Derived.Test.YtdjpggnadelnaaaStF
namespace Go.Fx
open Go.RowKit
def lsB (bs : List (Option (Int × List Ev))) (k : Nat) : List (List Ev) := (List.range k).map (evB bs)
theorem lsB_succ (bs : List (Option (Int × List Ev))) (k : Nat) : lsB bs (k + 1) = lsB bs k ++ [evB bs k] := by
  unfold lsB
  rw [List.range_succ, List.map_append]
  rfl
theorem lsB_len (bs : List (Option (Int × List Ev))) (k : Nat) : (lsB bs k).length = k := by simp [lsB]
theorem ext_put {W1 W : World} (e : Ext W1 W) (l : Nat) (o : Obj) (hl : l < W1.heap.size) : Ext (W1.putObj l o) (W.putObj l o) := by
  have c1 := chg_putI W1 l o
  have c2 := chg_putI W l o
  have z1 : (W1.putObj l o).heap.size = W1.heap.size := by simp [World.putObj]
  have z2 : (W.putObj l o).heap.size = W.heap.size := by simp [World.putObj]
  refine ⟨c2.os.trans (e.os.trans c1.os.symm), c2.tape.trans (e.tape.trans c1.tape.symm), c2.output.trans (e.output.trans c1.output.symm), by rw [z1, z2]; exact e.size, fun k hk => ?_⟩
  rw [z1] at hk
  by_cases h : k = l
  · subst h
    rw [World.putObj_heap_same hl, World.putObj_heap_same (Nat.lt_of_lt_of_le hl e.size)]
  · rw [World.putObj_heap_other h, World.putObj_heap_other h]
    exact e.block k hk
/-- The events of each outbox have its source, and different keys. -/
def BsOk (bs : List (Option (Int × List Ev))) : Prop := ∀ (i : Nat) (s : Int) (l : List Ev), bs[i]? = some (some (s, l)) → Dif l ∧ l.length ≤ 256 ∧ ∀ x ∈ l, x.s = s ∧ EvOk x
theorem badB_zero {bs : List (Option (Int × List Ev))} {k : Nat} (h : badB bs k = 0) : ∃ s l, bs[k]? = some (some (s, l)) ∧ s ∉ srcs (bs.take k) ∧ evB bs k = isort l := by
  unfold badB at h
  split at h
  · next s l hb =>
    refine ⟨s, l, hb, fun hs => ?_, by unfold evB; rw [hb]⟩
    rw [if_pos hs] at h; cases h
  · cases h
theorem lsB_all {bs : List (Option (Int × List Ev))} (hb : BsOk bs) : ∀ (k : Nat), (∀ i, i < k → badB bs i = 0) → (∀ l ∈ lsB bs k, Srt l ∧ l.length ≤ 256 ∧ ∀ x ∈ l, EvOk x) ∧ Dif (lsB bs k).flatten ∧ ∀ x ∈ (lsB bs k).flatten, x.s ∈ srcs (bs.take k)
  | 0, _ => by simp [lsB, Dif]
  | k + 1, h => by
    obtain ⟨h1, h2, h3⟩ := lsB_all hb k (fun i hi => h i (by omega))
    obtain ⟨s, l, hk, hs, he⟩ := badB_zero (h k (by omega))
    obtain ⟨d1, d2, d3⟩ := hb k s l hk
    rw [lsB_succ, srcs_snoc hk, he]
    have hm : ∀ x, x ∈ isort l → x ∈ l := fun x hx => (isort_perm l).mem_iff.1 hx
    refine ⟨fun l' hl' => ?_, ?_, fun x hx => ?_⟩
    · rcases List.mem_append.1 hl' with h' | h'
      · exact h1 l' h'
      · obtain rfl : l' = isort l := by simpa using h'
        exact ⟨isort_srt d1, by rw [isort_len]; exact d2, fun x hx => (d3 x (hm x hx)).2⟩
    · rw [List.flatten_append, List.flatten_cons, List.flatten_nil, List.append_nil]
      refine List.pairwise_append.2 ⟨h2, d1.perm (isort_perm l).symm, fun x hx y hy e => ?_⟩
      have h4 := h3 x hx
      have h5 := (d3 y (hm y hy)).1
      have h6 : x.s = y.s := congrArg Ky.s e
      rw [h6, h5] at h4
      exact hs h4
    · rw [List.flatten_append, List.flatten_cons, List.flatten_nil, List.append_nil] at hx
      rcases List.mem_append.1 hx with h' | h'
      · exact List.mem_append_left _ (h3 x h')
      · exact List.mem_append_right _ (by simpa using (d3 x (hm x h')).1)
/-- What Merge tells: r. -/
def MgB (bs : List (Option (Int × List Ev))) (r : List Ev × Int × Nat) : Prop :=
  ((∀ i, i < bs.length → badB bs i = 0) ∧ r = (isort (lsB bs bs.length).flatten, -1, 0)) ∨ ∃ o, o < bs.length ∧ (∀ i, i < o → badB bs i = 0) ∧ badB bs o ≠ 0 ∧ r = ([], (o : Int), badB bs o)
end Go.Fx
namespace Go.Proofs.Ytdjpggnadelnaaa
open Go.RowKit Go.Fx
attribute [local go_sem] Oper.semAt_some
attribute [local simp, local go_sem] wide_fn
theorem Bxs.ok {w : World} {ps : List (Option Nat)} {bs : List (Option (Int × List Ev))} (h : Bxs w ps bs) : BsOk bs := fun i s l hi => by
  have hlt : i < ps.length := by have := (List.getElem?_eq_some_iff.1 hi).1; have := h.len; omega
  rcases h.at_ i ps[i] (List.getElem?_eq_getElem hlt) with ⟨_, h2⟩ | ⟨g, s', lim, e, evs, A, n, c, _, h2, h3⟩
  · rw [hi] at h2; cases h2
  · rw [hi] at h2; cases h2
    exact ⟨h3.ok.dif, h3.ok.len, fun x hx => ⟨(h3.ok.good x hx).2.2.2.1, h3.evok x hx⟩⟩
def OgM (w : World) (k : Nat) : Prop := k = w.heap.size ∨ k = w.heap.size + 1
/-- What the loop of Merge keeps. -/
structure OgJ (bs : List (Option (Int × List Ev))) (w V : World) (R : Obj) (T : Nat → Prop) (o : Nat) (W : World) : Prop where
  rg : RgJ V (OgM w) R T W
  out : ∃ A c ts, Blk W w.heap.size 56 #[.slice A o c] ∧ Lse (V.heap.size + 2) W A o c ts (lsB bs o) ∧ ∀ k, (foot A c k ∨ foots ts k) → ¬ T k
  wr : Blk W (w.heap.size + 1) 36 #[.int .i64 0]
  ok : ∀ i, i < o → badB bs i = 0
structure OgX (bs : List (Option (Int × List Ev))) (w V : World) (R : Obj) (W : World) : Prop where
  rg : RgJ V (OgM w) R (fun _ => False) W
  out : ∃ A c o, Blk W w.heap.size 56 #[.slice A o c] ∧ Blk W (w.heap.size + 1) 36 #[.int .i64 (badB bs o : Int)] ∧ o < bs.length ∧ (∀ i, i < o → badB bs i = 0) ∧ badB bs o ≠ 0
section
variable {bs : List (Option (Int × List Ev))} {w V : World} {R : Obj} {T : Nat → Prop} {o : Nat} {W W' : World}
theorem OgJ.e (h : OgJ bs w V R T o W) (e : Ext W W') : OgJ bs w V R T o W' := by
  obtain ⟨A, c, ts, h1, h2, h3⟩ := h.out
  exact ⟨h.rg.e e, ⟨A, c, ts, h1.ext e, h2.ext e, h3⟩, h.wr.ext e, h.ok⟩
theorem OgJ.put (h : OgJ bs w V R T o W) (hV : w.heap.size + 2 ≤ V.heap.size) (R' : Obj) : OgJ bs w V R' T o (W.putObj (V.heap.size + 1) R') := by
  obtain ⟨A, c, ts, h1, h2, h3⟩ := h.out
  exact ⟨h.rg.put R', ⟨A, c, ts, blk_put h1 (by omega), h2.chg (chg_putI W _ R') (fun k hk e => by have := h2.new k hk; omega), h3⟩, blk_put h.wr (by omega), h.ok⟩
theorem OgX.put (h : OgX bs w V R W) (hV : w.heap.size + 2 ≤ V.heap.size) (R' : Obj) : OgX bs w V R' (W.putObj (V.heap.size + 1) R') := by
  obtain ⟨A, c, o, h1, h2, h3⟩ := h.out
  exact ⟨h.rg.put R', ⟨A, c, o, blk_put h1 (by omega), blk_put h2 (by omega), h3⟩⟩
theorem OgJ.stop (h : OgJ bs w V R T o W) (hV : w.heap.size + 2 ≤ V.heap.size) (ho : o < bs.length) (hb : badB bs o ≠ 0) : OgX bs w V R (W.setCell ⟨w.heap.size + 1, 0, none⟩ (.int .i64 (badB bs o : Int))) := by
  obtain ⟨A, c, ts, h1, h2, h3⟩ := h.out
  have c1 := Chg.set W (w.heap.size + 1) 0 (.int .i64 (badB bs o : Int)) (T := fun k => k = w.heap.size + 1) rfl
  have r := h.rg.step c1 (fun k _ hk => .inr ⟨.inr hk, by omega⟩)
  exact ⟨⟨r.chg, r.defd, r.loop, r.size, fun _ t => t.elim⟩, A, c, o, h1.chg c1 (by omega), h.wr.set0 _, ho, h.ok, hb⟩
/-- One list more. -/
theorem OgJ.push {A A2 A3 : Option Addr} {n c c2 c3 : Nat} {ts : List Sl} {WS w1 w2 : World} (h : OgJ bs w V R T o W) (hV : w.heap.size + 2 ≤ V.heap.size) (h1 : Blk W w.heap.size 56 #[.slice A o c]) (h2 : Lse (V.heap.size + 2) W A o c ts (lsB bs o)) (h3 : ∀ k, (foot A c k ∨ foots ts k) → ¬ T k)
    (eS : Ext W WS) (hs : RoomS 5 WS A2 n c2 ((evB bs o).flatMap evC)) (hn : ∀ k, foot A2 c2 k → W.heap.size ≤ k) (e1 : Ext WS w1) (r : Room w2 A3 (o + 1) c3 (ts.map slv ++ [slv ⟨A2, n, c2⟩])) (ch : Chg (foot A c) w1 w2) (ft : ∀ k, foot A3 c3 k → foot A c k ∨ w1.heap.size ≤ k) (hb : badB bs o = 0) :
    OgJ bs w V R T (o + 1) (w2.setCell ⟨w.heap.size, 0, none⟩ (.slice A3 (o + 1) c3)) ∧ ∀ k, T k → (w2.setCell ⟨w.heap.size, 0, none⟩ (.slice A3 (o + 1) c3)).heap[k]? = W.heap[k]? := by
  have hz := h.rg.size
  have z1 := eS.size
  have z2 := e1.size
  have hl := Lse.app (s := ⟨A2, n, c2⟩) h2 hs hn hz eS e1 r ch ft
  have hA : ∀ k, foot A c k → V.heap.size + 2 ≤ k ∧ k < W.heap.size := fun k hk => ⟨h2.new k (.inl hk), h2.lt (.inl hk)⟩
  have hT : ∀ k, T k → V.heap.size + 2 ≤ k ∧ k < W.heap.size := h.rg.own
  have c0 := Chg.set w2 w.heap.size 0 (.slice A3 (o + 1) c3) (T := fun k => k = w.heap.size) rfl
  have cE : Ext W w1 := eS.t e1
  have hc : Chg (fun k => foot A c k ∨ k = w.heap.size) W (w2.setCell ⟨w.heap.size, 0, none⟩ (.slice A3 (o + 1) c3)) :=
    ((Chg.ofExt cE).t (ch.mono (fun k _ hk => .inl hk))).t (c0.mono (fun k _ hk => .inr hk))
  have hwT : ∀ k, T k → ¬ (foot A c k ∨ k = w.heap.size) := fun k hk hx => hx.elim (fun hx => h3 k (.inl hx) hk) (fun hx => by have := (hT k hk).1; omega)
  have hnew : ∀ k, (foot A3 c3 k ∨ foots (ts ++ [(⟨A2, n, c2⟩ : Sl)]) k) → V.heap.size + 2 ≤ k := hl.new
  refine ⟨⟨h.rg.step hc (fun k hk hx => hx.elim (fun hx => .inl (hA k hx).1) (fun hx => .inr ⟨.inl hx, by omega⟩)), ⟨A3, c3, ts ++ [⟨A2, n, c2⟩], ?_, ?_, fun k hk ht => ?_⟩, h.wr.chg hc (fun hx => hx.elim (fun hx => by have := (hA _ hx).1; omega) (fun hx => by omega)), fun i hi => ?_⟩, fun k hk => hc.block k (hT k hk).2 (hwT k hk)⟩
  · exact ((h1.ext cE).chg ch (fun hx => by have := (hA _ hx).1; omega)).set0 _
  · rw [lsB_succ]
    exact hl.chg c0 (fun k hk e => by have := hnew k hk; omega)
  · have hkT := hT k ht
    rcases hk with hk | ⟨t, htm, hk⟩
    · exact (ft k hk).elim (fun hx => h3 k (.inl hx) ht) (fun hx => by omega)
    · rcases List.mem_append.1 htm with hm | hm
      · exact h3 k (.inr ⟨t, hm, hk⟩) ht
      · simp at hm; subst hm
        have := hn k hk; omega
  · rcases Nat.lt_or_ge i o with hx | hx
    · exact h.ok i hx
    · obtain rfl : i = o := by omega
      exact hb
end
set_option maxRecDepth 100000 in
set_option maxHeartbeats 2000000 in
theorem obx_merge (Al : Option Addr) (nl cl : Nat) (ps : List (Option Nat)) (bs : List (Option (Int × List Ev))) (w : World) (h : Rd ptrv w Al nl ps) (hb : Bxs w ps bs) (hn : nl ≤ 1000) :
    Calls Try.prog 15 #[.slice Al nl cl] w fun en w' => ∃ r, MgB bs r ∧ MergeP r w en w' := by
  have Hlen := Lib.hid (show nl = bs.length by have := h.1; have := hb.len; omega)
  refine calls_of_wp_marks Try.func15 rfl ?_
  simp only [Try.ntmps15, List.size_toArray, List.length_cons, List.length_nil, Nat.reduceAdd, Nat.reduceSub, Array.replicate_succ, Array.replicate_zero, List.push_toArray, List.append_toArray, List.nil_append, List.cons_append]
  go_wp2_with fail
  go_step3
  go_wp2_with fail
  go_step3
  go_wp2_with (go_at_call 34; refine (boxes_ Al nl cl _).mono ?_; rintro e w1 ⟨rfl, rfl⟩)
  obtain ⟨V, hV⟩ : ∃ V, V = ((w.alloc (.cells #[.slice none 0 0] 56)).alloc (.cells #[.int .i64 0] 36)).alloc (.cells #[.slice Al nl cl] 25) := ⟨_, rfl⟩
  have b0 : Blk V w.heap.size 56 #[.slice none 0 0] := by rw [hV]; exact ((Blk.new _ _ _).alloc _).alloc _
  have b1 : Blk V (w.heap.size + 1) 36 #[.int .i64 0] := by rw [hV]; exact (blk_new1 w _ _ _).alloc _
  have bx : Blk V (w.heap.size + 2) 25 #[.slice Al nl cl] := by
    rw [hV]; have := Blk.new ((w.alloc (.cells #[.slice none 0 0] 56)).alloc (.cells #[.int .i64 0] 36)) 25 #[.slice Al nl cl]; simp only [World.size_alloc] at this; exact this
  have ev : Ext w V := by rw [hV]; exact ((Ext.alloc _ _).t (Ext.alloc _ _)).t (Ext.alloc _ _)
  have sv : V.heap.size = w.heap.size + 3 := by rw [hV]; simp
  change Code.wp _ _ _ _ (((w.alloc (.cells #[.slice none 0 0] 56)).alloc (.cells #[.int .i64 0] 36)).alloc (.cells #[.slice Al nl cl] 25))
  rw [← hV]
  clear hV
  refine wp_range (gf := 53) rfl (enters_of Try.func53 (by kernel_rfl) rfl) (fun fn rec hrec => ?_)
  rw [show w.heap.size + 1 + 1 = w.heap.size + 2 from rfl]
  refine (boxes1 (V.heap.size + 1) (w.heap.size + 2) Al nl cl ps bs w (OgJ bs w V (rec .ready none) (fun _ => False) 0) (fun T o W => OgJ bs w V (rec .ready none) T o W) (OgX bs w V (rec .done (some (.exit 0)))) h hb hn ⟨?s1, ?s2, ?s3, ?hY⟩ (fun W hj => ⟨ev.trans (hj.rg.chg.below ev.size (fun k hk hm => by unfold OgM at hm; omega)), hj.rg.blk bx (by unfold OgM; omega)⟩) (fun T o W hj => ev.trans (hj.rg.chg.below ev.size (fun k hk hm => by unfold OgM at hm; omega))) _ ?h0).mono ?post
  case s1 =>
    intro W W' T hj e hT
    obtain ⟨A, c, ts, q1, q2, q3⟩ := hj.out
    exact ⟨hj.rg.begin e hT, ⟨A, c, ts, q1.ext e, q2.ext e, fun k hk ht => by have := q2.lt hk; have := (hT k ht).1; omega⟩, hj.wr.ext e, hj.ok⟩
  case s2 =>
    intro T o W W' hj e
    exact hj.e e
  case s3 =>
    intro T o W W' hj ch
    have nT : ∀ k, k < V.heap.size → ¬ T k := fun k hk ht => by have := (hj.rg.own k ht).1; omega
    obtain ⟨A, c, ts, q1, q2, q3⟩ := hj.out
    exact ⟨hj.rg.iown ch, ⟨A, c, ts, q1.chg ch (nT _ (by omega)), q2.chg ch q3, q3⟩, hj.wr.chg ch (nT _ (by omega)), hj.ok⟩
  case h0 => exact ⟨RgJ.start _, ⟨none, 0, [], (b0.alloc _).alloc _, Lse.nil, fun k hk => hk.elim (fun hk => absurd hk foot_none) (fun hk => absurd hk foots_nil)⟩, (b1.alloc _).alloc _, fun i hi => by omega⟩
  case hY =>
    intro T o W1 W A n c ho hj1 eW hr hrl hnew
    have hj := hj1.e eW
    refine (yieldAt hrec trivial hj.rg.loop (by rfl) (fun jump W3 => (jump = none ∧ badB bs o = 0 ∧ OgJ bs w V (rec .busy none) T (o + 1) W3 ∧ ∀ k, T k → W3.heap[k]? = W.heap[k]?) ∨ (jump = some (.exit 0) ∧ OgX bs w V (rec .busy none) W3)) ?walk).mono ?yp
    case yp =>
      rintro e W' ⟨jump, W3, (⟨rfl, hb0, hB, hT⟩ | ⟨rfl, hX⟩), hl, rfl, rfl⟩
      · exact .inl ⟨rfl, ⟨hb0, hB.put (by omega) _⟩, fun k hk => (heap_put' (by have := (hj.rg.own k hk).1; omega)).trans (hT k hk)⟩
      · exact .inr ⟨rfl, hX.put (by omega) _⟩
    case walk =>
      clear hrec
      gi_wp2
      refine ⟨hj.rg.loop, ?_⟩
      have hz1 := hj1.rg.size
      have hk1 := hj1.put (by omega) (rec .busy none)
      have eP := ext_put eW (V.heap.size + 1) (rec .busy none) (by omega)
      have hzp : (W1.putObj (V.heap.size + 1) (rec .busy none)).heap.size = W1.heap.size := by simp [World.putObj]
      have hrp := hr.chg (chg_putI W (V.heap.size + 1) (rec .busy none)) (fun k hk e => by have := hnew k hk; omega)
      have hnp : ∀ k, foot A c k → (W1.putObj (V.heap.size + 1) (rec .busy none)).heap.size ≤ k := fun k hk => by rw [hzp]; exact hnew k hk
      have hTT : ∀ k, T k → (W1.putObj (V.heap.size + 1) (rec .busy none)).heap[k]? = W.heap[k]? := fun k hk => by
        have h1 := hj1.rg.own k hk
        exact (heap_put' (by omega)).trans (eW.block k h1.2).symm
      have hno : o ≤ 1000 := by have := Hlen.out; omega
      generalize W1.putObj (V.heap.size + 1) (rec .busy none) = W1p at *
      generalize W.putObj (V.heap.size + 1) (rec .busy none) = Wp at *
      obtain ⟨Ao, co, ts, q1, q2, q3⟩ := hk1.out
      have co0 := (q1.ext eP).cell0
      have fo0 := (q1.ext eP).frozen 0
      have cw0 := (hk1.wr.ext eP).cell0
      have fw0 := (hk1.wr.ext eP).frozen 0
      have HK := Lib.hid hk1
      have HEP := Lib.hid eP
      have HRp := Lib.hid hrp
      have HNp := Lib.hid hnp
      have HTT := Lib.hid hTT
      have Hq := Lib.hid (And.intro q1 (And.intro q2 q3))
      have Ho := Lib.hid ho
      have HVs := Lib.hid (show w.heap.size + 2 ≤ V.heap.size by omega)
      obtain ⟨bI, hbI⟩ : ∃ bI : Int, bI = (badB bs o : Int) := ⟨_, rfl⟩
      rw [← hbI]
      have HbI := Lib.hid hbI
      clear hj1 eW hr hrl hnew hj hz1 hk1 eP hzp hrp hnp hTT q1 q2 q3 ho hbI b0 b1 bx ev sv h hb
      by_cases hb0 : bI = 0
      · have hq : (bI != 0) = false := by simp [hb0]
        have HB0 := Lib.hid (show badB bs o = 0 by have := HbI.out; omega)
        clear hb0 cw0 fw0
        gi_wp2_with (gi_at_builtin; refine wpListIn_append_atS _ rfl rfl ul_ee info_ee rfl rfl ((Hq.out.2.1.room.roomS.ext HEP.out).ext (Ext.alloc _ _)) rfl (Src.ofRd (f := slv) (xs := [⟨A, n, c⟩]) ul_ee ((Blk.new _ _ _).rd rfl rfl) (fun _ => rfl)) (by simp only [maxLen]; omega) (by omega) ?_; intro A3 c3 w2 r3 ch3 ft3; have b3 := (((Hq.out.1.ext HEP.out).ext (Ext.alloc _ (.cells #[.slice A n c] 26))).chg ch3 (fun hf => by have := Hq.out.2.1.new _ (.inl hf); have := HVs.out; omega)); have cb3 := b3.cell0; have fb3 := b3.frozen 0)
        have hp := HK.out.push HVs.out Hq.out.1 Hq.out.2.1 Hq.out.2.2 HEP.out HRp.out HNp.out (Ext.alloc _ (.cells #[.slice A n c] 26)) (RoomS.room r3) ch3 (by simpa using ft3) HB0.out
        exact ⟨hp.1.rg.loop, .inl ⟨rfl, HB0.out, hp.1, fun k hk => (hp.2 k hk).trans (HTT.out k hk)⟩⟩
      · have hq : (bI != 0) = true := by simp [hb0]
        have hx := Lib.hid ((HK.out.e HEP.out).stop HVs.out Ho.out (by have := HbI.out; omega))
        rw [← HbI.out] at hx
        clear hb0 co0 fo0
        gi_wp2
        exact ⟨hx.out.rg.loop, .inr ⟨rfl, hx.out⟩⟩
  case post =>
    clear hrec
    have hbk := hb.ok
    rintro e W2 ⟨⟨v, rfl⟩, ⟨T, hj⟩ | hx⟩
    · refine ⟨⟨_, rfl⟩, .ready, none, by simp, hj.rg.loop, ?_⟩
      have hj2 := hj.put (by omega) (rec .exhausted none)
      clear hj
      generalize W2.putObj (V.heap.size + 1) (rec .exhausted none) = W3 at *
      obtain ⟨A, c, ts, q1, q2, q3⟩ := hj2.out
      obtain ⟨p1, p2, p3⟩ := lsB_all hbk nl hj2.ok
      have htot : (lsB bs nl).flatten.length ≤ 1000000 := by
        have h1 : ∀ (M : Nat) (ls : List (List Ev)), (∀ l ∈ ls, l.length ≤ M) → ls.flatten.length ≤ ls.length * M := by
          intro M ls
          induction ls with
          | nil => intro _; simp
          | cons l ls ih =>
            intro h
            rw [List.flatten_cons, List.length_append, List.length_cons, Nat.add_mul, Nat.one_mul]
            have h1 := h l (by simp)
            have h2 := ih (fun l' h' => h l' (by simp [h']))
            omega
        have h2 := h1 256 (lsB bs nl) (fun l hl => (p1 l hl).2.1)
        rw [lsB_len] at h2
        omega
      have hn2 : ∀ s ∈ ts, s.n ≤ 1000000 := fun s hs => by
        obtain ⟨i, hi, rfl⟩ := List.getElem_of_mem hs
        obtain ⟨_, l, h2, h3⟩ := q2.els.at_ i _ (List.getElem?_eq_getElem hi)
        have := (p1 l (List.mem_of_getElem? h2)).2.1
        have := h3.1
        omega
      have HM := Lib.hid (merge_ A nl c ts (lsB bs nl) W3 q2.room.rd q2.els (by omega) hn2 (fun l hl x hx => (p1 l hl).2.2 x hx) (by omega))
      rw [mergeF_ok (fun l hl => (p1 l hl).1) p2] at HM
      have co := q1.cell0
      have cw := hj2.wr.cell0
      have HV : Hid (MgB bs (isort (lsB bs nl).flatten, -1, 0)) := Lib.hid (by
        refine .inl ⟨fun i hi => hj2.ok i (by have := Hlen.out; omega), by rw [← Hlen.out]⟩)
      have HR := Lib.hid hj2.rg
      have HE := Lib.hid (show Ext w W3 from ev.trans (hj2.rg.chg.below ev.size (fun k hk hm => by unfold OgM at hm; omega)))
      have HS := Lib.hid sv
      clear hj2 q1 q2 q3 p1 p2 p3 htot hn2 hbk b0 b1 bx ev sv h hb
      go_wp2_with fail
      refine HM.out.mono ?_; rintro e w5 ⟨A5, n5, c5, rfl, r5, l5, f5, e5⟩
      have Hd5 := Lib.hid (show w5.heap[V.heap.size]? = some (.deferred (some [])) from (e5.block _ (by have := HR.out.size; omega)).trans HR.out.defd)
      have H5 := Lib.hid (And.intro r5 (And.intro l5 (And.intro f5 e5)))
      clear r5 l5 f5 e5 HM co cw
      go_wp2_with fail
      try rw [Exit.noGoto_ret]
      refine leave1 (v := .tuple #[.slice A5 n5 c5, .int .i64 (-1), .int .i64 0]) rfl Hd5.out ?_ ?_
      · simp [results, Try.results15, go_sem]
      · have ch := chg_putI w5 V.heap.size (.deferred none)
        have hE := HE.out.t H5.out.2.2.2
        have hz := HR.out.size
        exact ⟨_, HV.out, A5, n5, c5, rfl, H5.out.1.chg ch (fun k hk e => by have := H5.out.2.2.1 k hk; omega), H5.out.2.1, fun k hk => by have := H5.out.2.2.1 k hk; have := HS.out; omega, hE.trans (ch.below hE.size (fun k hk ht => by have := HS.out; omega))⟩
    · refine ⟨⟨_, rfl⟩, .done, some (.exit 0), by simp, hx.rg.loop, ?_⟩
      have hx2 := hx.put (by omega) (rec .exhausted (some (.exit 0)))
      clear hx
      show Code.wp _ _ _ _ (W2.putObj (V.heap.size + 1) (rec .exhausted (some (.exit 0))))
      generalize W2.putObj (V.heap.size + 1) (rec .exhausted (some (.exit 0))) = W3 at *
      obtain ⟨A, c, o, q1, q2, q3, q4, q5⟩ := hx2.out
      have co := q1.cell0
      have cw := q2.cell0
      have HV := Lib.hid (show MgB bs ([], (o : Int), badB bs o) from .inr ⟨o, q3, q4, q5, rfl⟩)
      have hq : ((badB bs o : Int) != 0) = true := by simp; omega
      have HR := Lib.hid hx2.rg
      have HE := Lib.hid (show Ext w W3 from ev.trans (hx2.rg.chg.below ev.size (fun k hk hm => by unfold OgM at hm; omega)))
      have HS := Lib.hid sv
      generalize badB bs o = bd at *
      clear hx2 q1 q2 q3 q4 q5 hbk b0 b1 bx ev sv h hb
      go_upto_region 10 with fail
      go_quiet (fail)
      go_wp2_with fail
      try rw [Exit.noGoto_ret]
      refine leave1 (v := .tuple #[.slice none 0 0, .int .i64 (o : Int), .int .i64 (bd : Int)]) rfl HR.out.defd ?_ ?_
      · simp [results, Try.results15, go_sem]
      · have hf := fun q => (show ∃ r, MgB bs r ∧ MergeP r w (.returned (.tuple #[.slice none 0 0, .int .i64 (o : Int), .int .i64 (bd : Int)])) ((W3.drewN q).putObj V.heap.size (.deferred none)) from by
          have ch := chg_putI (W3.drewN q) V.heap.size (.deferred none)
          have hE := HE.out.t (Ext.drewN W3 q)
          exact ⟨_, HV.out, none, 0, 0, rfl, RoomS.nil, rfl, fun k hk => absurd hk foot_none, hE.trans (ch.below hE.size (fun k hk ht => by have := HS.out; omega))⟩)
        exact hf _
end Go.Proofs.Ytdjpggnadelnaaa
