/- The inbox's 'on': it begins the frames that wait, and gathers the responses. -/
import Derived.Test.YtpipnefepnknoaaBegun
namespace Go.Proofs.Ytpipnefepnknoaa
open Go.RowKit Go.Fx
attribute [local go_sem] Oper.semAt_some
theorem wpListIn_append_at {F : Fence} {k : Nat} {P : Program} (w : World) {ops : Array Oper} {rest : List Oper} {o : Oper} {a : Act} {Q : Exit → Act → World → Prop} (hgd : o.guard = none) {s x : Operand} {t e : TypeId} {z : Value} {bytes : Nat} {A : Option Addr} {n c : Nat} {xs : List Value} {v : Value} {m : Nat} {news : List Value}
    (ho : o.op = .call { callee := .builtin .append, args := #[s, x], argTypes := #[t, t] })
    (ht : P.underlying t = some (.slice e)) (hi : (P.info? e).map (fun i => (i.zero, i.size, i.bytes)) = some (some z, 1, bytes)) (hzs : z.cells.size = 1)
    (hs : a.eval s = .slice A n c) (hr : Room w A n c xs) (hx : a.eval x = v) (hsrc : Src P 1 t v m news w) (h63 : n + m ≤ maxLen) (hbytes : (n + m) * bytes ≤ 140737488355328)
    (h : ∀ A' c' w', Room w' A' (n + m) c' (xs ++ news) → Chg (foot A c) w w' → (∀ k, foot A' c' k → foot A c k ∨ w.heap.size ≤ k) → wpListIn F k P ops Q rest (a.put o.dst (.slice A' (n + m) c')) w') : wpListIn F k P ops Q (o :: rest) a w := by
  refine wpListIn_plain hgd fun K hK' => ?_
  obtain ⟨A', c', w', hrun, h1, h2, h3⟩ := run_append_at (P := P) w t t o.type e z bytes ht hi hzs A n c xs hr v m news hsrc h63 hbytes
  unfold Oper.wpIn
  refine ⟨?_, ?_⟩
  · simp [Oper.about, ho, resolve, Target.leads, Sem.run_pure]
  · rw [Oper.semAt_plain F _ _ (by rw [ho]; intro c hc'; cases hc')]
    simp [execOp, ho, resolve, invoke, builtin, hs, hx, hrun, Result.andThen]
    exact hK' _ _ (h A' c' w' h1 h2 h3)
theorem chg_put (w : World) (l : Nat) (o : Obj) : Chg (fun k => k = l) w (w.putObj l o) := by
  exact ⟨rfl, rfl, rfl, by simp, fun k _ hk => World.putObj_heap_other hk⟩
section
variable {w0 : World} {ib : Nat} {L0 : Lay} {A0 : Option Addr} {c0 : Nat} {os0 : List Sl} {R : Obj} {st : St} {outs : List (List Nat)} {W : World} {L : Lay} {A : Option Addr} {c : Nat} {os : List Sl}
theorem OnK.far (h : OnK w0 ib L0 A0 c0 os0 R st outs W L A c os) (hs : OnS w0 ib L0 A0 c0 os0) : ∀ j, w0.heap.size ≤ j → j < w0.heap.size + 5 → ¬ boxF ib L j ∧ ¬ foot A c j ∧ ¬ foots os j := fun j h1 h2 => by
  refine ⟨fun h3 => ?_, fun h3 => ?_, fun h3 => ?_⟩
  · rcases h.nb j h3 with h4 | h4
    · have := hs.lb j h4; omega
    · omega
  · rcases (h.na j h3).1 with h4 | h4
    · have := hs.la j h4; omega
    · omega
  · rcases (h.no j h3).1 with h4 | h4
    · have := hs.lo j h4; omega
    · omega
theorem OnK.put (h : OnK w0 ib L0 A0 c0 os0 R st outs W L A c os) (hs : OnS w0 ib L0 A0 c0 os0) (R' : Obj) : OnK w0 ib L0 A0 c0 os0 R' st outs (W.putObj (w0.heap.size + 4) R') L A c os := by
  have far := h.far hs (w0.heap.size + 4) (by omega) (by omega)
  have hc := chg_put W (w0.heap.size + 4) R'
  have hz := h.size
  exact ⟨h.box.chg hc (fun k hk e => far.1 (e ▸ hk)), h.ob.chg hc (by omega), h.or_.chg hc (fun k hk e => far.2.1 (e ▸ hk)), h.oy.chg hc (fun k hk e => far.2.2 (e ▸ hk)), h.bb.chg hc (by omega), h.bn.chg hc (by omega),
    heap_put h.dfd (by omega), World.putObj_heap_same (by omega), h.chg.trans hc (fun k hk e => by omega), by simpa using hz, h.nb, h.na, h.no, h.sv, h.ap⟩
/-- A response is put behind the others. -/
theorem OnK.push (h : OnK w0 ib L0 A0 c0 os0 R st outs W L A c os) (hs : OnS w0 ib L0 A0 c0 os0) {r : Sl} {f : List Nat} (hr : ∀ k, foot r.A r.c k → w0.heap.size + 5 ≤ k ∧ ¬ boxF ib L k ∧ ¬ foot A c k ∧ ¬ foots os k) (hb : Byt W r f)
    {w1 w2 : World} {A' : Option Addr} {c' : Nat} (e1 : Ext W w1) (hr2 : Room w2 A' (os.length + 1) c' (os.map slv ++ [slv r])) (ch : Chg (foot A c) w1 w2) (ft : ∀ k, foot A' c' k → foot A c k ∨ w1.heap.size ≤ k) :
    OnK w0 ib L0 A0 c0 os0 R st (outs ++ [f]) (w2.setCell ⟨w0.heap.size, 0, none⟩ (.slice A' (os.length + 1) c')) L A' c' (os ++ [r]) := by
  have far := fun j h1 h2 => h.far hs j h1 h2
  have f0 := far w0.heap.size (by omega) (by omega)
  have hz := h.size
  have c12 : Chg (foot A c) W w2 := (Chg.ofExt e1).t ch
  have cs : Chg (fun k => k = w0.heap.size) w2 (w2.setCell ⟨w0.heap.size, 0, none⟩ (.slice A' (os.length + 1) c')) := Chg.set _ _ _ _ rfl
  have hc : Chg (fun k => foot A c k ∨ k = w0.heap.size) W (w2.setCell ⟨w0.heap.size, 0, none⟩ (.slice A' (os.length + 1) c')) := (c12.mono (fun k _ hk => .inl hk)).t (cs.mono (fun k _ hk => .inr hk))
  have ft' : ∀ k, foot A' c' k → foot A c k ∨ W.heap.size ≤ k := fun k hk => by
    rcases ft k hk with h1 | h1
    · exact .inl h1
    · exact .inr (Nat.le_trans e1.size h1)
  have hN : w0.heap.size < w2.heap.size := by have := c12.size; omega
  have hA' : ¬ foot A' c' w0.heap.size := fun h1 => by
    rcases ft' _ h1 with h1 | h1
    · exact f0.2.1 h1
    · omega
  have hoy : Byts W (os ++ [r]) (outs ++ [f]) := h.oy.snoc hb
  have hrl : ∀ k, foot r.A r.c k → k < W.heap.size := fun k hk => hb.room.lt hk
  have blk2 : ∀ {g : Nat} {t : TypeId} {cs : Array Value}, Blk W g t cs → ¬ foot A c g → g ≠ w0.heap.size → Blk (w2.setCell ⟨w0.heap.size, 0, none⟩ (.slice A' (os.length + 1) c')) g t cs := fun hb h1 h2 => hb.chg hc (fun hk => hk.elim h1 h2)
  have len : (os ++ [r]).length = os.length + 1 := by simp
  refine ⟨h.box.chg hc (fun k hk hk2 => hk2.elim (fun h1 => (h.na k h1).2 hk) (fun e => f0.1 (e ▸ hk))), ?_, ?_, hoy.chg hc (fun k hk hk2 => ?_), blk2 h.bb (far _ (by omega) (by omega)).2.1 (by omega), blk2 h.bn (far _ (by omega) (by omega)).2.1 (by omega),
    (hc.block _ (by omega) (fun hk => hk.elim (far _ (by omega) (by omega)).2.1 (fun e => by omega))).trans h.dfd, (hc.block _ (by omega) (fun hk => hk.elim (far _ (by omega) (by omega)).2.1 (fun e => by omega))).trans h.loop,
    h.chg.trans hc (fun k hk hk2 => ?_), Nat.le_trans hz hc.size, h.nb, fun k hk => ?_, fun k hk => ?_, h.sv, apart_snoc h.ap (fun k h1 h2 => (hr k h2).2.2.2 h1)⟩
  · rw [len]
    exact (h.ob.chg c12 f0.2.1).set0 _
  · rw [len, List.map_append]
    exact hr2.chg cs (fun k hk e => hA' (e ▸ hk))
  · rcases foots_append.1 hk with hk | hk
    · exact hk2.elim (fun h1 => (h.no k hk).2.2 h1) (fun e => f0.2.2 (e ▸ hk))
    · have h3 := hr k (foots_one.1 hk)
      exact hk2.elim (fun h1 => h3.2.2.1 h1) (fun e => by omega)
  · rcases hk2 with h1 | h1
    · rcases (h.na k h1).1 with h2 | h2
      · exact .inr h2
      · omega
    · omega
  · rcases ft' k hk with h1 | h1
    · exact h.na k h1
    · exact ⟨.inr (by omega), fun h2 => by have := h.box.lt h2; omega⟩
  · rcases foots_append.1 hk with hk | hk
    · refine ⟨(h.no k hk).1, (h.no k hk).2.1, fun h1 => ?_⟩
      rcases ft' k h1 with h1 | h1
      · exact (h.no k hk).2.2 h1
      · have := Byts.lt h.oy hk; omega
    · have h3 := hr k (foots_one.1 hk)
      refine ⟨.inr h3.1, h3.2.1, fun h1 => ?_⟩
      rcases ft' k h1 with h1 | h1
      · exact h3.2.2.1 h1
      · have := hrl k (foots_one.1 hk); omega
end
/-- What 'on' leaves. -/
structure OnPost (w : World) (ib : Nat) (L : Lay) (A : Option Addr) (c : Nat) (os : List Sl) (res : St × List (List Nat)) (e : Ending) (w' : World) (L' : Lay) (A' : Option Addr) (c' : Nat) (os' : List Sl) : Prop where
  ret : e = .returned (.slice A' os'.length c')
  box : Box w' ib L' res.1
  room : Room w' A' os'.length c' (os'.map slv)
  outs : Byts w' os' res.2
  chg : Chg (fun k => boxF ib L k ∨ foot A c k) w w'
  nb : ∀ k, boxF ib L' k → boxF ib L k ∨ w.heap.size ≤ k
  na : ∀ k, foot A' c' k → (foot A c k ∨ w.heap.size ≤ k) ∧ ¬ boxF ib L' k
  no : ∀ k, foots os' k → (foots os k ∨ w.heap.size ≤ k) ∧ ¬ boxF ib L' k ∧ ¬ foot A' c' k
  sv : L'.sv = L.sv
  ap : Apart os'
theorem OnK.post {w : World} {ib : Nat} {L : Lay} {A : Option Addr} {c : Nat} {os : List Sl} {R : Obj} {st : St} {outs : List (List Nat)} {W : World} {L' : Lay} {A' : Option Addr} {c' : Nat} {os' : List Sl} (h : OnK w ib L A c os R st outs W L' A' c' os') (hs : OnS w ib L A c os) (o : Obj) :
    OnPost w ib L A c os (st, outs) (.returned (.slice A' os'.length c')) (W.putObj (w.heap.size + 3) o) L' A' c' os' := by
  have far := h.far hs (w.heap.size + 3) (by omega) (by omega)
  have hc := chg_put W (w.heap.size + 3) o
  exact ⟨rfl, h.box.chg hc (fun k hk e => far.1 (e ▸ hk)), h.or_.chg hc (fun k hk e => far.2.1 (e ▸ hk)), h.oy.chg hc (fun k hk e => far.2.2 (e ▸ hk)), h.chg.trans hc (fun k hk e => by omega),
    fun k hk => (h.nb k hk).imp id (fun h => by omega), fun k hk => ⟨(h.na k hk).1.imp id (fun h => by omega), (h.na k hk).2⟩, fun k hk => ⟨(h.no k hk).1.imp id (fun h => by omega), (h.no k hk).2⟩, h.sv, h.ap⟩
def OnP (w : World) (ib : Nat) (L : Lay) (A : Option Addr) (c : Nat) (os : List Sl) (res : St × List (List Nat)) (e : Ending) (w' : World) : Prop := ∃ L' A' c' os', OnPost w ib L A c os res e w' L' A' c' os'

set_option maxRecDepth 100000 in
set_option maxHeartbeats 2000000 in
theorem ib_on (ib : Nat) (L : Lay) (st : St) (A : Option Addr) (c : Nat) (os : List Sl) (outs : List (List Nat)) (w : World) (hb : Box w ib L st) (hf : Fine st 0) (hr : Room w A os.length c (os.map slv)) (ho : Byts w os outs) (hol : outs.length + st.wait.length ≤ 100000000)
    (ha : ∀ k, foot A c k → ¬ boxF ib L k) (hd : ∀ k, foots os k → ¬ boxF ib L k ∧ ¬ foot A c k) (hap : Apart os) :
    Calls Try.prog 29 #[.pointer (some ⟨ib, 0, none⟩), .slice A os.length c] w (OnP w ib L A c os (on st outs)) := by
  have hs : OnS w ib L A c os := ⟨fun k hk => hb.lt hk, fun k hk => hr.lt hk, fun k hk => Byts.lt ho hk⟩
  obtain ⟨c0, c1, c2, c3, c4, c5, c6⟩ := Blk.c7 hb.blk
  by_cases hp : st.pend = true
  · have hon : on st outs = (st, outs) := by unfold on; rw [if_pos hp]
    rw [hon]
    rw [hp] at c1
    clear hon hp
    have c1' : (w.alloc (.cells #[.slice A os.length c] 25)).cell? ⟨ib, 1, none⟩ = some (.bool true) := ((Ext.alloc w _).cell (p := ⟨ib, 1, none⟩) (hb.lt (.inl rfl))).trans c1
    clear c0 c1 c2 c3 c4 c5 c6
    go_enter Try.func29, Try.ntmps29
    go_wp2_with fail
    go_step3
    go_wp2_with fail
    try rw [Exit.noGoto_ret]
    go_ret
    have e1 := Ext.alloc w (.cells #[.slice A os.length c] 25)
    exact ⟨L, A, c, os, rfl, hb.ext e1, hr.ext e1, ho.ext e1, Chg.ofExt e1, fun k hk => .inl hk, fun k hk => ⟨.inl hk, ha k hk⟩, fun k hk => ⟨.inl hk, hd k hk⟩, rfl, hap⟩
  · have hp' : st.pend = false := by simpa using hp
    have hon : on st outs = onL st.wait st outs := by unfold on; rw [if_neg hp]
    rw [hon]
    rw [hp'] at c1
    have c1' : (w.alloc (.cells #[.slice A os.length c] 25)).cell? ⟨ib, 1, none⟩ = some (.bool false) := ((Ext.alloc w _).cell (p := ⟨ib, 1, none⟩) (hb.lt (.inl rfl))).trans c1
    have Hp := Lib.hid hp'
    generalize hres : onL st.wait st outs = res
    have Hres := Lib.hid hres
    clear c0 c1 c2 c3 c4 c5 c6 hon hp hp' hres
    refine calls_of_wp_marks Try.func29 rfl ?_
    simp only [Try.ntmps29, List.size_toArray, List.length_cons, List.length_nil, Nat.reduceAdd, Nat.reduceSub, Array.replicate_succ, Array.replicate_zero, List.push_toArray, List.append_toArray, List.nil_append, List.cons_append]
    go_wp2_with fail
    go_step3
    go_wp2_with fail
    go_step3
    go_wp2_with fail
    refine (ib_begun ib _).mono ?_
    rintro e w1 ⟨rfl, hbb, hbn, he, hsz⟩
    go_wp2_with fail
    have hblk := (Blk.new w 25 #[.slice A os.length c]).ext he
    have he0 : Ext w w1 := (Ext.alloc w _).t he
    rw [World.size_alloc] at *
    have Hbb := Lib.hid hbb
    have Hbn := Lib.hid hbn
    have Hblk := Lib.hid hblk
    clear hbb hbn hblk he
    refine wp_range (gf := 38) rfl (enters_of Try.func38 (by kernel_rfl) rfl) (fun fn rec hrec => ?_)
    rw [hsz]
    refine (ib_begun2 w ib L A c os (rec .ready none) (rec .done (some (.exit 0))) st outs hs hf ?hY1 ?hY0 _ Hp.out hol ?h0).mono ?post
    case h0 =>
      clear hrec
      have e2 : Ext w1 ((w1.alloc (.deferred (some []))).alloc (rec .ready none)) := (Ext.alloc _ _).t (Ext.alloc _ _)
      refine ⟨L, A, c, os, ⟨(hb.ext he0).ext e2, Hblk.out.ext e2, (hr.ext he0).ext e2, (ho.ext he0).ext e2, Hbb.out.ext e2, Hbn.out.ext e2, ?_, ?_, (Chg.ofExt he0).e e2, by simp; omega, fun k hk => .inl hk, fun k hk => ⟨.inl hk, ha k hk⟩, fun k hk => ⟨.inl hk, hd k hk⟩, rfl, hap⟩⟩
      · have h1 := World.alloc_heap_new w1 (.deferred (some []))
        rw [hsz] at h1
        exact (Below.heap_alloc _ _ _ (by simp; omega)).trans h1
      · have h1 := World.alloc_heap_new (w1.alloc (.deferred (some []))) (rec .ready none)
        rw [World.size_alloc, hsz] at h1
        exact h1
    case hY1 =>
      intro st' outs' W r f hy hol'
      rw [show slv r = .slice r.A r.n r.c from rfl]
      obtain ⟨L', A', c', os', hk, hrf⟩ := hy.k
      have hbr := hy.byt
      refine (yieldAt hrec trivial hk.loop (by rfl) (fun jump W3 => jump = none ∧ OnJ w ib L A c os (rec .busy none) st' (outs' ++ [f]) W3) ?walk).mono ?yp
      case yp =>
        rintro e W' ⟨jump, W3, ⟨rfl, L3, A3, c3, os3, hB⟩, hl, rfl, rfl⟩
        exact ⟨rfl, L3, A3, c3, os3, hB.put hs _⟩
      case walk =>
        clear hrec
        gi_wp2
        refine ⟨hk.loop, ?_⟩
        have hk1 := hk.put hs (rec .busy none)
        have hbr1 : Byt (W.putObj (w.heap.size + 4) (rec .busy none)) r f := hbr.chg (chg_put _ _ _) (fun k hk2 e => by have := (hrf k hk2).1; omega)
        clear hk hbr
        generalize W.putObj (w.heap.size + 4) (rec .busy none) = W1 at *
        have hos : os'.length ≤ 100000000 := by rw [hk1.oy.len]; exact hol'
        have hNA : ¬ foot A' c' w.heap.size := (hk1.far hs _ (Nat.le_refl _) (by omega)).2.1
        have cb := hk1.ob.cell0
        have HK := Lib.hid hk1
        have Hbr := Lib.hid hbr1
        have Hrf := Lib.hid hrf
        have HNA := Lib.hid hNA
        clear hk1 hbr1 hrf hNA hy hol'
        gi_wp2_with (gi_at_builtin; refine wpListIn_append_at _ rfl rfl ul_bb info_bb rfl rfl (HK.out.or_.ext (Ext.alloc _ _)) rfl (Src.ofRd (f := slv) (xs := [r]) ul_bb ((Blk.new _ _ _).rd rfl rfl) (fun _ => rfl)) (by simp only [maxLen]; omega) (by omega) ?_; intro A2 c2 w2 r2 ch2 ft2; have b2 := (HK.out.ob.alloc (.cells #[.slice r.A r.n r.c] 29)).chg ch2 HNA.out; have cb2 := b2.cell0; have fb2 := b2.frozen 0)
        have hk2 := HK.out.push hs Hrf.out Hbr.out (Ext.alloc W1 _) r2 ch2 ft2
        exact ⟨hk2.loop, rfl, _, _, _, _, hk2⟩
    case hY0 =>
      intro st' outs' W Ar nr cr hy
      obtain ⟨L', A', c', os', hk⟩ := hy
      refine (yieldAt hrec trivial hk.loop (by rfl) (fun jump W3 => jump = some (.exit 0) ∧ OnJ w ib L A c os (rec .busy none) st' outs' W3) ?walk0).mono ?yp0
      case yp0 =>
        rintro e W' ⟨jump, W3, ⟨rfl, L3, A3, c3, os3, hB⟩, hl, rfl, rfl⟩
        exact ⟨rfl, L3, A3, c3, os3, hB.put hs _⟩
      case walk0 =>
        clear hrec
        gi_wp2
        refine ⟨hk.loop, ?_⟩
        have hk1 := hk.put hs (rec .busy none)
        clear hk
        generalize W.putObj (w.heap.size + 4) (rec .busy none) = W1 at *
        have HK := Lib.hid hk1
        clear hk1
        gi_wp2
        exact ⟨HK.out.loop, rfl, _, _, _, _, HK.out⟩
    case post =>
      clear hrec
      rintro e W2 ⟨⟨v, rfl⟩, st', outs', hre, hj⟩
      rcases hj with ⟨L', A', c', os', hk⟩ | ⟨L', A', c', os', hk⟩
      · refine ⟨⟨_, rfl⟩, .ready, none, by simp, hk.loop, ?_⟩
        have hk2 := hk.put hs (rec .exhausted none)
        clear hk
        generalize W2.putObj (w.heap.size + 4) (rec .exhausted none) = W3 at *
        have cb := hk2.ob.cell0
        go_wp2
        rw [Exit.noGoto_ret]
        refine leave1 (v := .slice A' os'.length c') rfl hk2.dfd ?_ ?_
        · simp [results, Try.results29, go_sem]
        · rw [← Hres.out, ← hre]
          exact ⟨L', A', c', os', hk2.post hs _⟩
      · refine ⟨⟨_, rfl⟩, .done, some (.exit 0), by simp, hk.loop, ?_⟩
        have hk2 := hk.put hs (rec .exhausted (some (.exit 0)))
        clear hk
        show Code.wp _ _ _ _ (W2.putObj (w.heap.size + 4) (rec .exhausted (some (.exit 0))))
        generalize W2.putObj (w.heap.size + 4) (rec .exhausted (some (.exit 0))) = W3 at *
        have cb := hk2.ob.cell0
        go_wp2
        rw [Exit.noGoto_ret]
        refine leave1 (v := .slice A' os'.length c') rfl hk2.dfd ?_ ?_
        · simp [results, Try.results29, go_sem]
        · rw [← Hres.out, ← hre]
          exact ⟨L', A', c', os', hk2.post hs _⟩
end Go.Proofs.Ytpipnefepnknoaa
