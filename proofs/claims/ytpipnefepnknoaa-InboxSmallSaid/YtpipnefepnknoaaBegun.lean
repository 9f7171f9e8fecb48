/- An inbox's iterator: it begins the frames that wait, one after the other. -/
import Derived.Test.YtpipnefepnknoaaBox
import Derived.Test.YtpipnefepnknoaaRange
import Derived.Deep.LoopGhost
namespace Go.Proofs.Ytpipnefepnknoaa
open Go.RowKit Go.Fx
attribute [local go_sem] Oper.semAt_some

theorem m_nil (w : World) (sv : Nat) : (nilAhead 198 26 (.pointer (some ⟨sv, 0, none⟩)) "Begin").run Try.prog w = .ok (some false) w := by kernel_rfl
theorem m_begin (w : World) (sv : Nat) : (method 198 26 (.pointer (some ⟨sv, 0, none⟩)) "Begin").run Try.prog w = .ok (54, .pointer (some ⟨sv, 0, none⟩)) w := by kernel_rfl

/-- What holds between two rounds of on's loop (N: the heap's size when on began; R: the loop's record; out: the responses that have come). -/
structure OnK (w0 : World) (ib : Nat) (L0 : Lay) (A0 : Option Addr) (c0 : Nat) (os0 : List Sl) (R : Obj) (st : St) (outs : List (List Nat)) (W : World) (L : Lay) (A : Option Addr) (c : Nat) (os : List Sl) : Prop where
  box : Box W ib L st
  ob : Blk W w0.heap.size 25 #[.slice A os.length c]
  or_ : Room W A os.length c (os.map slv)
  oy : Byts W os outs
  bb : Blk W (w0.heap.size + 1) 24 #[.pointer (some ⟨ib, 0, none⟩)]
  bn : Blk W (w0.heap.size + 2) 78 #[.func (.func 37) #[] #[.pointer (some ⟨w0.heap.size + 1, 0, none⟩)]]
  dfd : W.heap[w0.heap.size + 3]? = some (.deferred (some []))
  loop : W.heap[w0.heap.size + 4]? = some R
  chg : Chg (fun k => boxF ib L0 k ∨ foot A0 c0 k) w0 W
  size : w0.heap.size + 5 ≤ W.heap.size
  nb : ∀ k, boxF ib L k → boxF ib L0 k ∨ w0.heap.size + 5 ≤ k
  na : ∀ k, foot A c k → (foot A0 c0 k ∨ w0.heap.size + 5 ≤ k) ∧ ¬ boxF ib L k
  no : ∀ k, foots os k → (foots os0 k ∨ w0.heap.size + 5 ≤ k) ∧ ¬ boxF ib L k ∧ ¬ foot A c k
  sv : L.sv = L0.sv
  ap : Apart os
/-- What is known of the start. -/
structure OnS (w0 : World) (ib : Nat) (L0 : Lay) (A0 : Option Addr) (c0 : Nat) (os0 : List Sl) : Prop where
  lb : ∀ k, boxF ib L0 k → k < w0.heap.size
  la : ∀ k, foot A0 c0 k → k < w0.heap.size
  lo : ∀ k, foots os0 k → k < w0.heap.size
section
variable {w0 : World} {ib : Nat} {L0 : Lay} {A0 : Option Addr} {c0 : Nat} {os0 : List Sl} {R : Obj} {st st' : St} {outs : List (List Nat)} {W W' : World} {L L' : Lay} {A : Option Addr} {c : Nat} {os : List Sl}
/-- The inbox goes on; all else stands. -/
theorem OnK.step (h : OnK w0 ib L0 A0 c0 os0 R st outs W L A c os) (hs : OnS w0 ib L0 A0 c0 os0) (hc : Chg (boxF ib L) W W') (hb : Box W' ib L' st') (hn : ∀ k, boxF ib L' k → boxF ib L k ∨ W.heap.size ≤ k) (hsv : L'.sv = L.sv) : OnK w0 ib L0 A0 c0 os0 R st' outs W' L' A c os := by
  have hz := h.size
  have far : ∀ j, w0.heap.size ≤ j → j < w0.heap.size + 5 → ¬ boxF ib L j := fun j h1 h2 h3 => by
    rcases h.nb j h3 with h4 | h4
    · have := hs.lb j h4; omega
    · omega
  have far' : ∀ k, boxF ib L' k → ¬ (boxF ib L k ∨ W.heap.size ≤ k) → False := fun k hk hn' => hn' (hn k hk)
  refine ⟨hb, h.ob.chg hc (far _ (by omega) (by omega)), h.or_.chg hc (fun k hk => (h.na k hk).2), h.oy.chg hc (fun k hk => (h.no k hk).2.1), h.bb.chg hc (far _ (by omega) (by omega)), h.bn.chg hc (far _ (by omega) (by omega)),
    (hc.block _ (by omega) (far _ (by omega) (by omega))).trans h.dfd, (hc.block _ (by omega) (far _ (by omega) (by omega))).trans h.loop, h.chg.trans hc (fun k hk hk2 => ?_), by have := hc.size; omega, fun k hk => ?_, fun k hk => ⟨(h.na k hk).1, fun hk2 => ?_⟩, fun k hk => ⟨(h.no k hk).1, fun hk2 => ?_, (h.no k hk).2.2⟩, hsv.trans h.sv, h.ap⟩
  · rcases h.nb k hk2 with h1 | h1
    · exact .inl h1
    · omega
  · rcases hn k hk with h1 | h1
    · exact h.nb k h1
    · exact .inr (by omega)
  · rcases hn k hk2 with h1 | h1
    · exact (h.na k hk).2 h1
    · have := h.or_.lt hk; omega
  · rcases hn k hk2 with h1 | h1
    · exact (h.no k hk).2.1 h1
    · have := Byts.lt h.oy hk; omega
end
/-- .. with a response that is new. -/
structure OnY (w0 : World) (ib : Nat) (L0 : Lay) (A0 : Option Addr) (c0 : Nat) (os0 : List Sl) (R : Obj) (st : St) (outs : List (List Nat)) (W : World) (r : Sl) (f : List Nat) : Prop where
  k : ∃ L A c os, OnK w0 ib L0 A0 c0 os0 R st outs W L A c os ∧ (∀ k, foot r.A r.c k → w0.heap.size + 5 ≤ k ∧ ¬ boxF ib L k ∧ ¬ foot A c k ∧ ¬ foots os k)
  byt : Byt W r f
def OnJ (w0 : World) (ib : Nat) (L0 : Lay) (A0 : Option Addr) (c0 : Nat) (os0 : List Sl) (R : Obj) (st : St) (outs : List (List Nat)) (W : World) : Prop :=
  ∃ L A c os, OnK w0 ib L0 A0 c0 os0 R st outs W L A c os

/-- The answer to a call of yield. -/
def YieldT (J : World → Prop) (v : Bool) (e : Ending) (W' : World) : Prop := e = .returned (.bool v) ∧ J W'
/-- How the iterator ends: all frames were begun, or it was left. -/
def BegunEnd (w0 : World) (ib : Nat) (L0 : Lay) (A0 : Option Addr) (c0 : Nat) (os0 : List Sl) (R Rx : Obj) (res : St × List (List Nat)) (e : Ending) (W' : World) : Prop :=
  (∃ v, e = .returned v) ∧ ∃ st outs, (st, outs) = res ∧ (OnJ w0 ib L0 A0 c0 os0 R st outs W' ∨ OnJ w0 ib L0 A0 c0 os0 Rx st outs W')

/-- What holds where a frame was begun: v4, v5: the answer. -/
def Mid (w : World) (ib : Nat) (L : Lay) (st : St) (f : List Nat) (fs : List (List Nat)) (v4 v5 : Value) (w' : World) : Prop :=
  ∃ (r : Sl) (L' : Lay), v4 = .slice r.A r.n r.c ∧ v5 = .bool (decide (((needs f : Nat) : Int) ≤ 0)) ∧
    Box w' ib L' { st with wait := fs, pend := true, cur := f, left := needs f, calls := st.calls ++ [if ((needs f : Nat) : Int) ≤ 0 then 66 else 98] } ∧
    Chg (boxF ib L) w w' ∧ (∀ k, boxF ib L' k → boxF ib L k ∨ w.heap.size ≤ k) ∧ L'.sv = L.sv ∧ (((needs f : Nat) : Int) ≤ 0 → Byt w' r f ∧ ¬ foot r.A r.c ib)

theorem apart_cons {s : Sl} {l : List Sl} (h : Apart (s :: l)) : (∀ k, foot s.A s.c k → ¬ foots l k) ∧ Apart l := by
  obtain ⟨h1, h2⟩ := List.pairwise_cons.1 h
  exact ⟨fun k hk ⟨b, hb, hk2⟩ => h1 b hb k hk hk2, h2⟩
/-- The pieces of a begun frame, put together. -/
theorem mid_of {w w1 w2 w3 : World} {ib : Nat} {L : Lay} {st : St} {f : List Nat} {fs : List (List Nat)} {s : Sl} {ss : List Sl} {Q' F' R' C' r : Sl}
    (hb : Box w ib L st) (hss : L.ss = s :: ss) (hw : st.wait = f :: fs) (h1 : Chg (fun k => k = ib) w w1) (hn : Next w1 ib L.sv true L.Q ss st.put st.ans st.turns st.idle w2 Q')
    (hsv : Served w2 L.sv L.F L.R L.C (foot s.A s.c) f ((needs f : Nat) : Int) (st.calls ++ [if ((needs f : Nat) : Int) ≤ 0 then 66 else 98]) w3 F' R' C')
    (hr : decide (((needs f : Nat) : Int) ≤ 0) = true → r = R' ∧ Byt w3 R' f) :
    Mid w ib L st f fs (.slice r.A r.n r.c) (.bool (decide (((needs f : Nat) : Int) ≤ 0))) w3 := by
  have hz := hb.byt
  rw [hss, hw] at hz
  obtain ⟨hbs, hbss⟩ := Byts.tail hz
  have d3 := hb.d3
  have d4 := hb.d4
  rw [hss] at d3 d4
  obtain ⟨d5, d6⟩ := apart_cons d4
  have c12 : Chg (fun k => k = ib ∨ foot L.Q.A L.Q.c k) w w2 := (h1.mono (fun k _ hk => .inl hk)).t (hn.chg)
  have c23 : Chg (fun k => srvF L.sv L.F L.R L.C k ∨ foot s.A s.c k) w2 w3 := hsv.chg
  have lt : ∀ {k}, boxF ib L k → k < w2.heap.size := fun hk => Nat.lt_of_lt_of_le (hb.lt hk) c12.size
  have ds : ∀ k, foot s.A s.c k → boxF ib L k := fun k hk => .inr (.inr (.inr (by rw [hss]; exact foots_cons.2 (.inl hk))))
  have dss : ∀ k, foots ss k → boxF ib L k := fun k hk => .inr (.inr (.inr (by rw [hss]; exact foots_cons.2 (.inr hk))))
  have nw : ∀ k, srvF L.sv F' R' C' k → srvF L.sv L.F L.R L.C k ∨ w2.heap.size ≤ k := hsv.new
  refine ⟨r, ⟨L.sv, F', R', C', Q', ss⟩, rfl, rfl, ⟨Blk.chg hn.blk c23 (fun hk => ?_), hsv.srv, hn.que.chg c23 (fun k hk hk2 => ?_), (hbss.chg c12 (fun k hk hk2 => ?_)).chg c23 (fun k hk hk2 => ?_), fun hk => ?_, fun k hk => ?_, fun k hk => ?_, d6⟩,
    (c12.mono (fun k _ hk => ?_)).t (c23.mono (fun k _ hk => ?_)), fun k hk => ?_, rfl, fun hd => ?_⟩
  · rcases hk with hk | hk
    · exact hb.d1 hk
    · exact (d3 ib (foots_cons.2 (.inl hk))).1 rfl
  · have hq := hn.sub k hk
    rcases hk2 with hk2 | hk2
    · exact (hb.d2 k hq).2 hk2
    · exact (d3 k (foots_cons.2 (.inl hk2))).2.2 hq
  · have h3 := d3 k (foots_cons.2 (.inr hk))
    rcases hk2 with hk2 | hk2
    · exact h3.1 hk2
    · exact h3.2.2 hk2
  · have h3 := d3 k (foots_cons.2 (.inr hk))
    rcases hk2 with hk2 | hk2
    · exact h3.2.1 hk2
    · exact d5 k hk2 hk
  · rcases nw ib hk with h3 | h3
    · exact hb.d1 h3
    · have := lt (k := ib) (.inl rfl); omega
  · have hq := hn.sub k hk
    refine ⟨(hb.d2 k hq).1, fun h3 => ?_⟩
    rcases nw k h3 with h3 | h3
    · exact (hb.d2 k hq).2 h3
    · have := lt (k := k) (.inr (.inr (.inl hq))); omega
  · have h3 := d3 k (foots_cons.2 (.inr hk))
    refine ⟨h3.1, fun h4 => ?_, fun h4 => h3.2.2 (hn.sub k h4)⟩
    rcases nw k h4 with h4 | h4
    · exact h3.2.1 h4
    · have := lt (dss k hk); omega
  · rcases hk with hk | hk
    · exact .inl hk
    · exact .inr (.inr (.inl hk))
  · rcases hk with hk | hk
    · exact .inr (.inl hk)
    · exact ds k hk
  · rcases hk with hk | hk | hk | hk
    · exact .inl (.inl hk)
    · rcases nw k hk with h3 | h3
      · exact .inl (.inr (.inl h3))
      · exact .inr (Nat.le_trans c12.size h3)
    · exact .inl (.inr (.inr (.inl (hn.sub k hk))))
    · exact .inl (dss k hk)
  · obtain ⟨rfl, h3⟩ := hr (by simpa using hd)
    refine ⟨h3, fun hk => ?_⟩
    rcases nw ib (.inr (.inr (.inl hk))) with h4 | h4
    · exact hb.d1 h4
    · have := lt (k := ib) (.inl rfl); omega

theorem Box.answered {w w' : World} {ib : Nat} {L : Lay} {st : St} {f : List Nat} {s : Sl} (h : Box w ib L st) (ha : Answered w ib L.sv L.Q st.put st.ans st.turns st.idle f s w') : Box w' ib L { st with pend := false, ans := st.ans + 1 } :=
  ⟨ha.blk, h.srv.chg ha.chg (fun _ hk e => h.d1 (e ▸ hk)), h.que.chg ha.chg (fun k hk e => (h.d2 k hk).1 e), h.byt.chg ha.chg (fun k hk e => (h.d3 k hk).1 e), h.d1, h.d2, h.d3, h.d4⟩

set_option maxRecDepth 100000 in
set_option maxHeartbeats 4000000 in
theorem ib_begun2 (w0 : World) (ib : Nat) (L0 : Lay) (A0 : Option Addr) (c0 : Nat) (os0 : List Sl) (R Rx : Obj) (st0 : St) (outs0 : List (List Nat)) (hs : OnS w0 ib L0 A0 c0 os0) (hf : Fine st0 0)
    (hY1 : ∀ st outs W r f, OnY w0 ib L0 A0 c0 os0 R st outs W r f → outs.length ≤ 100000000 → YieldAt Fence.wide 8 Try.prog (w0.heap.size + 4) #[slv r, .bool true] W (YieldT (OnJ w0 ib L0 A0 c0 os0 R st (outs ++ [f])) true))
    (hY0 : ∀ st outs W A n c, OnJ w0 ib L0 A0 c0 os0 R st outs W → YieldAt Fence.wide 8 Try.prog (w0.heap.size + 4) #[.slice A n c, .bool false] W (YieldT (OnJ w0 ib L0 A0 c0 os0 Rx st outs) false))
    (W : World) (hp : st0.pend = false) (ho : outs0.length + st0.wait.length ≤ 100000000) (h0 : OnJ w0 ib L0 A0 c0 os0 R st0 outs0 W) :
    Calls Try.prog 38 #[.func (.yield (w0.heap.size + 4)) #[] #[], .pointer (some ⟨w0.heap.size + 1, 0, none⟩), .pointer (some ⟨w0.heap.size + 2, 0, none⟩)] W (BegunEnd w0 ib L0 A0 c0 os0 R Rx (onL st0.wait st0 outs0)) := by
  have HY1 := Lib.hid hY1
  have HY0 := Lib.hid hY0
  have Hs := Lib.hid hs
  generalize hres : onL st0.wait st0 outs0 = res
  have hlen := h0
  obtain ⟨nw, hnw⟩ : ∃ nw, st0.wait.length = nw := ⟨_, rfl⟩
  have H0 := Lib.hid h0
  have Hall : Hid (st0.wait.length = nw ∧ st0.pend = false ∧ Fine st0 0 ∧ outs0.length + st0.wait.length ≤ 100000000 ∧ onL st0.wait st0 outs0 = res) := Lib.hid ⟨hnw, hp, hf, ho, hres⟩
  clear hY1 hY0 hs hlen hnw h0 hp hf ho hres
  go_enter Try.func38, Try.ntmps38
  go_wp2_with fail
  go_loopg [4, 5] nw (fun k _ _ wr => ∃ st outs, Hid (st.wait.length = k ∧ st.pend = false ∧ Fine st 0 ∧ outs.length + st.wait.length ≤ 100000000 ∧ onL st.wait st outs = res) ∧ Hid (OnJ w0 ib L0 A0 c0 os0 R st outs wr))
  case atStart => exact ⟨st0, outs0, Hall, H0⟩
  case round =>
    obtain ⟨st, outs, Hst, HJ⟩ := hrel
    clear H0 Hall
    obtain ⟨L, A, c, os, hk⟩ := HJ.out
    have cb := hk.bb.cell0
    have cn := hk.bn.cell0
    obtain ⟨i0, i1, i2, i3, i4, i5, i6⟩ := Blk.c7 hk.box.blk
    obtain ⟨z0, z1, z2, z3, z4, z5, z6⟩ := Blk.f7 hk.box.blk
    unfold slv at i2
    have hqn := hk.box.qn
    have Hqn := Lib.hid hqn
    clear hqn
    have hbox := hk.box
    have hK := Lib.hid hk
    clear hk
    by_cases hq : L.Q.n = 0
    · rw [hq] at i2
      have Hq := Lib.hid hq
      clear hq
      go_wp2_with fail
      go_end0
      have hw : st.wait = [] := List.eq_nil_of_length_eq_zero (by rw [← Hqn.out, Hq.out])
      obtain ⟨_, _, _, _, h5⟩ := Hst.out
      rw [hw] at h5
      refine ⟨⟨_, rfl⟩, _, _, h5, .inl ?_⟩
      have e : ({ st with wait := [] } : St) = st := by rw [← hw]
      rw [e]
      exact HJ.out
    · have hq0 : 0 < (L.Q.n : Int) := by omega
      have hqN : 0 < L.Q.n := by omega
      obtain ⟨f, fs, hw⟩ : ∃ f fs, st.wait = f :: fs := by
        cases hw : st.wait with
        | nil => rw [Hqn.out, hw] at hq; simp at hq
        | cons f fs => exact ⟨f, fs, rfl⟩
      obtain ⟨s, ss, hss⟩ : ∃ s ss, L.ss = s :: ss := by
        cases hs : L.ss with
        | nil => have := hbox.byt.len; rw [hs, hw] at this; simp at this
        | cons s ss => exact ⟨s, ss, rfl⟩
      have Hw := Lib.hid hw
      have Hss := Lib.hid hss
      clear hw hss hq
      go_wp2_with fail
      have b1 := Blk.u1 hbox.blk (.bool true)
      have ch1 : Chg (fun k => k = ib) wr (wr.setCell ⟨ib, 1, none⟩ (.bool true)) := Chg.set _ _ _ _ rfl
      have hbi : w0.heap.size + 1 ≠ ib := fun e => by
        have h1 := Hs.out.lb ib
        rcases hK.out.nb ib (.inl rfl) with h2 | h2
        · have := h1 h2; omega
        · omega
      have hni : w0.heap.size + 2 ≠ ib := fun e => by
        have h1 := Hs.out.lb ib
        rcases hK.out.nb ib (.inl rfl) with h2 | h2
        · have := h1 h2; omega
        · omega
      have hfar : ∀ j, w0.heap.size ≤ j → j < w0.heap.size + 5 → ¬ boxF ib L j := fun j h1 h2 h3 => by
        rcases hK.out.nb j h3 with h4 | h4
        · have := Hs.out.lb j h4; omega
        · omega
      have hbq : ¬ foot L.Q.A L.Q.c (w0.heap.size + 1) := fun h => hfar _ (by omega) (by omega) (.inr (.inr (.inl h)))
      have hqi : ¬ foot L.Q.A L.Q.c ib := fun h => (hbox.d2 ib h).1 rfl
      have bb1 := hK.out.bb.chg ch1 (fun e => hbi e)
      have bn1 := hK.out.bn.chg ch1 (fun e => hni e)
      have que1 : Room (wr.setCell ⟨ib, 1, none⟩ (.bool true)) L.Q.A L.Q.n L.Q.c ((s :: ss).map slv) := by
        rw [← Hss.out]; exact hbox.que.chg ch1 (fun k hk e => (hbox.d2 k hk).1 e)
      have hz := hbox.byt
      rw [Hss.out, Hw.out] at hz
      obtain ⟨hbs, hbss⟩ := Byts.tail hz
      have hds : ∀ k, foot s.A s.c k → k ≠ ib ∧ ¬ srvF L.sv L.F L.R L.C k ∧ ¬ foot L.Q.A L.Q.c k := fun k hk => hbox.d3 k (by rw [Hss.out]; exact foots_cons.2 (.inl hk))
      have Hfine := Lib.hid (hbox.srv.clen)
      have hcl : st.calls.length ≤ 1000000000 := by have := Hst.out.2.2.1.calls; omega
      have hfl : f.length ≤ 1000000000 := by have := Hst.out.2.2.1.wait f (by rw [Hw.out]; simp); omega
      clear cb cn i0 i1 i2 i3 i4 i5 i6 z0 z1 z2 z3 z4 z5 z6 hz
      have Hch1 := Lib.hid ch1
      have Hbi := Lib.hid hbi
      have Hfar := Lib.hid hfar
      have Hbq := Lib.hid hbq
      have Hqi := Lib.hid hqi
      have Hds := Lib.hid hds
      have Hcl := Lib.hid hcl
      have Hfl := Lib.hid hfl
      have Hbs := Lib.hid hbs
      have Hbox := Lib.hid hbox
      have Hbb := Lib.hid bb1
      have Hbn := Lib.hid bn1
      have Hni := Lib.hid hni
      have b1 : IbBlk (wr.setCell ⟨ib, 1, none⟩ (.bool true)) ib L.sv true L.Q st.put st.ans st.turns st.idle := b1
      have Hb1 := Lib.hid b1
      have Hque := Lib.hid que1
      clear ch1 hbi hfar hbq hqi hds hcl hfl hbs hbss hbox bb1 bn1 hni b1 que1 Hfine
      go_upto_region 2 with fail
      go_cut [4, 5] from 15 to 26 (fun v4 v5 wx => Mid wr ib L st f fs v4 v5 wx)
      case first =>
        --A{
        generalize hW : wr.setCell ⟨ib, 1, none⟩ (.bool true) = W1 at *
        clear hW
        obtain ⟨i0, i1, i2, i3, i4, i5, i6⟩ := Blk.c7 Hb1.out
        have cb := Hbb.out.cell0
        have cn := Hbn.out.cell0
        obtain ⟨dn, Hdn⟩ : ∃ dn, Hid (decide (((needs f : Nat) : Int) ≤ 0) = dn) := ⟨_, Lib.hid rfl⟩
        have mn := fun w => m_nil w L.sv
        have mb := fun w => m_begin w L.sv
        have hsrv1 := Hbox.out.srv.chg (Hch1.out.t (Chg.drew W1)) (fun k hk e => Hbox.out.d1 (e ▸ hk))
        have hbs1 := Hbs.out.chg (Hch1.out.t (Chg.drew W1)) (fun k hk e => (Hds.out k hk).1 e)
        have Hsrv1 := Lib.hid hsrv1
        have Hbs1 := Lib.hid hbs1
        clear hsrv1 hbs1
        go_region_law (first
          | ((try go_simp); go_at_call 37; refine (ib_next ib L.sv _ true L.Q s ss _ _ _ _ _ (Blk.drew Hb1.out) (Hque.out.ext (Ext.drew _)) (Hbb.out.drew.cell0) Hbi.out Hbq.out Hqi.out).mono ?_; rintro e w2 ⟨Q', rfl, hnx⟩; have Hnx := Lib.hid hnx; obtain ⟨j0, -, -, -, -, -, -⟩ := Blk.c7 hnx.blk; have jb := ((Hbb.out.drew).chg hnx.chg (fun hk => hk.elim Hbi.out Hbq.out)).cell0; clear hnx)
          | ((try go_simp); go_at_call 54; refine (srv_Begin L.sv L.F L.R L.C s st.cur f (st.left : Int) st.calls w2 (Hsrv1.out.chg Hnx.out.chg (fun k hk hk2 => hk2.elim (fun e => Hbox.out.d1 (e ▸ hk)) (fun hq => (Hbox.out.d2 k hq).2 hk))) (Hbs1.out.chg Hnx.out.chg (fun k hk hk2 => hk2.elim (fun e => (Hds.out k hk).1 e) (fun hq => (Hds.out k hk).2.2 hq))) (fun k hk hk2 => (Hds.out k hk).2.1 hk2) Hcl.out Hfl.out).mono ?_; rintro e w3 ⟨F', R', C', ha, hsv⟩; obtain ⟨r, rfl, hr⟩ := ha.one; have Hsv := Lib.hid hsv; have Hr := Lib.hid hr; rw [Hdn.out]; clear hsv hr ha))
        all_goals go_wp2_with fail
        all_goals go_simp
        all_goals go_meet
        all_goals
          have hm := mid_of Hbox.out Hss.out Hw.out (Hch1.out.t (Chg.drew W1)) Hnx.out Hsv.out Hr.out
          rw [Hdn.out] at hm
          exact hm
        --A}
      case rest =>
        obtain ⟨r, L', rfl, rfl, hb', hc', hn', hsv', hr⟩ := hcut
        have Hb' := Lib.hid hb'
        have Hc' := Lib.hid hc'
        have Hn' := Lib.hid hn'
        have Hr := Lib.hid hr
        have Hsv' := Lib.hid hsv'
        clear hsv' Hb1 Hbb Hbn Hch1 Hque hb' hc' hn' hr
        have hKs := hK.out.step Hs.out Hc'.out Hb'.out Hn'.out Hsv'.out
        have cb := hKs.bb.cell0
        have HKs := Lib.hid hKs
        clear hKs
        by_cases hd : ((needs f : Nat) : Int) ≤ 0
        · have e5 : decide (((needs f : Nat) : Int) ≤ 0) = true := by simpa using hd
          have hn0 : needs f = 0 := by omega
          rw [e5]
          obtain ⟨hrb, hri⟩ := Hr.out hd
          have Hn0 := Lib.hid hn0
          have HA := Lib.hid (ib_answered ib L'.sv true L'.Q r st.put st.ans st.turns st.idle f _ Hb'.out.blk hrb hri (by have := Hst.out.2.2.1.ans; omega) Hfl.out)
          clear hd e5 hn0 hrb hri
          go_wp2_with fail
          refine HA.out.mono ?_
          rintro e w4 ⟨s2, rfl, ha⟩
          have hbox4 : Box w4 ib L' (stDone st f fs) := by
            have h := Hb'.out.answered ha
            have e1 : (if ((needs f : Nat) : Int) ≤ 0 then 66 else 98) = 66 := if_pos (by rw [Hn0.out]; decide)
            rw [e1, Hn0.out] at h
            exact h
          have hc4 : Chg (boxF ib L) wr w4 := Hc'.out.trans ha.chg (fun k _ e => e ▸ .inl rfl)
          have hK4 := hK.out.step Hs.out hc4 hbox4 Hn'.out Hsv'.out
          have hY : OnY w0 ib L0 A0 c0 os0 R (stDone st f fs) outs w4 s2 f := ⟨⟨L', A, c, os, hK4, fun k hk => by
            have h1 := ha.new k hk
            have h2 := HKs.out.size
            refine ⟨by omega, fun h3 => ?_, fun h3 => ?_, fun h3 => ?_⟩
            · have := HKs.out.box.lt h3; omega
            · have := HKs.out.or_.lt h3; omega
            · have := Byts.lt HKs.out.oy h3; omega⟩, ha.byt⟩
          have hol : outs.length ≤ 100000000 := by have := Hst.out.2.2.2.1; omega
          obtain ⟨fn, tmps, assign, body, hy, hR⟩ := HY1.out _ _ _ _ _ hY hol
          unfold slv at hy
          have HR := Lib.hid hR
          clear hbox4 hc4 hK4 hY hol cb ha hR
          unfold slv
          go_upto_region 5 with fail
          refine (wpIn_wide (n := 9)).1 ?_
          gi_wp2
          refine HR.out.mono ?_
          rintro e W' ⟨rfl, hJ'⟩
          have HJ' := Lib.hid hJ'
          clear hJ'
          gi_wp2
          go_wp2_with fail
          go_roundg fs.length
          case rel =>
            have hx := Hst.out
            have e : onL st.wait st outs = onL fs (stDone st f fs) (outs ++ [f]) := by rw [Hw.out, onL_cons, if_pos Hn0.out]
            rw [e, Hw.out] at hx
            obtain ⟨h1, h2, h3, h4, h5⟩ := hx
            refine ⟨stDone st f fs, outs ++ [f], Lib.hid ⟨rfl, rfl, ?_, ?_, h5⟩, HJ'⟩
            · have g1 := h3.calls
              have g2 := h3.ans
              rw [Hw.out] at g1 g2
              simp only [List.length_cons] at g1 g2
              exact ⟨by simp only [stDone, List.length_append, List.length_singleton]; omega, h3.put, by simp only [stDone]; omega, h3.turns, h3.idle, by simp [stDone], fun g hg => h3.wait g (by rw [Hw.out]; simp only [stDone] at hg; simp [hg]), h3.wait f (by rw [Hw.out]; simp)⟩
            · simp only [stDone, List.length_append, List.length_cons, List.length_nil] at h4 ⊢; omega
          case measure =>
            have h1 := Hst.out.1
            rw [Hw.out] at h1
            simp only [List.length_cons] at h1
            omega
        · have e5 : decide (((needs f : Nat) : Int) ≤ 0) = false := by simpa using hd
          have hn0 : ¬ needs f = 0 := by omega
          rw [e5]
          have Hn0 := Lib.hid hn0
          have hJ : OnJ w0 ib L0 A0 c0 os0 R (stPend st f fs) outs wc := by
            have h := HKs.out
            have e1 : (if ((needs f : Nat) : Int) ≤ 0 then 66 else 98) = 98 := if_neg hd
            rw [e1] at h
            exact ⟨L', A, c, os, h⟩
          obtain ⟨fn, tmps, assign, body, hy, hR⟩ := HY0.out _ _ _ r.A r.n r.c hJ
          have HR := Lib.hid hR
          clear hd e5 hn0 hJ hR cb
          go_upto_region 5 with fail
          refine (wpIn_wide (n := 9)).1 ?_
          gi_wp2
          refine HR.out.mono ?_
          rintro e W' ⟨rfl, hJ'⟩
          have HJ' := Lib.hid hJ'
          clear hJ'
          gi_wp2
          go_wp2_with fail
          refine bodyPost_ret (results_none rfl _ _ _) rfl ?_
          have hx := Hst.out.2.2.2.2
          have e : onL st.wait st outs = (stPend st f fs, outs) := by rw [Hw.out, onL_cons, if_neg Hn0.out]
          rw [e] at hx
          exact ⟨⟨_, rfl⟩, _, _, hx, .inr HJ'.out⟩
end Go.Proofs.Ytpipnefepnknoaa
