/- The inbox's methods: New, Put, Turn, Pending, Waiting, Counts, Frames. -/
import Derived.Test.YtpipnefepnknoaaOn
namespace Go.Proofs.Ytpipnefepnknoaa
open Go.RowKit Go.Fx
def putF (st : St) (f : List Nat) : St × List (List Nat) := on { st with wait := st.wait ++ [f], put := st.put + 1 } []
def turn1 (st : St) : St := { st with turns := st.turns + 1, left := st.left - 1, calls := st.calls ++ [if st.left - 1 = 0 then 84 else 116] }
def turnF (st : St) : St × List (List Nat) :=
  if st.pend then (if st.left - 1 = 0 then on { turn1 st with pend := false, ans := st.ans + 1 } [st.cur] else (turn1 st, [])) else ({ st with idle := st.idle + 1 }, [])

/-- What a method that answers leaves. -/
structure Reply (w : World) (ib : Nat) (L : Lay) (res : St × List (List Nat)) (e : Ending) (w' : World) (L' : Lay) (A' : Option Addr) (c' : Nat) (os' : List Sl) : Prop where
  ret : e = .returned (.tuple #[.slice A' os'.length c', .int .i64 0])
  box : Box w' ib L' res.1
  room : Room w' A' os'.length c' (os'.map slv)
  outs : Byts w' os' res.2
  chg : Chg (boxF ib L) w w'
  nb : ∀ k, boxF ib L' k → boxF ib L k ∨ w.heap.size ≤ k
  na : ∀ k, foot A' c' k → w.heap.size ≤ k ∧ ¬ boxF ib L' k
  no : ∀ k, foots os' k → w.heap.size ≤ k ∧ ¬ boxF ib L' k ∧ ¬ foot A' c' k
  sv : L'.sv = L.sv
  ap : Apart os'
def ReplyP (w : World) (ib : Nat) (L : Lay) (res : St × List (List Nat)) (e : Ending) (w' : World) : Prop := ∃ L' A' c' os', Reply w ib L res e w' L' A' c' os'

theorem box_put {w w1 w2 : World} {ib : Nat} {L : Lay} {st : St} {xs : List Nat} {s : Sl} {A' : Option Addr} {c' : Nat} (h : Box w ib L st) (e1 : Ext w w1) (hs : Byt w1 s xs) (hn : ∀ k, foot s.A s.c k → w.heap.size ≤ k)
    (hr : Room w2 A' (L.Q.n + 1) c' (L.ss.map slv ++ [slv s])) (hc : Chg (foot L.Q.A L.Q.c) w1 w2) (hf : ∀ k, foot A' c' k → foot L.Q.A L.Q.c k ∨ w1.heap.size ≤ k) :
    Box ((w2.setCell ⟨ib, 2, none⟩ (.slice A' (L.Q.n + 1) c')).setCell ⟨ib, 3, none⟩ (.int .i64 ((st.put : Int) + 1))) ib { L with Q := ⟨A', L.Q.n + 1, c'⟩, ss := L.ss ++ [s] } { st with wait := st.wait ++ [xs], put := st.put + 1 } ∧
    Chg (boxF ib L) w ((w2.setCell ⟨ib, 2, none⟩ (.slice A' (L.Q.n + 1) c')).setCell ⟨ib, 3, none⟩ (.int .i64 ((st.put : Int) + 1))) ∧
    (∀ k, boxF ib { L with Q := ⟨A', L.Q.n + 1, c'⟩, ss := L.ss ++ [s] } k → boxF ib L k ∨ w.heap.size ≤ k) := by
  have hi : ib < w.heap.size := h.lt (.inl rfl)
  have hqi : ¬ foot L.Q.A L.Q.c ib := fun hk => (h.d2 ib hk).1 rfl
  have c2 : Chg (foot L.Q.A L.Q.c) w w2 := (Chg.ofExt e1).t hc
  have b2 := Blk.chg h.blk c2 hqi
  have b3 := Blk.u3 (Blk.u2 b2 (.slice A' (L.Q.n + 1) c')) (.int .i64 ((st.put : Int) + 1))
  have cs : Chg (fun k => k = ib) w2 ((w2.setCell ⟨ib, 2, none⟩ (.slice A' (L.Q.n + 1) c')).setCell ⟨ib, 3, none⟩ (.int .i64 ((st.put : Int) + 1))) := (Chg.set (T := fun k => k = ib) _ _ _ _ rfl).t (Chg.set (T := fun k => k = ib) _ _ _ _ rfl)
  have hf' : ∀ k, foot A' c' k → foot L.Q.A L.Q.c k ∨ w.heap.size ≤ k := fun k hk => (hf k hk).imp id (fun h1 => Nat.le_trans e1.size h1)
  have call : Chg (fun k => foot L.Q.A L.Q.c k ∨ k = ib) w ((w2.setCell ⟨ib, 2, none⟩ (.slice A' (L.Q.n + 1) c')).setCell ⟨ib, 3, none⟩ (.int .i64 ((st.put : Int) + 1))) := (c2.mono (fun k _ hk => .inl hk)).t (cs.mono (fun k _ hk => .inr hk))
  have hs' : Byt ((w2.setCell ⟨ib, 2, none⟩ (.slice A' (L.Q.n + 1) c')).setCell ⟨ib, 3, none⟩ (.int .i64 ((st.put : Int) + 1))) s xs := (hs.chg hc (fun k hk hk2 => by
    have h1 := hn k hk
    have := h.que.lt hk2; omega)).chg cs (fun k hk e => by have := hn k hk; omega)
  refine ⟨⟨?_, h.srv.chg call (fun k hk hk2 => hk2.elim (fun h1 => (h.d2 k h1).2 hk) (fun e => h.d1 (e ▸ hk))), ?_, ?_, h.d1, fun k hk => ?_, fun k hk => ?_, ?_⟩, call.mono (fun k _ hk => hk.elim (fun h1 => .inr (.inr (.inl h1))) .inl), fun k hk => ?_⟩
  · exact b3
  · rw [List.map_append]
    exact hr.chg cs (fun k hk e => by
      subst e
      rcases hf' _ hk with h1 | h1
      · exact hqi h1
      · omega)
  · exact (h.byt.chg call (fun k hk hk2 => hk2.elim (fun h1 => (h.d3 k hk).2.2 h1) (fun e => (h.d3 k hk).1 e))).snoc hs'
  · rcases hf' k hk with h1 | h1
    · exact h.d2 k h1
    · exact ⟨by omega, fun h2 => by have := h.srv.lt h2; omega⟩
  · rcases foots_append.1 hk with h1 | h1
    · refine ⟨(h.d3 k h1).1, (h.d3 k h1).2.1, fun h2 => ?_⟩
      rcases hf' k h2 with h2 | h2
      · exact (h.d3 k h1).2.2 h2
      · have := Byts.lt h.byt h1; omega
    · have h3 := hn k (foots_one.1 h1)
      refine ⟨by omega, fun h2 => by have := h.srv.lt h2; omega, fun h2 => ?_⟩
      rcases hf k h2 with h2 | h2
      · have := h.que.lt h2; omega
      · have := hs.room.lt (foots_one.1 h1); omega
  · exact apart_snoc h.d4 (fun k h1 h2 => by have := Byts.lt h.byt h1; have := hn k h2; omega)
  · rcases hk with h1 | h1 | h1 | h1
    · exact .inl (.inl h1)
    · exact .inl (.inr (.inl h1))
    · exact (hf' k h1).imp (fun h2 => .inr (.inr (.inl h2))) id
    · rcases foots_append.1 h1 with h2 | h2
      · exact .inl (.inr (.inr (.inr h2)))
      · exact .inr (hn k (foots_one.1 h2))
theorem Fine.put_ {st : St} {N : Nat} {xs : List Nat} (h : Fine st (N + 1)) (hx : xs.length ≤ 1000000) : Fine { st with wait := st.wait ++ [xs], put := st.put + 1 } N :=
  ⟨by have := h.calls; simp; omega, by have := h.put; simp; omega, by have := h.ans; simp; omega, by have := h.turns; simp; omega, by have := h.idle; simp; omega, h.left, fun f hf => by
    rcases List.mem_append.1 hf with h1 | h1
    · exact h.wait f h1
    · simp at h1; subst h1; exact hx, h.cur⟩
theorem Fine.mono {st : St} {N M : Nat} (h : Fine st N) (hm : M ≤ N) : Fine st M :=
  ⟨by have := h.calls; omega, by have := h.put; omega, by have := h.ans; omega, by have := h.turns; omega, by have := h.idle; omega, h.left, h.wait, h.cur⟩

set_option maxRecDepth 100000 in
set_option maxHeartbeats 2000000 in
theorem ib_Put (ib : Nat) (L : Lay) (st : St) (Af : Option Addr) (nf cf : Nat) (xs : List Nat) (w : World) (hb : Box w ib L st) (hf : Fine st 1) (hx : Rd u8v w Af nf xs) (hlt : ∀ x ∈ xs, x < 256) (hxl : xs.length ≤ 1000000) (hwl : st.wait.length < 1000000) :
    Calls Try.prog 17 #[.pointer (some ⟨ib, 0, none⟩), .slice Af nf cf] w (ReplyP w ib L (putF st xs)) := by
  obtain ⟨c0, c1, c2, c3, c4, c5, c6⟩ := Blk.c7 hb.blk
  obtain ⟨f0, f1, f2, f3, f4, f5, f6⟩ := Blk.f7 hb.blk
  have HN := Lib.hid (ib_none ib L.sv st.pend L.Q _ _ _ _ w hb.blk)
  have hq := hb.qn
  have hqn : L.Q.n < 1000000 := by omega
  have hqn' : decide ((1048576 : Int) ≤ (L.Q.n : Int)) = false := by simp; omega
  have hqn2 : decide (1048576 ≤ L.Q.n) = false := by simp; omega
  have Hqn := Lib.hid hqn
  clear hqn
  have hnf : nf ≤ 1000000 := by have := hx.1; omega
  have hpt : st.put ≤ 100000000 := by have := hf.put; omega
  have hib : ib < w.heap.size := hb.lt (.inl rfl)
  have hqi : ¬ foot L.Q.A L.Q.c ib := fun hk => (hb.d2 ib hk).1 rfl
  have HO := Lib.hid (fun L' st' w' (hb' : Box w' ib L' st') (hf' : Fine st' 0) hl => ib_on ib L' st' none 0 [] [] w' hb' hf' Room.nil Byts.nil hl (fun k hk => absurd hk foot_none) (fun k hk => absurd hk foots_nil) List.Pairwise.nil)
  unfold slv at c2
  unfold putF
  have Hf := Lib.hid hf
  have Hwl := Lib.hid hwl
  have Hxl := Lib.hid hxl
  clear hq hwl hxl hf
  go_enter Try.func17, Try.ntmps17
  go_wp2_with fail
  refine HN.out.mono ?_; rintro e w1 ⟨rfl, rfl⟩
  go_wp2_with fail
  clear hqn' hqn2
  have HX := Lib.hid hx
  have HB := Lib.hid hb
  have Hqi := Lib.hid hqi
  have k2 : (w.alloc (.cells #[] 5)).cell? ⟨ib, 2, none⟩ = some (.slice L.Q.A L.Q.n L.Q.c) := ((Ext.alloc w _).cell (p := ⟨ib, 2, none⟩) hib).trans c2
  clear hx hb hqi c0 c1 c3 c4 c5 c6 f0 f1 f2 f3 f4 f5 f6
  go_region_law (first
    | (refine step_append_at (A := some ⟨w.heap.size, 0, none⟩) rfl rfl ul_u8 info_u8 rfl (by simp [Act.eval]) Room.zero (by simp [Act.eval]; rfl) (Src.ofRd ul_u8 ((HX.out.drew).alloc _) (fun _ => rfl)) (by simp only [maxLen]; omega) (by omega) ?_
       intro A2 cc2 w2 r2 ch2 ft2
       have e2 : Ext w w2 := ((Ext.drew w).t (Ext.alloc _ _)).t ((ch2.mono (T' := fun _ => False) (fun k _ hk => foot_zero hk)).ext)
       obtain ⟨-, -, j2, -, -, -, -⟩ := Blk.c7 (HB.out.blk.ext e2)
       obtain ⟨-, -, l2, -, -, -, -⟩ := Blk.c7 (HB.out.blk.ext (e2.t (Ext.alloc w2 (.cells #[.slice A2 (0 + nf) cc2] 29))))
       unfold slv at j2 l2
       rw [Nat.zero_add] at l2)
    | (refine step_append_at (m := 1) rfl rfl ul_bb info_bb rfl (by simp [Act.eval]) (HB.out.que.ext (e2.t (Ext.alloc w2 _))) (by simp [Act.eval]; rfl) (Src.ofRd (f := slv) (xs := [⟨A2, nf, cc2⟩]) ul_bb ((Blk.new w2 _ _).rd rfl rfl) (fun _ => rfl)) (by have := Hqn.out; simp only [maxLen]; omega) (by have := Hqn.out; omega) ?_
       intro A3 cc3 w3 r3 ch3 ft3
       have b3 := Blk.chg (HB.out.blk.ext (e2.t (Ext.alloc w2 (.cells #[.slice A2 nf cc2] 29)))) ch3 Hqi.out
       obtain ⟨m0, m1, m2, m3, m4, m5, m6⟩ := Blk.c7 b3
       obtain ⟨n0, n1, n2, n3, n4, n5, n6⟩ := Blk.f7 b3
       obtain ⟨o0, o1, o2, o3, o4, o5, o6⟩ := Blk.c7 (Blk.u2 b3 (.slice A3 (L.Q.n + 1) cc3))
       obtain ⟨p0, p1, p2, p3, p4, p5, p6⟩ := Blk.f7 (Blk.u2 b3 (.slice A3 (L.Q.n + 1) cc3))))
  all_goals go_wp2_with fail
  all_goals
    try simp only [Nat.zero_add] at r2
    have hs2 : Byt w2 ⟨A2, nf, cc2⟩ xs := ⟨by simpa using r2, hlt⟩
    have hn2 : ∀ k, foot A2 cc2 k → w.heap.size ≤ k := fun k hk => by
      rcases ft2 k hk with h1 | h1
      · exact absurd h1 foot_zero
      · simp at h1; omega
    obtain ⟨hbox, hch, hnb⟩ := box_put (s := ⟨A2, nf, cc2⟩) HB.out (e2.t (Ext.alloc w2 _)) (hs2.ext (Ext.alloc w2 _)) hn2 r3 ch3 ft3
    have hfin := Fine.put_ (N := 0) Hf.out Hxl.out
    refine (HO.out _ _ _ hbox hfin (by simp; have := Hwl.out; omega)).mono ?_
    clear hs2 hn2 r2 r3 ch2 ch3 ft2 ft3 b3 m0 m1 m2 m3 m4 m5 m6 n0 n1 n2 n3 n4 n5 n6 o0 o1 o2 o3 o4 o5 o6 p0 p1 p2 p3 p4 p5 p6 k2 c2
    have Hch := Lib.hid hch
    have Hnb := Lib.hid hnb
    clear hbox hch hnb hfin e2 j2 l2
    rintro e w5 ⟨L', A', c', os', hp⟩
    have Hp := Lib.hid hp
    have hret := hp.ret
    clear hp
    subst hret
    go_wp2_with fail
    go_ret2
    refine ⟨L', A', c', os', rfl, Hp.out.box, Hp.out.room, Hp.out.outs, Hch.out.trans Hp.out.chg (fun k hk hk2 => ?_), fun k hk => ?_, fun k hk => ?_, fun k hk => ?_, Hp.out.sv, Hp.out.ap⟩
    · rcases hk2 with hk2 | hk2
      · rcases Hnb.out k hk2 with h1 | h1
        · exact h1
        · omega
      · exact absurd hk2 foot_none
    · rcases Hp.out.nb k hk with h1 | h1
      · exact Hnb.out k h1
      · exact .inr (Nat.le_trans Hch.out.size h1)
    · refine ⟨?_, (Hp.out.na k hk).2⟩
      rcases (Hp.out.na k hk).1 with h1 | h1
      · exact absurd h1 foot_none
      · exact Nat.le_trans Hch.out.size h1
    · refine ⟨?_, (Hp.out.no k hk).2⟩
      rcases (Hp.out.no k hk).1 with h1 | h1
      · exact absurd h1 foots_nil
      · exact Nat.le_trans Hch.out.size h1
end Go.Proofs.Ytpipnefepnknoaa
