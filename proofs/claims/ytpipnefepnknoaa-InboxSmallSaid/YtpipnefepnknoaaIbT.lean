/- The inbox's Turn. -/
import Derived.Test.YtpipnefepnknoaaIbM
namespace Go.Proofs.Ytpipnefepnknoaa
open Go.RowKit Go.Fx
theorem m_turn (w : World) (sv : Nat) : (method 198 26 (.pointer (some ⟨sv, 0, none⟩)) "Turn").run Try.prog w = .ok (55, .pointer (some ⟨sv, 0, none⟩)) w := by kernel_rfl

theorem Fine.turn_ {st : St} {N : Nat} (h : Fine st (N + 1)) : Fine { turn1 st with pend := false, ans := st.ans + 1 } N :=
  ⟨by have := h.calls; simp only [turn1, List.length_append, List.length_cons, List.length_nil]; omega, by have := h.put; simp only [turn1]; omega, by have := h.ans; simp only [turn1]; omega, by have := h.turns; simp only [turn1]; omega, by have := h.idle; simp only [turn1]; omega, by have := h.left; simp only [turn1]; omega, h.wait, h.cur⟩

/-- The server has taken a turn: the inbox now. -/
theorem box_turn {w w1 w2 : World} {ib : Nat} {L : Lay} {st : St} {F' R' C' : Sl} {cl : List Nat} {lf : Int} (h : Box w ib L st) (hl : lf = ((st.left - 1 : Nat) : Int)) (hcl : cl = (turn1 st).calls)
    (c1 : Chg (fun k => k = ib) w w1) (b1 : IbBlk w1 ib L.sv st.pend L.Q st.put st.ans (st.turns + 1) st.idle) (hs : Served w1 L.sv L.F L.R L.C (fun _ => False) st.cur lf cl w2 F' R' C') :
    Box w2 ib { L with F := F', R := R', C := C' } (turn1 st) ∧ Chg (boxF ib L) w w2 ∧ (∀ k, boxF ib { L with F := F', R := R', C := C' } k → boxF ib L k ∨ w.heap.size ≤ k) := by
  subst hl
  subst hcl
  have nw : ∀ k, srvF L.sv F' R' C' k → srvF L.sv L.F L.R L.C k ∨ w1.heap.size ≤ k := hs.new
  have c2 : Chg (srvF L.sv L.F L.R L.C) w1 w2 := hs.chg.mono (fun k _ hk => hk.elim id False.elim)
  have lt : ∀ {k}, boxF ib L k → k < w1.heap.size := fun hk => Nat.lt_of_lt_of_le (h.lt hk) c1.size
  refine ⟨⟨Blk.chg b1 c2 h.d1, hs.srv, (h.que.chg c1 (fun k hk e => (h.d2 k hk).1 e)).chg c2 (fun k hk hk2 => (h.d2 k hk).2 hk2), (h.byt.chg c1 (fun k hk e => (h.d3 k hk).1 e)).chg c2 (fun k hk hk2 => (h.d3 k hk).2.1 hk2), fun hk => ?_, fun k hk => ⟨(h.d2 k hk).1, fun hk2 => ?_⟩, fun k hk => ⟨(h.d3 k hk).1, fun hk2 => ?_, (h.d3 k hk).2.2⟩, h.d4⟩,
    (c1.mono (fun k _ e => .inl e)).t (c2.mono (fun k _ hk => .inr (.inl hk))), fun k hk => ?_⟩
  · rcases nw ib hk with h3 | h3
    · exact h.d1 h3
    · have := lt (k := ib) (.inl rfl); omega
  · rcases nw k hk2 with h3 | h3
    · exact (h.d2 k hk).2 h3
    · have := lt (k := k) (.inr (.inr (.inl hk))); omega
  · rcases nw k hk2 with h3 | h3
    · exact (h.d3 k hk).2.1 h3
    · have := lt (k := k) (.inr (.inr (.inr hk))); omega
  · rcases hk with h1 | h1 | h1 | h1
    · exact .inl (.inl h1)
    · rcases nw k h1 with h3 | h3
      · exact .inl (.inr (.inl h3))
      · exact .inr (Nat.le_trans c1.size h3)
    · exact .inl (.inr (.inr (.inl h1)))
    · exact .inl (.inr (.inr (.inr h1)))

set_option maxRecDepth 100000 in
set_option maxHeartbeats 2000000 in
theorem ib_Turn (ib : Nat) (L : Lay) (st : St) (w : World) (hb : Box w ib L st) (hf : Fine st 1) (hpl : st.pend = true → 1 ≤ st.left) (hol : st.wait.length < 1000000) :
    Calls Try.prog 18 #[.pointer (some ⟨ib, 0, none⟩)] w (ReplyP w ib L (turnF st)) := by
  obtain ⟨c0, c1, c2, c3, c4, c5, c6⟩ := Blk.c7 hb.blk
  obtain ⟨f0, f1, f2, f3, f4, f5, f6⟩ := Blk.f7 hb.blk
  have HN := Lib.hid (ib_none ib L.sv st.pend L.Q _ _ _ _ w hb.blk)
  have hti : st.turns ≤ 100000000 := by have := hf.turns; omega
  have hid : st.idle ≤ 100000000 := by have := hf.idle; omega
  have HB := Lib.hid hb
  have Hf := Lib.hid hf
  have Hol := Lib.hid hol
  unfold turnF
  by_cases hp : st.pend = true
  · have hle := hpl hp
    rw [if_pos hp]
    rw [hp] at c1
    have ch1 : Chg (fun k => k = ib) w (w.setCell ⟨ib, 5, none⟩ (.int .i64 ((st.turns : Int) + 1))) := Chg.set _ _ _ _ rfl
    have b1 := Blk.u5 hb.blk (.int .i64 ((st.turns : Int) + 1))
    have hsrv := hb.srv.chg ch1 (fun k hk e => hb.d1 (e ▸ hk))
    have HS := Lib.hid (srv_Turn L.sv L.F L.R L.C st.cur (st.left : Int) st.calls _ hsrv (by omega) (by have := hf.left; omega) (by have := hf.calls; omega) (by have := hf.cur; omega))
    have hdn : decide ((st.left : Int) - 1 ≤ 0) = decide (st.left - 1 = 0) := by
      rw [decide_eq_decide]; omega
    have hcl : st.calls ++ [if (st.left : Int) - 1 ≤ 0 then 84 else 116] = (turn1 st).calls := by
      simp only [turn1]
      congr 2
      by_cases h0 : st.left - 1 = 0
      · rw [if_pos h0, if_pos (by omega)]
      · rw [if_neg h0, if_neg (by omega)]
    rw [hdn, hcl] at HS
    have Hlf : Hid ((st.left : Int) - 1 = ((st.left - 1 : Nat) : Int)) := Lib.hid (by omega)
    have Hp := Lib.hid hp
    have Hb1 := Lib.hid b1
    have Hch1 := Lib.hid ch1
    have mt := fun w => m_turn w L.sv
    obtain ⟨d0, d1, d2, d3, d4, d5, d6⟩ := Blk.c7 b1
    clear hdn hcl hp b1 ch1 hsrv hpl hb hf hol hid
    by_cases h0 : st.left - 1 = 0
    · rw [if_pos h0]
      have e0 : decide (st.left - 1 = 0) = true := by simpa using h0
      rw [e0] at HS
      have H0 := Lib.hid h0
      clear e0 h0
      go_enter Try.func18, Try.ntmps18
      go_wp2_with fail
      refine HN.out.mono ?_; rintro e w1 ⟨rfl, rfl⟩
      go_wp2_with fail
      refine HS.out.mono ?_
      rintro e w2 ⟨F', R', C', ha, hs⟩
      obtain ⟨r, rfl, hr⟩ := ha.one
      obtain ⟨rfl, hrb⟩ := hr rfl
      obtain ⟨hb2, hc2, hn2⟩ := box_turn HB.out Hlf.out rfl Hch1.out Hb1.out hs
      have HA := Lib.hid (ib_answered ib _ _ _ r _ _ _ _ st.cur w2 hb2.blk hrb (fun hk => hb2.d1 (.inr (.inr (.inl hk)))) (by have := Hf.out.ans; simp only [turn1]; omega) (by have := Hf.out.cur; omega))
      have Hb2 := Lib.hid hb2
      have Hc2 := Lib.hid hc2
      have Hn2 := Lib.hid hn2
      clear ha hr hrb hb2 hc2 hn2 hs c0 c1 c2 c3 c4 c5 c6 f0 f1 f2 f3 f4 f5 f6 d0 d1 d2 d3 d4 d5 d6
      go_wp2_with fail
      refine HA.out.mono ?_
      rintro e w3 ⟨s, rfl, han⟩
      have Hb3 := Lib.hid (Hb2.out.answered han)
      have Han := Lib.hid han
      clear han HA
      go_wp2_with (refine wpl_build (by rfl) rfl ul_bb info_bb [.tmp 46] (by rfl) (by rfl) (by decide) (f := slv) [s] (by rfl) (fun _ => rfl) ?_)
      intro g w4 b4 e4 lo4 _; refine Lib.hid ?_
      have r4 : Room w4 (some ⟨g, 0, none⟩) [s].length 1 ([s].map slv) := Room.of_blk b4 rfl (by simp [maxLen])
      have hg : ¬ boxF ib { L with F := F', R := r, C := C' } g := fun hk => by have := Hb3.out.lt hk; omega
      have hfs : ∀ k, foot s.A s.c k → w2.heap.size ≤ k ∧ k < w3.heap.size := fun k hk => ⟨Han.out.new k hk, Han.out.byt.room.lt hk⟩
      have HO := Lib.hid (ib_on ib { L with F := F', R := r, C := C' } _ (some ⟨g, 0, none⟩) 1 [s] [st.cur] w4 (Hb3.out.ext e4) Hf.out.turn_ r4 (Byts.nil.snoc (Han.out.byt.ext e4)) (by have := Hol.out; simp only [turn1, List.length_cons, List.length_nil]; omega)
        (fun k hk => by rw [foot_some hk]; exact hg) (fun k hk => by
          have h1 := hfs k (foots_one.1 hk)
          refine ⟨fun h2 => ?_, fun h2 => ?_⟩
          · have := Hb2.out.lt h2; omega
          · have := foot_some h2; omega) (List.pairwise_singleton _ _))
      have Hfs := Lib.hid hfs
      have Hlo := Lib.hid lo4
      have He4 := Lib.hid e4
      clear r4 hg hfs lo4 e4 b4
      simp only [List.length_cons, List.length_nil] at HO
      go_wp2_with fail
      refine HO.out.mono ?_
      rintro e w5 ⟨L', A', c', os', hp⟩
      have Hpp := Lib.hid hp
      have hret := hp.ret
      clear hp
      subst hret
      go_wp2_with fail
      go_ret2
      have hz2 := Hc2.out.size
      have hz3 := Han.out.chg.size
      have hz4 := He4.out.size
      have hL := Hlo.out
      refine ⟨L', A', c', os', rfl, Hpp.out.box, Hpp.out.room, Hpp.out.outs, ((Hc2.out.trans Han.out.chg (fun k _ e => .inl e)).e He4.out).trans Hpp.out.chg (fun k hk hk2 => ?_), fun k hk => ?_, fun k hk => ?_, fun k hk => ?_, Hpp.out.sv, Hpp.out.ap⟩
      · rcases hk2 with hk2 | hk2
        · rcases Hn2.out k hk2 with h1 | h1
          · exact h1
          · omega
        · have := foot_some hk2; omega
      · rcases Hpp.out.nb k hk with h1 | h1
        · exact Hn2.out k h1
        · exact .inr (by omega)
      · refine ⟨?_, (Hpp.out.na k hk).2⟩
        rcases (Hpp.out.na k hk).1 with h1 | h1
        · have := foot_some h1; omega
        · omega
      · refine ⟨?_, (Hpp.out.no k hk).2⟩
        rcases (Hpp.out.no k hk).1 with h1 | h1
        · have := Hfs.out k (foots_one.1 h1); omega
        · omega
    · rw [if_neg h0]
      have e0 : decide (st.left - 1 = 0) = false := by simpa using h0
      rw [e0] at HS
      have H0 := Lib.hid h0
      clear e0 h0
      go_enter Try.func18, Try.ntmps18
      go_wp2_with fail
      refine HN.out.mono ?_; rintro e w1 ⟨rfl, rfl⟩
      go_wp2_with fail
      refine HS.out.mono ?_
      rintro e w2 ⟨F', R', C', ha, hs⟩
      obtain ⟨r, rfl, -⟩ := ha.one
      obtain ⟨hb2, hc2, hn2⟩ := box_turn HB.out Hlf.out rfl Hch1.out Hb1.out hs
      have Hb2 := Lib.hid hb2
      have Hc2 := Lib.hid hc2
      have Hn2 := Lib.hid hn2
      clear ha hb2 hc2 hn2 hs
      go_wp2_with fail
      go_ret2
      exact ⟨_, none, 0, [], rfl, Hb2.out, Room.nil, Byts.nil, Hc2.out, Hn2.out, fun k hk => absurd hk foot_none, fun k hk => absurd hk foots_nil, rfl, List.Pairwise.nil⟩
  · have hp' : st.pend = false := by simpa using hp
    rw [if_neg hp]
    rw [hp'] at c1
    have b1 := Blk.u6 hb.blk (.int .i64 ((st.idle : Int) + 1))
    have Hb1 := Lib.hid b1
    clear hp hp' hb hf hol hpl b1 hti
    go_enter Try.func18, Try.ntmps18
    go_wp2_with fail
    refine HN.out.mono ?_; rintro e w1 ⟨rfl, rfl⟩
    go_wp2_with fail
    go_ret2
    have hb := HB.out
    have ch1 : Chg (fun k => k = ib) w (w.setCell ⟨ib, 6, none⟩ (.int .i64 ((st.idle : Int) + 1))) := Chg.set _ _ _ _ rfl
    exact ⟨L, none, 0, [], rfl, ⟨Hb1.out, hb.srv.chg ch1 (fun k hk e => hb.d1 (e ▸ hk)), hb.que.chg ch1 (fun k hk e => (hb.d2 k hk).1 e), hb.byt.chg ch1 (fun k hk e => (hb.d3 k hk).1 e), hb.d1, hb.d2, hb.d3, hb.d4⟩, Room.nil, Byts.nil, ch1.mono (fun k _ e => .inl e), fun k hk => .inl hk, fun k hk => absurd hk foot_none, fun k hk => absurd hk foots_nil, rfl, List.Pairwise.nil⟩
end Go.Proofs.Ytpipnefepnknoaa
