/- The reference's Turn. -/
import Derived.Test.YtpipnefepnknoaaRefP
namespace Go.Proofs.Ytpipnefepnknoaa
open Go.RowKit Go.Fx
theorem turn_cases {st : St} (hp : st.pend = true) (h0 : st.left - 1 = 0) : turnF st = on { turn1 st with pend := false, ans := st.ans + 1 } [st.cur] := by unfold turnF; rw [if_pos hp, if_pos h0]
theorem turn_more {st : St} (hp : st.pend = true) (h0 : st.left - 1 ≠ 0) : turnF st = (turn1 st, []) := by unfold turnF; rw [if_pos hp, if_neg h0]
set_option maxRecDepth 100000 in
set_option maxHeartbeats 4000000 in
theorem ref_Turn (wb w : World) (W P : Sl) (pn : Int) (fs : List Fr) (st : St) (hk : RefOk wb w W P fs st) (hfl : Flag st) (ha : st.ans + st.wait.length + 1 ≤ 100000000) (hp : st.turns ≤ 100000000) (hi : st.idle ≤ 100000000) (hll : st.left ≤ 1000000) :
    Calls Try.prog 32 #[refV W P pn st.left st.put st.ans st.turns st.idle] w (RefP wb w (fun k => rowF W.A W.n k ∨ w.heap.size ≤ k) (fun k => w.heap.size ≤ k) (turnF st)) := by
  obtain ⟨res, hres⟩ : ∃ res, res = turnF st := ⟨_, rfl⟩
  rw [← hres]
  have Hres := Lib.hid hres
  have HK := Lib.hid hk
  have Hfl := Lib.hid hfl
  have Hab := Lib.hid ha
  have hrw : ∀ k, rowF W.A W.n k → k < w.heap.size := fun k h => frl_lt hk.frl h
  have Hrw := Lib.hid hrw
  clear hk hfl ha hres hrw
  unfold refV
  go_enter Try.func32, Try.ntmps32
  go_upto_region 1 with fail
  have hb1 := (Blk.new w 69 #[.slice W.A W.n W.c, .slice P.A P.n P.c, .int .i64 pn, .int .i64 (st.left : Int), .int .i64 (st.put : Int), .int .i64 (st.ans : Int), .int .i64 (st.turns : Int), .int .i64 (st.idle : Int)]).alloc (.cells #[.slice none 0 0, .slice none 0 0, .int .i64 0, .int .i64 0, .int .i64 0, .int .i64 0, .int .i64 0, .int .i64 0] 69)
  have hb3 := Blk.new (w.alloc (.cells #[.slice W.A W.n W.c, .slice P.A P.n P.c, .int .i64 pn, .int .i64 (st.left : Int), .int .i64 (st.put : Int), .int .i64 (st.ans : Int), .int .i64 (st.turns : Int), .int .i64 (st.idle : Int)] 69)) 69 #[.slice none 0 0, .slice none 0 0, .int .i64 0, .int .i64 0, .int .i64 0, .int .i64 0, .int .i64 0, .int .i64 0]
  have he := (Ext.alloc w (.cells #[.slice W.A W.n W.c, .slice P.A P.n P.c, .int .i64 pn, .int .i64 (st.left : Int), .int .i64 (st.put : Int), .int .i64 (st.ans : Int), .int .i64 (st.turns : Int), .int .i64 (st.idle : Int)] 69)).t (Ext.alloc _ (.cells #[.slice none 0 0, .slice none 0 0, .int .i64 0, .int .i64 0, .int .i64 0, .int .i64 0, .int .i64 0, .int .i64 0] 69))
  rw [World.size_alloc] at hb3
  generalize (w.alloc (.cells #[.slice W.A W.n W.c, .slice P.A P.n P.c, .int .i64 pn, .int .i64 (st.left : Int), .int .i64 (st.put : Int), .int .i64 (st.ans : Int), .int .i64 (st.turns : Int), .int .i64 (st.idle : Int)] 69)).alloc (.cells #[.slice none 0 0, .slice none 0 0, .int .i64 0, .int .i64 0, .int .i64 0, .int .i64 0, .int .i64 0, .int .i64 0] 69) = W1 at hb1 hb3 he ⊢
  obtain ⟨g, hg⟩ : ∃ g, w.heap.size = g := ⟨_, rfl⟩
  rw [hg] at hb1 hb3 ⊢
  have Hg := Lib.hid hg
  have He := Lib.hid he
  have Hb1 := Lib.hid hb1
  have Hb3 := Lib.hid hb3
  obtain ⟨x0, x1, x2, x3, x4, x5, x6, x7⟩ := hb1.c8
  obtain ⟨z0, z1, z2, z3, z4, z5, z6, z7⟩ := hb1.f8
  obtain ⟨u0, u1, u2, u3, u4, u5, u6, u7⟩ := hb3.c8
  obtain ⟨q0, q1, q2, q3, q4, q5, q6, q7⟩ := hb3.f8
  clear hg he hb1 hb3
  by_cases hl0 : st.left = 0
  · have hpend : st.pend = false := by have := Hfl.out; unfold Flag at this; rw [this, hl0]; rfl
    have hq : ((((st.left : Nat) : Int)) == 0) = true := by rw [hl0]; rfl
    have hw1 : IntKind.i64.wrap ((st.idle : Int) + 1) = (st.idle : Int) + 1 := IntWalk.i64_in _ (by omega)
    have hre : res = ({ st with idle := st.idle + 1 }, []) := by rw [Hres.out, turn_idle hpend]
    clear hl0 hpend
    subst hre
    go_wp2_with fail
    have hch := chg_set1 W1 g 7 (.int .i64 ((st.idle : Int) + 1))
    have hz6 := Hb3.out.chg hch (by omega)
    have he6 : Ext w (W1.setCell ⟨g, 7, none⟩ (.int .i64 ((st.idle : Int) + 1))) := He.out.trans (hch.below He.out.size (fun k hk e => by have := Hg.out; omega))
    generalize W1.setCell ⟨g, 7, none⟩ (.int .i64 ((st.idle : Int) + 1)) = W6 at hz6 he6 ⊢
    obtain ⟨hb8, hch8⟩ := hz6.all8 (.slice W.A W.n W.c) (.slice P.A P.n P.c) (.int .i64 pn) (.int .i64 (st.left : Int)) (.int .i64 (st.put : Int)) (.int .i64 (st.ans : Int)) (.int .i64 (st.turns : Int)) (.int .i64 ((st.idle : Int) + 1))
    generalize ((((((((W6.setCell ⟨g + 1, 0, none⟩ (.slice W.A W.n W.c)).setCell ⟨g + 1, 1, none⟩ (.slice P.A P.n P.c)).setCell ⟨g + 1, 2, none⟩ (.int .i64 pn)).setCell ⟨g + 1, 3, none⟩ (.int .i64 (st.left : Int))).setCell ⟨g + 1, 4, none⟩ (.int .i64 (st.put : Int))).setCell ⟨g + 1, 5, none⟩ (.int .i64 (st.ans : Int))).setCell ⟨g + 1, 6, none⟩ (.int .i64 (st.turns : Int))).setCell ⟨g + 1, 7, none⟩ (.int .i64 ((st.idle : Int) + 1))) = W8 at hb8 hch8 ⊢
    obtain ⟨t0, t1, t2, t3, t4, t5, t6, t7⟩ := hb8.c8
    have he8 : Ext w W8 := he6.trans (hch8.below he6.size (fun k hk e => by have := Hg.out; omega))
    refine bodyPost_ret (v := .tuple #[.agg #[.slice W.A W.n W.c, .slice P.A P.n P.c, .int .i64 pn, .int .i64 (st.left : Int), .int .i64 (st.put : Int), .int .i64 (st.ans : Int), .int .i64 (st.turns : Int), .int .i64 ((st.idle : Int) + 1)], .slice none 0 0]) ?_ rfl ?_
    · simp [results, Try.results32, go_sem, t0, t1, t2, t3, t4, t5, t6, t7]
    · exact ⟨W, P, pn, fs, none, 0, 0, [], rfl, ⟨(HK.out.ext he8).frl, HK.out.le, HK.out.max, HK.out.wait, HK.out.rds, HK.out.cur⟩, RefL.nil, he8, fun k hk => .inl hk, fun k ⟨h, _⟩ => by omega⟩
  · have hpend : st.pend = true := by have := Hfl.out; unfold Flag at this; rw [this]; exact decide_eq_true (by omega)
    have hq : ((((st.left : Nat) : Int)) == 0) = false := by simp; omega
    have hw1 : IntKind.i64.wrap ((st.turns : Int) + 1) = (st.turns : Int) + 1 := IntWalk.i64_in _ (by omega)
    have hw2 : IntKind.i64.wrap ((st.left : Int) - 1) = ((st.left - 1 : Nat) : Int) := by rw [IntWalk.i64_in _ (by omega)]; omega
    have hch := (chg_set1 W1 g 6 (.int .i64 ((st.turns : Int) + 1))).t (chg_set1 _ g 3 (.int .i64 ((st.left - 1 : Nat) : Int)))
    have hb6 := (Hb1.out.set_ 6 (.int .i64 ((st.turns : Int) + 1))).set_ 3 (.int .i64 ((st.left - 1 : Nat) : Int))
    simp only [List.setIfInBounds_toArray, List.set_cons_zero, List.set_cons_succ] at hb6
    have hz6 := Hb3.out.chg hch (by omega)
    have he6 : Ext w ((W1.setCell ⟨g, 6, none⟩ (.int .i64 ((st.turns : Int) + 1))).setCell ⟨g, 3, none⟩ (.int .i64 ((st.left - 1 : Nat) : Int))) := He.out.trans (hch.below He.out.size (fun k hk e => by have := Hg.out; omega))
    go_upto_region 6 with fail
    generalize (W1.setCell ⟨g, 6, none⟩ (.int .i64 ((st.turns : Int) + 1))).setCell ⟨g, 3, none⟩ (.int .i64 ((st.left - 1 : Nat) : Int)) = W6 at hb6 hz6 he6 ⊢
    clear x0 x1 x2 x3 x4 x5 x6 x7 z0 z1 z2 z3 z4 z5 z6 z7 u0 u1 u2 u3 u4 u5 u6 u7 q0 q1 q2 q3 q4 q5 q6 q7 hch
    obtain ⟨x0, x1, x2, x3, x4, x5, x6, x7⟩ := hb6.c8
    obtain ⟨z0, z1, z2, z3, z4, z5, z6, z7⟩ := hb6.f8
    by_cases h0 : st.left - 1 = 0
    · have hre : res = on { turn1 st with pend := false, ans := st.ans + 1 } [st.cur] := by rw [Hres.out, turn_cases hpend h0]
      have hpos : ¬ (0 : Int) < ((st.left - 1 : Nat) : Int) := by omega
      have hans : st.ans ≤ 100000000 := by have := Hab.out; omega
      have hw3 : IntKind.i64.wrap ((st.ans : Int) + 1) = (st.ans : Int) + 1 := IntWalk.i64_in _ (by omega)
      have hb7 := hb6.set_ 5 (.int .i64 ((st.ans : Int) + 1))
      simp only [List.setIfInBounds_toArray, List.set_cons_zero, List.set_cons_succ] at hb7
      have hc7 := chg_set1 W6 g 5 (.int .i64 ((st.ans : Int) + 1))
      have hz7 := hz6.chg hc7 (by omega)
      have he7 : Ext w (W6.setCell ⟨g, 5, none⟩ (.int .i64 ((st.ans : Int) + 1))) := he6.trans (hc7.below he6.size (fun k hk e => by have := Hg.out; omega))
      have H0 := Lib.hid h0
      clear h0 hl0
      go_upto_region 9 with fail
      generalize W6.setCell ⟨g, 5, none⟩ (.int .i64 ((st.ans : Int) + 1)) = W5 at hb7 hz7 he7 ⊢
      clear x0 x1 x2 x3 x4 x5 x6 x7 z0 z1 z2 z3 z4 z5 z6 z7 hc7 hz6 he6 hb6
      obtain ⟨x0, x1, x2, x3, x4, x5, x6, x7⟩ := hb7.c8
      have hlt7 := hz7.lt
      have hE := Ext.alloc W5 (.cells #[.slice P.A P.n P.c] 29)
      have hbn := Blk.new W5 29 #[.slice P.A P.n P.c]
      have HO := Lib.hid (ref_on wb (W5.alloc (.cells #[.slice P.A P.n P.c] 29)) W P pn fs { turn1 st with pend := false, ans := st.ans + 1 } (some ⟨W5.heap.size, 0, none⟩) 1 1 [P] [st.cur]
        ⟨(HK.out.ext (he7.t hE)).frl, HK.out.le, HK.out.max, HK.out.wait, HK.out.rds, HK.out.cur⟩ ⟨hbn.rd rfl rfl, Reads.nil.snoc HK.out.cur.1 HK.out.cur.2, Nat.le_refl _, by simp [maxLen]⟩ (by have := H0.out; unfold Flag; simp [turn1, this]) (by have := Hab.out; simp only [turn1]; omega) (by have := Hab.out; simp only [turn1, List.length_cons, List.length_nil]; omega))
      unfold refV at HO
      simp only [turn1, Int.natCast_add, Int.natCast_one] at HO
      unfold turn1 at hre
      rw [← hre] at HO
      have Hz7 := Lib.hid (hz7.ext hE)
      have He7 := Lib.hid (he7.t hE)
      clear hb7 hz7 he7 hbn
      go_wp2_with fail
      refine HO.out.mono ?_
      rintro e w7 ⟨W7, P7, pn7, fs7, A7, n7, c7, os7, rfl, hk7, hl7, he9, hw7, ht7⟩
      have hz7 := Hz7.out.ext he9
      have hE2 := Ext.alloc W5 (.cells #[.slice P.A P.n P.c] 29)
      have hE2s := hE2.size
      have He7 := Lib.hid (He7.out.t he9)
      have hk5 : ∀ k, rowF W7.A W7.n k → k < g := fun k hk => by have := Hrw.out k (hw7 k hk); have := Hg.out; omega
      have hk6 : ∀ k, rowF A7 n7 k → g + 1 < k := fun k hk => (ht7 k hk).elim (fun h => by obtain ⟨_, o, e⟩ := h; cases e; omega) (fun h => by omega)
      unfold zeroC at hz7
      unfold refV
      obtain ⟨u0, u1, u2, u3, u4, u5, u6, u7⟩ := hz7.c8
      obtain ⟨q0, q1, q2, q3, q4, q5, q6, q7⟩ := hz7.f8
      clear HO hre x0 x1 x2 x3 x4 x5 x6 x7 he9 hpend hE hE2 hE2s
      go_wp2_with fail
      obtain ⟨hb8, hch8⟩ := hz7.all8 (.slice W7.A W7.n W7.c) (.slice P7.A P7.n P7.c) (.int .i64 pn7) (.int .i64 (res.1.left : Int)) (.int .i64 (res.1.put : Int)) (.int .i64 (res.1.ans : Int)) (.int .i64 (res.1.turns : Int)) (.int .i64 (res.1.idle : Int))
      generalize ((((((((w7.setCell ⟨g + 1, 0, none⟩ (.slice W7.A W7.n W7.c)).setCell ⟨g + 1, 1, none⟩ (.slice P7.A P7.n P7.c)).setCell ⟨g + 1, 2, none⟩ (.int .i64 pn7)).setCell ⟨g + 1, 3, none⟩ (.int .i64 (res.1.left : Int))).setCell ⟨g + 1, 4, none⟩ (.int .i64 (res.1.put : Int))).setCell ⟨g + 1, 5, none⟩ (.int .i64 (res.1.ans : Int))).setCell ⟨g + 1, 6, none⟩ (.int .i64 (res.1.turns : Int))).setCell ⟨g + 1, 7, none⟩ (.int .i64 (res.1.idle : Int))) = W8 at hb8 hch8 ⊢
      obtain ⟨t0, t1, t2, t3, t4, t5, t6, t7⟩ := hb8.c8
      have he8 : Ext w W8 := He7.out.trans (hch8.below He7.out.size (fun k hk e => by have := Hg.out; omega))
      refine bodyPost_ret (v := .tuple #[.agg #[.slice W7.A W7.n W7.c, .slice P7.A P7.n P7.c, .int .i64 pn7, .int .i64 (res.1.left : Int), .int .i64 (res.1.put : Int), .int .i64 (res.1.ans : Int), .int .i64 (res.1.turns : Int), .int .i64 (res.1.idle : Int)], .slice A7 n7 c7]) ?_ rfl ?_
      · simp [results, Try.results32, go_sem, t0, t1, t2, t3, t4, t5, t6, t7]
      · exact ⟨W7, P7, pn7, fs7, A7, n7, c7, os7, rfl, hk7.chg hch8 (fun k hk e => by have := hk5 k hk; omega), hl7.chg hch8 (fun k hk e => by have := hk6 k hk; omega), he8, fun k hk => .inl (hw7 k hk), fun k hk => by have := hk6 k hk; have := Hg.out; omega⟩
    · have hre : res = (turn1 st, []) := by rw [Hres.out, turn_more hpend h0]
      have hpos : (0 : Int) < ((st.left - 1 : Nat) : Int) := by omega
      obtain ⟨u0, u1, u2, u3, u4, u5, u6, u7⟩ := hz6.c8
      obtain ⟨q0, q1, q2, q3, q4, q5, q6, q7⟩ := hz6.f8
      clear hl0 hpend h0
      subst hre
      go_wp2_with fail
      obtain ⟨hb8, hch8⟩ := hz6.all8 (.slice W.A W.n W.c) (.slice P.A P.n P.c) (.int .i64 pn) (.int .i64 ((st.left - 1 : Nat) : Int)) (.int .i64 (st.put : Int)) (.int .i64 (st.ans : Int)) (.int .i64 ((st.turns : Int) + 1)) (.int .i64 (st.idle : Int))
      generalize ((((((((W6.setCell ⟨g + 1, 0, none⟩ (.slice W.A W.n W.c)).setCell ⟨g + 1, 1, none⟩ (.slice P.A P.n P.c)).setCell ⟨g + 1, 2, none⟩ (.int .i64 pn)).setCell ⟨g + 1, 3, none⟩ (.int .i64 ((st.left - 1 : Nat) : Int))).setCell ⟨g + 1, 4, none⟩ (.int .i64 (st.put : Int))).setCell ⟨g + 1, 5, none⟩ (.int .i64 (st.ans : Int))).setCell ⟨g + 1, 6, none⟩ (.int .i64 ((st.turns : Int) + 1))).setCell ⟨g + 1, 7, none⟩ (.int .i64 (st.idle : Int))) = W8 at hb8 hch8 ⊢
      obtain ⟨t0, t1, t2, t3, t4, t5, t6, t7⟩ := hb8.c8
      have he8 : Ext w W8 := he6.trans (hch8.below he6.size (fun k hk e => by have := Hg.out; omega))
      refine bodyPost_ret (v := .tuple #[.agg #[.slice W.A W.n W.c, .slice P.A P.n P.c, .int .i64 pn, .int .i64 ((st.left - 1 : Nat) : Int), .int .i64 (st.put : Int), .int .i64 (st.ans : Int), .int .i64 ((st.turns : Int) + 1), .int .i64 (st.idle : Int)], .slice none 0 0]) ?_ rfl ?_
      · simp [results, Try.results32, go_sem, t0, t1, t2, t3, t4, t5, t6, t7]
      · exact ⟨W, P, pn, fs, none, 0, 0, [], rfl, ⟨(HK.out.ext he8).frl, HK.out.le, HK.out.max, HK.out.wait, HK.out.rds, HK.out.cur⟩, RefL.nil, he8, fun k hk => .inl hk, fun k ⟨h, _⟩ => by omega⟩
end Go.Proofs.Ytpipnefepnknoaa
