/- Fds: Distances. -/
import Derived.Test.YtlneifgihdickaaFbf
import Derived.Test.YtlneifgihdickaaFbp
import Derived.Test.YtlneifgihdickaaWrp
namespace Go.Proofs.Ytlneifgihdickaa
open Go.RowKit Go.Fx
attribute [local go_sem] Oper.semAt_some
/-- The distances so far, and the queue. -/
structure DsS (B n bo bw : Nat) (Ao : Option Addr) (co : Nat) (out : List Int) (Aw : Option Addr) (mw cw : Nat) (Q : List Nat) (W : World) : Prop where
  ob : Blk W bo 26 #[.slice Ao n co]
  ro : Room W Ao n co (out.map intz)
  wb : Blk W bw 26 #[.slice Aw mw cw]
  rw_ : RoomS 1 W Aw mw cw (Q.flatMap intC)
  ap : ∀ q, foot Aw cw q → ¬ foot Ao co q
  oo : ¬ foot Ao co bo
  ow : ¬ foot Ao co bw
  wo : ¬ foot Aw cw bo
  ww : ¬ foot Aw cw bw
  ne : bo ≠ bw
  lo : ∀ q, (q = bo ∨ q = bw ∨ foot Ao co q ∨ foot Aw cw q) → B ≤ q
section
variable {T : Nat → Prop} {B n bo bw : Nat} {Ao : Option Addr} {co : Nat} {out : List Int} {Aw : Option Addr} {mw cw : Nat} {Q : List Nat} {W W' X : World}
theorem DsS.chg (h : DsS B n bo bw Ao co out Aw mw cw Q W) (ch : Chg T W W') (hT : ∀ q, (q = bo ∨ q = bw ∨ foot Ao co q ∨ foot Aw cw q) → ¬ T q) : DsS B n bo bw Ao co out Aw mw cw Q W' :=
  ⟨h.ob.chg ch (hT _ (.inl rfl)), h.ro.chg ch (fun q hq => hT q (.inr (.inr (.inl hq)))), h.wb.chg ch (hT _ (.inr (.inl rfl))), h.rw_.chg ch (fun q hq => hT q (.inr (.inr (.inr hq)))), h.ap, h.oo, h.ow, h.wo, h.ww, h.ne, h.lo⟩
theorem DsS.ext (h : DsS B n bo bw Ao co out Aw mw cw Q W) (e : Ext W W') : DsS B n bo bw Ao co out Aw mw cw Q W' := h.chg (T := fun _ => False) (Chg.ofExt e) (fun _ _ t => t)
theorem DsS.lt (h : DsS B n bo bw Ao co out Aw mw cw Q W) {q : Nat} (hq : q = bo ∨ q = bw ∨ foot Ao co q ∨ foot Aw cw q) : q < W.heap.size := by
  rcases hq with rfl | rfl | hq | hq
  · exact h.ob.lt
  · exact h.wb.lt
  · exact h.ro.lt hq
  · exact h.rw_.lt hq
theorem DsS.len (h : DsS B n bo bw Ao co out Aw mw cw Q W) : out.length = n ∧ Q.length = mw := by
  have h1 := h.ro.1
  have h2 := h.rw_.1
  rw [List.length_map] at h1
  rw [flat_len intC_len] at h2
  omega
theorem DsS.set {g og j : Nat} (h : DsS B n bo bw (some ⟨g, og, none⟩) co out Aw mw cw Q W) (hj : j < n) (y : Int) : DsS B n bo bw (some ⟨g, og, none⟩) co (out.set j y) Aw mw cw Q (W.setCell ⟨g, og + j, none⟩ (.int .i64 y)) ∧ Chg (foot (some ⟨g, og, none⟩) co) W (W.setCell ⟨g, og + j, none⟩ (.int .i64 y)) := by
  have hg : foot (some ⟨g, og, none⟩) co g := ⟨by have := h.ro.2.1; omega, og, rfl⟩
  have ch := Chg.set W g (og + j) (.int .i64 y) (T := foot (some ⟨g, og, none⟩) co) hg
  have hr := h.ro.set hj (.int .i64 y)
  refine ⟨⟨h.ob.chg ch h.oo, by rw [List.map_set]; exact hr, h.wb.chg ch h.ow, h.rw_.chg ch h.ap, h.ap, h.oo, h.ow, h.wo, h.ww, h.ne, h.lo⟩, ch⟩
theorem DsS.push {A9 : Option Addr} {c9 j : Nat} {w9 : World} (h : DsS B n bo bw Ao co out Aw mw cw Q W) (e : Ext W X) (hB : B ≤ W.heap.size) (r : RoomS 1 w9 A9 (mw + 1) c9 (Q.flatMap intC ++ intC j)) (ch : Chg (foot Aw cw) X w9) (ft : ∀ q, foot A9 c9 q → foot Aw cw q ∨ X.heap.size ≤ q) :
    DsS B n bo bw Ao co out A9 (mw + 1) c9 (Q ++ [j]) (w9.setCell ⟨bw, 0, none⟩ (.slice A9 (mw + 1) c9)) ∧ Chg (fun q => q = bw ∨ foot Aw cw q) W (w9.setCell ⟨bw, 0, none⟩ (.slice A9 (mw + 1) c9)) := by
  have hz := e.size
  have hx := h.ext e
  have c1 := Chg.set w9 bw 0 (.slice A9 (mw + 1) c9) (T := fun q => q = bw) rfl
  have hn : ∀ q, foot A9 c9 q → (q = bo ∨ q = bw ∨ foot Ao co q) → False := fun q hq hd => (ft q hq).elim (fun hf => by
    rcases hd with rfl | rfl | hd
    · exact h.wo hf
    · exact h.ww hf
    · exact h.ap q hf hd) (fun hf => by
    have := h.lt (q := q) (by rcases hd with hd | hd | hd <;> simp [hd])
    omega)
  refine ⟨⟨(hx.ob.chg ch h.wo).chg c1 h.ne, (hx.ro.chg ch (fun q hq hf => h.ap q hf hq)).chg c1 (fun q hq e => h.ow (by rw [← e]; exact hq)), (hx.wb.chg ch h.ww).set0 _, ?_, fun q hq hd => hn q hq (.inr (.inr hd)), h.oo, h.ow, fun hf => hn _ hf (.inl rfl), fun hf => hn _ hf (.inr (.inl rfl)), h.ne, fun q hq => ?_⟩, ?_⟩
  · rw [List.flatMap_append, show [j].flatMap intC = intC j by simp]
    exact r.chg c1 (fun q hq e => hn q hq (.inr (.inl e)))
  · rcases hq with hq | hq | hq | hq
    · exact h.lo q (.inl hq)
    · exact h.lo q (.inr (.inl hq))
    · exact h.lo q (.inr (.inr (.inl hq)))
    · exact (ft q hq).elim (fun hf => h.lo q (.inr (.inr (.inr hf)))) (fun hf => by omega)
  · exact ((Chg.ofExt e).t (ch.mono (fun q _ hq => .inr hq))).t (c1.mono (fun q _ hq => .inl hq))
theorem DsS.pop {c1 : Nat} {A1 : Option Addr} {i : Nat} (h : DsS B n bo bw Ao co out Aw (mw + 1) cw (i :: Q) W) (hA : A1 = fromS 1 Aw cw 1) (hc : c1 = cw - 1) : DsS B n bo bw Ao co out A1 mw c1 Q (W.setCell ⟨bw, 0, none⟩ (.slice A1 mw c1)) := by
  subst hA; subst hc
  have ch := Chg.set W bw 0 (.slice (fromS 1 Aw cw 1) mw (cw - 1)) (T := fun q => q = bw) rfl
  have hf : ∀ q, foot (fromS 1 Aw cw 1) (cw - 1) q → foot Aw cw q := fun q hq => foot_fromS h.rw_ hq
  have hr := h.rw_.from_ (k := 1) (by omega)
  rw [show mw + 1 - 1 = mw by omega, show ((i :: Q).flatMap intC).drop (1 * 1) = Q.flatMap intC by simp [intC]] at hr
  exact ⟨h.ob.chg ch h.ne, h.ro.chg ch (fun q hq e => h.ow (by rw [← e]; exact hq)), h.wb.set0 _, hr.chg ch (fun q hq e => h.ww (by rw [← e]; exact hf q hq)), fun q hq => h.ap q (hf q hq), h.oo, h.ow, fun hq => h.wo (hf _ hq), fun hq => h.ww (hf _ hq), h.ne, fun q hq => h.lo q (hq.imp id (fun h => h.imp id (fun h => h.imp id (hf q))))⟩
/-- The queue's variable moves to a new block. -/
theorem DsS.move {b2 : Nat} (h : DsS B n bo bw Ao co out Aw mw cw Q W) (e : Ext W W') (hb : Blk W' b2 26 #[.slice Aw mw cw]) (h2 : W.heap.size ≤ b2) (hB : B ≤ W.heap.size) : DsS B n bo b2 Ao co out Aw mw cw Q W' :=
  ⟨h.ob.ext e, h.ro.ext e, hb, h.rw_.ext e, h.ap, h.oo, fun hf => by have := h.ro.lt hf; omega, h.wo, fun hf => by have := h.rw_.lt hf; omega, fun e => by have := h.ob.lt; omega, fun q hq => by
    rcases hq with hq | hq | hq | hq
    · exact h.lo q (.inl hq)
    · omega
    · exact h.lo q (.inr (.inr (.inl hq)))
    · exact h.lo q (.inr (.inr (.inr hq)))⟩
end
/-- What the loop over an instruction's edges keeps. -/
structure DsJ (p : List Ins) (B n bo bw : Nat) (Ao : Option Addr) (co : Nat) (V : World) (Aw0 : Option Addr) (cw0 : Nat) (b : Int) (i M : Nat) (R : Obj) (T : Nat → Prop) (o : Nat) (W : World) : Prop where
  rg : RgJ V (fun q => foot Ao co q ∨ q = bw ∨ foot Aw0 cw0 q) R T W
  out : ∃ out Aw mw cw Q, DsS B n bo bw Ao co out Aw mw cw Q W ∧ BfsI (EdP p) n out Q b i ((edF p i).take o) ∧ 2 * noneC out + Q.length + 1 ≤ M ∧ (∀ q, foot Aw cw q → (foot Aw0 cw0 q ∧ q < V.heap.size) ∨ V.heap.size + 2 ≤ q) ∧ ∀ q, (q = bo ∨ q = bw ∨ foot Ao co q ∨ foot Aw cw q) → ¬ T q
section
variable {p : List Ins} {B n bo bw : Nat} {Ao : Option Addr} {co : Nat} {V : World} {Aw0 : Option Addr} {cw0 : Nat} {b : Int} {i M : Nat} {R : Obj} {T : Nat → Prop} {o : Nat} {W W' : World}
theorem DsJ.e (h : DsJ p B n bo bw Ao co V Aw0 cw0 b i M R T o W) (e : Ext W W') : DsJ p B n bo bw Ao co V Aw0 cw0 b i M R T o W' := by
  obtain ⟨out, Aw, mw, cw, Q, h1, h2, h3, h4, h5⟩ := h.out
  exact ⟨h.rg.e e, out, Aw, mw, cw, Q, h1.ext e, h2, h3, h4, h5⟩
theorem DsJ.own (h : DsJ p B n bo bw Ao co V Aw0 cw0 b i M R T o W) (ch : Chg T W W') : DsJ p B n bo bw Ao co V Aw0 cw0 b i M R T o W' := by
  obtain ⟨out, Aw, mw, cw, Q, h1, h2, h3, h4, h5⟩ := h.out
  exact ⟨h.rg.iown ch, out, Aw, mw, cw, Q, h1.chg ch h5, h2, h3, h4, h5⟩
theorem DsJ.put (h : DsJ p B n bo bw Ao co V Aw0 cw0 b i M R T o W) (hV : ∀ q, (q = bo ∨ q = bw ∨ foot Ao co q) → q < V.heap.size) (R' : Obj) : DsJ p B n bo bw Ao co V Aw0 cw0 b i M R' T o (W.putObj (V.heap.size + 1) R') := by
  obtain ⟨out, Aw, mw, cw, Q, h1, h2, h3, h4, h5⟩ := h.out
  exact ⟨h.rg.put R', out, Aw, mw, cw, Q, h1.chg (chg_putI W _ R') (fun q hq e => by
    subst e
    rcases hq with hq | hq | hq | hq
    · have := hV _ (.inl hq); omega
    · have := hV _ (.inr (.inl hq)); omega
    · have := hV _ (.inr (.inr hq)); omega
    · have := h4 _ hq; omega), h2, h3, h4, h5⟩
end
/-- What Distances leaves. -/
def DistP (p : List Ins) (n : Nat) (w : World) (e : Ending) (w' : World) : Prop :=
  ∃ A c out, e = .returned (.tuple #[.slice A n c, .int .i64 0]) ∧ IsD (EdP p) n 0 out ∧ Room w' A n c (out.map intz) ∧ (∀ q, foot A c q → w.heap.size ≤ q) ∧ Ext w w'
theorem dist_bad (A : Option Addr) (n c : Nat) (p : List Ins) (w : World) (h : RdS 5 insC w A n p) (h0 : (checkF p).2 ≠ 0) :
    Calls Try.prog 12 #[.slice A n c] w fun e w' => e = .returned (.tuple #[.slice none 0 0, .int .i64 160]) ∧ Ext w w' := by
  have HR := Lib.hid (right_ A n c p w h)
  rw [if_neg h0] at HR
  clear h h0
  refine calls_of_wp_marks Try.func12 rfl ?_
  simp only [Try.ntmps12, List.size_toArray, List.length_cons, List.length_nil, Nat.reduceAdd, Nat.reduceSub, Array.replicate_succ, Array.replicate_zero, List.push_toArray, List.append_toArray, List.nil_append, List.cons_append]
  go_wp2_with fail
  refine HR.out.mono ?_; rintro e w2 ⟨rfl, e2⟩
  have E2 := Lib.hid e2
  clear e2
  go_wp2_with fail
  try rw [Exit.noGoto_ret]
  refine leave0 (v := .tuple #[.slice none 0 0, .int .i64 160]) rfl ?_ ?_
  · simp [results, Try.results12, go_sem]
  · exact ⟨rfl, E2.out⟩
set_option maxRecDepth 100000 in
set_option maxHeartbeats 4000000 in
theorem dist_ (A : Option Addr) (n c : Nat) (p : List Ins) (w : World) (h : RdS 5 insC w A n p) (hp : RightP p) :
    Calls Try.prog 12 #[.slice A n c] w (DistP p n w) := by
  have hl := h.1
  have hn := hp.max
  have hn0 := hp.pos
  rw [hl] at hn hn0
  have HR := Lib.hid (right_ A n c p w h)
  rw [if_pos (rightP_iff.2 hp)] at HR
  have H := Lib.hid h
  have HP := Lib.hid hp
  have Hl := Lib.hid hl
  clear h hp hl
  refine calls_of_wp_marks Try.func12 rfl ?_
  simp only [Try.ntmps12, List.size_toArray, List.length_cons, List.length_nil, Nat.reduceAdd, Nat.reduceSub, Array.replicate_succ, Array.replicate_zero, List.push_toArray, List.append_toArray, List.nil_append, List.cons_append]
  go_wp2_with fail
  refine HR.out.mono ?_; rintro e w2 ⟨rfl, e2⟩
  have E2 := Lib.hid e2
  clear e2
  go_wp2_with fail
  obtain ⟨w3, hw3⟩ : ∃ w3, w3 = w2.alloc (.cells #[.int .i64 (-1)] 3) := ⟨_, rfl⟩
  have hr3 : RdS 1 inzC w3 (some ⟨w2.heap.size, 0, none⟩) 1 [-1] := by rw [hw3]; exact rdS_one inzC_len _ _ (-1 : Int) rfl
  have E3 : Hid (Ext w w3) := Lib.hid (by rw [hw3]; exact E2.out.t (Ext.alloc _ _))
  rw [← hw3]
  refine (repeatZ _ 1 1 n [-1] w3 hr3 (by omega) (by omega) (by omega) (by omega)).mono ?_; rintro e w4 ⟨G, rfl, r4, lG, e4⟩
  rw [Nat.mul_one, repL_single, inzC_map] at r4
  rw [Nat.mul_one]
  have H4 := Lib.hid (show Room w4 (some ⟨G, 0, none⟩) n n ((List.replicate n (-1 : Int)).map intz) ∧ w.heap.size ≤ G ∧ Ext w w4 from ⟨r4.room, by have := E3.out.size; omega, E3.out.t e4⟩)
  clear hw3 hr3 E3 E2 r4 lG e4 HR
  obtain ⟨w5, hw5⟩ : ∃ w5, w5 = w4.alloc (.cells #[.slice (some ⟨G, 0, none⟩) n n] 26) := ⟨_, rfl⟩
  have hb5 : Blk w5 w4.heap.size 26 #[.slice (some ⟨G, 0, none⟩) n n] := by rw [hw5]; exact Blk.new _ _ _
  have x5 : Ext w4 w5 := by rw [hw5]; exact Ext.alloc _ _
  have hr5 := H4.out.1.ext x5
  have hc5 := hb5.cell0
  have hg5 := hr5.cellAt (k := 0) (u := .int .i64 (-1)) (by
    obtain ⟨m, rfl⟩ : ∃ m, n = m + 1 := ⟨n - 1, by omega⟩
    rfl)
  have hf5 := hr5.frozenAt (k := 0) (by omega)
  rw [Nat.add_zero] at hg5 hf5
  have hGl : G < w4.heap.size := H4.out.1.lt ⟨by omega, 0, rfl⟩
  have hst := hr5.set (k := 0) hn0 (.int .i64 0)
  rw [show ((List.replicate n (-1 : Int)).map intz).set 0 (.int .i64 0) = ((List.replicate n (-1 : Int)).set 0 0).map intz by rw [List.map_set]; rfl, Nat.add_zero] at hst
  obtain ⟨bo, hbo⟩ : ∃ bo, bo = w4.heap.size := ⟨_, rfl⟩
  have chs := Chg.set w5 G 0 (.int .i64 0) (T := fun q => q = G) rfl
  have H6 := Lib.hid (show Room (w5.setCell ⟨G, 0, none⟩ (.int .i64 0)) (some ⟨G, 0, none⟩) n n (((List.replicate n (-1 : Int)).set 0 0).map intz) ∧ Blk (w5.setCell ⟨G, 0, none⟩ (.int .i64 0)) bo 26 #[.slice (some ⟨G, 0, none⟩) n n] ∧ G ≠ bo ∧ w.heap.size ≤ G ∧ w.heap.size ≤ bo ∧ Ext w (w5.setCell ⟨G, 0, none⟩ (.int .i64 0)) from ⟨hst, by rw [hbo]; exact hb5.chg chs (by omega), by omega, H4.out.2.1, by rw [hbo]; exact H4.out.2.2.size, (H4.out.2.2.t x5).trans (chs.below (H4.out.2.2.t x5).size (fun q hq e => by have := H4.out.2.1; omega))⟩)
  have hnI : (0 : Int) < (n : Int) := by omega
  go_upto_region 5 with fail
  rw [← hw5, ← hbo]
  rw [← hbo] at hc5 hb5
  clear hw5 x5 hr5 hst chs H4 hGl hbo
  go_upto_region 6 with fail
  obtain ⟨w6, hw6⟩ : ∃ w6, w6 = w5.setCell ⟨G, 0, none⟩ (.int .i64 0) := ⟨_, rfl⟩
  rw [← hw6] at H6 ⊢
  clear hw6 hg5 hf5 hc5 hb5
  obtain ⟨w7, hw7⟩ : ∃ w7, w7 = (w6.alloc (.cells #[.int .i64 0] 3)).alloc (.cells #[.slice (some ⟨w6.heap.size, 0, none⟩) 1 1] 26) := ⟨_, rfl⟩
  have H7 : Hid (DsS w.heap.size n bo (w6.heap.size + 1) (some ⟨G, 0, none⟩) n ((List.replicate n (-1 : Int)).set 0 0) (some ⟨w6.heap.size, 0, none⟩) 1 1 [0] w7 ∧ Ext w w7) := Lib.hid (by
    have x7 : Ext w6 w7 := by rw [hw7]; exact (Ext.alloc _ _).t (Ext.alloc _ _)
    have hlG := H6.out.1.lt (k := G) ⟨by omega, 0, rfl⟩
    have hlo := H6.out.2.1.lt
    have b7 : Blk w7 (w6.heap.size + 1) 26 #[.slice (some ⟨w6.heap.size, 0, none⟩) 1 1] := by
      rw [hw7]
      have := Blk.new (w6.alloc (.cells #[.int .i64 0] 3)) 26 #[.slice (some ⟨w6.heap.size, 0, none⟩) 1 1]
      rwa [World.size_alloc] at this
    have a7 : Blk w7 w6.heap.size 3 #[.int .i64 0] := by rw [hw7]; exact (Blk.new _ _ _).alloc _
    have r7 : RoomS 1 w7 (some ⟨w6.heap.size, 0, none⟩) 1 1 (([0] : List Nat).flatMap intC) := RoomS.of_blk a7 rfl (by unfold maxLen; omega)
    exact ⟨⟨H6.out.2.1.ext x7, H6.out.1.ext x7, b7, r7, fun q hq hf => by have := foot_some hq; have := foot_some hf; omega, fun hf => H6.out.2.2.1 (foot_some hf).symm, fun hf => by have := foot_some hf; omega, fun hf => by have := foot_some hf; omega, fun hf => by have := foot_some hf; omega, by omega, fun q hq => by
      have h1 := H6.out.2.2.2.1
      have h2 := H6.out.2.2.2.2.1
      have h3 := H6.out.2.2.2.2.2.size
      rcases hq with hq | hq | hq | hq
      · omega
      · omega
      · have := foot_some hq; omega
      · have := foot_some hq; omega⟩, H6.out.2.2.2.2.2.t x7⟩)
  have HW7 := Lib.hid hw7
  clear hw7 H6
  skip
  have hgk0 : 2 * noneC ((List.replicate n (-1 : Int)).set 0 0) + ([0] : List Nat).length ≤ 2 * n + 1 := by
    have h1 : noneC ((List.replicate n (-1 : Int)).set 0 0) ≤ n := Nat.le_trans (List.length_filter_le _ _) (by simp)
    simp; omega
  have Hgk0 := Lib.hid hgk0
  clear hgk0
  go_wp2_with fail
  have H7b := H7
  try rw [← HW7.out]
  clear HW7
  obtain ⟨Ao, hAo⟩ : ∃ Ao : Option Addr, Ao = some ⟨G, 0, none⟩ := ⟨_, rfl⟩
  rw [← hAo] at H7 H7b
  clear hAo
  refine wp_loop_ghost_k (fun gk a' w' => ∃ (u1 u2 u3 u4 u6 u7 u8 u9 u10 u11 u12 u13 u14 u15 u16 u17 u18 u19 u20 u21 u22 u23 u24 u25 u26 u27 u28 u29 u30 u31 u32 u33 u34 u35 u36 u37 u38 u39 u40 u41 u42 u43 u44 u45 u46 u47 u48 u49 u50 u51 : Value) (ds : List Deferred), (∃ (bw : Nat) (Aw : Option Addr) (mw cw : Nat) (out : List Int) (Q : List Nat) (b : Int) (Ds : List Nat), u6 = .pointer (some ⟨bw, 0, none⟩) ∧ Hid (ds = Ds.map collD ∧ DsS w.heap.size n bo bw Ao n out Aw mw cw Q w' ∧ Bfs (EdP p) n out Q b ∧ 2 * noneC out + Q.length ≤ gk ∧ b + (gk : Int) ≤ 2 * (n : Int) + 1 ∧ Cds w.heap.size w' Ds ∧ (∀ D ∈ Ds, ¬ (D = bo ∨ D = bw ∨ foot Ao n D ∨ foot Aw cw D)) ∧ Ext w w')) ∧ a' = { tmps := #[.slice A n c, u1, u2, u3, u4, .pointer (some ⟨bo, 0, none⟩), u6, u7, u8, u9, u10, u11, u12, u13, u14, u15, u16, u17, u18, u19, u20, u21, u22, u23, u24, u25, u26, u27, u28, u29, u30, u31, u32, u33, u34, u35, u36, u37, u38, u39, u40, u41, u42, u43, u44, u45, u46, u47, u48, u49, u50, u51], defers := ds }) (2 * n + 1) ?_ ?_
  · (repeat apply Exists.intro); refine ⟨?_, rfl⟩
    exact ⟨_, _, 1, 1, _, [0], 0, [], rfl, Lib.hid ⟨rfl, H7.out.1, Bfs.begin hn0, Hgk0.out, by omega, Cds.nil, by simp, H7.out.2⟩⟩
  · clear H7 H7b Hgk0
    intro gk _ wr hinv
    obtain ⟨u1, u2, u3, u4, u6, u7, u8, u9, u10, u11, u12, u13, u14, u15, u16, u17, u18, u19, u20, u21, u22, u23, u24, u25, u26, u27, u28, u29, u30, u31, u32, u33, u34, u35, u36, u37, u38, u39, u40, u41, u42, u43, u44, u45, u46, u47, u48, u49, u50, u51, ds, hrel, ha⟩ := hinv
    subst ha
    try dsimp only
    intro JJ KK hJJ hKK
    obtain ⟨bw, Aw, mw, cw, out, Q, b0, Ds, rfl, HJ⟩ := hrel
    have hwc := HJ.out.2.1.wb.cell0
    have hQl := HJ.out.2.1.len.2
    have hgm : mw ≤ gk := by have := HJ.out.2.2.2.1; omega
    by_cases hm0 : mw = 0
    · subst hm0
      obtain rfl : Q = [] := List.eq_nil_of_length_eq_zero hQl
      have hoc := HJ.out.2.1.ob.cell0
      clear hQl
      go_wp2_with fail
      try rw [Exit.noGoto_ret]
      refine leaveN (B := w.heap.size) (Ds := Ds) HJ.out.1 HJ.out.2.2.2.2.2.1 (fun w' ch => ⟨.tuple #[.slice Ao n n, .int .i64 0], by simp [results, Try.results12, go_sem], Ao, n, out, rfl, HJ.out.2.2.1.end_, (HJ.out.2.1.chg ch (fun q hq hD => HJ.out.2.2.2.2.2.2.1 q hD hq)).ro, fun q hq => HJ.out.2.1.lo q (.inr (.inr (.inl hq))), HJ.out.2.2.2.2.2.2.2.trans (ch.below HJ.out.2.2.2.2.2.2.2.size (fun q hq hD => by have := HJ.out.2.2.2.2.2.1.lo q hD; omega))⟩)
    · obtain ⟨i, Q1, hQ⟩ : ∃ i Q1, Q = i :: Q1 := by
        cases Q with
        | nil => simp at hQl; omega
        | cons i Q1 => exact ⟨i, Q1, rfl⟩
      subst hQ
      have hml : (0 : Int) < (mw : Int) := by omega
      obtain ⟨m, hm⟩ : ∃ m, m + 1 = mw := ⟨mw - 1, by omega⟩
      obtain ⟨A1, hA1⟩ : ∃ A1, A1 = fromS 1 Aw cw 1 := ⟨_, rfl⟩
      obtain ⟨c1, hc1⟩ : ∃ c1, c1 = cw - 1 := ⟨_, rfl⟩
      have hsl := fun w' => rz_from (A := Aw) (n := mw) (c := cw) (k := 1) (li := 1) w' rfl (by omega)
      rw [← hA1, ← hc1, show mw - 1 = m by omega] at hsl
      have hcw := HJ.out.2.1.rw_.2.1
      obtain ⟨gw, ow, rfl, hgwl⟩ := HJ.out.2.1.rw_.some_ (by omega)
      have hcq := HJ.out.2.1.rw_.cellAt (k := 0) (u := .int .i64 (i : Int)) rfl
      rw [Nat.add_zero] at hcq
      have hfw := HJ.out.2.1.wb.frozen 0
      obtain ⟨b, hbb, hI⟩ := HJ.out.2.2.1.pop
      have hin : i < n := by have h1 := (List.getElem?_eq_some_iff.1 hI.it).1; rw [hI.len] at h1; exact h1
      obtain ⟨w3, hw3⟩ : ∃ w3, w3 = (wr.setCell ⟨bw, 0, none⟩ (.slice A1 m c1)).alloc (.cells #[.int .i64 (i : Int)] 3) := ⟨_, rfl⟩
      obtain ⟨bi, hbi⟩ : ∃ bi, bi = wr.heap.size := ⟨_, rfl⟩
      have chw := Chg.set wr bw 0 (.slice A1 m c1) (T := fun q => q = bw) rfl
      have hbwl := HJ.out.2.1.wb.lt
      have H3 : Hid (DsS w.heap.size n bo bw Ao n out A1 m c1 Q1 w3 ∧ Blk w3 bi 3 #[.int .i64 (i : Int)] ∧ Cds w.heap.size w3 Ds ∧ (∀ D ∈ Ds, ¬ (D = bo ∨ D = bw ∨ foot Ao n D ∨ foot A1 c1 D)) ∧ Ext w w3 ∧ (∀ q, (q = bo ∨ q = bw ∨ foot Ao n q ∨ foot A1 c1 q) → q < bi) ∧ w3.heap.size = bi + 1) := Lib.hid (by
        have hff : ∀ q, foot A1 c1 q → foot (some ⟨gw, ow, none⟩) cw q := fun q hq => by
          rw [hA1, hc1] at hq
          exact foot_fromS HJ.out.2.1.rw_ hq
        rw [hw3, hbi]
        subst hm
        have hsz : (wr.setCell ⟨bw, 0, none⟩ (.slice A1 m c1)).heap.size = wr.heap.size := setCell_size _ _ _
        have hnb := Blk.new (wr.setCell ⟨bw, 0, none⟩ (.slice A1 m c1)) 3 #[.int .i64 (i : Int)]
        rw [hsz] at hnb
        have eW : Ext w (wr.setCell ⟨bw, 0, none⟩ (.slice A1 m c1)) := HJ.out.2.2.2.2.2.2.2.trans (chw.below HJ.out.2.2.2.2.2.2.2.size (fun q hq e => by have := HJ.out.2.1.lo bw (.inr (.inl rfl)); omega))
        exact ⟨(HJ.out.2.1.pop hA1 hc1).ext (Ext.alloc _ _), hnb, (HJ.out.2.2.2.2.2.1.chg chw (fun D hD e => HJ.out.2.2.2.2.2.2.1 D hD (.inr (.inl e)))).ext (Ext.alloc _ _), fun D hD hf => HJ.out.2.2.2.2.2.2.1 D hD (hf.imp id (fun h => h.imp id (fun h => h.imp id (hff D)))), eW.t (Ext.alloc _ _), fun q hq => HJ.out.2.1.lt (hq.imp id (fun h => h.imp id (fun h => h.imp id (hff q)))), by rw [World.size_alloc, hsz]⟩)
      have HI := Lib.hid (And.intro hI (And.intro (show 2 * noneC out + Q1.length + 1 ≤ gk from by have h := HJ.out.2.2.2.1; simp at h; omega) (show b + ((gk - 1 : Nat) : Int) ≤ 2 * (n : Int) + 1 from by have := HJ.out.2.2.2.2.1; omega)))
      have HD := Lib.hid (show ds = Ds.map collD from HJ.out.1)
      have HW3 := Lib.hid hw3
      have Hbi := Lib.hid hbi
      have hA0 := HJ.out.2.1.len.1
      have HgA := Lib.hid hA0
      clear HJ hQl hm hA1 hc1 hI hbb hw3 hbi chw hA0
      go_upto_region 10 with fail
      rw [← HW3.out, ← Hbi.out]
      have hci := H3.out.2.1.cell0
      clear hwc hsl hcq hfw HW3
      go_wp2_with fail
      refine (edges_ A n c i p w3 (H.out.ext H3.out.2.2.2.2.1)).mono ?_; rintro e V ⟨b1, b2, rfl, e4, hed, lb1, lb2⟩
      have Hed := Lib.hid hed
      have HQ : Hid (DsS w.heap.size n bo bw Ao n out A1 m c1 Q1 V ∧ Blk V bi 3 #[.int .i64 (i : Int)] ∧ Cds w.heap.size V Ds ∧ Ext w V ∧ (∀ q, (q = bo ∨ q = bw ∨ foot Ao n q ∨ foot A1 c1 q) → q ≠ b1 ∧ q ≠ b2 ∧ q ≠ bi) ∧ bi < V.heap.size) := Lib.hid ⟨H3.out.1.ext e4, H3.out.2.1.ext e4, H3.out.2.2.1.ext e4, H3.out.2.2.2.2.1.t e4, fun q hq => by
        have h1 := H3.out.2.2.2.2.2.1 q hq
        have h2 := H3.out.2.2.2.2.2.2
        omega, by have := e4.size; have h2 := H3.out.2.2.2.2.2.2; omega⟩
      have HDD := Lib.hid (show ∀ D ∈ Ds, ¬ (D = bo ∨ D = bw ∨ foot Ao n D ∨ foot A1 c1 D) from H3.out.2.2.2.1)
      clear e4 hed lb1 lb2 H3 hci
      go_wp2_with fail
      refine wp_range (gf := 60) rfl (enters_of Try.func60 (by kernel_rfl) rfl) (fun fn rec hrec => ?_)
      have hread : ∀ (R : Obj) (T : Nat → Prop) (o : Nat) (W : World), DsJ p w.heap.size n bo bw Ao n V A1 c1 b i gk R T o W → EdH p A n c i b1 b2 W := fun R T o W hj => by
        have nm : ∀ q o', A = some ⟨q, o', none⟩ → 0 < n → ¬ (foot Ao n q ∨ q = bw ∨ foot A1 c1 q) := fun q o' hA h0 hf => by
          obtain ⟨b, o2, hA2, hb, _⟩ := H.out.2 h0
          rw [hA] at hA2
          cases hA2
          have := HQ.out.1.lo q (by rcases hf with hf | hf | hf <;> simp [hf])
          omega
        exact ⟨Hed.out.rd.chg hj.rg.chg nm, hj.rg.blk Hed.out.b1 (fun hf => (HQ.out.2.2.2.2.1 b1 (by rcases hf with hf | hf | hf <;> simp [hf])).1 rfl), hj.rg.blk Hed.out.b2 (fun hf => (HQ.out.2.2.2.2.1 b2 (by rcases hf with hf | hf | hf <;> simp [hf])).2.1 rfl)⟩
      have hVlt : ∀ q, (q = bo ∨ q = bw ∨ foot Ao n q) → q < V.heap.size := fun q hq => HQ.out.1.lt (by rcases hq with hf | hf | hf <;> simp [hf])
      refine (edges1 b1 b2 A n c i p hin hn (V.heap.size + 1) (fun o => match (edF p i)[o]? with | some x => #[.int .i64 (x : Int)] | none => #[]) (DsJ p w.heap.size n bo bw Ao n V A1 c1 b i gk (rec .ready none) (fun _ => False) 0) (fun T o W => DsJ p w.heap.size n bo bw Ao n V A1 c1 b i gk (rec .ready none) T o W) _ (fun o x hx => by rw [hx]) ⟨?s1, fun T o W W' hj e => hj.e e, fun T o W W' hj ch => hj.own ch, ?hY⟩ (fun W hj => hread _ _ _ W hj) (fun T o W hj => hread _ _ _ W hj) ?h0).mono ?post
      case s1 =>
        intro W W' T hj e hT
        obtain ⟨out', Aw', mw', cw', Q', s1, s2, s3, s4, s5⟩ := hj.out
        exact ⟨hj.rg.begin e hT, out', Aw', mw', cw', Q', s1.ext e, s2, s3, s4, fun q hq ht => by have := s1.lt hq; have := (hT q ht).1; omega⟩
      case h0 => exact ⟨RgJ.start _, out, A1, m, c1, Q1, (HQ.out.1.ext (Ext.alloc _ _)).ext (Ext.alloc _ _), by rw [List.take_zero]; exact HI.out.1, HI.out.2.1, fun q hq => .inl ⟨hq, HQ.out.1.lt (.inr (.inr (.inr hq)))⟩, fun _ _ t => t⟩
      case hY =>
        intro T o W ho hj
        obtain ⟨j, hx⟩ : ∃ j, (edF p i)[o]? = some j := ⟨(edF p i)[o], List.getElem?_eq_getElem ho⟩
        simp only [hx]
        have hjn : j < n := by have := edF_lt HP.out (List.mem_of_getElem? hx); rwa [Hl.out] at this
        refine (yieldAt hrec trivial hj.rg.loop (by rfl) (fun jump W3 => jump = none ∧ DsJ p w.heap.size n bo bw Ao n V A1 c1 b i gk (rec .busy none) T (o + 1) W3 ∧ ∀ q, T q → W3.heap[q]? = W.heap[q]?) ?walk).mono ?yp
        case yp =>
          rintro e W' ⟨jump, W3, ⟨rfl, hB, hT⟩, hl, rfl, rfl⟩
          exact .inl ⟨rfl, hB.put hVlt _, fun q hq => (heap_put' (by have := (hj.rg.own q hq).1; omega)).trans (hT q hq)⟩
        case walk =>
          clear hrec hread
          gi_wp2
          refine ⟨hj.rg.loop, ?_⟩
          have hk1 := hj.put hVlt (rec .busy none)
          have HT : Hid (∀ q, T q → (W.putObj (V.heap.size + 1) (rec .busy none)).heap[q]? = W.heap[q]?) := Lib.hid (fun q hq => heap_put' (by have := (hj.rg.own q hq).1; omega))
          clear hj
          change Code.wpIn _ _ _ _ _ _ (W.putObj (V.heap.size + 1) (rec .busy none))
          generalize W.putObj (V.heap.size + 1) (rec .busy none) = W1 at *
          obtain ⟨out', Aw', mw', cw', Q', s1, s2, s3, s4, s5⟩ := hk1.out
          have hl' := s1.len
          obtain ⟨y, hy⟩ : ∃ y, out'[j]? = some y := ⟨out'[j]'(by omega), List.getElem?_eq_getElem _⟩
          obtain ⟨g, og, rfl, hgl⟩ := s1.ro.some_ (by omega)
          have hcj := s1.ro.cellAt (k := j) (u := .int .i64 y) (by rw [List.getElem?_map, hy]; rfl)
          have hci := s1.ro.cellAt (k := i) (u := .int .i64 b) (by rw [List.getElem?_map, s2.it]; rfl)
          have hfj := s1.ro.frozenAt (k := j) hjn
          have hco := s1.ob.cell0
          have hjI : (j : Int) < (n : Int) := by omega
          have hiI : (i : Int) < (n : Int) := by omega
          by_cases hy0 : y < 0
          · have hij : i ≠ j := fun e => by
              have h1 := s2.it
              rw [e, hy] at h1
              have := s2.b0
              injection h1 with h1
              omega
            have hbb : 0 ≤ b ∧ b ≤ 513 := by have h1 := s2.b0; have h2 := HI.out.2.2; omega
            have hwb : IntKind.i64.wrap (b + 1) = b + 1 := IntWalk.i64_in _ (by omega)
            have hbk := hk1.rg.blk HQ.out.2.1 (fun hf => (HQ.out.2.2.2.2.1 bi (by rcases hf with hf | hf | hf <;> simp [hf])).2.2 rfl)
            have hS : ∀ W', Ext W1 W' → W'.cell? ⟨bo, 0, none⟩ = some (.slice (some ⟨g, og, none⟩) n n) ∧ W'.cell? ⟨bi, 0, none⟩ = some (.int .i64 (i : Int)) ∧ W'.cell? ⟨g, og + i, none⟩ = some (.int .i64 b) := fun W' e =>
              ⟨(s1.ob.ext e).cell0, (hbk.ext e).cell0, (e.cell (p := ⟨g, og + i, none⟩) hgl).trans hci⟩
            have HS0 := Lib.hid (hS W1.drew (Ext.drew _))
            have hgbo : bo ≠ g := fun e => s1.oo (by rw [e]; exact ⟨by omega, og, rfl⟩)
            have hgbi : bi ≠ g := fun e => (HQ.out.2.2.2.2.1 g (.inr (.inr (.inl ⟨by omega, og, rfl⟩)))).2.2 e.symm
            obtain ⟨t1, t2⟩ := (s1.ext (Ext.drew W1)).set hjn (b + 1)
            have hc2 := t1.wb.cell0
            have hw2n := t1.wb.frozen 0
            obtain ⟨W2, hW2⟩ : ∃ W2, W2 = W1.drew.setCell ⟨g, og + j, none⟩ (.int .i64 (b + 1)) := ⟨_, rfl⟩
            have HSl : Hid (W2.cell? ⟨bo, 0, none⟩ = some (.slice (some ⟨g, og, none⟩) n n) ∧ W2.cell? ⟨bi, 0, none⟩ = some (.int .i64 (i : Int)) ∧ W2.cell? ⟨g, og + i, none⟩ = some (.int .i64 b)) := Lib.hid (by
              rw [hW2]
              exact ⟨(World.cell?_setCell_other _ _ _ _ (by simp; try (intro e; exact absurd e.symm hgbo))).trans HS0.out.1, (World.cell?_setCell_other _ _ _ _ (by simp; try (intro e; exact absurd e.symm hgbi))).trans HS0.out.2.1, (World.cell?_setCell_other _ _ _ _ (by simp; try omega)).trans HS0.out.2.2⟩)
            rw [← hW2] at t1 t2 hc2 hw2n
            have HF := Lib.hid (fun X w9 A9 c9 (e : Ext W2 X) (hB : w.heap.size ≤ W2.heap.size) r (ch : Chg (foot Aw' cw') X w9) ft => t1.push (X := X) (w9 := w9) (A9 := A9) (c9 := c9) (j := j) e hB r ch ft)
            have HC2 := Lib.hid ((Chg.ofExt (Ext.drew W1)).t t2)
            have HK := Lib.hid hk1
            have HT1 := Lib.hid t1
            have Hs := Lib.hid (And.intro s2 (And.intro s3 (And.intro s4 (And.intro s5 (And.intro hx hy)))))
            have HW2 := Lib.hid hW2
            have Hm' : Hid (mw' ≤ 1000) := Lib.hid (by have := s3; have h3 := HI.out.2.2; have h4 := s2.b0; have := hl'.2; omega)
            have hmw := Hm'.out
            have hVl2 := Lib.hid hVlt
            clear hS hbk hk1 s1 s2 s3 s4 s5 t1 t2 hx hy hVlt hci hgbo hgbi hl' hW2
            gi_wp2
            refine wpIn_region_plainH (fun W' => W'.cell? ⟨bo, 0, none⟩ = some (.slice (some ⟨g, og, none⟩) n n) ∧ W'.cell? ⟨bi, 0, none⟩ = some (.int .i64 (i : Int)) ∧ W'.cell? ⟨g, og + i, none⟩ = some (.int .i64 b)) (by kernel_rfl) (fun _ => trivial) (by rintro ⟨_, _, h⟩; exact h) (by kernel_rfl) ?_
            refine take_heldS (i := 0) (j := 38) (v := .slice (some ⟨g, og, none⟩) n n) rfl rfl (by kernel_rfl) (by kernel_rfl) (by kernel_rfl) (fun _ _ _ h => h) (Or.inl ⟨by rfl, fun w' hw' => by obtain ⟨q0, q1, q2⟩ := hw'; go_simp; try rfl⟩) HS0.out ?_
            simp only [Act.put, List.setIfInBounds_toArray, List.set_cons_zero, List.set_cons_succ]
            refine take_heldS (i := 1) (j := 39) (v := .int .i64 (j : Int)) rfl rfl (by kernel_rfl) (by kernel_rfl) (by kernel_rfl) (fun _ _ _ h => h) (Or.inl ⟨by rfl, fun w' hw' => by obtain ⟨q0, q1, q2⟩ := hw'; go_simp; try rfl⟩) HS0.out ?_
            simp only [Act.put, List.setIfInBounds_toArray, List.set_cons_zero, List.set_cons_succ]
            refine take_heldS (i := 2) (j := 40) (v := .slice (some ⟨g, og, none⟩) n n) rfl rfl (by kernel_rfl) (by kernel_rfl) (by kernel_rfl) (fun _ _ _ h => h) (Or.inl ⟨by rfl, fun w' hw' => by obtain ⟨q0, q1, q2⟩ := hw'; go_simp; try rfl⟩) HS0.out ?_
            simp only [Act.put, List.setIfInBounds_toArray, List.set_cons_zero, List.set_cons_succ]
            refine take_heldS (i := 3) (j := 41) (v := .int .i64 (i : Int)) rfl rfl (by kernel_rfl) (by kernel_rfl) (by kernel_rfl) (fun _ _ _ h => h) (Or.inl ⟨by rfl, fun w' hw' => by obtain ⟨q0, q1, q2⟩ := hw'; go_simp; try rfl⟩) HS0.out ?_
            simp only [Act.put, List.setIfInBounds_toArray, List.set_cons_zero, List.set_cons_succ]
            refine take_heldS (i := 4) (j := 42) (v := .pointer (some ⟨g, og + i, none⟩)) rfl rfl (by kernel_rfl) (by kernel_rfl) (by kernel_rfl) (fun _ _ _ h => h) (Or.inl ⟨by rfl, fun w' hw' => by obtain ⟨q0, q1, q2⟩ := hw'; go_simp; try rfl⟩) HS0.out ?_
            simp only [Act.put, List.setIfInBounds_toArray, List.set_cons_zero, List.set_cons_succ]
            refine take_heldS (i := 5) (j := 43) (v := .int .i64 b) rfl rfl (by kernel_rfl) (by kernel_rfl) (by kernel_rfl) (fun _ _ _ h => h) (Or.inl ⟨by rfl, fun w' hw' => by obtain ⟨q0, q1, q2⟩ := hw'; go_simp; try rfl⟩) HS0.out ?_
            simp only [Act.put, List.setIfInBounds_toArray, List.set_cons_zero, List.set_cons_succ]
            refine take_heldS (i := 6) (j := 44) (v := .int .i64 (b + 1)) rfl rfl (by kernel_rfl) (by kernel_rfl) (by kernel_rfl) (fun _ _ _ h => h) (Or.inl ⟨by rfl, fun w' hw' => by obtain ⟨q0, q1, q2⟩ := hw'; go_simp; try rfl⟩) HS0.out ?_
            simp only [Act.put, List.setIfInBounds_toArray, List.set_cons_zero, List.set_cons_succ]
            refine take_heldS (i := 7) (j := 45) (v := .pointer (some ⟨g, og + j, none⟩)) rfl rfl (by kernel_rfl) (by kernel_rfl) (by kernel_rfl) (fun _ _ _ h => h) (Or.inl ⟨by rfl, fun w' hw' => by obtain ⟨q0, q1, q2⟩ := hw'; go_simp; try rfl⟩) HS0.out ?_
            simp only [Act.put, List.setIfInBounds_toArray, List.set_cons_zero, List.set_cons_succ]
            refine wpAnyH_ready (rs := [8]) (by kernel_rfl) (by simp) (AllReadyH.cons rfl (fun K hK => ?_) AllReadyH.nil)
            go_simp
            change K _ (W1.drew.setCell ⟨g, og + j, none⟩ (.int .i64 (b + 1)))
            rw [← HW2.out]
            refine hK.out _ _ HSl.out (fun hS2 => ?_)
            clear hK K hS2
            refine wpAnyH_done (by kernel_rfl) ?_ _
            clear hcj hfj hco
            gi_wp2_with (gi_at_builtin; refine wpListIn_append_atS _ rfl rfl ul_in info_in rfl rfl (HT1.out.rw_.ext (Ext.alloc _ _)) rfl (Src.ofRdS ul_in intC_len (rdS_one intC_len _ _ j rfl) intC_one) (by simp only [maxLen]; omega) (by omega) ?_; intro A9 c9 w9 r9 ch9 ft9; have b9 := (HT1.out.wb.ext (Ext.alloc _ (.cells #[.int .i64 (j : Int)] 3))).chg ch9 HT1.out.ww; have cb9 := b9.cell0; have fb9 := b9.frozen 0)
            obtain ⟨p1, p2⟩ := HF.out _ w9 A9 c9 (Ext.alloc W2 _) (by have h1 := HC2.out.size; have h2 := HK.out.rg.size; have h3 := HQ.out.2.2.2.1.size; omega) r9 ch9 ft9
            obtain ⟨s2, s3, s4, s5, hx, hy⟩ := Hs.out
            have cc : Chg (fun q => foot (some ⟨g, og, none⟩) n q ∨ q = bw ∨ foot Aw' cw' q) W1 (w9.setCell ⟨bw, 0, none⟩ (.slice A9 (mw' + 1) c9)) := (HC2.out.mono (fun q _ hq => .inl hq)).t (p2.mono (fun q _ hq => .inr hq))
            have hz2 := HC2.out.size
            have hz1 := HK.out.rg.size
            have hJf : DsJ p w.heap.size n bo bw (some ⟨g, og, none⟩) n V A1 c1 b i gk (rec .busy none) T (o + 1) (w9.setCell ⟨bw, 0, none⟩ (.slice A9 (mw' + 1) c9)) := by
              refine ⟨HK.out.rg.step cc (fun q _ hq => ?_), _, A9, mw' + 1, c9, Q' ++ [j], p1, by rw [take_snoc hx]; exact s2.put hy hy0 (List.mem_of_getElem? hx), ?_, fun q hq => ?_, fun q hq ht => ?_⟩
              · rcases hq with hq | hq | hq
                · exact .inr ⟨.inl hq, hVl2.out q (.inr (.inr hq))⟩
                · exact .inr ⟨.inr (.inl hq), hVl2.out q (.inr (.inl hq))⟩
                · exact (s4 q hq).elim (fun h => .inr ⟨.inr (.inr h.1), h.2⟩) .inl
              · have h1 := noneC_set (y := b + 1) hy hy0 (by have := s2.b0; omega)
                rw [List.length_append, List.length_singleton]
                omega
              · exact (ft9 q hq).elim (s4 q) (fun h => .inr (by have := Nat.le_trans (Ext.alloc W2 (.cells #[.int .i64 (j : Int)] 3)).size h; omega))
              · rcases hq with hq | hq | hq | hq
                · exact s5 q (.inl hq) ht
                · exact s5 q (.inr (.inl hq)) ht
                · exact s5 q (.inr (.inr (.inl hq))) ht
                · exact (ft9 q hq).elim (fun h => s5 q (.inr (.inr (.inr h))) ht) (fun h => by
                    have h1 := (HK.out.rg.own q ht).2
                    have := Nat.le_trans (Ext.alloc W2 (.cells #[.int .i64 (j : Int)] 3)).size h
                    omega)
            exact ⟨hJf.rg.loop, rfl, hJf, fun q hq => (cc.block q (HK.out.rg.own q hq).2 (fun hf => by
              rcases hf with hf | hf | hf
              · exact s5 q (.inr (.inr (.inl hf))) hq
              · exact s5 q (.inr (.inl hf)) hq
              · exact s5 q (.inr (.inr (.inr hf))) hq)).trans (HT.out q hq)⟩
          · have h0 : 0 ≤ y := by omega
            have Hfin : Hid (DsJ p w.heap.size n bo bw (some ⟨g, og, none⟩) n V A1 c1 b i gk (rec .busy none) T (o + 1) W1) := Lib.hid ⟨hk1.rg, out', Aw', mw', cw', Q', s1, by rw [take_snoc hx]; exact s2.skip hy h0, s3, s4, s5⟩
            clear hk1 s1 s2 s3 s4 s5 hx hy hVlt hci hfj
            gi_wp2
            exact ⟨Hfin.out.rg.loop, rfl, Hfin.out, HT.out⟩
      case post =>
        clear hrec hread
        rintro e W2 ⟨⟨v, rfl⟩, ⟨T, hj⟩ | hx⟩
        · refine ⟨⟨_, rfl⟩, .ready, none, by simp, hj.rg.loop, ?_⟩
          have hj2 := hj.put hVlt (rec .exhausted none)
          clear hj
          generalize W2.putObj (V.heap.size + 1) (rec .exhausted none) = W3 at *
          obtain ⟨out', Aw', mw', cw', Q', s1, s2, s3, s4, s5⟩ := hj2.out
          rw [List.take_length] at s2
          have hfin := s2.finish (fun v hv => hv)
          have hCd : Cds w.heap.size W3 (V.heap.size :: Ds) := (HQ.out.2.2.1.chg hj2.rg.chg (fun D hD hf => HDD.out D hD (by rcases hf with hf | hf | hf <;> simp [hf]))).cons hj2.rg.defd HQ.out.2.2.2.1.size (fun hm => by have := HQ.out.2.2.1.lt _ hm; omega)
          have hD0 : ∀ D ∈ V.heap.size :: Ds, ¬ (D = bo ∨ D = bw ∨ foot Ao n D ∨ foot Aw' cw' D) := fun D hD hf => by
            have h4 : foot Aw' cw' D → D < V.heap.size → foot A1 c1 D := fun h hl => (s4 D h).elim (fun h => h.1) (fun h => by omega)
            rcases List.mem_cons.1 hD with rfl | hD
            · rcases hf with hf | hf | hf | hf
              · have := hVlt _ (.inl hf); omega
              · have := hVlt _ (.inr (.inl hf)); omega
              · have := hVlt _ (.inr (.inr hf)); omega
              · exact (s4 _ hf).elim (fun h => by omega) (fun h => by omega)
            · have hDl := HQ.out.2.2.1.lt D hD
              exact HDD.out D hD (hf.imp id (fun h => h.imp id (fun h => h.imp id (fun h => h4 h hDl))))
          have hEx : Ext w W3 := HQ.out.2.2.2.1.trans (hj2.rg.chg.below HQ.out.2.2.2.1.size (fun q hq hf => by have := HQ.out.1.lo q (by rcases hf with hf | hf | hf <;> simp [hf]); omega))
          obtain ⟨W8, hW8⟩ : ∃ W8, W8 = W3.alloc (.cells #[.slice Aw' mw' cw'] 26) := ⟨_, rfl⟩
          have hx8 : Ext W3 W8 := by rw [hW8]; exact Ext.alloc _ _
          have hb8 : Blk W8 W3.heap.size 26 #[.slice Aw' mw' cw'] := by rw [hW8]; exact Blk.new _ _ _
          have hcw' := s1.wb.cell0
          have HN : Hid (({ target := .collected V.heap.size, args := #[] } : Deferred) :: ds = (V.heap.size :: Ds).map collD ∧ DsS w.heap.size n bo W3.heap.size Ao n out' Aw' mw' cw' Q' W8 ∧ Bfs (EdP p) n out' Q' b ∧ 2 * noneC out' + Q'.length ≤ gk - 1 ∧ b + ((gk - 1 : Nat) : Int) ≤ 2 * (n : Int) + 1 ∧ Cds w.heap.size W8 (V.heap.size :: Ds) ∧ (∀ D ∈ V.heap.size :: Ds, ¬ (D = bo ∨ D = W3.heap.size ∨ foot Ao n D ∨ foot Aw' cw' D)) ∧ Ext w W8) := Lib.hid ⟨by rw [HD.out]; rfl, s1.move hx8 hb8 (Nat.le_refl _) hEx.size, hfin, by omega, HI.out.2.2, hCd.ext hx8, fun D hD hf => by
            have hDl := hCd.lt D hD
            rcases hf with hf | hf | hf | hf
            · exact hD0 D hD (.inl hf)
            · omega
            · exact hD0 D hD (.inr (.inr (.inl hf)))
            · exact hD0 D hD (.inr (.inr (.inr hf))), hEx.t hx8⟩
          have HW8 := Lib.hid hW8
          have hg1 : 1 ≤ gk := by omega
          clear hj2 s1 s2 s3 s4 s5 hfin hCd hD0 hEx hx8 hb8 hW8 hVlt
          go_wp2_with fail
          go_roundg (gk - 1)
          case rel => exact ⟨_, Aw', mw', cw', out', Q', b, V.heap.size :: Ds, rfl, by rw [← HW8.out]; exact HN⟩
          case measure => omega
        · exact hx.elim
end Go.Proofs.Ytlneifgihdickaa
