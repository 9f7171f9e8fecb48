/- MergeWrong: the walk of the law: for any list of small numbers, any small key and any numbers it answers true and leaves all memory as it was (no condition). -/
import Derived.Test.YtkeapijehfacfaaMws
import Derived.Deep.CutRange
import Derived.Deep.RegionHeldLaw
namespace Go.Proofs.Ytkeapijehfacfaa
open Go.RowKit Go.Fx
theorem law_made07 {x : K3} {X : Ev} {w : World} (hX : X = wrE x) (hx : K3Ok x) : Calls Try.prog 33 #[.agg #[.int .u64 (x.t : Int), .int .u32 (x.s : Int), .int .u32 (x.q : Int)]] w fun e w' => ∃ ks : Int, e = .returned (.agg #[.int .i64 X.t, .int .i64 ks, .int .i64 X.q]) ∧ Ext w w' := by
  subst hX
  refine (made07_ x w hx).mono ?_
  rintro e w' ⟨rfl, he⟩
  exact ⟨(x.s : Int) % 17, rfl, he⟩
/-- A list of one event put among the lists. -/
def OneP (w9 : World) (ss : List Sl) (i : Nat) (X : Ev) (gx : Nat) (A : Option Addr) (c : Nat) (w' : World) : Prop :=
  Room w' A 6 c ((putL i ⟨some ⟨gx, 0, none⟩, 1, 1⟩ ss).map slv) ∧ RdS 5 evC w' (some ⟨gx, 0, none⟩) 1 [X] ∧ (∀ k, foot A c k → w9.heap.size ≤ k ∧ k ≠ gx) ∧ Ext w9 w'
theorem law_putOne {w9 Xw : World} {A1 : Option Addr} {c1 i gx vb : Nat} {ss : List Sl} {X : Ev} (h : Room Xw A1 5 c1 (ss.map slv)) (hf : ∀ k, foot A1 c1 k → w9.heap.size ≤ k) (hi : i ≤ 5) (hb : Blk Xw gx 37 (evC X).toArray) (hv : Blk Xw vb 24 #[.slice (some ⟨gx, 0, none⟩) 1 1]) (hg : ¬ foot A1 c1 gx) (hne : ¬ foot A1 c1 vb) (he : Ext w9 Xw) :
    Calls Try.prog 34 #[.slice A1 5 c1, .int .i64 (i : Int), .slice (some ⟨vb, 0, none⟩) 1 1] Xw fun e w' => ∃ A c, e = .returned (.slice A 6 c) ∧ OneP w9 ss i X gx A c w' := by
  refine (law_insL (s := ⟨some ⟨gx, 0, none⟩, 1, 1⟩) h hi hv hne (by omega)).mono ?_
  rintro e w' ⟨A, c, rfl, hr, hc, hn⟩
  have hrd : RdS 5 evC Xw (some ⟨gx, 0, none⟩) 1 [X] := rdS_blk (n := 1) hb (by simp) rfl (by omega)
  refine ⟨A, c, rfl, hr, hrd.chg hc (fun k o hA _ hk => ?_), fun k hk => ?_, he.trans (hc.below he.size (fun k hk hf' => by have := hf k hf'; omega))⟩
  · cases hA; exact hg hk
  · rcases hn k hk with h1 | h1
    · exact ⟨hf k h1, fun e => hg (by rw [← e]; exact h1)⟩
    · have h2 := he.size
      have h3 := hb.lt
      exact ⟨by omega, by omega⟩
theorem law_cutBad {g : Nat} {X : Ev} {t : Int} {w : World} (h : RdS 5 evC w (some ⟨g, 0, none⟩) 2 [X, X]) :
    Calls Try.prog 23 #[.slice (some ⟨g, 0, none⟩) 2 2, .int .i64 t] w fun e w' => ∃ A1 c1 A2 c2, e = .returned (.tuple #[.slice A1 0 c1, .slice A2 0 c2, .int .i64 110]) ∧ Ext w w' := by
  refine (cut_ _ 2 2 [X, X] t w h (Nat.le_refl _) (by omega)).mono ?_
  rintro e w' ⟨A1, n1, c1, A2, n2, c2, rfl, _, _, h1, h2, _, _, he⟩
  have hv : cutF [X, X] t = ([], [], 110) := by unfold cutF; rw [bad_two]; rfl
  rw [hv] at h1 h2 ⊢
  have e1 : n1 = 0 := by simpa using h1.symm
  have e2 : n2 = 0 := by simpa using h2.symm
  subst e1 e2
  exact ⟨A1, c1, A2, c2, rfl, he⟩
theorem law_woBad {A1 A2 : Option Addr} {n1 n2 c1 c2 : Nat} {la lb : List Ev} {w : World} (hv : srtB la = false ∨ srtB lb = false) (h1 : RdS 5 evC w A1 n1 la) (h2 : RdS 5 evC w A2 n2 lb) (m1 : n1 ≤ 50) (m2 : n2 ≤ 50) (hc : n2 ≤ c2) :
    Calls Try.prog 24 #[.slice A1 n1 c1, .slice A2 n2 c2] w fun e w' => ∃ A' c', e = .returned (.tuple #[.slice A' 0 c', .int .i64 110]) ∧ Ext w w' := by
  refine (without_ A1 A2 n1 c1 n2 c2 la lb w h1 h2 (by omega) (by omega) hc).mono ?_
  rintro e w' ⟨A', n', c', rfl, hr, hl, _, he⟩
  have hF : woF la lb = ([], 110) := by unfold woF; rw [if_neg]; rintro ⟨g1, g2⟩; rcases hv with h | h <;> simp_all
  rw [hF] at hl ⊢
  have e1 : n' = 0 := by simpa using hl.symm
  subst e1
  exact ⟨A', c', rfl, he⟩
theorem law_sortBad {g : Nat} {X : Ev} {w : World} (h : RdS 5 evC w (some ⟨g, 0, none⟩) 2 [X, X]) (hok : EvOk X) :
    Calls Try.prog 16 #[.slice (some ⟨g, 0, none⟩) 2 2] w fun e w' => ∃ A' c', e = .returned (.tuple #[.slice A' 0 c', .int .i64 111]) ∧ Ext w w' := by
  refine (sort_ _ 2 2 [X, X] w h (Nat.le_refl _) (by omega) (fun x hx => by simp at hx; subst hx; exact hok)).mono ?_
  rintro e w' ⟨A', n', c', rfl, hr, hl, _, he⟩
  rw [sortF_bad (fun hd => by have := List.pairwise_cons.1 hd; exact this.1 X (by simp) rfl)] at hl ⊢
  have e1 : n' = 0 := by simpa using hl.symm
  subst e1
  exact ⟨A', c', rfl, he⟩
theorem law_dealArg {g : Nat} {X : Ev} {p : Int} {w : World} (h : RdS 5 evC w (some ⟨g, 0, none⟩) 2 [X, X]) (hp : p < 0 ∨ 16 < p) :
    Calls Try.prog 21 #[.slice (some ⟨g, 0, none⟩) 2 2, .int .i64 p] w fun e w' => ∃ A' c', e = .returned (.tuple #[.slice A' 0 c', .int .i64 (-1), .int .i64 2]) ∧ Ext w w' := by
  refine (deal_ _ 2 2 [X, X] p w h (by omega)).mono ?_
  rintro e w' ⟨A', n', c', ss, rfl, hl, he⟩
  have hv : dealF [X, X] p = ([], -1, 2) := by unfold dealF; rw [if_pos hp]
  rw [hv] at hl ⊢
  have hn := hl.n_
  have e1 : n' = 0 := by simpa using hn.symm
  subst e1
  exact ⟨A', c', rfl, he⟩
theorem law_cloneE {A : Option Addr} {n c : Nat} {L : List Ev} {w : World} (h : RdS 5 evC w A n L) (hn : n ≤ 1000) :
    Calls Try.prog 37 #[.slice A n c] w fun e w' => ∃ A' c', e = .returned (.slice A' n c') ∧ RoomS 5 w' A' n c' (L.flatMap evC) ∧ (∀ k, foot A' c' k → w.heap.size ≤ k) ∧ Ext w w' := by
  refine (cloneE A n c evC_len evC_one L w h (by omega)).mono ?_
  rintro e w' ⟨A', c', rfl, hr, he, hf⟩
  exact ⟨A', c', rfl, hr, hf, he⟩
theorem law_insE {Xw : World} {A : Option Addr} {n n1 c pl vb : Nat} {L : List Ev} {Y : Ev} (hn1 : n1 = n + 1) (h : RoomS 5 Xw A n c (L.flatMap evC)) (hp : pl ≤ n) (hv : Blk Xw vb 37 (evC Y).toArray) (hne : ¬ foot A c vb) (hn : n ≤ 1000) :
    Calls Try.prog 36 #[.slice A n c, .int .i64 (pl : Int), .slice (some ⟨vb, 0, none⟩) 1 1] Xw fun e w' => ∃ A' c', e = .returned (.slice A' n1 c') ∧ RoomS 5 w' A' n1 c' ((putL pl Y L).flatMap evC) ∧ Chg (foot A c) Xw w' ∧ (∀ k, foot A' c' k → foot A c k ∨ Xw.heap.size ≤ k) := by
  subst hn1
  refine (ev_ins_all A n c pl (L.flatMap evC) vb 1 (evC Y) Xw h hp hv rfl (by decide) hne (one_flat evC_one L) (evC_one Y) (by omega)).mono ?_
  rintro e w' ⟨A', c', rfl, h1, h2, h3⟩
  refine ⟨A', c', rfl, ?_, h2, h3⟩
  unfold putL
  rw [List.flatMap_append, List.flatMap_append, flat_take evC_len, flat_drop evC_len]
  simpa using h1
theorem law_dealTo {A : Option Addr} {n c pl : Nat} {L : List Ev} {Y : Ev} {w : World} (h : RdS 5 evC w A n (putL pl Y L ++ [Y])) (hn : n ≤ 1000) (hL : ∀ x ∈ L, 1 ≤ x.to ∧ x.to ≤ 16) (hp : pl ≤ L.length) (hy : Y.to < 1 ∨ 16 < Y.to) :
    Calls Try.prog 21 #[.slice A n c, .int .i64 16] w fun e w' => ∃ A' c', e = .returned (.tuple #[.slice A' 0 c', .int .i64 (pl : Int), .int .i64 112]) ∧ Ext w w' := by
  refine (deal_ A n c _ 16 w h (by omega)).mono ?_
  rintro e w' ⟨A', n', c', ss, rfl, hl, he⟩
  rw [wrong_deal hL hp hy] at hl ⊢
  have hn := hl.n_
  have e1 : n' = 0 := by simpa using hn.symm
  subst e1
  exact ⟨A', c', rfl, he⟩
set_option maxRecDepth 100000 in
set_option maxHeartbeats 8000000 in
theorem walkMergeWrong (A0 : Option Addr) (n0 c0 : Nat) (l : List Sm) (x : K3) (a2 a3 : Int) (w : World) (h0 : SmArg w A0 n0 c0 l) (hx : K3Ok x) (h2 : (Lit.int .u8 a2).wf = true) (h3 : (Lit.int .i64 a3).wf = true) :
    Calls Try.prog 11 #[.slice A0 n0 c0, k3V x, .int .u8 a2, .int .i64 a3] w fun e w' => e = .returned (.bool true) ∧ Ext w w' := by
  have hb2 := bounds_u8 h2
  have hb3 := bounds_i64 h3
  obtain ⟨m, rfl⟩ : ∃ m : Nat, a2 = (m : Int) := ⟨a2.toNat, by omega⟩
  have HL := Lib.hid (fun w' (e : Ext w w') => lists_ A0 n0 c0 l w' (h0.ext e))
  have HMo := Lib.hid (show ∀ y ∈ (l.take 50).map mkE, EvOk y ∧ y.s < 16 from fun y hy => by
    obtain ⟨z, hz, rfl⟩ := List.mem_map.1 hy
    exact ⟨mkE_ok (h0.ok z (List.mem_of_mem_take hz)), by simp only [mkE]; omega⟩)
  have HMl := Lib.hid (show ((l.take 50).map mkE).length ≤ 50 by rw [List.length_map, List.length_take]; omega)
  generalize hM : (l.take 50).map mkE = M at *
  have HM := Lib.hid hM
  have H0 := Lib.hid h0
  obtain ⟨X, hX⟩ : ∃ X, X = wrE x := ⟨_, rfl⟩
  have HMd := Lib.hid (fun w' => law_made07 (w := w') hX hx)
  have HXo := Lib.hid (show EvOk X by rw [hX]; exact wrE_ok hx)
  have HXs := Lib.hid (show X.s = 16 by rw [hX]; rfl)
  have HXc := Lib.hid (show (evC X).toArray = #[.int .i64 X.t, .int .i64 16, .int .i64 X.q, .int .i64 1, .int .i64 0] by rw [hX]; rfl)
  have HXt := Lib.hid (show X.to = 1 ∧ X.v = 0 by rw [hX]; exact ⟨rfl, rfl⟩)
  obtain ⟨i, hi⟩ : ∃ i, i = m % 6 := ⟨_, rfl⟩
  have hi6 : i < 6 := by omega
  have hmi : (m : Int) % 6 = (i : Int) := by omega
  have hwm : IntKind.i64.wrap (m : Int) = (m : Int) := IntWalk.i64_in _ (by omega)
  have hb5 := Blk.new w 63 (k3C x)
  obtain ⟨g5, hg5⟩ : ∃ g5, g5 = w.heap.size := ⟨_, rfl⟩
  obtain ⟨w5, hw5⟩ : ∃ w5, w5 = w.alloc (.cells (k3C x) 63) := ⟨_, rfl⟩
  rw [← hg5, ← hw5] at hb5
  have HB5 := Lib.hid hb5
  have HE5 := Lib.hid (show Ext w w5 by rw [hw5]; exact Ext.alloc _ _)
  have HG5 := Lib.hid hg5
  have HW5 := Lib.hid hw5
  obtain ⟨k1, hk1⟩ : ∃ k1, k1 = i + 1 + m / 6 % (6 - i) := ⟨_, rfl⟩
  have hk1b : i < k1 ∧ k1 ≤ 6 := by have h := Nat.mod_lt (m / 6) (show 0 < 6 - i by omega); omega
  have hcast : (i : Int) + 1 + (m : Int) / 6 % (6 - (i : Int)) = (k1 : Int) := by
    have h6 : (6 : Int) - (i : Int) = ((6 - i : Nat) : Int) := by omega
    rw [h6, hk1]
    push_cast
    rfl
  have hk1w : wrap64 ((i : Int) + 1 + (m : Int) / 6 % (6 - (i : Int))) = (k1 : Int) := by
    rw [hcast]
    exact IntWalk.wrap64_in _ (by omega)
  clear h0 hx h2 h3 hM hX hi hb5 hg5 hw5 hk1 hcast
  unfold k3V
  go_enter Try.func11, Try.ntmps11
  go_upto_region 1 with fail
  change Code.wp _ _ _ _ (w.alloc (.cells (k3C x) 63))
  rw [← HW5.out, ← HG5.out]
  clear HW5 HG5
  go_wp2_with fail
  refine (awake_ w5).mono ?_; rintro e w1 ⟨rfl, e1⟩
  have E1 := Lib.hid (HE5.out.t e1)
  have HB1 := Lib.hid (HB5.out.ext e1)
  clear e1 HB5 HE5
  go_wp2_with fail
  refine (HL.out _ E1.out).mono ?_; rintro e w2 ⟨A, ss, ls, rfl, hl, hok, e2⟩
  rw [HM.out] at hok
  have HR := Lib.hid hl.room.rd
  have HS := Lib.hid hl.els
  have HOk := Lib.hid hok
  have HFo := Lib.hid (show ∀ y ∈ ls.flatten, EvOk y from fun y hy => (HMo.out y (hok.mem hy)).1)
  have HFl := Lib.hid (show ls.flatten.length ≤ 50 by have h1 := hok.tot; have h2 := HMl.out; omega)
  have E2 := Lib.hid (E1.out.t e2)
  have hb2' := HB1.out.ext e2
  have k0 := (hb2'.cell 0).trans (show _ = some (Value.int .u64 (x.t : Int)) from rfl)
  have k1 := (hb2'.cell 1).trans (show _ = some (Value.int .u32 (x.s : Int)) from rfl)
  have k2 := (hb2'.cell 2).trans (show _ = some (Value.int .u32 (x.q : Int)) from rfl)
  clear hl hok e2 E1 HL HB1 hb2'
  go_wp2_with fail
  refine (HMd.out _).mono ?_; rintro e w3 ⟨ks, rfl, e3⟩
  have X3 := Lib.hid e3
  clear e3 k0 k1 k2 HMd
  obtain ⟨g4, hg4⟩ : ∃ g4, g4 = w3.heap.size := ⟨_, rfl⟩
  have hb4 := Blk.new w3 37 (evC X).toArray
  obtain ⟨w4, hw4⟩ : ∃ w4, w4 = w3.alloc (.cells (evC X).toArray 37) := ⟨_, rfl⟩
  rw [← hg4, ← hw4] at hb4
  have HB4 := Lib.hid hb4
  have X4 := Lib.hid (show Ext w2 w4 by rw [hw4]; exact X3.out.t (Ext.alloc _ _))
  have HG4 := Lib.hid hg4
  have HW4 := Lib.hid hw4
  clear hb4 hg4 hw4 X3
  go_upto_region 6 with fail
  change Code.wp _ _ _ _ (w3.alloc (.cells #[.int .i64 X.t, .int .i64 16, .int .i64 X.q, .int .i64 1, .int .i64 0] 37))
  rw [← HXc.out, ← HW4.out, ← HG4.out]
  clear HW4 HG4
  obtain ⟨d0, d1, d2, d3, d4⟩ := HB4.out.ev
  obtain ⟨gb, hgb⟩ : ∃ gb, gb = w4.heap.size := ⟨_, rfl⟩
  have hbb := Blk.new w4 37 ([X, X].flatMap evC).toArray
  obtain ⟨wb, hwb⟩ : ∃ wb, wb = w4.alloc (.cells ([X, X].flatMap evC).toArray 37) := ⟨_, rfl⟩
  rw [← hgb, ← hwb] at hbb
  have HRb := Lib.hid (rdS_blk (n := 2) hbb rfl rfl (by omega))
  have HB4 := Lib.hid (show Blk wb g4 37 (evC X).toArray by rw [hwb]; exact HB4.out.ext (Ext.alloc _ _))
  have Xb := Lib.hid (show Ext w2 wb by rw [hwb]; exact X4.out.t (Ext.alloc _ _))
  have HGb := Lib.hid hgb
  have HWb := Lib.hid hwb
  clear hbb hgb hwb X4
  go_upto_region 8 with fail
  change Code.wp _ _ _ _ (w4.alloc (.cells ([X, X].flatMap evC).toArray 37))
  rw [← HWb.out, ← HGb.out]
  clear HWb HGb d0 d1 d2 d3 d4
  go_wp2_with fail
  refine (law_cloneL (HR.out.ext Xb.out) (by omega)).mono ?_; rintro e w6 ⟨A6, c6, rfl, r6, f6, e6⟩
  have R6 := Lib.hid r6
  have F6 := Lib.hid f6
  have X6 := Lib.hid e6
  clear r6 f6 e6
  go_wp2_with fail
  refine (law_insL (s := ⟨some ⟨gb, 0, none⟩, 2, 2⟩) (R6.out.ext (Ext.alloc _ _)) (by omega) (Blk.new w6 _ _) (fun hf => by have := R6.out.lt hf; omega) (by omega)).mono ?_; rintro e w7 ⟨A7, c7, rfl, r7, ch7, f7⟩
  have X7 := Lib.hid ((X6.out.t (Ext.alloc w6 (.cells #[.slice (some ⟨gb, 0, none⟩) 2 2] 24))).trans (ch7.below (X6.out.t (Ext.alloc _ _)).size (fun q hq hf => by have := F6.out q hf; omega)))
  have F7 := Lib.hid (show ∀ k, foot A7 c7 k → wb.heap.size ≤ k from fun k hk => (f7 k hk).elim (F6.out k) (fun h => Nat.le_trans (X6.out.t (Ext.alloc _ _)).size h))
  have R7 : Hid (Room w7 A7 6 c7 ((putL i ⟨some ⟨gb, 0, none⟩, 2, 2⟩ ss).map slv)) := Lib.hid r7
  clear r7 ch7 f7 R6 F6 X6
  go_wp2_with (refine wpl_append_at (by rfl) rfl ul_ee info_ee rfl rfl (R7.out.ext (Ext.alloc _ _)) rfl (Src.ofRd (f := slv) (xs := [⟨some ⟨gb, 0, none⟩, 2, 2⟩]) ul_ee ((Blk.new _ _ _).rd rfl rfl) (fun _ => rfl)) (by simp only [maxLen]; omega) (by omega) ?_)
  intro A8 c8 w8 r8 ch8 ft8
  have X8 := Lib.hid ((X7.out.t (Ext.alloc w7 (.cells #[.slice (some ⟨gb, 0, none⟩) 2 2] 24))).trans (ch8.below (X7.out.t (Ext.alloc _ _)).size (fun q hq hf => by have := F7.out q hf; omega)))
  have R8 : Hid (Rd slv w8 A8 7 (putL i ⟨some ⟨gb, 0, none⟩, 2, 2⟩ ss ++ [⟨some ⟨gb, 0, none⟩, 2, 2⟩])) := Lib.hid (Room.rd (c := c8) (by rw [List.map_append]; exact r8))
  clear r8 ch8 ft8 R7 F7 X7
  refine Lib.hid ?_
  have HE8 : Hid (Els w8 (putL i ⟨some ⟨gb, 0, none⟩, 2, 2⟩ ss ++ [⟨some ⟨gb, 0, none⟩, 2, 2⟩]) (putL i [X, X] ls ++ [[X, X]])) := Lib.hid ((els_put i (HS.out.ext (Xb.out.t X8.out)) (Nat.le_refl _) (HRb.out.ext X8.out)).snoc (Nat.le_refl _) (HRb.out.ext X8.out))
  have hpm : (putL i [X, X] ls ++ [[X, X]]).flatten.Perm ([X, X, X, X] ++ ls.flatten) := by
    have h1 := (putL_perm i [X, X] ls).flatten
    rw [List.flatten_append]
    refine (h1.append_right _).trans ?_
    simp only [List.flatten_cons, List.flatten_nil, List.append_nil]
    refine List.perm_append_comm.trans ?_
    simp
  have Hpm := Lib.hid hpm
  clear hpm
  go_wp2_with fail
  refine (law_mergeBad (er := 110) (wrong_order HOk.out (by omega)) rfl R8.out HE8.out (by omega) (fun y hy => by
    rcases List.mem_append.1 (Hpm.out.mem_iff.1 hy) with h | h
    · simp at h; subst h; exact HXo.out
    · exact HFo.out y h) (by rw [Hpm.out.length_eq, List.length_append]; have := HFl.out; show 4 + ls.flatten.length ≤ 1000; omega)).mono ?_; rintro e w9 ⟨A9, c9, rfl, e9⟩
  have X9 := Lib.hid (X8.out.t e9)
  clear e9 X8 R8 HE8 Hpm
  go_upto_region 12 with fail
  have HR9 := Lib.hid (HR.out.ext (Xb.out.t X9.out))
  have HB9 := Lib.hid (HB4.out.ext X9.out)
  have HSS : Hid (∀ w', Ext w9 w' → w'.cell? ⟨g4, 0, none⟩ = some (.int .i64 X.t) ∧ w'.cell? ⟨g4, 1, none⟩ = some (.int .i64 X.s) ∧ w'.cell? ⟨g4, 2, none⟩ = some (.int .i64 X.q) ∧ w'.cell? ⟨g4, 3, none⟩ = some (.int .i64 X.to) ∧ w'.cell? ⟨g4, 4, none⟩ = some (.int .i64 X.v)) := Lib.hid (fun w' e => (HB9.out.ext e).ev)
  have hi5 : i ≤ 5 := by omega
  go_cut [17] from 83 to 89 (fun v wx => ∃ (A : Option Addr) (c gx : Nat), v = .slice A 6 c ∧ Hid (OneP w9 ss i X gx A c wx))
  case first =>
    first
    | (go_region_held_law (fun w' => w'.cell? ⟨g4, 0, none⟩ = some (.int .i64 X.t) ∧ w'.cell? ⟨g4, 1, none⟩ = some (.int .i64 X.s) ∧ w'.cell? ⟨g4, 2, none⟩ = some (.int .i64 X.q) ∧ w'.cell? ⟨g4, 3, none⟩ = some (.int .i64 X.to) ∧ w'.cell? ⟨g4, 4, none⟩ = some (.int .i64 X.v))
        (first | assumption | exact HSS.out _ (Ext.drew _) | exact HSS.out _ ((Ext.alloc _ _).t (Ext.drew _)) | exact HSS.out _ (((Ext.alloc _ _).t (Ext.alloc _ _)).t (Ext.drew _)) | exact HSS.out _ ((Ext.drew _).t (Ext.alloc _ _)) | exact HSS.out _ (((Ext.drew _).t (Ext.alloc _ _)).t (Ext.alloc _ _)) | exact HSS.out _ E6.out | exact HSS.out _ (E6.out.t (Ext.alloc _ _)) | exact HSS.out _ ((E6.out.t (Ext.alloc _ _)).t (Ext.alloc _ _)) | exact HSS.out _ H10.out.2.2.2)
        (first
          | (go_simp; go_at_call 35
             refine (law_cloneL (HR9.out.ext (by first | exact Ext.drew _ | exact (Ext.alloc _ _).t (Ext.drew _) | exact ((Ext.alloc _ _).t (Ext.alloc _ _)).t (Ext.drew _))) (by omega)).mono ?_
             rintro e wc ⟨A6, c6, rfl, r6, f6, e6⟩
             have E6 : Hid (Ext w9 wc) := Lib.hid (Below.t (by first | exact Ext.drew _ | exact (Ext.alloc _ _).t (Ext.drew _) | exact ((Ext.alloc _ _).t (Ext.alloc _ _)).t (Ext.drew _)) e6)
             first
             | (have X6 : Ext w9.drew wc := by with_reducible exact e6
                have HP6 : Hid (Calls Try.prog 34 #[.slice A6 5 c6, .int .i64 (i : Int), .slice (some ⟨wc.heap.size + 1, 0, none⟩) 1 1] ((wc.alloc (.cells #[.int .i64 X.t, .int .i64 X.s, .int .i64 X.q, .int .i64 X.to, .int .i64 X.v] 37)).alloc (.cells #[.slice (some ⟨wc.heap.size, 0, none⟩) 1 1] 24)) (fun e w' => ∃ A c, e = .returned (.slice A 6 c) ∧ ∃ gx, OneP w9 ss i X gx A c w')) := Lib.hid ((law_putOne (w9 := w9) (gx := wc.heap.size) (X := X) ((r6.ext (Ext.alloc _ _)).ext (Ext.alloc _ _)) (fun k hk => by have h1 := f6 k hk; simpa using h1) hi5 ((Blk.new wc 37 (evC X).toArray).ext (Ext.alloc _ _)) (blk_new1 _ _ _ _) (fun hf => by have := r6.lt hf; omega) (fun hf => by have := r6.lt hf; omega) ((E6.out.t (Ext.alloc _ _)).t (Ext.alloc _ _))).mono (fun e w' ⟨A, c, h1, h2⟩ => ⟨A, c, h1, _, h2⟩)))
             | (have X6 : Ext (w9.alloc (.cells #[.int .i64 X.t, .int .i64 X.s, .int .i64 X.q, .int .i64 X.to, .int .i64 X.v] 37)).drew wc := by with_reducible exact e6
                have HP6 : Hid (Calls Try.prog 34 #[.slice A6 5 c6, .int .i64 (i : Int), .slice (some ⟨wc.heap.size, 0, none⟩) 1 1] (wc.alloc (.cells #[.slice (some ⟨w9.heap.size, 0, none⟩) 1 1] 24)) (fun e w' => ∃ A c, e = .returned (.slice A 6 c) ∧ ∃ gx, OneP w9 ss i X gx A c w')) := Lib.hid ((law_putOne (w9 := w9) (gx := w9.heap.size) (X := X) (r6.ext (Ext.alloc _ _)) (fun k hk => by have h1 := f6 k hk; simp at h1 <;> omega) hi5 ((((Blk.new w9 37 (evC X).toArray).drew).ext X6).ext (Ext.alloc _ _)) (Blk.new _ _ _) (fun hf => by have h1 := f6 _ hf; simp at h1 <;> omega) (fun hf => by have := r6.lt hf; omega) (E6.out.t (Ext.alloc _ _))).mono (fun e w' ⟨A, c, h1, h2⟩ => ⟨A, c, h1, _, h2⟩)))
             | (have X6 : Ext ((w9.alloc (.cells #[.int .i64 X.t, .int .i64 X.s, .int .i64 X.q, .int .i64 X.to, .int .i64 X.v] 37)).alloc (.cells #[.slice (some ⟨w9.heap.size, 0, none⟩) 1 1] 24)).drew wc := by with_reducible exact e6
                have HP6 : Hid (Calls Try.prog 34 #[.slice A6 5 c6, .int .i64 (i : Int), .slice (some ⟨w9.heap.size + 1, 0, none⟩) 1 1] wc (fun e w' => ∃ A c, e = .returned (.slice A 6 c) ∧ ∃ gx, OneP w9 ss i X gx A c w')) := Lib.hid ((law_putOne (w9 := w9) (gx := w9.heap.size) (X := X) r6 (fun k hk => by have h1 := f6 k hk; simp at h1 <;> omega) hi5 ((((Blk.new w9 37 (evC X).toArray).ext (Ext.alloc _ _)).drew).ext X6) (((blk_new1 w9 _ _ _).drew).ext X6) (fun hf => by have h1 := f6 _ hf; simp at h1 <;> omega) (fun hf => by have h1 := f6 _ hf; simp at h1 <;> omega) E6.out).mono (fun e w' ⟨A, c, h1, h2⟩ => ⟨A, c, h1, _, h2⟩)))
             clear r6 f6 e6 X6
             dsimp only)
          | (go_simp; go_at_call 34
             refine HP6.out.mono ?_
             rintro e wd ⟨A10, c10, rfl, gx, h10⟩
             have H10 := Lib.hid h10
             clear h10
             dsimp only)))
    | fail
    all_goals go_wp2_with fail
    all_goals go_simp
    all_goals go_meet
    all_goals exact ⟨_, _, _, rfl, H10⟩
  case rest =>
    obtain ⟨A10, c10, gx, rfl, H10⟩ := hcut
    have HR10 := Lib.hid (HR9.out.ext H10.out.2.2.2)
    have HB10 := Lib.hid (HB9.out.ext H10.out.2.2.2)
    obtain ⟨d0, d1, d2, d3, d4⟩ := HB10.out.ev
    go_wp2_with fail
    refine (law_insL (s := ⟨some ⟨wc.heap.size, 0, none⟩, 1, 1⟩) ((H10.out.1.ext (Ext.alloc _ _)).ext (Ext.alloc _ _)) hk1b.2 (blk_new1 wc _ _ _) (fun hf => by have := H10.out.1.lt hf; omega) (by omega)).mono ?_; rintro e w11 ⟨A11, c11, rfl, r11, ch11, f11⟩
    have hx10 : Ext wc ((wc.alloc (.cells (evC X).toArray 37)).alloc (.cells #[.slice (some ⟨wc.heap.size, 0, none⟩) 1 1] 24)) := (Ext.alloc _ _).t (Ext.alloc _ _)
    have X11 : Hid (Ext w9 w11) := Lib.hid ((H10.out.2.2.2.t hx10).trans (ch11.below (H10.out.2.2.2.t hx10).size (fun q hq hf => by have := (H10.out.2.2.1 q hf).1; omega)))
    have hgy : RdS 5 evC w11 (some ⟨wc.heap.size, 0, none⟩) 1 [X] := (rdS_blk (n := 1) ((Blk.new wc 37 (evC X).toArray).ext (Ext.alloc _ _)) (by simp) rfl (by omega)).chg ch11 (fun k o hA _ hk => by cases hA; have := H10.out.1.lt hk; omega)
    have hgx : RdS 5 evC w11 (some ⟨gx, 0, none⟩) 1 [X] := (H10.out.2.1.ext hx10).chg ch11 (fun k o hA _ hk => by cases hA; exact (H10.out.2.2.1 _ hk).2 rfl)
    have HE11 := Lib.hid (els_put k1 (els_put i (s := ⟨some ⟨gx, 0, none⟩, 1, 1⟩) (HS.out.ext (Xb.out.t (X9.out.t X11.out))) (Nat.le_refl _) hgx) (s := ⟨some ⟨wc.heap.size, 0, none⟩, 1, 1⟩) (Nat.le_refl _) hgy)
    have R11 : Hid (Rd slv w11 A11 7 (putL k1 ⟨some ⟨wc.heap.size, 0, none⟩, 1, 1⟩ (putL i ⟨some ⟨gx, 0, none⟩, 1, 1⟩ ss))) := Lib.hid (Room.rd (c := c11) r11)
    have Hpm : Hid ((putL k1 [X] (putL i [X] ls)).flatten.Perm ([X, X] ++ ls.flatten)) := Lib.hid (by
      have h1 := (putL_perm k1 [X] (putL i [X] ls)).flatten
      have h2 := (putL_perm i [X] ls).flatten
      rw [List.flatten_cons] at h1 h2
      exact h1.trans (h2.append_left _))
    clear hx10 hgy hgx r11 ch11 f11 d0 d1 d2 d3 d4
    go_wp2_with fail
    refine (law_mergeBad (er := 111) (wrong_twice HOk.out (by omega) hk1b.1 hk1b.2 (fun y hy e => by have h1 := (HMo.out y hy).2; have h2 : y.s = X.s := congrArg Ky.s e; have h3 := HXs.out; omega)) rfl R11.out HE11.out (by omega) (fun y hy => by
      rcases List.mem_append.1 (Hpm.out.mem_iff.1 hy) with h | h
      · simp at h; subst h; exact HXo.out
      · exact HFo.out y h) (by rw [Hpm.out.length_eq, List.length_append]; have := HFl.out; show 2 + ls.flatten.length ≤ 1000; omega)).mono ?_; rintro e w12 ⟨A12, c12, rfl, e12⟩
    have X12 := Lib.hid (X11.out.t e12)
    have HRb := Lib.hid (HRb.out.ext (X9.out.t X12.out))
    clear e12 X11 R11 HE11 Hpm H10 HSS HR9 HB9 HR10 HB10
    go_wp2_with fail
    refine (law_cutBad HRb.out).mono ?_; rintro e w13 ⟨A13, c13, A14, c14, rfl, e13⟩
    have HRb := Lib.hid (HRb.out.ext e13)
    have X13 := Lib.hid (X12.out.t e13)
    clear e13 X12
    go_wp2_with fail
    refine (law_woBad (lb := []) (.inl (bad_two X)) HRb.out RdS.none_ (by omega) (by omega) (Nat.le_refl _)).mono ?_; rintro e w14 ⟨A15, c15, rfl, e14⟩
    have HRb := Lib.hid (HRb.out.ext e14)
    have X14 := Lib.hid (X13.out.t e14)
    clear e14 X13
    go_wp2_with fail
    refine (law_woBad (la := []) (.inr (bad_two X)) RdS.none_ HRb.out (by omega) (by omega) (Nat.le_refl _)).mono ?_; rintro e w15 ⟨A16, c16, rfl, e15⟩
    have HRb := Lib.hid (HRb.out.ext e15)
    have X15 := Lib.hid (X14.out.t e15)
    clear e15 X14
    go_wp2_with fail
    refine (law_sortBad HRb.out HXo.out).mono ?_; rintro e w16 ⟨A17, c17, rfl, e16⟩
    have HRb := Lib.hid (HRb.out.ext e16)
    have X16 := Lib.hid (X15.out.t e16)
    clear e16 X15
    go_upto_region 23 with fail
    go_cut [181, 182, 183] from 177 to 183 (fun v1 v2 v3 wx => ∃ (g : Nat) (p1 p2 : Int), v1 = .slice (some ⟨g, 0, none⟩) 2 2 ∧ v2 = .int .i64 2 ∧ v3 = .int .i64 0 ∧ Hid (Blk wx g 3 #[.int .i64 p1, .int .i64 p2] ∧ p1 < 0 ∧ 16 < p2 ∧ Ext w16 wx))
    case first =>
      go_wp2_with fail
      all_goals go_simp
      all_goals go_meet
      all_goals exact ⟨_, _, _, rfl, rfl, rfl, Lib.hid ⟨Blk.new _ _ _, by omega, by omega, Ext.alloc _ _⟩⟩
    case rest =>
    obtain ⟨g17, p1, p2, rfl, rfl, rfl, HC17⟩ := hcut
    have HRb := Lib.hid (HRb.out.ext HC17.out.2.2.2)
    have X17 := Lib.hid (X16.out.t HC17.out.2.2.2)
    clear X16
    go_wp2_with fail
    go_loopw [183] (fun i wx => ∃ t : Nat, t ≤ 2 ∧ i = .int .i64 (t : Int) ∧ Hid (Ext wc wx)) (fun i _ => 2 - (intOf i).toNat)
    case atStart => exact ⟨0, by omega, rfl, Lib.hid (Ext.refl _)⟩
    case round =>
      obtain ⟨t, ht, rfl, HX⟩ := hrel
      by_cases hlt : t < 2
      · have hltI : (t : Int) < 2 := by omega
        obtain ⟨p, hc, hp⟩ : ∃ p : Int, wr.cell? ⟨g17, 0 + t, none⟩ = some (.int .i64 p) ∧ (p < 0 ∨ 16 < p) := by
          have hc := fun i => (HC17.out.1.ext HX.out).cell i
          rcases (show t = 0 ∨ t = 1 by omega) with rfl | rfl
          · exact ⟨p1, by rw [hc]; rfl, .inl HC17.out.2.1⟩
          · exact ⟨p2, by rw [hc]; rfl, .inr HC17.out.2.2.1⟩
        simp only [Nat.zero_add] at hc
        have HD := Lib.hid (law_dealArg (HRb.out.ext HX.out) hp)
        clear hp
        go_wp2_with fail
        refine HD.out.mono ?_; rintro e w18 ⟨A18, c18, rfl, e18⟩
        have HX2 := Lib.hid (HX.out.t e18)
        clear e18 HD hc
        go_wp2_with fail
        go_roundw
        case rel => exact ⟨t + 1, by omega, by go_num, HX2⟩
        case measure => simp [intOf]; omega
      · have hltI : ¬ ((t : Int) < 2) := by omega
        have HRb := Lib.hid (HRb.out.ext HX.out)
        have HB4 := Lib.hid (HB4.out.ext (X9.out.t (X17.out.t HX.out)))
        have X18 := Lib.hid (X17.out.t HX.out)
        have Ew := Lib.hid (E2.out.t (Xb.out.t (X9.out.t X18.out)))
        have HEv := Lib.hid (law_evs (L := evsF l 50) rfl (H0.out.ext Ew.out))
        clear HX X17 HC17 HRb hlt ht
        go_wp2_with fail
        refine HEv.out.mono ?_; rintro e w19 ⟨A19, n19, c19, rfl, r19, q19, m19, e19⟩
        have HRl := Lib.hid r19
        have HQl := Lib.hid q19
        have HMl := Lib.hid m19
        have HB4 := Lib.hid (HB4.out.ext e19)
        have Ew := Lib.hid (Ew.out.t e19)
        have HLt := Lib.hid (show ∀ y ∈ evsF l 50, 1 ≤ y.to ∧ y.to ≤ 16 from fun y hy => by obtain ⟨z, hz, rfl⟩ := evsF_in hy; simp only [mkE]; omega)
        clear r19 q19 m19 e19 HEv X18
        go_upto_region 31 with fail
        go_cut [212, 213, 214] from 208 to 214 (fun v1 v2 v3 wx => ∃ (g : Nat) (p1 p2 : Int), v1 = .slice (some ⟨g, 0, none⟩) 2 2 ∧ v2 = .int .i64 2 ∧ v3 = .int .i64 0 ∧ Hid (Blk wx g 3 #[.int .i64 p1, .int .i64 p2] ∧ p1 < 1 ∧ 16 < p2 ∧ Ext w19 wx))
        case first =>
          go_wp2_with fail
          all_goals go_simp
          all_goals go_meet
          all_goals exact ⟨_, _, _, rfl, rfl, rfl, Lib.hid ⟨Blk.new _ _ _, by omega, by omega, Ext.alloc _ _⟩⟩
        case rest =>
        obtain ⟨g20, p1, p2, rfl, rfl, rfl, HC20⟩ := hcut
        have HB4 := Lib.hid (HB4.out.ext HC20.out.2.2.2)
        have HRl := Lib.hid (HRl.out.ext HC20.out.2.2.2)
        have Ew := Lib.hid (Ew.out.t HC20.out.2.2.2)
        go_wp2_with fail
        obtain ⟨w20, rfl⟩ : ∃ w20, w20 = wc := ⟨_, rfl⟩
        go_loopw [214] (fun i wx => ∃ t : Nat, t ≤ 2 ∧ i = .int .i64 (t : Int) ∧ Hid (Ext w20 wx)) (fun i _ => 2 - (intOf i).toNat)
        case atStart => exact ⟨0, by omega, rfl, Lib.hid (Ext.refl _)⟩
        case round =>
          obtain ⟨t, ht, rfl, HX⟩ := hrel
          by_cases hlt : t < 2
          · have hltI : (t : Int) < 2 := by omega
            obtain ⟨p, hc, hp⟩ : ∃ p : Int, wr.cell? ⟨g20, 0 + t, none⟩ = some (.int .i64 p) ∧ (p < 1 ∨ 16 < p) := by
              have hc := fun i => (HC20.out.1.ext HX.out).cell i
              rcases (show t = 0 ∨ t = 1 by omega) with rfl | rfl
              · exact ⟨p1, by rw [hc]; rfl, .inl HC20.out.2.1⟩
              · exact ⟨p2, by rw [hc]; rfl, .inr HC20.out.2.2.1⟩
            simp only [Nat.zero_add] at hc
            obtain ⟨d0, d1, d2, d3, d4⟩ := (HB4.out.ext HX.out).ev
            have hn19 := HMl.out
            obtain ⟨pl, hpl⟩ : ∃ pl, pl = (m + t) % (n19 + 1) := ⟨_, rfl⟩
            have hplb : pl ≤ n19 := by have h := Nat.mod_lt (m + t) (show 0 < n19 + 1 by omega); omega
            have hcast : ((m : Int) + (t : Int)) % ((n19 : Int) + 1) = (pl : Int) := by rw [hpl]; push_cast; rfl
            have hw64 : wrap64 (pl : Int) = (pl : Int) := IntWalk.wrap64_in _ (by omega)
            have Hp := Lib.hid hp
            clear hp hpl
            obtain ⟨gy, hgy⟩ : ∃ gy, gy = wr.heap.size := ⟨_, rfl⟩
            obtain ⟨wY, hwY⟩ : ∃ wY, wY = wr.alloc (.cells (evC (⟨X.t, X.s, X.q, p, X.v⟩ : Ev)).toArray 37) := ⟨_, rfl⟩
            have hbY := Blk.new wr 37 (evC (⟨X.t, X.s, X.q, p, X.v⟩ : Ev)).toArray
            rw [← hwY, ← hgy] at hbY
            have HBY := Lib.hid hbY
            have XY := Lib.hid (show Ext w20 wY by rw [hwY]; exact HX.out.t (Ext.alloc _ _))
            have HWY := Lib.hid hwY
            have HGY := Lib.hid hgy
            clear hbY hwY hgy
            go_upto_region 37 with fail
            change Code.wp _ _ _ _ (wr.alloc (.cells (evC (⟨X.t, X.s, X.q, p, X.v⟩ : Ev)).toArray 37))
            rw [← HWY.out, ← HGY.out]
            clear HWY HGY d0 d1 d2 d3 d4 hc
            rw [hcast]
            have HRY := Lib.hid (HRl.out.ext XY.out)
            obtain ⟨N1, hN1⟩ : ∃ N1, N1 = n19 + 1 := ⟨_, rfl⟩
            have HN1 := Lib.hid hN1
            have hN1b : N1 ≤ 51 := by have h1 := HMl.out; omega
            clear hN1
            have HSS : Hid (∀ w', Ext wY w' → w'.cell? ⟨gy, 0, none⟩ = some (.int .i64 X.t) ∧ w'.cell? ⟨gy, 1, none⟩ = some (.int .i64 X.s) ∧ w'.cell? ⟨gy, 2, none⟩ = some (.int .i64 X.q) ∧ w'.cell? ⟨gy, 3, none⟩ = some (.int .i64 p) ∧ w'.cell? ⟨gy, 4, none⟩ = some (.int .i64 X.v)) := Lib.hid (fun w' e => (HBY.out.ext e).ev)
            go_cut [38, 39, 40] from 231 to 243 (fun v1 v2 v3 wx => ∃ (A : Option Addr) (c : Nat), v1 = .slice A 0 c ∧ v2 = .int .i64 (pl : Int) ∧ v3 = .int .i64 112 ∧ Hid (Ext wY wx))
            case first =>
              first
              | (go_region_held_law (fun w' => w'.cell? ⟨gy, 0, none⟩ = some (.int .i64 X.t) ∧ w'.cell? ⟨gy, 1, none⟩ = some (.int .i64 X.s) ∧ w'.cell? ⟨gy, 2, none⟩ = some (.int .i64 X.q) ∧ w'.cell? ⟨gy, 3, none⟩ = some (.int .i64 p) ∧ w'.cell? ⟨gy, 4, none⟩ = some (.int .i64 X.v))
                (first | assumption | exact HSS.out _ (Ext.drew _) | exact HSS.out _ ((Ext.alloc _ _).t (Ext.drew _)) | exact HSS.out _ (((Ext.alloc _ _).t (Ext.alloc _ _)).t (Ext.drew _)) | exact HSS.out _ ((Ext.drew _).t (Ext.alloc _ _)) | exact HSS.out _ (((Ext.drew _).t (Ext.alloc _ _)).t (Ext.alloc _ _)) | exact HSS.out _ E6.out | exact HSS.out _ (E6.out.t (Ext.alloc _ _)) | exact HSS.out _ ((E6.out.t (Ext.alloc _ _)).t (Ext.alloc _ _)) | exact HSS.out _ Ed.out | exact HSS.out _ (Ed.out.t (Ext.alloc _ _)) | exact HSS.out _ Ee.out | exact HSS.out _ Ef.out)
                (first
                | (go_simp; go_at_call 37
                   refine (law_cloneE (HRY.out.ext (by first | exact Ext.drew _ | exact (Ext.alloc _ _).t (Ext.drew _) | exact ((Ext.alloc _ _).t (Ext.alloc _ _)).t (Ext.drew _))) (by omega)).mono ?_
                   rintro e wc ⟨A6, c6, rfl, r6, f6, e6⟩
                   have E6 : Hid (Ext wY wc) := Lib.hid (Below.t (by first | exact Ext.drew _ | exact (Ext.alloc _ _).t (Ext.drew _) | exact ((Ext.alloc _ _).t (Ext.alloc _ _)).t (Ext.drew _)) e6)
                   have R6 := Lib.hid r6
                   first
                   | (have X6 : Ext wY.drew wc := by with_reducible exact e6
                      have F6 : Hid (∀ k, foot A6 c6 k → wY.heap.size ≤ k) := Lib.hid (fun k hk => by have h1 := f6 k hk; simpa using h1)
                      have P1 : Hid (Blk (wc.alloc (.cells #[.int .i64 X.t, .int .i64 X.s, .int .i64 X.q, .int .i64 p, .int .i64 X.v] 37)) wc.heap.size 37 (evC (⟨X.t, X.s, X.q, p, X.v⟩ : Ev)).toArray) := Lib.hid (Blk.new wc 37 (evC (⟨X.t, X.s, X.q, p, X.v⟩ : Ev)).toArray)
                      have P2 : Hid (Blk ((wc.alloc (.cells #[.int .i64 X.t, .int .i64 X.s, .int .i64 X.q, .int .i64 p, .int .i64 X.v] 37)).alloc (.cells #[.int .i64 X.t, .int .i64 X.s, .int .i64 X.q, .int .i64 p, .int .i64 X.v] 37)) wc.heap.size 37 (evC (⟨X.t, X.s, X.q, p, X.v⟩ : Ev)).toArray) := Lib.hid ((Blk.new wc 37 (evC (⟨X.t, X.s, X.q, p, X.v⟩ : Ev)).toArray).ext (Ext.alloc _ _))
                      have P3 : Hid (Blk ((wc.alloc (.cells #[.int .i64 X.t, .int .i64 X.s, .int .i64 X.q, .int .i64 p, .int .i64 X.v] 37)).alloc (.cells #[.int .i64 X.t, .int .i64 X.s, .int .i64 X.q, .int .i64 p, .int .i64 X.v] 37)) (wc.heap.size + 1) 37 (evC (⟨X.t, X.s, X.q, p, X.v⟩ : Ev)).toArray) := Lib.hid (blk_new1 wc _ _ _))
                   | (have X6 : Ext (wY.alloc (.cells #[.int .i64 X.t, .int .i64 X.s, .int .i64 X.q, .int .i64 p, .int .i64 X.v] 37)).drew wc := by with_reducible exact e6
                      have F6 : Hid (∀ k, foot A6 c6 k → wY.heap.size + 1 ≤ k) := Lib.hid (fun k hk => by have h1 := f6 k hk; simpa using h1)
                      have P1 : Hid (Blk wc wY.heap.size 37 (evC (⟨X.t, X.s, X.q, p, X.v⟩ : Ev)).toArray) := Lib.hid (((Blk.new wY 37 (evC (⟨X.t, X.s, X.q, p, X.v⟩ : Ev)).toArray).drew).ext X6)
                      have P2 : Hid (Blk (wc.alloc (.cells #[.int .i64 X.t, .int .i64 X.s, .int .i64 X.q, .int .i64 p, .int .i64 X.v] 37)) wY.heap.size 37 (evC (⟨X.t, X.s, X.q, p, X.v⟩ : Ev)).toArray) := Lib.hid (P1.out.ext (Ext.alloc _ _))
                      have P3 : Hid (Blk (wc.alloc (.cells #[.int .i64 X.t, .int .i64 X.s, .int .i64 X.q, .int .i64 p, .int .i64 X.v] 37)) wc.heap.size 37 (evC (⟨X.t, X.s, X.q, p, X.v⟩ : Ev)).toArray) := Lib.hid (Blk.new wc 37 (evC (⟨X.t, X.s, X.q, p, X.v⟩ : Ev)).toArray))
                   | (have X6 : Ext ((wY.alloc (.cells #[.int .i64 X.t, .int .i64 X.s, .int .i64 X.q, .int .i64 p, .int .i64 X.v] 37)).alloc (.cells #[.int .i64 X.t, .int .i64 X.s, .int .i64 X.q, .int .i64 p, .int .i64 X.v] 37)).drew wc := by with_reducible exact e6
                      have F6 : Hid (∀ k, foot A6 c6 k → wY.heap.size + 2 ≤ k) := Lib.hid (fun k hk => by have h1 := f6 k hk; simpa using h1)
                      have P1 : Hid (Blk wc wY.heap.size 37 (evC (⟨X.t, X.s, X.q, p, X.v⟩ : Ev)).toArray) := Lib.hid ((((Blk.new wY 37 (evC (⟨X.t, X.s, X.q, p, X.v⟩ : Ev)).toArray).ext (Ext.alloc _ _)).drew).ext X6)
                      have P2 : Hid (Blk wc (wY.heap.size + 1) 37 (evC (⟨X.t, X.s, X.q, p, X.v⟩ : Ev)).toArray) := Lib.hid (((blk_new1 wY _ _ _).drew).ext X6)
                      have P3 := P1)
                   clear r6 f6 e6 X6
                   dsimp only)
                | (go_simp; go_at_call 36
                   refine (law_insE HN1.out (L := evsF l 50) (Y := (⟨X.t, X.s, X.q, p, X.v⟩ : Ev)) (by first | with_reducible exact R6.out | with_reducible exact R6.out.ext (Ext.alloc wc (.cells #[.int .i64 X.t, .int .i64 X.s, .int .i64 X.q, .int .i64 p, .int .i64 X.v] 37)) | with_reducible exact (R6.out.ext (Ext.alloc wc (.cells #[.int .i64 X.t, .int .i64 X.s, .int .i64 X.q, .int .i64 p, .int .i64 X.v] 37))).ext (Ext.alloc (wc.alloc (.cells #[.int .i64 X.t, .int .i64 X.s, .int .i64 X.q, .int .i64 p, .int .i64 X.v] 37)) (.cells #[.int .i64 X.t, .int .i64 X.s, .int .i64 X.q, .int .i64 p, .int .i64 X.v] 37))) hplb (by first | with_reducible exact P1.out | with_reducible exact P2.out | with_reducible exact P3.out) (fun hf => by have h1 := R6.out.lt hf; have h2 := F6.out _ hf; omega) (by omega)).mono ?_
                   rintro e wd ⟨A7, c7, rfl, r7, ch7, f7⟩
                   have HQ := Lib.hid (fun b (hb : Blk _ b 37 (evC (⟨X.t, X.s, X.q, p, X.v⟩ : Ev)).toArray) (hn : ¬ foot A6 c6 b) => hb.chg ch7 hn)
                   have Ed : Hid (Ext wY wd) := Lib.hid (by first | with_reducible exact E6.out.trans (ch7.below E6.out.size (fun q hq hf => by have := F6.out q hf; omega)) | with_reducible exact (E6.out.t (Ext.alloc wc (.cells #[.int .i64 X.t, .int .i64 X.s, .int .i64 X.q, .int .i64 p, .int .i64 X.v] 37))).trans (ch7.below (E6.out.t (Ext.alloc wc (.cells #[.int .i64 X.t, .int .i64 X.s, .int .i64 X.q, .int .i64 p, .int .i64 X.v] 37))).size (fun q hq hf => by have := F6.out q hf; omega)) | with_reducible exact ((E6.out.t (Ext.alloc wc (.cells #[.int .i64 X.t, .int .i64 X.s, .int .i64 X.q, .int .i64 p, .int .i64 X.v] 37))).t (Ext.alloc (wc.alloc (.cells #[.int .i64 X.t, .int .i64 X.s, .int .i64 X.q, .int .i64 p, .int .i64 X.v] 37)) (.cells #[.int .i64 X.t, .int .i64 X.s, .int .i64 X.q, .int .i64 p, .int .i64 X.v] 37))).trans (ch7.below ((E6.out.t (Ext.alloc wc (.cells #[.int .i64 X.t, .int .i64 X.s, .int .i64 X.q, .int .i64 p, .int .i64 X.v] 37))).t (Ext.alloc (wc.alloc (.cells #[.int .i64 X.t, .int .i64 X.s, .int .i64 X.q, .int .i64 p, .int .i64 X.v] 37)) (.cells #[.int .i64 X.t, .int .i64 X.s, .int .i64 X.q, .int .i64 p, .int .i64 X.v] 37))).size (fun q hq hf => by have := F6.out q hf; omega)))
                   have F7 : Hid (∀ k, foot A7 c7 k → wY.heap.size ≤ k) := Lib.hid (fun k hk => (f7 k hk).elim (fun h => by have := F6.out k h; omega) (fun h => by have h1 := E6.out.size; first | omega | (simp at h; omega)))
                   have R7 := Lib.hid r7
                   clear r7 ch7 f7
                   dsimp only)
                | (refine step_append_atS (A := A7) (n := N1) (c := c7) (m := 1) (v := .slice (some ⟨wd.heap.size, 0, none⟩) 1 1) rfl rfl ul_ev info_ev rfl (by first | rfl | (go_simp; done)) (R7.out.ext (Ext.alloc wd (.cells #[.int .i64 X.t, .int .i64 X.s, .int .i64 X.q, .int .i64 p, .int .i64 X.v] 37))) ?_ (Src.ofRdS ul_ev evC_len (rdS_blk (n := 1) (l := [(⟨X.t, X.s, X.q, p, X.v⟩ : Ev)]) (Blk.new wd 37 (evC (⟨X.t, X.s, X.q, p, X.v⟩ : Ev)).toArray) (by simp) rfl (by omega)) evC_one) (by simp only [maxLen]; omega) (by omega) ?_
                   focus (first | rfl | (go_simp; done))
                   intro A8 c8 we r8 ch8 ft8
                   have Ee : Hid (Ext wY we) := Lib.hid ((Ed.out.t (Ext.alloc wd (.cells #[.int .i64 X.t, .int .i64 X.s, .int .i64 X.q, .int .i64 p, .int .i64 X.v] 37))).trans (ch8.below (Ed.out.t (Ext.alloc wd (.cells #[.int .i64 X.t, .int .i64 X.s, .int .i64 X.q, .int .i64 p, .int .i64 X.v] 37))).size (fun q hq hf => by have := F7.out q hf; omega)))
                   have R8 : Hid (RoomS 5 we A8 (N1 + 1) c8 ((putL pl (⟨X.t, X.s, X.q, p, X.v⟩ : Ev) (evsF l 50) ++ [(⟨X.t, X.s, X.q, p, X.v⟩ : Ev)]).flatMap evC)) := Lib.hid (by rw [List.flatMap_append]; exact r8)
                   clear r8 ch8 ft8)
                | (refine step_append_atS (A := A7) (n := N1) (c := c7) (m := 1) (v := .slice (some ⟨wc.heap.size, 0, none⟩) 1 1) rfl rfl ul_ev info_ev rfl (by first | rfl | (go_simp; done)) R7.out ?_ (Src.ofRdS ul_ev evC_len (rdS_blk (n := 1) (l := [(⟨X.t, X.s, X.q, p, X.v⟩ : Ev)]) (HQ.out (wc.heap.size) (by first | with_reducible exact P1.out | with_reducible exact P2.out | with_reducible exact P3.out) (fun hf => by have h1 := R6.out.lt hf; have h2 := F6.out _ hf; omega)) (by simp) rfl (by omega)) evC_one) (by simp only [maxLen]; omega) (by omega) ?_
                   focus (first | rfl | (go_simp; done))
                   intro A8 c8 we r8 ch8 ft8
                   have Ee : Hid (Ext wY we) := Lib.hid ((Ed.out).trans (ch8.below (Ed.out).size (fun q hq hf => by have := F7.out q hf; omega)))
                   have R8 : Hid (RoomS 5 we A8 (N1 + 1) c8 ((putL pl (⟨X.t, X.s, X.q, p, X.v⟩ : Ev) (evsF l 50) ++ [(⟨X.t, X.s, X.q, p, X.v⟩ : Ev)]).flatMap evC)) := Lib.hid (by rw [List.flatMap_append]; exact r8)
                   clear r8 ch8 ft8)
                | (refine step_append_atS (A := A7) (n := N1) (c := c7) (m := 1) (v := .slice (some ⟨wc.heap.size + 1, 0, none⟩) 1 1) rfl rfl ul_ev info_ev rfl (by first | rfl | (go_simp; done)) R7.out ?_ (Src.ofRdS ul_ev evC_len (rdS_blk (n := 1) (l := [(⟨X.t, X.s, X.q, p, X.v⟩ : Ev)]) (HQ.out (wc.heap.size + 1) (by first | with_reducible exact P1.out | with_reducible exact P2.out | with_reducible exact P3.out) (fun hf => by have h1 := R6.out.lt hf; have h2 := F6.out _ hf; omega)) (by simp) rfl (by omega)) evC_one) (by simp only [maxLen]; omega) (by omega) ?_
                   focus (first | rfl | (go_simp; done))
                   intro A8 c8 we r8 ch8 ft8
                   have Ee : Hid (Ext wY we) := Lib.hid ((Ed.out).trans (ch8.below (Ed.out).size (fun q hq hf => by have := F7.out q hf; omega)))
                   have R8 : Hid (RoomS 5 we A8 (N1 + 1) c8 ((putL pl (⟨X.t, X.s, X.q, p, X.v⟩ : Ev) (evsF l 50) ++ [(⟨X.t, X.s, X.q, p, X.v⟩ : Ev)]).flatMap evC)) := Lib.hid (by rw [List.flatMap_append]; exact r8)
                   clear r8 ch8 ft8)
                | (refine step_append_atS (A := A7) (n := N1) (c := c7) (m := 1) (v := .slice (some ⟨wY.heap.size, 0, none⟩) 1 1) rfl rfl ul_ev info_ev rfl (by first | rfl | (go_simp; done)) R7.out ?_ (Src.ofRdS ul_ev evC_len (rdS_blk (n := 1) (l := [(⟨X.t, X.s, X.q, p, X.v⟩ : Ev)]) (HQ.out (wY.heap.size) (by first | with_reducible exact P1.out | with_reducible exact P2.out | with_reducible exact P3.out) (fun hf => by have h1 := R6.out.lt hf; have h2 := F6.out _ hf; omega)) (by simp) rfl (by omega)) evC_one) (by simp only [maxLen]; omega) (by omega) ?_
                   focus (first | rfl | (go_simp; done))
                   intro A8 c8 we r8 ch8 ft8
                   have Ee : Hid (Ext wY we) := Lib.hid ((Ed.out).trans (ch8.below (Ed.out).size (fun q hq hf => by have := F7.out q hf; omega)))
                   have R8 : Hid (RoomS 5 we A8 (N1 + 1) c8 ((putL pl (⟨X.t, X.s, X.q, p, X.v⟩ : Ev) (evsF l 50) ++ [(⟨X.t, X.s, X.q, p, X.v⟩ : Ev)]).flatMap evC)) := Lib.hid (by rw [List.flatMap_append]; exact r8)
                   clear r8 ch8 ft8)
                | (refine step_append_atS (A := A7) (n := N1) (c := c7) (m := 1) (v := .slice (some ⟨wY.heap.size + 1, 0, none⟩) 1 1) rfl rfl ul_ev info_ev rfl (by first | rfl | (go_simp; done)) R7.out ?_ (Src.ofRdS ul_ev evC_len (rdS_blk (n := 1) (l := [(⟨X.t, X.s, X.q, p, X.v⟩ : Ev)]) (HQ.out (wY.heap.size + 1) (by first | with_reducible exact P1.out | with_reducible exact P2.out | with_reducible exact P3.out) (fun hf => by have h1 := R6.out.lt hf; have h2 := F6.out _ hf; omega)) (by simp) rfl (by omega)) evC_one) (by simp only [maxLen]; omega) (by omega) ?_
                   focus (first | rfl | (go_simp; done))
                   intro A8 c8 we r8 ch8 ft8
                   have Ee : Hid (Ext wY we) := Lib.hid ((Ed.out).trans (ch8.below (Ed.out).size (fun q hq hf => by have := F7.out q hf; omega)))
                   have R8 : Hid (RoomS 5 we A8 (N1 + 1) c8 ((putL pl (⟨X.t, X.s, X.q, p, X.v⟩ : Ev) (evsF l 50) ++ [(⟨X.t, X.s, X.q, p, X.v⟩ : Ev)]).flatMap evC)) := Lib.hid (by rw [List.flatMap_append]; exact r8)
                   clear r8 ch8 ft8)
                | (go_simp; go_at_call 21
                   refine (law_dealTo (R8.out.rd evC_len (by decide)) (by omega) HLt.out (by rw [HRl.out.1]; exact hplb) Hp.out).mono ?_
                   rintro e wf ⟨A9, c9, rfl, e9⟩
                   have Ef := Lib.hid (Ee.out.t e9)
                   clear e9
                   dsimp only)))
              | fail
              all_goals go_wp2_with fail
              all_goals go_simp
              all_goals go_meet
              all_goals exact ⟨_, _, rfl, rfl, rfl, Ef⟩
            case rest =>
            obtain ⟨A21, c21, rfl, rfl, rfl, XZ⟩ := hcut
            have HX2 := Lib.hid (XY.out.t XZ.out)
            clear HSS HRY HBY XY XZ
            go_wp2_with fail
            go_roundw
            case rel => exact ⟨t + 1, by omega, by go_num, HX2⟩
            case measure => simp [intOf]; omega
          · have hltI : ¬ ((t : Int) < 2) := by omega
            have HF := Lib.hid (Ew.out.t HX.out)
            go_wp2_with fail
            go_ret
            exact ⟨rfl, HF.out⟩
end Go.Proofs.Ytkeapijehfacfaa
