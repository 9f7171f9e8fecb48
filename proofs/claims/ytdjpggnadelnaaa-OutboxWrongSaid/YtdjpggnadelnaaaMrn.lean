/- Mrn: the runs of a list; whether it is in order. -/
import Derived.Test.YtdjpggnadelnaaaMrb
namespace Go.Fx
open Go.RowKit
/-- What the closure of Runs leaves: one run more. -/
def RunP (B1 B2 : Nat) (A : Option Addr) (n c : Nat) (rs : List (Nat × Nat)) (f t : Nat) (T1 T2 : TypeId) (w : World) (e : Ending) (w' : World) : Prop :=
  (∃ v, e = .returned v) ∧ ∃ A' c', Blk w' B1 T1 #[.slice A' (n + 1) c'] ∧ RoomS 2 w' A' (n + 1) c' ((rs ++ [(f, t)]).flatMap pairC) ∧ Blk w' B2 T2 #[.int .i64 (t : Int)] ∧ Chg (fun k => foot A c k ∨ k = B1 ∨ k = B2) w w' ∧ (∀ k, foot A' c' k → foot A c k ∨ w.heap.size ≤ k)
/-- What holds between two rounds of Runs. -/
structure RnJ (T1 T2 : TypeId) (l : List Ev) (w : World) (k : Nat) (W : World) : Prop where
  out : ∃ A n c rs f, Blk W w.heap.size T1 #[.slice A n c] ∧ RoomS 2 W A n c (rs.flatMap pairC) ∧ rs.length = n ∧ n ≤ k ∧ Blk W (w.heap.size + 1) T2 #[.int .i64 ((f : Nat) : Int)] ∧ (∀ j, foot A c j → w.heap.size + 2 ≤ j) ∧ (k = 0 → rs = [] ∧ f = 0) ∧ (∀ p, 0 < k → l[k - 1]? = some p → runsF l = rs ++ runsA f k p (l.drop k))
  ext : Ext w W
  size : w.heap.size + 2 ≤ W.heap.size
theorem RnJ.e {T1 T2 : TypeId} {l : List Ev} {w W W' : World} {k : Nat} (h : RnJ T1 T2 l w k W) (e : Ext W W') : RnJ T1 T2 l w k W' := by
  obtain ⟨A, n, c, rs, f, h1, h2, h3, h4, h5, h6, h7, h8⟩ := h.out
  exact ⟨⟨A, n, c, rs, f, h1.ext e, h2.ext e, h3, h4, h5.ext e, h6, h7, h8⟩, h.ext.t e, Nat.le_trans h.size e.size⟩
theorem drop_at {α : Type} {l : List α} {k : Nat} {x : α} (h : l[k]? = some x) : l.drop k = x :: l.drop (k + 1) := by
  obtain ⟨hk, rfl⟩ := List.getElem?_eq_some_iff.1 h
  exact List.drop_eq_getElem_cons hk
section
variable {T1 T2 : TypeId} {l : List Ev} {w W W' : World} {k : Nat}
theorem RnJ.start (_hl : True) : RnJ T1 T2 l w 0 ((w.alloc (.cells #[.slice none 0 0] T1)).alloc (.cells #[.int .i64 0] T2)) := by
  have b1 := (Blk.new w T1 #[.slice none 0 0]).alloc (.cells #[.int .i64 0] T2)
  have b2 := Blk.new (w.alloc (.cells #[.slice none 0 0] T1)) T2 #[.int .i64 0]
  rw [World.size_alloc] at b2
  exact ⟨⟨none, 0, 0, [], 0, b1, RoomS.nil, rfl, Nat.le_refl _, b2, fun j hj => absurd hj foot_none, fun _ => ⟨rfl, rfl⟩, fun p h => absurd h (by omega)⟩, (Ext.alloc _ _).t (Ext.alloc _ _), by simp⟩
theorem RnJ.go (h : RnJ T1 T2 l w k W) {x : Ev} (hx : l[k]? = some x) (hp : k = 0 ∨ ∃ p, l[k - 1]? = some p ∧ elB p x = true) : RnJ T1 T2 l w (k + 1) W := by
  obtain ⟨A, n, c, rs, f, h1, h2, h3, h4, h5, h6, h7, h8⟩ := h.out
  refine ⟨⟨A, n, c, rs, f, h1, h2, h3, by omega, h5, h6, fun h => absurd h (by omega), fun p _ hp' => ?_⟩, h.ext, h.size⟩
  rw [Nat.add_sub_cancel, hx] at hp'
  cases hp'
  rcases hp with rfl | ⟨p, hp, he⟩
  · obtain ⟨rfl, rfl⟩ := h7 rfl
    have := drop_at hx
    rw [List.drop_zero] at this
    rw [this]; rfl
  · have hk : 0 < k := by
      rcases Nat.eq_zero_or_pos k with rfl | h
      · rw [hx] at hp; cases hp; rw [el_irr] at he; cases he
      · exact h
    rw [h8 p hk hp, drop_at hx, runsA, if_pos he]
theorem RnJ.cut (h : RnJ T1 T2 l w k W) {A : Option Addr} {n c f : Nat} {rs : List (Nat × Nat)} {e : Ending} (h6 : ∀ j, foot A c j → w.heap.size + 2 ≤ j) (h3 : rs.length = n) (h4 : n ≤ k) (hr : RunP w.heap.size (w.heap.size + 1) A n c rs f k T1 T2 W e W')
    {p x : Ev} (hk : 0 < k) (_hp : l[k - 1]? = some p) (hx : l[k]? = some x) (he : elB p x = false) (h8 : runsF l = rs ++ runsA f k p (l.drop k)) : RnJ T1 T2 l w (k + 1) W' := by
  obtain ⟨_, A', c', r1, r2, r3, r4, r5⟩ := hr
  have hz := h.size
  refine ⟨⟨A', n + 1, c', rs ++ [(f, k)], k, r1, r2, by simp [h3], by omega, r3, fun j hj => (r5 j hj).elim (h6 j) (fun h => by omega), fun h => absurd h (by omega), fun q _ hq => ?_⟩, h.ext.trans (r4.below h.ext.size (fun j hj ht => ?_)), Nat.le_trans hz r4.size⟩
  · rw [Nat.add_sub_cancel, hx] at hq
    cases hq
    rw [h8, drop_at hx, runsA, if_neg (by rw [he]; simp), List.append_assoc]; rfl
  · rcases ht with ht | rfl | rfl
    · have := h6 j ht; omega
    · omega
    · omega
end
/-- What Runs leaves. -/
def RunsP (l : List Ev) (w : World) (e : Ending) (w' : World) : Prop :=
  ∃ A n c, e = .returned (.slice A n c) ∧ RoomS 2 w' A n c ((runsF l).flatMap pairC) ∧ (runsF l).length = n ∧ (∀ k, foot A c k → w.heap.size ≤ k) ∧ Ext w w'
end Go.Fx
namespace Go.Proofs.Ytdjpggnadelnaaa
open Go.RowKit Go.Fx
theorem ul_pr : Try.prog.underlying 75 = some (.slice 77) := by kernel_rfl
theorem info_pr : (Try.prog.info? 77).map (fun i => (i.zero, i.size, i.bytes)) = some (some (.agg #[.int .i64 0, .int .i64 0]), 2, 16) := by kernel_rfl
theorem runs1_ (B1 B2 : Nat) (A : Option Addr) (n c f t : Nat) (rs : List (Nat × Nat)) (w : World) (h1 : Blk w B1 75 #[.slice A n c]) (h2 : RoomS 2 w A n c (rs.flatMap pairC)) (h3 : Blk w B2 3 #[.int .i64 (f : Int)]) (hn : n ≤ 1000000000) (hne : B1 ≠ B2) (hf : ∀ k, foot A c k → k ≠ B1 ∧ k ≠ B2) :
    Calls Try.prog 54 #[.int .i64 (t : Int), .pointer (some ⟨B1, 0, none⟩), .pointer (some ⟨B2, 0, none⟩)] w (RunP B1 B2 A n c rs f t 75 3 w) := by
  have c1 := h1.cell0
  have c2 := h3.cell0
  have H1 := Lib.hid h1
  have H2 := Lib.hid h2
  have H3 := Lib.hid h3
  have Hne := Lib.hid hne
  have Hf := Lib.hid hf
  clear h1 h2 h3 hne hf
  go_enter Try.func54, Try.ntmps54
  go_wp2_with (refine wpl_append_atS (by rfl) rfl ul_pr info_pr rfl rfl (H2.out.ext (Ext.alloc _ _)) rfl (Src.ofRdS ul_pr pairC_len (rdS_one pairC_len _ _ (f, t) rfl) pairC_one) (by simp only [maxLen]; omega) (by omega) ?_)
  intro A2 c2' w2 r2 ch2 ft2
  have b1 := (H1.out.alloc (.cells #[.int .i64 (f : Int), .int .i64 (t : Int)] 77)).chg ch2 (fun h => (Hf.out _ h).1 rfl)
  have b2 := (H3.out.alloc (.cells #[.int .i64 (f : Int), .int .i64 (t : Int)] 77)).chg ch2 (fun h => (Hf.out _ h).2 rfl)
  have q1 := b1.cell0
  have g1 := b1.frozen 0
  have q2 := b2.cell0
  have g2 := b2.frozen 0
  have C2 := Lib.hid ch2
  have R2 := Lib.hid r2
  have F2 := Lib.hid ft2
  have B1' := Lib.hid b1
  have B2' := Lib.hid b2
  clear c1 c2 ch2 r2 ft2 b1 b2
  have e1 : ¬ B1 = B2 := Hne.out
  have e2 : ¬ B2 = B1 := fun e => Hne.out e.symm
  refine Lib.hid ?_
  go_wp2_with fail
  go_end0
  have s1 := Chg.set w2 B1 0 (.slice A2 (n + 1) c2') (T := fun k => foot A c k ∨ k = B1 ∨ k = B2) (.inr (.inl rfl))
  have s2 := Chg.set (w2.setCell ⟨B1, 0, none⟩ (.slice A2 (n + 1) c2')) B2 0 (.int .i64 (t : Int)) (T := fun k => foot A c k ∨ k = B1 ∨ k = B2) (.inr (.inr rfl))
  refine ⟨⟨_, rfl⟩, A2, c2', (B1'.out.set0 _).off Hne.out _, ?_, (B2'.out.off (fun e => Hne.out e.symm) _).set0 _, ((Chg.alloc _ _).t (C2.out.mono (fun k _ h => .inl h))).t (s1.t s2), fun k hk => (F2.out k hk).elim .inl (fun h => .inr (Nat.le_trans (by simp) h))⟩
  · rw [List.flatMap_append]
    have s3 := (Chg.set w2 B1 0 (.slice A2 (n + 1) c2') (T := fun k => k = B1 ∨ k = B2) (.inl rfl)).t (Chg.set (w2.setCell ⟨B1, 0, none⟩ (.slice A2 (n + 1) c2')) B2 0 (.int .i64 (t : Int)) (T := fun k => k = B1 ∨ k = B2) (.inr rfl))
    refine R2.out.chg s3 (fun k hk he => (F2.out k hk).elim (fun h => he.elim (Hf.out k h).1 (Hf.out k h).2) (fun h => ?_))
    have l1 := H1.out.lt
    have l2 := H3.out.lt
    try rw [World.size_alloc] at h
    rcases he with rfl | rfl <;> omega
set_option maxRecDepth 100000 in
set_option maxHeartbeats 1000000 in
theorem runs_ (A : Option Addr) (n c : Nat) (l : List Ev) (w : World) (h : RdS 5 evC w A n l) (hn : n ≤ 1000000000) :
    Calls Try.prog 35 #[.slice A n c] w (RunsP l w) := by
  have H := Lib.hid h
  have Hl := Lib.hid h.1
  clear h
  go_enter Try.func35, Try.ntmps35
  go_upto_region 4 with fail
  have H0 := Lib.hid (RnJ.start (T1 := 75) (T2 := 3) (l := l) (w := w) trivial)
  generalize ((w.alloc (.cells #[.slice none 0 0] 75)).alloc (.cells #[.int .i64 0] 3)) = W0 at *
  go_wp2_with fail
  go_loopw [10] (fun i wr => ∃ k : Nat, k ≤ n ∧ i = .int .i64 (k : Int) ∧ Hid (RnJ 75 3 l w k wr)) (fun i _ => n - (intOf i).toNat)
  case atStart => exact ⟨0, by omega, rfl, H0⟩
  case round =>
    clear H0
    obtain ⟨k, hk, rfl, HJ⟩ := hrel
    by_cases hlt : k < n
    · obtain ⟨b, o, x, rfl, _, hx, c0, c1, c2, c3, c4⟩ := (H.out.ext HJ.out.ext).ev hlt
      have hltI : (k : Int) < (n : Int) := by omega
      have Hx := Lib.hid hx
      clear hx
      rcases Nat.eq_zero_or_pos k with rfl | hk0
      · have hg : decide (((0 : Nat) : Int) > 0) = false := by decide
        have HJ1 := Lib.hid (HJ.out.go Hx.out (.inl rfl))
        clear HJ c0 c1 c2 c3 c4
        go_wp2_with fail
        go_quiet (fail)
        go_wp2_with fail
        go_roundw
        case rel => exact ⟨0 + 1, by omega, by go_num, Lib.hid (HJ1.out.e (Ext.drewN _ _))⟩
        case measure => simp [intOf]; omega
      · obtain ⟨j, rfl⟩ : ∃ j, k = j + 1 := ⟨k - 1, by omega⟩
        obtain ⟨b', o', p, e1, _, hp, d0, d1, d2, d3, d4⟩ := (H.out.ext HJ.out.ext).ev (k := j) (by omega)
        cases e1
        have Hp := Lib.hid hp
        have HB := Lib.hid (fun w' => before_ p x w')
        unfold evV at HB
        have hgt : ((j + 1 : Nat) : Int) > 0 := by omega
        have hsub : ((j + 1 : Nat) : Int) - 1 = (j : Int) := by omega
        have hjn : (j : Int) < (n : Int) := by omega
        clear hp hk0
        go_wp2_with fail
        have hw1 : IntKind.i64.wrap (j : Int) = (j : Int) := IntWalk.i64_in _ (by omega)
        have hw2 : IntKind.i64.wrap (((j + 1 : Nat) : Int) - 1) = (j : Int) := by rw [hsub]; exact hw1
        have hi1 : ((j : Int) + 1).toNat = j + 1 := by omega
        have hi2 : (0 : Int) ≤ (j : Int) + 1 := by omega
        have hi3 : (j : Int) + 1 < (n : Int) := by omega
        go_still_tail 12, (by kernel_rfl)
        change wpList _ _ _ _ _ wr.drew
        have HJd := Lib.hid (HJ.out.e (Ext.drew wr))
        generalize wr.drew = w2 at *
        clear c0 c1 c2 c3 c4 d0 d1 d2 d3 d4 HJ
        go_wp2_with fail
        refine (HB.out _).mono ?_; rintro e w3 ⟨rfl, e3⟩
        have HJ3 := Lib.hid (HJd.out.e e3)
        clear e3 HJd HB hw1 hw2 hi1 hi2 hi3
        cases he : elB p x with
        | true =>
          have HJ4 := Lib.hid (HJ3.out.go Hx.out (.inr ⟨p, Hp.out, he⟩))
          clear he HJ3
          go_wp2_with fail
          go_roundw
          case rel => exact ⟨j + 1 + 1, by omega, by go_num, HJ4⟩
          case measure => simp [intOf]; omega
        | false =>
          have He := Lib.hid he
          obtain ⟨A2, n2, c2, rs, f, b1, r2, l2, n2k, b2, ft, _, h8⟩ := HJ3.out.out
          have HR := Lib.hid (runs1_ w.heap.size (w.heap.size + 1) A2 n2 c2 f (j + 1) rs w3 b1 r2 b2 (by omega) (by omega) (fun k hk => by have := ft k hk; omega))
          have HC := Lib.hid (fun e w' hr => HJ3.out.cut (e := e) (W' := w') ft l2 n2k hr (by omega) Hp.out Hx.out He.out (h8 p (by omega) Hp.out))
          rw [show ((j + 1 : Nat) : Int) = (j : Int) + 1 by omega] at HR
          clear he b1 r2 l2 n2k b2 ft h8
          go_wp2_with fail
          refine HR.out.mono ?_
          rintro e w4 hr
          have HJ4 := Lib.hid (HC.out e w4 hr)
          obtain ⟨⟨v, rfl⟩, -⟩ := hr
          clear HR HC
          go_wp2_with fail
          go_roundw
          case rel => exact ⟨j + 1 + 1, by omega, by go_num, HJ4⟩
          case measure => simp [intOf]; omega
    · obtain rfl : n = k := by omega
      obtain ⟨A2, n2, c2, rs, f, b1, r2, l2, n2k, b2, ft, h7, h8⟩ := HJ.out.out
      have HE := Lib.hid HJ.out.ext
      have HS := Lib.hid HJ.out.size
      rcases Nat.eq_zero_or_pos n with rfl | hn0
      · obtain ⟨rfl, rfl⟩ := h7 rfl
        obtain rfl : l = [] := List.eq_nil_of_length_eq_zero Hl.out
        have q1 := b1.cell0
        have R2 := Lib.hid r2
        have F2 := Lib.hid ft
        have L2 := Lib.hid l2
        clear b1 r2 l2 n2k b2 ft h7 h8 HJ
        go_wp2_with fail
        go_ret
        exact ⟨A2, n2, c2, rfl, R2.out, L2.out, fun k hk => by have := F2.out k hk; omega, HE.out⟩
      · obtain ⟨p, hp⟩ : ∃ p, l[n - 1]? = some p := ⟨l[n - 1]'(by have := Hl.out; omega), List.getElem?_eq_getElem _⟩
        have h9 := h8 p hn0 hp
        rw [List.drop_eq_nil_of_le (by have := Hl.out; omega), runsA] at h9
        have H9 := Lib.hid h9
        have HR := Lib.hid (runs1_ w.heap.size (w.heap.size + 1) A2 n2 c2 f n rs wr b1 r2 b2 (by omega) (by omega) (fun k hk => by have := ft k hk; omega))
        have F2 := Lib.hid ft
        have L2 := Lib.hid l2
        have hpos : (0 : Int) < (n : Int) := by omega
        clear b1 r2 l2 n2k b2 ft h7 h8 h9 hp HJ
        go_wp2_with fail
        refine HR.out.mono ?_
        rintro e w4 ⟨⟨v, rfl⟩, A3, c3, r1, r2, r3, r4, r5⟩
        have q1 := r1.cell0
        have R2 := Lib.hid r2
        have HR4 := Lib.hid r4
        have HR5 := Lib.hid r5
        clear r1 r2 r3 r4 r5 HR
        go_wp2_with fail
        go_ret
        refine ⟨A3, n2 + 1, c3, rfl, by rw [H9.out]; exact R2.out, by rw [H9.out]; simp [L2.out], fun k hk => (HR5.out k hk).elim (fun h => by have := F2.out k h; omega) (fun h => by have := HS.out; omega), HE.out.trans (HR4.out.below HE.out.size (fun k hk ht => ?_))⟩
        rcases ht with ht | rfl | rfl
        · have := F2.out k ht; omega
        · omega
        · omega
theorem sorted_ (A : Option Addr) (n c : Nat) (l : List Ev) (w : World) (h : RdS 5 evC w A n l) (hn : n ≤ 1000000000) :
    Calls Try.prog 28 #[.slice A n c] w fun e w' => e = .returned (.bool (srtB l)) ∧ Ext w w' := by
  have HR := Lib.hid (runs_ A n c l w h hn)
  have Hb := Lib.hid (runsF_len l)
  have HM := Lib.hid (show (runsF l).length ≤ 1000000000 from Nat.le_trans (runsF_le l) (by have := h.1; omega))
  clear h
  go_enter Try.func28, Try.ntmps28
  go_wp2_with fail
  refine HR.out.mono ?_
  rintro e w2 ⟨A2, n2, c2, rfl, -, hl, -, e2⟩
  have Hn2 : Hid (srtB l = decide ((n2 : Int) < 2)) := Lib.hid (by rw [Hb.out, hl]; by_cases h : n2 < 2 <;> simp [h] <;> omega)
  have hm : n2 ≤ 1000000000 := by have := HM.out; omega
  clear hl HR Hb HM
  go_wp2_with fail
  go_ret
  exact ⟨ret_bool Hn2.out.symm, e2⟩
end Go.Proofs.Ytdjpggnadelnaaa
