/- Mco: slices.Index and slices.Contains at events; slices.Grow and slices.Concat at lists of lists of events. -/
import Derived.Test.YtkeapijehfacfaaMwc
import Derived.Test.YtkeapijehfacfaaMin
import Derived.BigQuiet
namespace Go.Fx
open Go.RowKit
def isE (y x : Ev) : Bool := decide (y = x)
theorem any_isE (y : Ev) (l : List Ev) : l.any (isE y) = decide (y ∈ l) := by
  cases h : l.any (isE y) with
  | true =>
    obtain ⟨x, hx, e⟩ := List.any_eq_true.1 h
    unfold isE at e
    have e := of_decide_eq_true e
    subst e
    exact (decide_eq_true hx).symm
  | false =>
    refine (decide_eq_false (fun hy => ?_)).symm
    have : l.any (isE y) = true := List.any_eq_true.2 ⟨y, hy, by simp [isE]⟩
    rw [h] at this; cases this
/-- The headers of lists of slices, and what these hold. -/
structure Hds (w : World) (hs : List Sl) (css : List (List Sl)) : Prop where
  len : hs.length = css.length
  at_ : ∀ (i : Nat) (s : Sl), hs[i]? = some s → ∃ c, css[i]? = some c ∧ Rd slv w s.A s.n c
theorem Hds.ext {w w' : World} {hs : List Sl} {css : List (List Sl)} (h : Hds w hs css) (e : Ext w w') : Hds w' hs css :=
  ⟨h.len, fun i s hi => by obtain ⟨c, h1, h2⟩ := h.at_ i s hi; exact ⟨c, h1, h2.ext e⟩⟩
theorem flat_snoc {css : List (List Sl)} {k : Nat} {c : List Sl} (h : css[k]? = some c) : (css.take (k + 1)).flatten = (css.take k).flatten ++ c := by
  rw [take_snoc h, List.flatten_append]; simp
theorem flat_le (css : List (List Sl)) (k : Nat) : (css.take k).flatten.length ≤ css.flatten.length := by
  conv => rhs; rw [← List.take_append_drop k css, List.flatten_append, List.length_append]
  omega
theorem slv_one (s : Sl) : ∀ u ∈ [slv s], u.oneCell' = true := by
  intro u hu
  obtain rfl : u = slv s := by simpa using hu
  rfl
end Go.Fx
namespace Go.Proofs.Ytkeapijehfacfaa
open Go.RowKit Go.Fx
set_option maxRecDepth 100000 in
set_option maxHeartbeats 1000000 in
theorem index_ (A : Option Addr) (n c : Nat) (l : List Ev) (y : Ev) (w : World) (h : RdS 5 evC w A n l) (hn : n ≤ 1000000000) :
    Calls Try.prog 65 #[.slice A n c, evV y] w fun e w' => e = .returned (.int .i64 (idxI (isE y) l)) ∧ Ext w w' := by
  have H := Lib.hid h
  have Hl := Lib.hid h.1
  have HB := Lib.hid (Blk.new w 37 (evC y).toArray)
  obtain ⟨g, hg⟩ : ∃ g, g = w.heap.size := ⟨_, rfl⟩
  obtain ⟨w1, hw1⟩ : ∃ w1, w1 = w.alloc (.cells (evC y).toArray 37) := ⟨_, rfl⟩
  rw [← hg, ← hw1] at HB
  have HX := Lib.hid (show Ext w w1 by rw [hw1]; exact Ext.alloc _ _)
  have HG := Lib.hid hg
  have HW := Lib.hid hw1
  have hgu := fun w' op a b xs ys => guard_ev w' op a b xs ys
  clear h hg hw1
  unfold evV
  go_enter Try.func65, Try.ntmps65
  go_wp2_with fail
  change Code.wp _ _ _ _ (w.alloc (.cells (evC y).toArray 37))
  rw [← HW.out, ← HG.out]
  clear HG HW
  go_loopw [8] (fun i wr => ∃ k : Nat, k ≤ n ∧ i = .int .i64 (k : Int) ∧ Hid ((∀ z ∈ l.take k, isE y z = false) ∧ Ext w1 wr)) (fun i _ => n - (intOf i).toNat)
  case atStart => exact ⟨0, by omega, rfl, Lib.hid ⟨by simp, Ext.refl _⟩⟩
  case round =>
    obtain ⟨k, hk, rfl, HJ⟩ := hrel
    by_cases hlt : k < n
    · obtain ⟨b, o, x, rfl, _, hx, c0, c1, c2, c3, c4⟩ := (H.out.ext (HX.out.t HJ.out.2)).ev hlt
      obtain ⟨d0, d1, d2, d3, d4⟩ := (HB.out.ext HJ.out.2).ev
      have hltI : (k : Int) < (n : Int) := by omega
      have Hx := Lib.hid hx
      have heq := fun w' => eql_ev w' y x
      unfold evV at heq
      clear hx
      by_cases hyx : y = x
      · rw [show decide (y = x) = true from decide_eq_true hyx] at heq
        have HV := Lib.hid (idx_hit (p := isE y) Hx.out (by unfold isE; exact decide_eq_true hyx) HJ.out.1)
        have HE := Lib.hid (HX.out.t HJ.out.2)
        clear hyx HJ
        go_wp2_with fail
        go_quiet (fail)
        go_wp2_with fail
        go_ret
        refine ⟨ret_int ?_, HE.out.t (by first | exact Ext.drewN _ _ | exact Ext.drew _)⟩
        unfold idxI
        rw [HV.out, if_pos (by have := Hl.out; omega)]
      · rw [show decide (y = x) = false from decide_eq_false hyx] at heq
        have HJ2 : Hid ((∀ z ∈ l.take (k + 1), isE y z = false) ∧ Ext w1 wr) := Lib.hid ⟨fun z hz => (mem_take_snoc Hx.out hz).elim (HJ.out.1 z) (fun e => by rw [e]; exact decide_eq_false hyx), HJ.out.2⟩
        clear hyx HJ
        go_wp2_with fail
        go_quiet (fail)
        go_wp2_with fail
        go_roundw
        case rel => exact ⟨k + 1, by omega, by go_num, Lib.hid ⟨HJ2.out.1, HJ2.out.2.t (by first | exact Ext.drewN _ _ | exact Ext.drew _)⟩⟩
        case measure => simp [intOf]; omega
    · obtain rfl : n = k := by omega
      have HV := Lib.hid (idx_miss (p := isE y) (l := l) (fun y hy => HJ.out.1 y (by rw [List.take_of_length_le (by have := Hl.out; omega)]; exact hy)))
      have HE := Lib.hid (HX.out.t HJ.out.2)
      clear HJ
      go_wp2_with fail
      go_ret
      refine ⟨ret_int ?_, HE.out⟩
      unfold idxI
      rw [HV.out, if_neg (by omega)]
theorem contains_ (A : Option Addr) (n c : Nat) (l : List Ev) (y : Ev) (w : World) (h : RdS 5 evC w A n l) (hn : n ≤ 1000000000) :
    Calls Try.prog 39 #[.slice A n c, evV y] w fun e w' => e = .returned (.bool (decide (y ∈ l))) ∧ Ext w w' := by
  have HI := Lib.hid (index_ A n c l y (w.alloc (.cells (evC y).toArray 37)) (h.ext (Ext.alloc _ _)) hn)
  rw [← any_isE, ← idx_any]
  generalize idxI (isE y) l = z at *
  obtain ⟨d0, d1, d2, d3, d4⟩ := (Blk.new w 37 (evC y).toArray).ev
  clear h
  unfold evV at HI ⊢
  go_enter Try.func39, Try.ntmps39
  go_wp2_with fail
  refine HI.out.mono ?_; rintro e w2 ⟨rfl, e2⟩
  go_wp2_with fail
  go_ret
  exact ⟨by simp, (Ext.alloc _ _).t e2⟩
set_option maxRecDepth 100000 in
set_option maxHeartbeats 1000000 in
theorem grow_ (n : Nat) (w : World) (hn : n ≤ 100000) :
    Calls Try.prog 64 #[.slice none 0 0, .int .i64 (n : Int)] w fun e w' => ∃ A c, e = .returned (.slice A 0 c) ∧ RoomS 1 w' A 0 c [] ∧ (∀ k, foot A c k → w.heap.size ≤ k) ∧ Ext w w' := by
  rcases Nat.eq_zero_or_pos n with rfl | hp
  · go_enter Try.func64, Try.ntmps64
    go_wp2_with fail
    go_ret
    exact ⟨none, 0, rfl, RoomS.nil, fun k hk => absurd hk foot_none, Ext.refl _⟩
  · have hpI : (0 : Int) < (n : Int) := by omega
    have hsl := fun w' => ee_ins_to (A := none) (n := 0) (c := 0) (hi := 0) (li := 0) w' rfl (Nat.le_refl _)
    go_enter Try.func64, Try.ntmps64
    go_wp2_with (refine wpl_append_zerosS (s := 1) (k := n) (i := 0) (by rfl) rfl ul_ee Try.underlying3 info_ee rfl (by omega) rfl rfl RoomS.nil hp (by omega) (by omega) (by omega) ?_)
    intro g2 c2 w2 L r2 e2 lo2; refine Lib.hid ?_
    have R2 := Lib.hid (r2.take (k := 0) (by omega))
    have hsl2 := fun w' => ee_ins_to (A := some ⟨g2, 0, none⟩) (n := 0 + n) (c := c2) (hi := 0) (li := 0) w' rfl (Nat.zero_le _)
    have E2 := Lib.hid e2
    clear r2 e2
    go_wp2_with fail
    go_ret
    exact ⟨_, _, rfl, by simpa using R2.out, fun k hk => by rw [foot_some hk]; exact lo2, E2.out⟩
set_option maxRecDepth 100000 in
set_option maxHeartbeats 4000000 in
theorem concat_ (A : Option Addr) (n c : Nat) (hs : List Sl) (css : List (List Sl)) (w : World) (h : Rd slv w A n hs) (hd : Hds w hs css) (hn : css.flatten.length ≤ 100000) (hn2 : n ≤ 100000) :
    Calls Try.prog 38 #[.slice A n c] w fun e w' => ∃ A' c', e = .returned (.slice A' css.flatten.length c') ∧ Room w' A' css.flatten.length c' (css.flatten.map slv) ∧ Ext w w' := by
  obtain ⟨T, hT⟩ : ∃ T, T = css.flatten.length := ⟨_, rfl⟩
  rw [← hT] at hn
  have HT := Lib.hid hT
  have HFin : Hid (∀ e w', (∃ A' c', e = Ending.returned (.slice A' T c') ∧ Room w' A' T c' (css.flatten.map slv) ∧ Ext w w') → ∃ A' c', e = Ending.returned (.slice A' css.flatten.length c') ∧ Room w' A' css.flatten.length c' (css.flatten.map slv) ∧ Ext w w') := Lib.hid (fun e w' h => by rw [← hT]; exact h)
  suffices hG : Calls Try.prog 38 #[.slice A n c] w fun e w' => ∃ A' c', e = .returned (.slice A' T c') ∧ Room w' A' T c' (css.flatten.map slv) ∧ Ext w w' by exact hG.mono HFin.out
  clear HFin
  have H := Lib.hid h
  have Hd := Lib.hid hd
  have Hl := Lib.hid h.1
  have Hn := Lib.hid hn
  have HG := Lib.hid (fun w' => grow_ T w' hn)
  clear h hd hn hT
  go_enter Try.func38, Try.ntmps38
  go_wp2_with fail
  go_loopw [3, 11] (fun z i wr => ∃ k q : Nat, k ≤ n ∧ i = .int .i64 (k : Int) ∧ z = .int .i64 (q : Int) ∧ Hid (q = (css.take k).flatten.length) ∧ Hid (Ext w wr)) (fun _ i _ => n - (intOf i).toNat)
  case atStart => exact ⟨0, 0, by omega, rfl, rfl, Lib.hid rfl, Lib.hid (Ext.refl _)⟩
  case round =>
    obtain ⟨k, q, hk, rfl, rfl, Hq, HJ⟩ := hrel
    have hql : q ≤ 100000 := by have h1 := Hq.out; have h2 := flat_le css k; have h3 := Hn.out; have h4 := HT.out; omega
    by_cases hlt : k < n
    · obtain ⟨b, o, s, rfl, _, hx, c0⟩ := (H.out.ext HJ.out).at_ hlt
      have hltI : (k : Int) < (n : Int) := by omega
      obtain ⟨cs, hcs, hr⟩ := Hd.out.at_ k s hx
      obtain ⟨sA, sn, sc⟩ := s
      have hl : cs.length = sn := hr.1
      have Hq2 := Lib.hid (show q + sn = (css.take (k + 1)).flatten.length by rw [flat_snoc hcs, List.length_append, Hq.out, hl])
      have hq2 : q + sn ≤ 100000 := by have h1 := Hq2.out; have h2 := flat_le css (k + 1); have h3 := Hn.out; have h4 := HT.out; omega
      have hw : IntKind.i64.wrap ((q : Int) + (sn : Int)) = ((q + sn : Nat) : Int) := by rw [← Int.natCast_add]; exact IntWalk.i64_in _ (by omega)
      have hng : ¬ (((q + sn : Nat) : Int) < 0) := by omega
      unfold slv at c0
      simp only at c0
      generalize q + sn = q2 at *
      clear hx hcs hr hl
      go_wp2_with fail
      go_roundw
      case rel => exact ⟨k + 1, q2, by omega, by go_num, rfl, Hq2, HJ⟩
      case measure => simp [intOf]; omega
    · obtain rfl : n = k := by omega
      obtain rfl : q = T := by rw [HT.out, Hq.out, List.take_of_length_le (by have h1 := Hl.out; have h2 := Hd.out.len; omega)]
      go_wp2_with fail
      refine (HG.out _).mono ?_; rintro e w2 ⟨A2, c2, rfl, r2, f2, e2⟩
      have H0 : Hid (RoomS 1 w2 A2 0 c2 ((css.take 0).flatten.flatMap (fun s => [slv s])) ∧ (∀ k, foot A2 c2 k → w.heap.size ≤ k) ∧ Ext w w2) := Lib.hid ⟨r2, fun k hk => Nat.le_trans HJ.out.size (f2 k hk), HJ.out.t e2⟩
      clear r2 f2 e2 HG HJ Hq
      go_wp2_with fail
      go_loopw [6, 27] (fun ov i wr => ∃ (k no co : Nat) (Ao : Option Addr), k ≤ n ∧ i = .int .i64 (k : Int) ∧ ov = .slice Ao no co ∧ Hid (RoomS 1 wr Ao no co ((css.take k).flatten.flatMap (fun s => [slv s])) ∧ (∀ k, foot Ao co k → w.heap.size ≤ k) ∧ Ext w wr)) (fun _ i _ => n - (intOf i).toNat)
      case atStart => exact ⟨0, 0, c2, A2, by omega, rfl, rfl, H0⟩
      case round =>
        clear H0
        obtain ⟨k, no, co, Ao, hk, rfl, rfl, HJ⟩ := hrel
        have hno : no = (css.take k).flatten.length := by have := HJ.out.1.1; rw [flat_one, List.length_map] at this; omega
        by_cases hlt : k < n
        · obtain ⟨b, o, s, rfl, _, hx, c0⟩ := (H.out.ext HJ.out.2.2).at_ hlt
          have hltI : (k : Int) < (n : Int) := by omega
          obtain ⟨cs, hcs, hr⟩ := Hd.out.at_ k s hx
          obtain ⟨sA, sn, sc⟩ := s
          have hl : cs.length = sn := hr.1
          have hq2 : no + sn ≤ 100000 := by have h1 := congrArg List.length (flat_snoc hcs); rw [List.length_append] at h1; have h2 := flat_le css (k + 1); have h3 := Hn.out; have h4 := HT.out; omega
          unfold slv at c0
          simp only at c0
          have Hcs := Lib.hid hcs
          have Hr := Lib.hid (show RdS 1 (fun s => [slv s]) w sA sn cs from RdS.of_rd hr)
          clear hx hcs hr hl hno
          go_wp2_with (refine wpl_append_atS (by rfl) rfl ul_ee info_ee rfl rfl HJ.out.1 rfl (Src.ofRdS ul_ee (fun _ => rfl) (Hr.out.ext HJ.out.2.2) slv_one) (by simp only [maxLen]; omega) (by omega) ?_)
          intro A3 c3 w3 r3 ch3 ft3
          have HR : Hid (RoomS 1 w3 A3 (no + sn) c3 ((css.take (k + 1)).flatten.flatMap (fun s => [slv s])) ∧ (∀ k, foot A3 c3 k → w.heap.size ≤ k) ∧ Ext w w3) := Lib.hid ⟨by rw [flat_snoc Hcs.out, List.flatMap_append]; exact r3, fun q hq => (ft3 q hq).elim (HJ.out.2.1 q) (fun h' => Nat.le_trans HJ.out.2.2.size h'), HJ.out.2.2.trans (ch3.below HJ.out.2.2.size (fun q hq hf => by have := HJ.out.2.1 q hf; omega))⟩
          clear r3 ch3 ft3
          refine Lib.hid ?_
          go_wp2_with fail
          go_roundw
          case rel => exact ⟨k + 1, no + sn, c3, A3, by omega, by go_num, rfl, HR⟩
          case measure => simp [intOf]; omega
        · obtain rfl : n = k := by omega
          have e1 : css.take n = css := List.take_of_length_le (by have h1 := Hl.out; have h2 := Hd.out.len; omega)
          have HR := Lib.hid HJ.out.1
          rw [e1, flat_one] at HR
          rw [e1] at hno
          obtain rfl : no = q := by rw [hno]; exact HT.out.symm
          clear hno
          have HE := Lib.hid HJ.out.2.2
          clear HJ e1
          go_wp2_with fail
          go_ret
          exact ⟨_, _, rfl, HR.out.room, HE.out⟩
end Go.Proofs.Ytkeapijehfacfaa
