/- Mcu: Cut. -/
import Derived.Test.YtkeapijehfacfaaMso
namespace Go.Fx
open Go.RowKit
/-- What slices.IndexFunc tells. -/
def idxI (p : Ev → Bool) (l : List Ev) : Int := if l.findIdx p < l.length then (l.findIdx p : Int) else -1
theorem idx_hit {p : Ev → Bool} {l : List Ev} {k : Nat} {x : Ev} (hx : l[k]? = some x) (hp : p x = true) (hb : ∀ y ∈ l.take k, p y = false) : l.findIdx p = k := by
  obtain ⟨hk, e⟩ := List.getElem?_eq_some_iff.1 hx
  refine (List.findIdx_eq hk).2 ⟨by rw [e]; exact hp, fun j hj => ?_⟩
  exact hb _ (by rw [List.mem_take_iff_getElem]; exact ⟨j, by omega, rfl⟩)
theorem idx_miss {p : Ev → Bool} {l : List Ev} (hb : ∀ y ∈ l, p y = false) : l.findIdx p = l.length := List.findIdx_eq_length.2 (fun y hy => by simpa using hb y hy)
theorem mem_take_snoc {l : List Ev} {k : Nat} {x y : Ev} (hx : l[k]? = some x) (h : y ∈ l.take (k + 1)) : y ∈ l.take k ∨ y = x := by
  rw [take_snoc hx] at h
  rcases List.mem_append.1 h with h | h
  · exact .inl h
  · exact .inr (by simpa using h)
def laterB (t : Int) (x : Ev) : Bool := decide (t ≤ x.t)
def cutAt (t : Int) (l : List Ev) : Nat := l.findIdx (laterB t)
theorem cutAt_le (t : Int) (l : List Ev) : cutAt t l ≤ l.length := List.findIdx_le_length
/-- What Cut tells. -/
def cutF (l : List Ev) (t : Int) : List Ev × List Ev × Nat := if srtB l = true then (l.take (cutAt t l), l.drop (cutAt t l), 0) else ([], [], 110)
end Go.Fx
namespace Go.Proofs.Ytkeapijehfacfaa
open Go.RowKit Go.Fx
theorem cut1_ (x : Ev) (t : Int) (B : Nat) (w : World) (hb : Blk w B 3 #[.int .i64 t]) :
    Calls Try.prog 53 #[evV x, .pointer (some ⟨B, 0, none⟩)] w fun e w' => e = .returned (.bool (laterB t x)) ∧ Ext w w' := by
  have c0 := (hb.alloc (.cells #[.int .i64 x.t, .int .i64 x.s, .int .i64 x.q, .int .i64 x.to, .int .i64 x.v] 37)).cell0
  clear hb
  unfold evV
  go_enter Try.func53, Try.ntmps53
  go_wp2_with fail
  go_ret
  exact ⟨rfl, Ext.alloc _ _⟩
set_option maxRecDepth 100000 in
set_option maxHeartbeats 1000000 in
theorem index_cut (t : Int) (B : Nat) (A : Option Addr) (n c : Nat) (l : List Ev) (w : World) (h : RdS 5 evC w A n l) (hn : n ≤ 1000000000) (hb : Blk w B 3 #[.int .i64 t]) :
    Calls Try.prog 52 #[.slice A n c, .func (.func 53) #[] #[.pointer (some ⟨B, 0, none⟩)]] w fun e w' => e = .returned (.int .i64 (idxI (laterB t) l)) ∧ Ext w w' := by
  have H := Lib.hid h
  have Hl := Lib.hid h.1
  have HF := Lib.hid (show ∀ x ∈ l, ∀ W, Ext w W → Calls Try.prog 53 #[evV x, .pointer (some ⟨B, 0, none⟩)] W (fun e w' => e = .returned (.bool (laterB t x)) ∧ Ext W w') from fun x _ W e => cut1_ x t B W (hb.ext e))
  clear h hb
  go_enter Try.func52, Try.ntmps52
  go_wp2_with fail
  go_loopw [8] (fun i wr => ∃ k : Nat, k ≤ n ∧ i = .int .i64 (k : Int) ∧ Hid ((∀ y ∈ l.take k, (laterB t) y = false) ∧ Ext w wr)) (fun i _ => n - (intOf i).toNat)
  case atStart => exact ⟨0, by omega, rfl, Lib.hid ⟨by simp, Ext.refl _⟩⟩
  case round =>
    obtain ⟨k, hk, rfl, HJ⟩ := hrel
    by_cases hlt : k < n
    · obtain ⟨b, o, x, rfl, _, hx, c0, c1, c2, c3, c4⟩ := (H.out.ext HJ.out.2).ev hlt
      have hltI : (k : Int) < (n : Int) := by omega
      have HC := Lib.hid (HF.out x (List.mem_of_getElem? hx) wr HJ.out.2)
      unfold evV at HC
      have Hx := Lib.hid hx
      clear hx
      cases hp : (laterB t) x with
      | true =>
        have Hp := Lib.hid hp
        rw [hp] at HC
        clear hp
        go_wp2_with fail
        refine HC.out.mono ?_; rintro e w2 ⟨rfl, e2⟩
        have HV := Lib.hid (idx_hit Hx.out Hp.out HJ.out.1)
        go_wp2_with fail
        go_ret
        refine ⟨ret_int ?_, HJ.out.2.t e2⟩
        unfold idxI
        rw [HV.out, if_pos (by have := Hl.out; omega)]
      | false =>
        have HJ2 : Hid (∀ y ∈ l.take (k + 1), (laterB t) y = false) := Lib.hid (fun y hy => (mem_take_snoc Hx.out hy).elim (HJ.out.1 y) (fun e => by rw [e]; exact hp))
        rw [hp] at HC
        clear hp
        go_wp2_with fail
        refine HC.out.mono ?_; rintro e w2 ⟨rfl, e2⟩
        have HE := Lib.hid (HJ.out.2.t e2)
        clear e2 HC HJ
        go_wp2_with fail
        go_roundw
        case rel => exact ⟨k + 1, by omega, by go_num, Lib.hid ⟨HJ2.out, HE.out⟩⟩
        case measure => simp [intOf]; omega
    · obtain rfl : n = k := by omega
      have HV := Lib.hid (idx_miss (p := (laterB t)) (l := l) (fun y hy => HJ.out.1 y (by rw [List.take_of_length_le (by have := Hl.out; omega)]; exact hy)))
      have HE := Lib.hid HJ.out.2
      clear HJ
      go_wp2_with fail
      go_ret
      refine ⟨ret_int ?_, HE.out⟩
      unfold idxI
      rw [HV.out, if_neg (by omega)]
/-- What Cut leaves. -/
def CutP (r : List Ev × List Ev × Nat) (w : World) (e : Ending) (w' : World) : Prop :=
  ∃ A1 n1 c1 A2 n2 c2, e = .returned (.tuple #[.slice A1 n1 c1, .slice A2 n2 c2, .int .i64 (r.2.2 : Int)]) ∧ RoomS 5 w' A1 n1 c1 (r.1.flatMap evC) ∧ RoomS 5 w' A2 n2 c2 (r.2.1.flatMap evC) ∧ r.1.length = n1 ∧ r.2.1.length = n2 ∧ (∀ k, foot A1 c1 k → w.heap.size ≤ k ∧ ¬ foot A2 c2 k) ∧ (∀ k, foot A2 c2 k → w.heap.size ≤ k) ∧ Ext w w'
set_option maxRecDepth 100000 in
set_option maxHeartbeats 1000000 in
theorem cut_ (A : Option Addr) (n c : Nat) (l : List Ev) (t : Int) (w : World) (h : RdS 5 evC w A n l) (hc : n ≤ c) (hn : n ≤ 1000000) :
    Calls Try.prog 23 #[.slice A n c, .int .i64 t] w (CutP (cutF l t) w) := by
  have HS := Lib.hid (sorted_ A n c l (w.alloc (.cells #[.int .i64 t] 3)) (h.ext (Ext.alloc _ _)) (by omega))
  cases hs : srtB l with
  | false =>
    rw [hs] at HS
    have hv : cutF l t = ([], [], 110) := by unfold cutF; rw [hs]; rfl
    rw [hv]
    clear h hs hv
    go_enter Try.func23, Try.ntmps23
    go_wp2_with fail
    refine HS.out.mono ?_; rintro e w2 ⟨rfl, e2⟩
    have HE := Lib.hid ((Ext.alloc w _).t e2)
    clear e2 HS
    go_wp2_with fail
    go_ret3
    exact ⟨none, 0, 0, none, 0, 0, rfl, RoomS.nil, RoomS.nil, rfl, rfl, fun k hk => absurd hk foot_none, fun k hk => absurd hk foot_none, HE.out⟩
  | true =>
    rw [hs] at HS
    have hv : cutF l t = (l.take (cutAt t l), l.drop (cutAt t l), 0) := by unfold cutF; rw [hs]; rfl
    rw [hv]
    have hle := cutAt_le t l
    have hl := h.1
    have HI := Lib.hid (fun W (e : Ext (w.alloc (.cells #[.int .i64 t] 3)) W) => index_cut t w.heap.size A n c l W ((h.ext (Ext.alloc _ _)).ext e) (by omega) ((Blk.new _ _ _).ext e))
    have hix : idxI (laterB t) l = (if cutAt t l < n then ((cutAt t l : Nat) : Int) else -1) := by unfold idxI cutAt; rw [hl]
    rw [hix] at HI
    generalize hat : cutAt t l = k at *
    have Hk := Lib.hid hle
    have HC1 := Lib.hid (fun W (e : Ext w W) => cloneE A k c evC_len evC_one (l.take k) W ((h.ext e).take (by omega)) (by omega))
    have HC2 := Lib.hid (fun W (e : Ext w W) => cloneE (fromS 5 A c k) (n - k) (c - k) evC_len evC_one (l.drop k) W ((h.ext e).from_ (by omega) hc) (by omega))
    have hs1 := fun w' => ev_to (A := A) (n := n) (c := c) (hi := k) (li := (k : Int)) w' rfl (by omega)
    have hs2 := fun w' => ev_from (A := A) (n := n) (c := c) (k := k) (li := (k : Int)) w' rfl (by omega)
    have Hl := Lib.hid (show (l.take k).length = k ∧ (l.drop k).length = n - k by rw [List.length_take, List.length_drop]; omega)
    have hkn : k ≤ n := by omega
    generalize l.take k = l1 at *
    generalize l.drop k = l2 at *
    generalize fromS 5 A c k = A' at *
    generalize hnk : n - k = nk at *
    generalize c - k = ck at *
    have Hnk := Lib.hid hnk
    clear h hs hv hle hl hix hat hnk
    have Hfin : Hid (∀ W W1 W2 W3 A1 c1 A2 c2, Ext w W → Ext W W1 → RoomS 5 W1 A1 k c1 (l1.flatMap evC) → (∀ q, foot A1 c1 q → W.heap.size ≤ q) → Ext W1 W2 → Ext W2 W3 → RoomS 5 W3 A2 nk c2 (l2.flatMap evC) → (∀ q, foot A2 c2 q → W2.heap.size ≤ q) → CutP (l1, l2, 0) w (.returned (.tuple #[.slice A1 k c1, .slice A2 nk c2, .int .i64 0])) W3) :=
      Lib.hid (fun W W1 W2 W3 A1 c1 A2 c2 e0 e1 r1 f1 e12 e2 r2 f2 => ⟨A1, k, c1, A2, nk, c2, rfl, r1.ext (e12.t e2), r2, Hl.out.1, Hl.out.2, fun q hq => ⟨Nat.le_trans e0.size (f1 q hq), fun hq2 => by have h1 := r1.lt hq; have h2 := f2 q hq2; have := e12.size; omega⟩, fun q hq => Nat.le_trans (Nat.le_trans e0.size (Nat.le_trans e1.size e12.size)) (f2 q hq), ((e0.t e1).t e12).t e2⟩)
    by_cases hlt : k < n
    · rw [if_pos hlt] at HI
      go_enter Try.func23, Try.ntmps23
      go_wp2_with fail
      refine HS.out.mono ?_; rintro e w2 ⟨rfl, e2⟩
      have E2 := Lib.hid e2
      clear e2 HS
      go_wp2_with fail
      refine (HI.out _ E2.out).mono ?_; rintro e w3 ⟨rfl, e3⟩
      have E3 := Lib.hid (((Ext.alloc w _).t E2.out).t e3)
      clear e3 HI E2
      go_wp2_with fail
      go_region_with (go_at_call 37; first | (refine (HC1.out _ (E3.out.t (Ext.drew _))).mono ?_; rintro e w4 ⟨A1, c1, rfl, r1, x1, f1⟩) | (refine (HC2.out _ ((E3.out.t (Ext.drew _)).t x1)).mono ?_; rintro e w5 ⟨A2, c2, rfl, r2, x2, f2⟩))
      have HV := Lib.hid (Hfin.out _ _ _ _ A1 c1 A2 c2 (E3.out.t (Ext.drew _)) x1 r1 f1 (Ext.refl _) x2 r2 f2)
      clear r1 x1 f1 r2 x2 f2
      go_wp2_with fail
      go_ret3
      exact HV.out
    · obtain rfl : n = k := by omega
      rw [if_neg hlt] at HI
      go_enter Try.func23, Try.ntmps23
      go_wp2_with fail
      refine HS.out.mono ?_; rintro e w2 ⟨rfl, e2⟩
      have E2 := Lib.hid e2
      clear e2 HS
      go_wp2_with fail
      refine (HI.out _ E2.out).mono ?_; rintro e w3 ⟨rfl, e3⟩
      have E3 := Lib.hid (((Ext.alloc w _).t E2.out).t e3)
      clear e3 HI E2
      go_wp2_with fail
      go_region_with (go_at_call 37; first | (refine (HC1.out _ (E3.out.t (Ext.drew _))).mono ?_; rintro e w4 ⟨A1, c1, rfl, r1, x1, f1⟩) | (refine (HC2.out _ ((E3.out.t (Ext.drew _)).t x1)).mono ?_; rintro e w5 ⟨A2, c2, rfl, r2, x2, f2⟩))
      have HV := Lib.hid (Hfin.out _ _ _ _ A1 c1 A2 c2 (E3.out.t (Ext.drew _)) x1 r1 f1 (Ext.refl _) x2 r2 f2)
      clear r1 x1 f1 r2 x2 f2
      go_wp2_with fail
      go_ret3
      exact HV.out
end Go.Proofs.Ytkeapijehfacfaa
