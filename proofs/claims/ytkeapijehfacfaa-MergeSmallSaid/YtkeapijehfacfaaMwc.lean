/- Mwc: whether a key is there: ContainsFunc with MergeWithout's closure. -/
import Derived.Test.YtkeapijehfacfaaMwp
namespace Go.Fx
open Go.RowKit
def sameK (y x : Ev) : Bool := decide (x.k = y.k)
theorem idx_any (p : Ev → Bool) (l : List Ev) : decide (idxI p l ≥ 0) = l.any p := by
  unfold idxI
  by_cases h : l.findIdx p < l.length
  · rw [if_pos h, (List.any_eq_true.2 ⟨_, List.getElem_mem h, List.findIdx_getElem⟩ : l.any p = true)]
    simp only [decide_eq_true_eq]; omega
  · rw [if_neg h]
    have : l.any p = false := by
      cases e : l.any p with
      | false => rfl
      | true =>
        obtain ⟨x, hx, hp⟩ := List.any_eq_true.1 e
        exact absurd (List.findIdx_lt_length_of_exists ⟨x, hx, hp⟩) h
    rw [this]; rfl
end Go.Fx
namespace Go.Proofs.Ytkeapijehfacfaa
open Go.RowKit Go.Fx
theorem wcl_ (x y : Ev) (B : Nat) (w : World) (hb : Blk w B 37 (evC y).toArray) :
    Calls Try.prog 28 #[evV x, .pointer (some ⟨B, 0, none⟩)] w fun e w' => e = .returned (.bool (sameK y x)) ∧ Ext w w' := by
  obtain ⟨d0, d1, d2, d3, d4⟩ := (hb.alloc (.cells #[.int .i64 x.t, .int .i64 x.s, .int .i64 x.q, .int .i64 x.to, .int .i64 x.v] 37)).ev
  obtain ⟨r, hr⟩ : ∃ r, r = sameK y x := ⟨_, rfl⟩
  have heq := fun w' => eql_ky w' x.k y.k
  rw [show decide (x.k = y.k) = r from hr.symm] at heq
  rw [← hr]
  clear hr
  have hgu := fun w' op a b xs ys => guard_ky w' op a b xs ys
  unfold kyV Ev.k at heq
  clear hb
  unfold evV
  go_enter Try.func28, Try.ntmps28
  go_wp2_with fail
  go_ret
  exact ⟨rfl, Ext.alloc _ _⟩
set_option maxRecDepth 100000 in
set_option maxHeartbeats 1000000 in
theorem mix3_ (z : Ev) (B : Nat) (A : Option Addr) (n c : Nat) (l : List Ev) (w : World) (h : RdS 5 evC w A n l) (hn : n ≤ 1000000000) (hb : Blk w B 37 (evC z).toArray) :
    Calls Try.prog 52 #[.slice A n c, .func (.func 28) #[] #[.pointer (some ⟨B, 0, none⟩)]] w fun e w' => e = .returned (.int .i64 (idxI (sameK z) l)) ∧ Ext w w' := by
  have H := Lib.hid h
  have Hl := Lib.hid h.1
  have HF := Lib.hid (show ∀ x ∈ l, ∀ W, Ext w W → Calls Try.prog 28 #[evV x, .pointer (some ⟨B, 0, none⟩)] W (fun e w' => e = .returned (.bool (sameK z x)) ∧ Ext W w') from fun x _ W e => wcl_ x z B W (hb.ext e))
  clear h hb
  go_enter Try.func52, Try.ntmps52
  go_wp2_with fail
  go_loopw [8] (fun i wr => ∃ k : Nat, k ≤ n ∧ i = .int .i64 (k : Int) ∧ Hid ((∀ y ∈ l.take k, (sameK z) y = false) ∧ Ext w wr)) (fun i _ => n - (intOf i).toNat)
  case atStart => exact ⟨0, by omega, rfl, Lib.hid ⟨by simp, Ext.refl _⟩⟩
  case round =>
    obtain ⟨k, hk, rfl, HJ⟩ := hrel
    by_cases hlt : k < n
    · obtain ⟨b, o, x, rfl, _, hx, c0, c1, c2, c3, c4⟩ := (H.out.ext HJ.out.2).ev hlt
      have hltI : (k : Int) < (n : Int) := by omega
      have HC := Lib.hid (HF.out x (List.mem_of_getElem? hx) wr HJ.out.2)
      unfold evV at HC
      have Hx := Lib.hid hx
      clear hx
      cases hp : (sameK z) x with
      | true =>
        have Hp := Lib.hid hp
        rw [hp] at HC
        clear hp
        go_wp2_with fail
        refine HC.out.mono ?_; rintro e w2 ⟨rfl, e2⟩
        have HV := Lib.hid (idx_hit Hx.out Hp.out HJ.out.1)
        go_wp2_with fail
        go_ret
        refine ⟨ret_int ?_, HJ.out.2.t e2⟩
        unfold idxI
        rw [HV.out, if_pos (by have := Hl.out; omega)]
      | false =>
        have HJ2 : Hid (∀ y ∈ l.take (k + 1), (sameK z) y = false) := Lib.hid (fun y hy => (mem_take_snoc Hx.out hy).elim (HJ.out.1 y) (fun e => by rw [e]; exact hp))
        rw [hp] at HC
        clear hp
        go_wp2_with fail
        refine HC.out.mono ?_; rintro e w2 ⟨rfl, e2⟩
        have HE := Lib.hid (HJ.out.2.t e2)
        clear e2 HC HJ
        go_wp2_with fail
        go_roundw
        case rel => exact ⟨k + 1, by omega, by go_num, Lib.hid ⟨HJ2.out, HE.out⟩⟩
        case measure => simp [intOf]; omega
    · obtain rfl : n = k := by omega
      have HV := Lib.hid (idx_miss (p := (sameK z)) (l := l) (fun y hy => HJ.out.1 y (by rw [List.take_of_length_le (by have := Hl.out; omega)]; exact hy)))
      have HE := Lib.hid HJ.out.2
      clear HJ
      go_wp2_with fail
      go_ret
      refine ⟨ret_int ?_, HE.out⟩
      unfold idxI
      rw [HV.out, if_neg (by omega)]
set_option maxRecDepth 100000 in
theorem has3_ (y : Ev) (B : Nat) (A : Option Addr) (n c : Nat) (l : List Ev) (w : World) (h : RdS 5 evC w A n l) (hn : n ≤ 1000000000) (hb : Blk w B 37 (evC y).toArray) :
    Calls Try.prog 25 #[.slice A n c, .func (.func 28) #[] #[.pointer (some ⟨B, 0, none⟩)]] w fun e w' => e = .returned (.bool (l.any (sameK y))) ∧ Ext w w' := by
  have HI := Lib.hid (mix3_ y B A n c l w h hn hb)
  rw [← idx_any]
  generalize idxI (sameK y) l = z at *
  clear h hb
  go_enter Try.func25, Try.ntmps25
  go_wp2_with fail
  refine HI.out.mono ?_; rintro e w2 ⟨rfl, e2⟩
  go_wp2_with fail
  go_ret
  exact ⟨by simp, e2⟩
end Go.Proofs.Ytkeapijehfacfaa
