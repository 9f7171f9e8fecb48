/- Cov: slices.Clone at lists of instructions; OverBytes. -/
import Derived.Test.YtiakcehhegippaaInsP
import Derived.Test.YtiakcehhegippaaCrp
import Derived.OwnWalk
namespace Go.Fx
open Go.RowKit
/-- There is room, whatever lies in it. -/
def Cap (w : World) (A : Option Addr) (c : Nat) : Prop := c = 0 ∨ ∃ g o, A = some ⟨g, o, none⟩ ∧ ∀ j, j < c → (w.cell? ⟨g, o + j, none⟩).isSome = true ∧ w.frozen? ⟨g, o + j, none⟩ = false
theorem Cap.ofRoom {w : World} {A : Option Addr} {n c : Nat} {xs : List Value} (h : Room w A n c xs) : Cap w A c :=
  h.2.2.2.elim .inl (fun ⟨g, o, e, _, _, h1⟩ => .inr ⟨g, o, e, h1⟩)
theorem Cap.set {w : World} {g o c : Nat} (h : Cap w (some ⟨g, o, none⟩) c) {k : Nat} (_hk : k < c) (u : Value) : Cap (w.setCell ⟨g, o + k, none⟩ u) (some ⟨g, o, none⟩) c := by
  rcases h with h0 | ⟨g', o', e, h2⟩
  · exact .inl h0
  · cases e
    refine .inr ⟨g, o, rfl, fun j hj => ⟨?_, by rw [World.frozen?_setCell]; exact (h2 j hj).2⟩⟩
    by_cases hjk : k = j
    · subst hjk
      obtain ⟨x, hx⟩ := Option.isSome_iff_exists.1 (h2 k hj).1
      rw [World.cell?_setCell_same _ _ _ hx]; rfl
    · rw [World.cell?_setCell_other _ _ _ _ (by simp)]
      exact (h2 j hj).1
theorem Cap.some_ {w : World} {A : Option Addr} {c k : Nat} (h : Cap w A c) (hk : k < c) : ∃ g o x, A = some ⟨g, o, none⟩ ∧ w.cell? ⟨g, o + k, none⟩ = some x ∧ w.frozen? ⟨g, o + k, none⟩ = false := by
  rcases h with h0 | ⟨g, o, e, h2⟩
  · omega
  · obtain ⟨x, hx⟩ := Option.isSome_iff_exists.1 (h2 k hk).1
    exact ⟨g, o, x, e, hx, (h2 k hk).2⟩
end Go.Fx
namespace Go.Proofs.Ytiakcehhegippaa
open Go.RowKit Go.Fx
set_option maxHeartbeats 1000000 in
theorem clone_ (A : Option Addr) (n c : Nat) {α : Type} {f : α → List Value} (hf : ∀ x, (f x).length = 5) (h1 : ∀ x, ∀ u ∈ f x, u.oneCell' = true) (xs : List α) (w : World) (h : RdS 5 f w A n xs) (hn : n ≤ 1000000000) :
    Calls Try.prog 43 #[.slice A n c] w (ClnP 5 n (xs.flatMap f) w) := by
  cases A with
  | none =>
    have hn0 : n = 0 := by
      rcases Nat.eq_zero_or_pos n with h0 | h0
      · exact h0
      · obtain ⟨b, o, e⟩ := h.some_ h0; cases e
    subst hn0
    obtain rfl : xs = [] := List.eq_nil_of_length_eq_zero h.1
    have hq := fun w' => Lib.run_eql_slice_nil (P := Try.prog) w' 25 38 none 0 c 0 0 ul_ins
    simp only [Option.isNone_none] at hq
    clear h
    go_enter Try.func43, Try.ntmps43
    go_wp2
    go_ret
    exact ⟨none, 0, rfl, RoomS.nil, Ext.refl _, fun k hk => absurd hk foot_none⟩
  | some a =>
    have hq := fun w' => Lib.run_eql_slice_nil (P := Try.prog) w' 25 38 (some a) n c 0 0 ul_ins
    simp only [Option.isNone_some] at hq
    have HR := Lib.hid h
    clear h
    go_enter Try.func43, Try.ntmps43
    go_wp2_with (refine wpl_buildS (f := f) (s := 5) hf (by omega) (by rfl) rfl ul_ins info_ins [] (by rfl) (by rfl) (by decide) [] (by rfl) ?_)
    intro g w1 b1 e1 lo1 _; refine Lib.hid ?_
    have own0 : RoomS 5 w1 (some ⟨g, 0, none⟩) 0 0 [] := RoomS.zero
    go_wp2_with (refine wpl_append_atS (by rfl) rfl ul_ins info_ins rfl rfl own0 rfl (Src.ofRdS ul_ins hf (HR.out.ext e1) h1) (by simp only [maxLen]; omega) (by omega) ?_)
    intro A2 c2 w2 r2 ch2 ft2; refine Lib.hid ?_
    try simp only [Nat.zero_add, List.nil_append] at r2
    have e2 : Ext w1 w2 := (ch2.mono (T' := fun _ => False) (fun k _ hk => foot_zero hk)).ext
    have hnew : ∀ k, foot A2 c2 k → w.heap.size ≤ k := fun k hk => by
      rcases ft2 k hk with h1 | h1
      · exact absurd h1 foot_zero
      · have := e1.size; omega
    have hfin : ClnP 5 n (xs.flatMap f) w (.returned (.slice A2 n c2)) w2 := ⟨A2, c2, rfl, r2, e1.t e2, hnew⟩
    have HFin := Lib.hid hfin
    clear r2 ch2 ft2 e1 e2 b1 hnew hfin
    go_wp2
    go_ret
    exact HFin.out
set_option maxHeartbeats 400000 in
theorem mark_any (i : Nat) (w : World) (hi : i ≤ 1000000) : Calls Try.prog 48 #[.int .i64 2, .int .i64 (i : Int)] w fun e w' => (∃ v : Int, e = .returned (.int .u8 v)) ∧ w = w' := by
  go_enter Try.func48, Try.ntmps48
  go_wp2
  go_ret
  exact ⟨⟨_, rfl⟩, rfl⟩
set_option maxHeartbeats 1000000 in
theorem overBytes (A : Option Addr) (n c : Nat) (xs : List Value) (w : World) (h : Room w A n c xs) (hn : n ≤ 900000) :
    Calls Try.prog 46 #[.slice A n c] w fun e w' => e = .returned (.tuple #[]) ∧ Chg (foot A c) w w' := by
  have hcm := h.2.2.1
  have hnc := h.2.1
  have H0 := Lib.hid (Cap.ofRoom h)
  clear h
  by_cases h12 : n + 12 < c
  · have h12I : (n : Int) + 12 < (c : Int) := by omega
    obtain ⟨N, hN⟩ : ∃ N, N = n + 12 := ⟨_, rfl⟩
    have hNI : (n : Int) + 12 = (N : Int) := by omega
    have hNc : N ≤ c := by omega
    have hN9 : N ≤ 900012 := by omega
    rw [hNI] at h12I
    clear h12 hN
    go_enter Try.func46, Try.ntmps46
    go_wp2_with fail
    go_loopw [3] (fun v wr => ∃ (k : Nat), k ≤ N ∧ v = .int .i64 (k : Int) ∧ Hid (Chg (foot A c) w wr ∧ Cap wr A c)) (fun v _ => N - (intOf v).toNat)
    case atStart => exact ⟨0, Nat.zero_le _, rfl, Lib.hid ⟨Chg.refl _ _, H0.out⟩⟩
    case round =>
      clear H0
      obtain ⟨k, hk, rfl, HJ⟩ := hrel
      by_cases hlt : k < N
      · have hltI : (k : Int) < (N : Int) := by omega
        have HM := Lib.hid (fun w' => mark_any k w' (by omega))
        obtain ⟨g, o, x, rfl, hx, hf⟩ := HJ.out.2.some_ (k := k) (by omega)
        go_wp2_with fail
        refine (HM.out _).mono ?_; rintro e w2 ⟨⟨v, rfl⟩, rfl⟩
        have HJ2 : Hid (Chg (foot (some ⟨g, o, none⟩) c) w (wr.setCell ⟨g, o + k, none⟩ (.int .u8 v)) ∧ Cap (wr.setCell ⟨g, o + k, none⟩ (.int .u8 v)) (some ⟨g, o, none⟩) c) := Lib.hid ⟨HJ.out.1.t (Chg.set _ _ _ _ ⟨by omega, o, rfl⟩), HJ.out.2.set (by omega) _⟩
        go_wp2_with fail
        go_roundw
        case rel => exact ⟨k + 1, by omega, by go_num, HJ2⟩
        case measure => simp [intOf]; omega
      · obtain rfl : k = N := by omega
        go_wp2_with fail
        go_end0
        exact ⟨rfl, HJ.out.1⟩
  · have h12I : (c : Int) ≤ (n : Int) + 12 := by omega
    have hc9 : c ≤ 900012 := by omega
    clear h12
    go_enter Try.func46, Try.ntmps46
    go_wp2_with fail
    go_loopw [3] (fun v wr => ∃ (k : Nat), k ≤ c ∧ v = .int .i64 (k : Int) ∧ Hid (Chg (foot A c) w wr ∧ Cap wr A c)) (fun v _ => c - (intOf v).toNat)
    case atStart => exact ⟨0, Nat.zero_le _, rfl, Lib.hid ⟨Chg.refl _ _, H0.out⟩⟩
    case round =>
      clear H0
      obtain ⟨k, hk, rfl, HJ⟩ := hrel
      by_cases hlt : k < c
      · have hltI : (k : Int) < (c : Int) := by omega
        have HM := Lib.hid (fun w' => mark_any k w' (by omega))
        obtain ⟨g, o, x, rfl, hx, hf⟩ := HJ.out.2.some_ (k := k) (by omega)
        go_wp2_with fail
        refine (HM.out _).mono ?_; rintro e w2 ⟨⟨v, rfl⟩, rfl⟩
        have HJ2 : Hid (Chg (foot (some ⟨g, o, none⟩) c) w (wr.setCell ⟨g, o + k, none⟩ (.int .u8 v)) ∧ Cap (wr.setCell ⟨g, o + k, none⟩ (.int .u8 v)) (some ⟨g, o, none⟩) c) := Lib.hid ⟨HJ.out.1.t (Chg.set _ _ _ _ ⟨by omega, o, rfl⟩), HJ.out.2.set (by omega) _⟩
        go_wp2_with fail
        go_roundw
        case rel => exact ⟨k + 1, by omega, by go_num, HJ2⟩
        case measure => simp [intOf]; omega
      · obtain rfl : k = c := by omega
        go_wp2_with fail
        go_end0
        exact ⟨rfl, HJ.out.1⟩
end Go.Proofs.Ytiakcehhegippaa
