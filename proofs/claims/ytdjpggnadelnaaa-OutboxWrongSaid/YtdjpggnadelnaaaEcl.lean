/- Ecl: slices.Clone at lists of events, and at lists of lists of events. -/
import Derived.Test.YtdjpggnadelnaaaInsP
import Derived.Test.YtdjpggnadelnaaaEls
import Derived.Test.YtdjpggnadelnaaaAsq
import Derived.Deep.CutRange
import Derived.WalkSpells
namespace Go.Proofs.Ytdjpggnadelnaaa
open Go.RowKit Go.Fx
theorem ul_ee : Try.prog.underlying 56 = some (.slice 26) := by kernel_rfl
theorem info_ee : (Try.prog.info? 26).map (fun i => (i.zero, i.size, i.bytes)) = some (some (.slice none 0 0), 1, 24) := by kernel_rfl
set_option maxHeartbeats 1000000 in
theorem cloneE (A : Option Addr) (n c : Nat) {α : Type} {f : α → List Value} (hf : ∀ x, (f x).length = 5) (h1 : ∀ x, ∀ u ∈ f x, u.oneCell' = true) (xs : List α) (w : World) (h : RdS 5 f w A n xs) (hn : n ≤ 1000000000) :
    Calls Try.prog 37 #[.slice A n c] w (ClnP 5 n (xs.flatMap f) w) := by
  cases A with
  | none =>
    have hn0 : n = 0 := by
      rcases Nat.eq_zero_or_pos n with h0 | h0
      · exact h0
      · obtain ⟨b, o, e⟩ := h.some_ h0; cases e
    subst hn0
    obtain rfl : xs = [] := List.eq_nil_of_length_eq_zero h.1
    have hq := fun w' => Lib.run_eql_slice_nil (P := Try.prog) w' 26 35 none 0 c 0 0 ul_ev
    simp only [Option.isNone_none] at hq
    clear h
    go_enter Try.func37, Try.ntmps37
    go_wp2
    go_ret
    exact ⟨none, 0, rfl, RoomS.nil, Ext.refl _, fun k hk => absurd hk foot_none⟩
  | some a =>
    have hq := fun w' => Lib.run_eql_slice_nil (P := Try.prog) w' 26 35 (some a) n c 0 0 ul_ev
    simp only [Option.isNone_some] at hq
    have HR := Lib.hid h
    clear h
    go_enter Try.func37, Try.ntmps37
    go_wp2_with (refine wpl_buildS (f := f) (s := 5) hf (by omega) (by rfl) rfl ul_ev info_ev [] (by rfl) (by rfl) (by decide) [] (by rfl) ?_)
    intro g w1 b1 e1 lo1 _; refine Lib.hid ?_
    have own0 : RoomS 5 w1 (some ⟨g, 0, none⟩) 0 0 [] := RoomS.zero
    go_wp2_with (refine wpl_append_atS (by rfl) rfl ul_ev info_ev rfl rfl own0 rfl (Src.ofRdS ul_ev hf (HR.out.ext e1) h1) (by simp only [maxLen]; omega) (by omega) ?_)
    intro A2 c2 w2 r2 ch2 ft2; refine Lib.hid ?_
    try simp only [Nat.zero_add, List.nil_append] at r2
    have e2 : Ext w1 w2 := (ch2.mono (T' := fun _ => False) (fun k _ hk => foot_zero hk)).ext
    have hnew : ∀ k, foot A2 c2 k → w.heap.size ≤ k := fun k hk => by
      rcases ft2 k hk with h1 | h1
      · exact absurd h1 foot_zero
      · have := e1.size; omega
    have hfin : ClnP 5 n (xs.flatMap f) w (.returned (.slice A2 n c2)) w2 := ⟨A2, c2, rfl, r2, e1.t e2, hnew⟩
    have HFin := Lib.hid hfin
    clear r2 ch2 ft2 e1 e2 b1 hnew hfin
    go_wp2
    go_ret
    exact HFin.out
set_option maxHeartbeats 1000000 in
theorem cloneL (A : Option Addr) (n c : Nat) {α : Type} {f : α → List Value} (hf : ∀ x, (f x).length = 1) (h1 : ∀ x, ∀ u ∈ f x, u.oneCell' = true) (xs : List α) (w : World) (h : RdS 1 f w A n xs) (hn : n ≤ 1000000000) :
    Calls Try.prog 59 #[.slice A n c] w (ClnP 1 n (xs.flatMap f) w) := by
  cases A with
  | none =>
    have hn0 : n = 0 := by
      rcases Nat.eq_zero_or_pos n with h0 | h0
      · exact h0
      · obtain ⟨b, o, e⟩ := h.some_ h0; cases e
    subst hn0
    obtain rfl : xs = [] := List.eq_nil_of_length_eq_zero h.1
    have hq := fun w' => Lib.run_eql_slice_nil (P := Try.prog) w' 56 26 none 0 c 0 0 ul_ee
    simp only [Option.isNone_none] at hq
    clear h
    go_enter Try.func59, Try.ntmps59
    go_wp2
    go_ret
    exact ⟨none, 0, rfl, RoomS.nil, Ext.refl _, fun k hk => absurd hk foot_none⟩
  | some a =>
    have hq := fun w' => Lib.run_eql_slice_nil (P := Try.prog) w' 56 26 (some a) n c 0 0 ul_ee
    simp only [Option.isNone_some] at hq
    have HR := Lib.hid h
    clear h
    go_enter Try.func59, Try.ntmps59
    go_wp2_with (refine wpl_buildS (f := f) (s := 1) hf (by omega) (by rfl) rfl ul_ee info_ee [] (by rfl) (by rfl) (by decide) [] (by rfl) ?_)
    intro g w1 b1 e1 lo1 _; refine Lib.hid ?_
    have own0 : RoomS 1 w1 (some ⟨g, 0, none⟩) 0 0 [] := RoomS.zero
    go_wp2_with (refine wpl_append_atS (by rfl) rfl ul_ee info_ee rfl rfl own0 rfl (Src.ofRdS ul_ee hf (HR.out.ext e1) h1) (by simp only [maxLen]; omega) (by omega) ?_)
    intro A2 c2 w2 r2 ch2 ft2; refine Lib.hid ?_
    try simp only [Nat.zero_add, List.nil_append] at r2
    have e2 : Ext w1 w2 := (ch2.mono (T' := fun _ => False) (fun k _ hk => foot_zero hk)).ext
    have hnew : ∀ k, foot A2 c2 k → w.heap.size ≤ k := fun k hk => by
      rcases ft2 k hk with h1 | h1
      · exact absurd h1 foot_zero
      · have := e1.size; omega
    have hfin : ClnP 1 n (xs.flatMap f) w (.returned (.slice A2 n c2)) w2 := ⟨A2, c2, rfl, r2, e1.t e2, hnew⟩
    have HFin := Lib.hid hfin
    clear r2 ch2 ft2 e1 e2 b1 hnew hfin
    go_wp2
    go_ret
    exact HFin.out
end Go.Proofs.Ytdjpggnadelnaaa
