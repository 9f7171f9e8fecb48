/- Any: operations without a temporary of their own that may come up in whatever order: one step law each, and the order does not matter. No condition. -/
import Derived.Test.YtiakcehhegippaaStep
import Derived.RegionTactic
namespace Go.Fx
open Go.RowKit
/-- From these listed operations on, n of the operations 'ins' come up, in whatever order, and 'fin' is listed behind them. -/
def anyIns (md : Region.Mode) (ops : Array Oper) (ins : List Nat) (fin : List Bool) : Nat → Array Bool → Bool
  | 0, listed => listed.toList == fin
  | n + 1, listed => !(Region.ready md ops listed).isEmpty && (Region.ready md ops listed).all fun i => ins.contains i && anyIns md ops ins fin n (listed.setIfInBounds i true)
section
variable {P : Program} {md : Region.Mode} {ops : Array Oper} {Q : Exit → Act → World → Prop} {C : Nat → World → Prop} {a : Act} {ins : List Nat} {fin : List Bool} {g : Nat}
theorem wpAny_ins (hop : ∀ i ∈ ins, ∃ o, ops[i]? = some o ∧ ∀ n w (K : Act → World → Prop), C (n + 1) w → (∀ w', C n w' → K a w') → if Region.wanted o (yielded ops a.tmps) = true then Oper.wp P o a w K Q else K (a.put o.dst undef) w)
    (hL : ∀ w, C 0 w → wpAny P md ops Q g fin.toArray a w) : ∀ (n : Nat) (listed : Array Bool) (w : World), anyIns md ops ins fin n listed = true → C n w → wpAny P md ops Q (g + n) listed a w
  | 0, listed, w, hB, hC => by
    have e : listed = fin.toArray := by
      have h := eq_of_beq (show (listed.toList == fin) = true from hB)
      rw [← h]
    rw [e]; exact hL w hC
  | n + 1, listed, w, hB, hC => by
    simp only [anyIns, Bool.and_eq_true, Bool.not_eq_true', List.all_eq_true] at hB
    obtain ⟨h0, h1⟩ := hB
    refine ⟨fun h => by rw [h] at h0; simp at h0, fun i hi => ?_⟩
    obtain ⟨hm, hB'⟩ := h1 i hi
    obtain ⟨o, ho, hs⟩ := hop i (by simpa using hm)
    have h2 := hs n w (wpAny P md ops Q (g + n) (listed.setIfInBounds i true)) hC (fun w' hC' => wpAny_ins hop hL n _ w' hB' hC')
    unfold wpOp
    simp only [ho]
    split
    · rename_i hw; rw [if_pos hw] at h2; exact .inl h2
    · rename_i hw; rw [if_neg hw] at h2; exact h2
end
end Go.Fx
