/- Clm: the map literal of the law's letters, and what is looked up in it. -/
import Derived.Test.YtiakcehhegippaaCgt
import Derived.Maps.Own
import Derived.Carry
namespace Go.Proofs.Ytiakcehhegippaa
open Go.RowKit Go.Fx Go.Maps
theorem wf1 : (Lit.int .i32 114).wf = true ∧ (Lit.int .i32 112).wf = true ∧ (Lit.int .i32 116).wf = true ∧ (Lit.int .i32 110).wf = true ∧ (Lit.int .i64 1).wf = true ∧ (Lit.int .i64 2).wf = true ∧ (Lit.int .i64 8).wf = true := by decide
theorem lm_keyed : Keyed Try.prog 21 := int_keyed Try.underlying21
abbrev LMap : TypeId := 49
theorem lm_ul : Try.prog.underlying LMap = some (.map 21 3) := by kernel_rfl
set_option maxRecDepth 10000 in
theorem lm_zero (w : World) : (zeroValue 3).run Try.prog w = .ok (.int .i64 0) w := by
  obtain ⟨i, hi, hz, _, _⟩ := info_parts (show (Try.prog.info? 3).map (fun i => (i.zero, i.size, i.bytes)) = some (some (.int .i64 0), 1, 8) by kernel_rfl)
  simp [zeroValue, typeInfo, hi, hz]
def lmD : DataW Unit := ((((DataW.map []).put (.int .i32 114) (.lit (.int .i64 1))).put (.int .i32 112) (.lit (.int .i64 1))).put (.int .i32 116) (.lit (.int .i64 2))).put (.int .i32 110) (.lit (.int .i64 8))
theorem lmD_at (l : Nat) (h : l = 114 ∨ l = 110 ∨ l = 112 ∨ l = 116) : lmD.atKey (.int .i32 (l : Int)) (.lit (.int .i64 0)) = .lit (.int .i64 (wdF l : Int)) := by
  rcases h with rfl | rfl | rfl | rfl <;> rfl
/-- The literal's four stores, and the look-up. -/
theorem lm_run (w : World) (l : Nat) (h : l = 114 ∨ l = 110 ∨ l = 112 ∨ l = 116) : ∃ w2 w3 w4 w5,
    (Instr.mapUpdate LMap (.map (some w.heap.size)) (.int .i32 114) (.int .i64 1)).run Try.prog (w.alloc (.map #[] 0)) = .ok () w2 ∧
    (Instr.mapUpdate LMap (.map (some w.heap.size)) (.int .i32 112) (.int .i64 1)).run Try.prog w2 = .ok () w3 ∧
    (Instr.mapUpdate LMap (.map (some w.heap.size)) (.int .i32 116) (.int .i64 2)).run Try.prog w3 = .ok () w4 ∧
    (Instr.mapUpdate LMap (.map (some w.heap.size)) (.int .i32 110) (.int .i64 8)).run Try.prog w4 = .ok () w5 ∧
    (Instr.lookup LMap (.map (some w.heap.size)) (.int .i32 (l : Int)) false).run Try.prog w5 = .ok (.int .i64 (wdF l : Int)) w5 ∧ Ext w w5 := by
  have hw := wf1
  have o1 := World.ownsMap_made (H := Unit) w Try.prog 21 (plainElem Try.prog 3)
  obtain ⟨w2, r2, o2, g2⟩ := o1.update lm_keyed lm_ul (by decide) (keyOf_int_mk Try.underlying21 hw.1) (plainElem_int Try.underlying3 hw.2.2.2.2.1)
  obtain ⟨w3, r3, o3, g3⟩ := o2.update lm_keyed lm_ul (by decide) (keyOf_int_mk Try.underlying21 hw.2.1) (plainElem_int Try.underlying3 hw.2.2.2.2.1)
  obtain ⟨w4, r4, o4, g4⟩ := o3.update lm_keyed lm_ul (by decide) (keyOf_int_mk Try.underlying21 hw.2.2.1) (plainElem_int Try.underlying3 hw.2.2.2.2.2.1)
  obtain ⟨w5, r5, o5, g5⟩ := o4.update lm_keyed lm_ul (by decide) (keyOf_int_mk Try.underlying21 hw.2.2.2.1) (plainElem_int Try.underlying3 hw.2.2.2.2.2.2)
  obtain ⟨c, r6, hat, _⟩ := o5.lookup_int lm_keyed lm_ul Try.underlying3 (lm_zero _) (key := .int .i32 (l : Int)) (keyOf_int_mk Try.underlying21 (by rcases h with rfl | rfl | rfl | rfl <;> decide))
  have hc : c = (wdF l : Int) := by
    have h1 := lmD_at l h
    unfold lmD at h1
    rw [h1] at hat
    simp only [DataW.lit.injEq, Lit.int.injEq, true_and] at hat
    exact hat.symm
  rw [hc] at r6
  refine ⟨w2, w3, w4, w5, r2, r3, r4, r5, r6, ?_⟩
  have hk : ∀ k, some w.heap.size = some k → w.heap.size ≤ k := fun k h => by cases h; exact Nat.le_refl _
  have e1 := Ext.alloc w (.map #[] 0)
  have e2 := e1.trans (below_of_grown g2 e1.size hk)
  have e3 := e2.trans (below_of_grown g3 e2.size hk)
  have e4 := e3.trans (below_of_grown g4 e3.size hk)
  exact e4.trans (below_of_grown g5 e4.size hk)
end Go.Proofs.Ytiakcehhegippaa
