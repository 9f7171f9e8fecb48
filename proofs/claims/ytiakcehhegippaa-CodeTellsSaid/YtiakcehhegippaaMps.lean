/- Mps: the operations of a map literal as steps of a region that draws its order. No condition. -/
import Derived.Test.YtiakcehhegippaaMpg
import Derived.Test.YtiakcehhegippaaStep
namespace Go.Fx
open Go.RowKit Go.ChangeMaps Go.MapKept Go.WideShapes
open Go.WideElems (Fit rd rg pl rd_key rd_val rg_of other_key)
open Go.Maps (Keyed)
section
variable {P : Program} {k e t : TypeId} {R : Value → Option (DataW Unit × List MemPlace)} {Good : Value → Value → Prop} {w : World} {b n : Nat} {ops : Array Oper} {o : Oper} {a : Act} {Q : Exit → Act → World → Prop} {m x v : Operand} {key val : Value} {kl : Lit} {y : DataW Unit × List MemPlace}
theorem step_insertG {K : Act → World → Prop} {E : Prop} (hgd : o.guard = none) (ho : o.op = .insert t m x v) (ht : P.underlying t = some (.map k e)) (KK : Keyed P k) (hm : a.eval m = .map (some b)) (hx : a.eval x = key) (hv : a.eval v = val) (hM : MapG P k R Good w b n) (hn : n < maxLen) (hkey : keyOf P k key = some kl) (hval : R val = some y) (hg : Good key val)
    (h : ∀ w', MapG P k R Good w' b (n + 1) → w.grownBy w' (some b) → w'.heap.size = w.heap.size → K (a.put o.dst undef) w') :
    if Region.wanted o (yielded ops a.tmps) = true then Oper.wp P o a w K Q else E := by
  have hw : Region.wanted o (yielded ops a.tmps) = true := by simp [Region.wanted, hgd]
  rw [if_pos hw]
  obtain ⟨w', hrun, h1, h2, h3⟩ := hM.put KK ht hn hkey hval hg
  unfold Oper.wp
  simp [execOp, ho, hm, hx, hv, hrun, Result.andThen]
  exact h w' h1 h2 h3
theorem step_makeG {K : Act → World → Prop} {E : Prop} (hgd : o.guard = none) (ho : o.op = .makeMap t none)
    (h : ∀ w', MapG P k R Good w' w.heap.size 0 → Ext w w' → w'.heap.size = w.heap.size + 1 → K (a.put o.dst (.map (some w.heap.size))) w') :
    if Region.wanted o (yielded ops a.tmps) = true then Oper.wp P o a w K Q else E := by
  have hw : Region.wanted o (yielded ops a.tmps) = true := by simp [Region.wanted, hgd]
  rw [if_pos hw]
  have hrun : (Instr.makeMap t none).run P w = .ok (.map (some w.heap.size)) (w.alloc (.map #[] 0)) := run_makeMap t w
  unfold Oper.wp
  simp [execOp, ho, hrun, Result.andThen]
  exact h _ (MapG.made w) (Ext.alloc _ _) (by simp)
theorem step_rangeG {K : Act → World → Prop} {E : Prop} (hgd : o.guard = none) (ho : o.op = .range t m) (ht : P.underlying t = some (.map k e)) (hm : a.eval m = .map (some b)) (hM : MapG P k R Good w b n)
    (h : ∀ w' cnt, RngG P k R Good w' b w.heap.size cnt → cnt ≤ n → Ext w w' → w'.heap.size = w.heap.size + 1 → K (a.put o.dst (.pointer (some ⟨w.heap.size, 0, none⟩))) w') :
    if Region.wanted o (yielded ops a.tmps) = true then Oper.wp P o a w K Q else E := by
  have hw : Region.wanted o (yielded ops a.tmps) = true := by simp [Region.wanted, hgd]
  rw [if_pos hw]
  obtain ⟨w', cnt, hrun, h1, h2, h3, h4⟩ := hM.range (t := t) (e := e) ht
  unfold Oper.wp
  simp [execOp, ho, hm, hrun, Result.andThen]
  exact h w' cnt h1 h2 (below_of_grown h3 (Nat.le_refl _) (by simp)) h4
end
end Go.Fx
