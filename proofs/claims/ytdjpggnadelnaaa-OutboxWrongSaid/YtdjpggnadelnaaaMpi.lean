/- Mpi: maps of integers to integers. -/
import Derived.Test.YtdjpggnadelnaaaChg
import Derived.Maps.OwnSet
import Derived.Maps.RangeWalk
namespace Go.Proofs.Ytdjpggnadelnaaa
open Go.RowKit Go.Fx
theorem ul_mi : Try.prog.underlying 106 = some (.map 3 3) := by kernel_rfl
theorem keyed_i : Maps.Keyed Try.prog 3 := Maps.int_keyed Try.underlying3
theorem zero_int (w : World) : (zeroValue 3).run Try.prog w = .ok (.int .i64 0) w := by kernel_rfl
theorem wf_i64 {x : Int} (h1 : -9223372036854775808 ≤ x) (h2 : x ≤ 9223372036854775807) : (Lit.int .i64 x).wf = true := by
  have e1 : IntKind.i64.min = -9223372036854775808 := by decide
  have e2 : IntKind.i64.max = 9223372036854775807 := by decide
  simp [Lit.wf, e1, e2]; omega
/-- Block b is a map of at most n entries: f. -/
def MapI (w : World) (b n : Nat) (f : Int → Option Int) : Prop :=
  ∃ D : DataW Unit, w.ownsMap Try.prog 3 (plainElem Try.prog 3) b n D ∧ ∀ k : Int, Maps.has D (.int .i64 k) = (f k).isSome ∧ ∀ z, D.atKey (.int .i64 k) z = match f k with | some v => .lit (.int .i64 v) | none => z
theorem MapI.made (w : World) : MapI (w.alloc (.map #[] 0)) w.heap.size 0 (fun _ => none) :=
  ⟨.map [], World.ownsMap_made _ _ _ _, fun _ => ⟨rfl, fun _ => rfl⟩⟩
theorem MapI.ext {w w' : World} {b n : Nat} {f : Int → Option Int} (h : MapI w b n f) (e : Ext w w') : MapI w' b n f := by
  obtain ⟨D, ⟨es, cl, hb, r⟩, h2⟩ := h
  exact ⟨D, ⟨es, cl, (e.block b (Array.getElem?_eq_some_iff.1 hb).1).trans hb, r⟩, h2⟩
theorem MapI.same {w w' : World} {b n : Nat} {f : Int → Option Int} (h : MapI w b n f) (e : w'.heap[b]? = w.heap[b]?) : MapI w' b n f := by
  obtain ⟨D, ⟨es, cl, hb, r⟩, h2⟩ := h
  exact ⟨D, ⟨es, cl, e.trans hb, r⟩, h2⟩
theorem MapI.lt {w : World} {b n : Nat} {f : Int → Option Int} (h : MapI w b n f) : b < w.heap.size := by
  obtain ⟨D, h1, _⟩ := h
  exact h1.lt
theorem MapI.look {w : World} {b n : Nat} {f : Int → Option Int} (h : MapI w b n f) {k : Int} (hk : (Lit.int .i64 k).wf = true) :
    (Instr.lookup 106 (.map (some b)) (.int .i64 k) true).run Try.prog w = .ok (.tuple #[.int .i64 ((f k).getD 0), .bool (f k).isSome]) w := by
  obtain ⟨D, h1, h2⟩ := h
  obtain ⟨v, ps, hrun, hv⟩ := h1.look_ok keyed_i ul_mi (zero_int w) (plainElem_int Try.underlying3 (a := 0) (by decide)) (Maps.keyOf_int_mk Try.underlying3 hk)
  obtain ⟨e1, e2⟩ := h2 k
  rw [e2] at hv
  rw [e1] at hrun
  obtain ⟨a, rfl, hz, _⟩ := plainElem_int_inv Try.underlying3 hv
  rw [hrun]
  cases hf : f k with
  | none => rw [hf] at hz; simp at hz; rw [← hz.1]; rfl
  | some x => rw [hf] at hz; simp at hz; rw [← hz.1]; rfl
theorem MapI.put {w : World} {b n : Nat} {f : Int → Option Int} (h : MapI w b n f) {k i : Int} (hk : (Lit.int .i64 k).wf = true) (hn : n < maxLen) (hi : (Lit.int .i64 i).wf = true) :
    ∃ w', (Instr.mapUpdate 106 (.map (some b)) (.int .i64 k) (.int .i64 i)).run Try.prog w = .ok () w' ∧ MapI w' b (n + 1) (fun k' => if k' = k then some i else f k') ∧ Chg (fun j => j = b) w w' := by
  obtain ⟨D, h1, h2⟩ := h
  obtain ⟨w', hrun, h3, h4⟩ := h1.update keyed_i ul_mi hn (Maps.keyOf_int_mk Try.underlying3 hk) (plainElem_int Try.underlying3 hi)
  refine ⟨w', hrun, ⟨_, h3, fun k' => ?_⟩, Chg.ofGrown h4 (fun k' e _ => by cases e; rfl)⟩
  by_cases e : k' = k
  · subst e
    simp only [if_true]
    exact ⟨Maps.has_put_same h1.isMap (keyed_i.key (Maps.keyOf_int_mk Try.underlying3 hk)) _, fun z => Maps.atKey_put_same h1.isMap (keyed_i.key (Maps.keyOf_int_mk Try.underlying3 hk)) _ _⟩
  · have hne : Lit.int .i64 k' ≠ Lit.int .i64 k := fun e' => e (by simpa using e')
    simp only [e, if_false]
    rw [Maps.has_put_other hne]
    exact ⟨(h2 k').1, fun z => by rw [Maps.atKey_put_other hne]; exact (h2 k').2 z⟩
end Go.Proofs.Ytdjpggnadelnaaa
