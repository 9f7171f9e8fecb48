/- Mpg: a map whose entries are all good, filled and ranged over in whatever order. No condition. -/
import Derived.Test.YtiakcehhegippaaLib
import Derived.Maps.RangeWalk
namespace Go.Fx
open Go.RowKit Go.ChangeMaps Go.MapKept Go.WideShapes
open Go.WideElems (Fit rd rg pl rd_key rd_val rg_of other_key)
open Go.Maps (Keyed)
section
variable {P : Program} {k e t : TypeId} {R : Value → Option (DataW Unit × List MemPlace)} {Good : Value → Value → Prop} {w w' : World} {b n r : Nat}
/-- Block b is a map of at most n entries, each of them good. -/
def MapG (P : Program) (k : TypeId) (R : Value → Option (DataW Unit × List MemPlace)) (Good : Value → Value → Prop) (w : World) (b n : Nat) : Prop :=
  ∃ es clock, w.heap[b]? = some (.map es clock) ∧ Fit P k R es clock ∧ es.size ≤ n ∧ ∀ x ∈ es.toList, Good x.key x.val
theorem MapG.made (w : World) : MapG P k R Good (w.alloc (.map #[] 0)) w.heap.size 0 :=
  ⟨#[], 0, (MapKept.heap_alloc w _).1, ⟨by simp, stamped_empty 0, by simp⟩, Nat.le_refl _, by simp⟩
theorem MapG.lt (h : MapG P k R Good w b n) : b < w.heap.size := by
  obtain ⟨es, clock, hb, _⟩ := h
  exact (Array.getElem?_eq_some_iff.1 hb).1
theorem MapG.put (h : MapG P k R Good w b n) (K : Keyed P k) (ht : P.underlying t = some (.map k e)) (hn : n < maxLen) {key val : Value} {kl : Lit} {y : DataW Unit × List MemPlace} (hkey : keyOf P k key = some kl) (hv : R val = some y) (hg : Good key val) :
    ∃ w', (Instr.mapUpdate t (.map (some b)) key val).run P w = .ok () w' ∧ MapG P k R Good w' b (n + 1) ∧ w.grownBy w' (some b) ∧ w'.heap.size = w.heap.size := by
  obtain ⟨es, clock, hb, F, hs, hgood⟩ := h
  obtain ⟨es', clock', hrun, F', hput, _, _, hall⟩ := Maps.fit_store (R' := R) K ht hb F (Nat.lt_of_le_of_lt hs hn) (fun _ _ _ _ hz => hz) hkey hv
  refine ⟨_, hrun, ⟨es', clock', heap_setBlock_same hb _, F', ?_, fun x hx => ?_⟩, ⟨rfl, rfl, rfl, by simp [setBlock], fun i _ hi => heap_setBlock_other hb _ (fun e => hi (by rw [e]))⟩, by simp [setBlock]⟩
  · have e1 : es'.size = ((es'.toList.map (rg P k R)).foldr DataW.insert []).length := by rw [length_sorted]; simp
    rw [e1, hput]
    unfold putKey
    rw [length_insert]
    have e2 := List.length_filter_le (notKey kl) ((es.toList.map (rg P k R)).foldr DataW.insert [])
    rw [length_sorted] at e2
    simp at e2
    omega
  · rcases hall x hx with ⟨h1, _⟩ | ⟨h1, h2⟩
    · exact hgood x h1
    · rw [h1, h2]; exact hg
/-- Block r ranges over the map in block b; cnt entries are still to come. -/
def RngG (P : Program) (k : TypeId) (R : Value → Option (DataW Unit × List MemPlace)) (Good : Value → Value → Prop) (w : World) (b r cnt : Nat) : Prop :=
  ∃ es clock since seen c0, w.heap[b]? = some (.map es clock) ∧ Fit P k R es clock ∧ (∀ x ∈ es.toList, Good x.key x.val) ∧ w.heap[r]? = some (.mapIter (some b) since seen c0) ∧ (∀ x ∈ es.toList, x.born < since) ∧ since ≤ c0 ∧ since ≤ clock ∧ (leftOf es seen).size = cnt
theorem MapG.range (h : MapG P k R Good w b n) (ht : P.underlying t = some (.map k e)) :
    ∃ w' cnt, (Instr.range t (.map (some b))).run P w = .ok (.pointer (some ⟨w.heap.size, 0, none⟩)) w' ∧ RngG P k R Good w' b w.heap.size cnt ∧ cnt ≤ n ∧ w.grownBy w' none ∧ w'.heap.size = w.heap.size + 1 := by
  have hlt := h.lt
  obtain ⟨es, clock, hb, F, hs, hg⟩ := h
  refine ⟨_, _, run_range_map w t k e b es clock ht hb, ⟨es, clock, clock, #[], clock, ((MapKept.heap_alloc w _).2 b hlt).trans hb, F, hg, (MapKept.heap_alloc w _).1, F.stamped.1, Nat.le_refl _, Nat.le_refl _, rfl⟩, ?_, World.grownBy_alloc w _ none, by simp⟩
  exact Nat.le_trans (by unfold leftOf; exact Array.size_filter_le) hs
theorem RngG.ne {cnt : Nat} (h : RngG P k R Good w b r cnt) : r ≠ b := by
  obtain ⟨es, clock, since, seen, c0, hb, _, _, hr, _⟩ := h
  intro e; rw [e, hb] at hr; cases hr
theorem RngG.lt {cnt : Nat} (h : RngG P k R Good w b r cnt) : r < w.heap.size ∧ b < w.heap.size := by
  obtain ⟨es, clock, since, seen, c0, hb, _, _, hr, _⟩ := h
  exact ⟨(Array.getElem?_eq_some_iff.1 hr).1, (Array.getElem?_eq_some_iff.1 hb).1⟩
theorem RngG.keep {cnt : Nat} (h : RngG P k R Good w b r cnt) (h1 : w'.heap[b]? = w.heap[b]?) (h2 : w'.heap[r]? = w.heap[r]?) : RngG P k R Good w' b r cnt := by
  obtain ⟨es, clock, since, seen, c0, hb, F, hg, hr, hrest⟩ := h
  exact ⟨es, clock, since, seen, c0, h1.trans hb, F, hg, h2.trans hr, hrest⟩
theorem RngG.ext {cnt : Nat} (h : RngG P k R Good w b r cnt) (e : Ext w w') : RngG P k R Good w' b r cnt := h.keep (e.block _ h.lt.2) (e.block _ h.lt.1)
theorem RngG.next {cnt : Nat} (h : RngG P k R Good w b r cnt) (ty : TypeId) :
    (cnt = 0 ∧ (Instr.next (.pointer (some ⟨r, 0, none⟩)) false ty).run P w = .ok (.tuple #[.bool false]) w) ∨
    ∃ key v w' cnt', Good key v ∧ (Instr.next (.pointer (some ⟨r, 0, none⟩)) false ty).run P w = .ok (.tuple #[.bool true, key, v]) w' ∧ RngG P k R Good w' b r cnt' ∧ cnt' < cnt ∧ w.grownBy w' (some r) ∧ w'.heap.size = w.heap.size ∧ (Instr.entry (.pointer (some ⟨r, 0, none⟩))).run P w' = .ok (.tuple #[key, v]) w' := by
  have hne := h.ne
  obtain ⟨es, clock, since, seen, c0, hb, F, hg, hr, hold, hsc, hsk, rfl⟩ := h
  rcases run_next_at (P := P) w ty r b since c0 seen es clock hr hb hold hsc with ⟨h0, hrun⟩ | ⟨e, he, w1, hal, hrun⟩
  · exact Or.inl ⟨h0, hrun⟩
  · obtain ⟨hem, hes⟩ := mem_left he
    have hr1 : w1.heap[r]? = some (.mapIter (some b) since seen c0) := by rcases hal with rfl | rfl <;> exact hr
    have hb1 : w1.heap[b]? = some (.map es clock) := by rcases hal with rfl | rfl <;> exact hb
    have hset := Go.MapKept.heap_set (o' := .mapIter (some b) since (seen.push e.born) clock) hr1
    have hb' : (setBlock w1 r (.mapIter (some b) since (seen.push e.born) clock)).heap[b]? = some (.map es clock) := (hset.2 b (fun e1 => hne e1.symm)).trans hb1
    refine Or.inr ⟨e.key, e.val, _, _, hg e hem, hrun, ⟨es, clock, since, seen.push e.born, clock, hb', F, hg, hset.1, hold, hsk, hsk, rfl⟩, left_shrinks es seen e he, ?_, ?_, run_entry_at _ r b since seen es clock e hset.1 hb' hem ((stamped_iff es clock).1 F.stamped).2.1⟩
    · rcases hal with rfl | rfl <;> exact ⟨rfl, rfl, rfl, by simp [setBlock], fun i _ hi => hset.2 i (fun e1 => hi (by rw [e1]))⟩
    · rcases hal with rfl | rfl <;> simp [setBlock]
end
end Go.Fx
