/- Aps: what holds between two rounds of the loop of slices.AppendSeq. No condition. -/
import Derived.Test.YtlneifgihdickaaItr
import Derived.Test.YtlneifgihdickaaStF
namespace Go.Fx
open Go.RowKit Go.Proofs
structure ApJ {α : Type} (tS : TypeId) (s : Nat) (f : α → List Value) (xs : List α) (w : World) (R : Obj) (T : Nat → Prop) (o : Nat) (W : World) : Prop where
  out : ∃ A c, Blk W w.heap.size tS #[.slice A o c] ∧ RoomS s W A o c ((xs.take o).flatMap f) ∧ (∀ k, foot A c k → w.heap.size + 3 ≤ k ∧ ¬ T k)
  own : ∀ k, T k → w.heap.size + 3 ≤ k ∧ k < W.heap.size
  defd : W.heap[w.heap.size + 1]? = some (.deferred (some []))
  loop : W.heap[w.heap.size + 2]? = some R
  ext : Ext w W
  size : w.heap.size + 3 ≤ W.heap.size
structure ApJ0 (tS : TypeId) (w : World) (R : Obj) (W : World) : Prop where
  out : Blk W w.heap.size tS #[.slice none 0 0]
  defd : W.heap[w.heap.size + 1]? = some (.deferred (some []))
  loop : W.heap[w.heap.size + 2]? = some R
  ext : Ext w W
  size : w.heap.size + 3 ≤ W.heap.size
section
variable {α : Type} {tS : TypeId} {s : Nat} {f : α → List Value} {xs : List α} {w : World} {R : Obj} {T : Nat → Prop} {o : Nat} {W W' : World}
theorem ApJ0.start (h : ApJ0 tS w R W) (e : Ext W W') (hT : ∀ k, T k → W.heap.size ≤ k ∧ k < W'.heap.size) : ApJ tS s f xs w R T 0 W' := by
  have hz := h.size
  have hz' := e.size
  exact ⟨⟨none, 0, h.out.ext e, RoomS.nil, fun k hk => absurd hk foot_none⟩, fun k hk => ⟨Nat.le_trans hz (hT k hk).1, (hT k hk).2⟩, (e.block _ (by omega)).trans h.defd, (e.block _ (by omega)).trans h.loop, h.ext.t e, by omega⟩
theorem ApJ.chg {T' : Nat → Prop} (h : ApJ tS s f xs w R T o W) (ch : Chg T' W W') (hT : ∀ k, T' k → T k) : ApJ tS s f xs w R T o W' := by
  obtain ⟨A, c, h1, h2, h3⟩ := h.out
  have hz := h.size
  have low : ∀ k, k < w.heap.size + 3 → ¬ T' k := fun k hk ht => by have := (h.own k (hT k ht)).1; omega
  exact ⟨⟨A, c, h1.chg ch (low _ (by omega)), h2.chg ch (fun k hk ht => (h3 k hk).2 (hT k ht)), h3⟩, fun k hk => ⟨(h.own k hk).1, Nat.lt_of_lt_of_le (h.own k hk).2 ch.size⟩,
    (ch.block _ (by omega) (low _ (by omega))).trans h.defd, (ch.block _ (by omega) (low _ (by omega))).trans h.loop, h.ext.trans (ch.below h.ext.size (fun k hk => low k (by omega))), Nat.le_trans hz ch.size⟩
theorem ApJ.e (h : ApJ tS s f xs w R T o W) (e : Ext W W') : ApJ tS s f xs w R T o W' := h.chg (T' := fun _ => False) (Chg.ofExt e) (fun _ t => t.elim)
theorem ApJ.put (h : ApJ tS s f xs w R T o W) (R' : Obj) : ApJ tS s f xs w R' T o (W.putObj (w.heap.size + 2) R') := by
  obtain ⟨A, c, h1, h2, h3⟩ := h.out
  have hz := h.size
  have ch := chg_put W (w.heap.size + 2) R'
  exact ⟨⟨A, c, h1.chg ch (by omega), h2.chg ch (fun k hk e => by have := (h3 k hk).1; omega), h3⟩, fun k hk => ⟨(h.own k hk).1, Nat.lt_of_lt_of_le (h.own k hk).2 ch.size⟩,
    heap_put h.defd (by omega), World.putObj_heap_same (by omega), h.ext.trans (ch.below h.ext.size (fun k hk e => by omega)), Nat.le_trans hz ch.size⟩
/-- One element is appended. -/
theorem ApJ.push {A A2 : Option Addr} {c c2 : Nat} {x : α} {w1 w2 : World} (h : ApJ tS s f xs w R T o W) (hx : xs[o]? = some x) (hout : Blk W w.heap.size tS #[.slice A o c]) (h3 : ∀ k, foot A c k → w.heap.size + 3 ≤ k ∧ ¬ T k) (e1 : Ext W w1)
    (r : RoomS s w2 A2 (o + 1) c2 ((xs.take o).flatMap f ++ [x].flatMap f)) (ch : Chg (foot A c) w1 w2) (ft : ∀ k, foot A2 c2 k → foot A c k ∨ w1.heap.size ≤ k) :
    ApJ tS s f xs w R T (o + 1) (w2.setCell ⟨w.heap.size, 0, none⟩ (.slice A2 (o + 1) c2)) ∧ ∀ k, T k → (w2.setCell ⟨w.heap.size, 0, none⟩ (.slice A2 (o + 1) c2)).heap[k]? = W.heap[k]? := by
  have hz := h.size
  have hz1 := e1.size
  have c0 : Chg (foot A c) W w2 := (Chg.ofExt e1).t ch
  have s1 : Chg (fun k => k = w.heap.size) w2 (w2.setCell ⟨w.heap.size, 0, none⟩ (.slice A2 (o + 1) c2)) := Chg.set w2 w.heap.size 0 _ rfl
  have cc : Chg (fun k => foot A c k ∨ k = w.heap.size) W (w2.setCell ⟨w.heap.size, 0, none⟩ (.slice A2 (o + 1) c2)) := (c0.mono (fun k _ hk => .inl hk)).t (s1.mono (fun k _ hk => .inr hk))
  have keep : ∀ k, w.heap.size + 1 ≤ k → k < w.heap.size + 3 → ¬ (foot A c k ∨ k = w.heap.size) := fun k h1 h2 hh => hh.elim (fun h4 => by have := (h3 k h4).1; omega) (fun h4 => by omega)
  have ftn : ∀ k, foot A2 c2 k → w.heap.size + 3 ≤ k ∧ ¬ T k := fun k hk => (ft k hk).elim (h3 k) (fun h1 => ⟨by omega, fun ht => by have := (h.own k ht).2; omega⟩)
  refine ⟨⟨⟨A2, c2, (hout.chg c0 (fun hf => by have := (h3 _ hf).1; omega)).set0 _, ?_, ftn⟩, fun k hk => ⟨(h.own k hk).1, Nat.lt_of_lt_of_le (h.own k hk).2 cc.size⟩, (cc.block _ (by omega) (keep _ (by omega) (by omega))).trans h.defd, (cc.block _ (by omega) (keep _ (by omega) (by omega))).trans h.loop,
    h.ext.trans (cc.below h.ext.size (fun k hk hh => hh.elim (fun h4 => by have := (h3 k h4).1; omega) (fun h4 => by omega))), Nat.le_trans hz cc.size⟩, fun k hk => cc.block k (h.own k hk).2 (fun hh => hh.elim (fun h4 => (h3 k h4).2 hk) (fun h4 => by have := (h.own k hk).1; omega))⟩
  rw [take_snoc hx, List.flatMap_append]
  exact r.chg s1 (fun k hk e => by have := (ftn k hk).1; omega)
end
end Go.Fx
