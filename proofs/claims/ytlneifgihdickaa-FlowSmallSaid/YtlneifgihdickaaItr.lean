/- Itr: what an iterator of its own memory asks of the loop that ranges over it, and what it leaves. No condition. -/
import Derived.Test.YtlneifgihdickaaRange
import Derived.Test.YtlneifgihdickaaChg
namespace Go.Fx
open Go.RowKit Go.Proofs
/-- What a call of yield leaves; T: the iterator's own blocks. -/
def YlP (T : Nat → Prop) (W : World) (J : World → Prop) (X : World → Prop) (e : Ending) (W' : World) : Prop := (e = .returned (.bool true) ∧ J W' ∧ ∀ k, T k → W'.heap[k]? = W.heap[k]?) ∨ (e = .returned (.bool false) ∧ X W')
/-- What the loop promises: J0 where the iterator begins; J T o when o elements were yielded; X when the loop was left. -/
structure IterH (P : Program) (l : Nat) (f : Nat → Array Value) (n : Nat) (J0 : World → Prop) (J : (Nat → Prop) → Nat → World → Prop) (X : World → Prop) : Prop where
  start : ∀ W W' T, J0 W → Ext W W' → (∀ k, T k → W.heap.size ≤ k ∧ k < W'.heap.size) → J T 0 W'
  ext : ∀ T o W W', J T o W → Ext W W' → J T o W'
  own : ∀ T o W W', J T o W → Chg T W W' → J T o W'
  yield : ∀ T o W, o < n → J T o W → YieldAt Fence.wide 8 P l (f o) W (YlP T W (J T (o + 1)) X)
/-- What the iterator leaves. -/
def IterP (n : Nat) (J : (Nat → Prop) → Nat → World → Prop) (X : World → Prop) (e : Ending) (W' : World) : Prop := (∃ v, e = .returned v) ∧ ((∃ T, J T n W') ∨ X W')
theorem chg_putI (w : World) (l : Nat) (o : Obj) : Chg (fun k => k = l) w (w.putObj l o) := ⟨rfl, rfl, rfl, by simp, fun _ _ hk => World.putObj_heap_other hk⟩
theorem blk_of {g : Nat} {t : TypeId} {cs : Array Value} {w w' : World} (h : Blk w g t cs) (e : w'.heap[g]? = w.heap[g]?) : Blk w' g t cs := e.trans h
/-- A slice's room is as it was if its block is. -/
theorem Room.same {w w' : World} {A : Option Addr} {n c : Nat} {xs : List Value} (h : Room w A n c xs) (e : ∀ k, foot A c k → w'.heap[k]? = w.heap[k]?) : Room w' A n c xs := by
  refine ⟨h.1, h.2.1, h.2.2.1, ?_⟩
  rcases h.2.2.2 with h0 | ⟨g, o, rfl, hg, h1, h2⟩
  · exact .inl h0
  · by_cases h0 : c = 0
    · exact .inl h0
    · have e1 := e g ⟨by omega, o, rfl⟩
      have hg' : g < w'.heap.size := by
        rcases Nat.lt_or_ge g w'.heap.size with h | h
        · exact h
        · rw [Array.getElem?_eq_none h, Array.getElem?_eq_getElem hg] at e1; cases e1
      have hc : ∀ j, w'.cell? ⟨g, o + j, none⟩ = w.cell? ⟨g, o + j, none⟩ := fun j => World.cell?_of_block e1
      have hf : ∀ j, w'.frozen? ⟨g, o + j, none⟩ = w.frozen? ⟨g, o + j, none⟩ := fun j => World.frozen?_of_block e1
      exact .inr ⟨g, o, rfl, hg', fun j u hu => (hc j).trans (h1 j u hu), fun j hj => ⟨by rw [hc]; exact (h2 j hj).1, by rw [hf]; exact (h2 j hj).2⟩⟩
/-- What holds between two rounds of a range: the blocks of the world W0 in which the loop began are as they were, but for those of Mut. -/
structure RgJ (W0 : World) (Mut : Nat → Prop) (R : Obj) (T : Nat → Prop) (W : World) : Prop where
  chg : Chg Mut W0 W
  defd : W.heap[W0.heap.size]? = some (.deferred (some []))
  loop : W.heap[W0.heap.size + 1]? = some R
  size : W0.heap.size + 2 ≤ W.heap.size
  own : ∀ k, T k → W0.heap.size + 2 ≤ k ∧ k < W.heap.size
section
variable {W0 : World} {Mut : Nat → Prop} {R : Obj} {T T' : Nat → Prop} {W W' : World}
theorem RgJ.start (R : Obj) : RgJ W0 Mut R (fun _ => False) ((W0.alloc (.deferred (some []))).alloc R) := by
  refine ⟨Chg.ofExt ((Ext.alloc _ _).t (Ext.alloc _ _)), ?_, ?_, by simp, fun _ h => h.elim⟩
  · exact (Below.heap_alloc _ _ _ (by simp)).trans (World.alloc_heap_new W0 _)
  · have := World.alloc_heap_new (W0.alloc (.deferred (some []))) R
    rwa [World.size_alloc] at this
theorem RgJ.step (h : RgJ W0 Mut R T W) (ch : Chg T' W W') (hT : ∀ k, k < W.heap.size → T' k → W0.heap.size + 2 ≤ k ∨ (Mut k ∧ k < W0.heap.size)) : RgJ W0 Mut R T W' := by
  have hz := h.size
  have hn : ∀ k, W0.heap.size ≤ k → k < W0.heap.size + 2 → ¬ T' k := fun k h1 h2 ht => (hT k (by omega) ht).elim (fun h => by omega) (fun h => by omega)
  exact ⟨h.chg.trans ch (fun k h1 h2 => (hT k (by have := h.chg.size; omega) h2).elim (fun h => by omega) (fun h => h.1)), (ch.block _ (by omega) (hn _ (by omega) (by omega))).trans h.defd, (ch.block _ (by omega) (hn _ (by omega) (by omega))).trans h.loop, Nat.le_trans hz ch.size, fun k hk => ⟨(h.own k hk).1, Nat.lt_of_lt_of_le (h.own k hk).2 ch.size⟩⟩
theorem RgJ.e (h : RgJ W0 Mut R T W) (e : Ext W W') : RgJ W0 Mut R T W' := h.step (T' := fun _ => False) (Chg.ofExt e) (fun _ _ t => t.elim)
theorem RgJ.iown (h : RgJ W0 Mut R T W) (ch : Chg T W W') : RgJ W0 Mut R T W' := h.step ch (fun k _ t => .inl (h.own k t).1)
theorem RgJ.begin (h : RgJ W0 Mut R (fun _ => False) W) (e : Ext W W') (hT : ∀ k, T k → W.heap.size ≤ k ∧ k < W'.heap.size) : RgJ W0 Mut R T W' := by
  have h' := h.e e
  exact ⟨h'.chg, h'.defd, h'.loop, h'.size, fun k hk => ⟨Nat.le_trans h.size (hT k hk).1, (hT k hk).2⟩⟩
theorem RgJ.put (h : RgJ W0 Mut R T W) (R' : Obj) : RgJ W0 Mut R' T (W.putObj (W0.heap.size + 1) R') := by
  have hz := h.size
  have ch := chg_putI W (W0.heap.size + 1) R'
  exact ⟨h.chg.trans ch (fun k h1 h2 => by subst h2; omega), heap_put h.defd (by omega), World.putObj_heap_same (by omega), Nat.le_trans hz ch.size, fun k hk => ⟨(h.own k hk).1, Nat.lt_of_lt_of_le (h.own k hk).2 ch.size⟩⟩
theorem RgJ.blk (h : RgJ W0 Mut R T W) {g : Nat} {t : TypeId} {cs : Array Value} (hb : Blk W0 g t cs) (hm : ¬ Mut g) : Blk W g t cs := hb.chg h.chg hm
theorem RgJ.keep (h : RgJ W0 Mut R T W) {T' : Nat → Prop} (ch : Chg T' W W') (hT : ∀ k, T' k → ¬ T k) : ∀ k, T k → W'.heap[k]? = W.heap[k]? := fun k hk => ch.block k (h.own k hk).2 (fun ht => hT k ht hk)
end
end Go.Fx
