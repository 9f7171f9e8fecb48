/- Chg: which blocks a piece of code turns; slices with room in the middle of a block, and appending to them. No condition. -/
import Derived.Test.YtlneifgihdickaaMem
import Derived.Laws.IdiomCopy
namespace Go.Fx
open Go.RowKit

/-- Blocks in T may have turned, new ones may have come; nothing else. -/
structure Chg (T : Nat → Prop) (w w' : World) : Prop where
  os : w'.os = w.os
  tape : w'.tape = w.tape
  output : w'.output = w.output
  size : w.heap.size ≤ w'.heap.size
  block : ∀ k, k < w.heap.size → ¬ T k → w'.heap[k]? = w.heap[k]?
section
variable {T T' : Nat → Prop} {w w1 w' : World}
theorem Chg.refl (T : Nat → Prop) (w : World) : Chg T w w := ⟨rfl, rfl, rfl, Nat.le_refl _, fun _ _ _ => rfl⟩
theorem Chg.mono (h : Chg T w w') (hT : ∀ k, k < w.heap.size → T k → T' k) : Chg T' w w' := ⟨h.os, h.tape, h.output, h.size, fun k hk hn => h.block k hk (fun t => hn (hT k hk t))⟩
theorem Chg.trans (h : Chg T w w1) (h' : Chg T' w1 w') (hT : ∀ k, k < w.heap.size → T' k → T k) : Chg T w w' :=
  ⟨h'.os.trans h.os, h'.tape.trans h.tape, h'.output.trans h.output, Nat.le_trans h.size h'.size, fun k hk hn => (h'.block k (Nat.lt_of_lt_of_le hk h.size) (fun t => hn (hT k hk t))).trans (h.block k hk hn)⟩
theorem Chg.t (h : Chg T w w1) (h' : Chg T w1 w') : Chg T w w' := h.trans h' (fun _ _ t => t)
theorem Chg.ofExt (e : Ext w w') : Chg T w w' := ⟨e.os, e.tape, e.output, e.size, fun k hk _ => e.block k hk⟩
theorem Chg.e (h : Chg T w w1) (e : Ext w1 w') : Chg T w w' := h.t (Chg.ofExt e)
theorem Chg.ofGrown {row : Option Nat} (g : w.grownBy w' row) (hT : ∀ k, row = some k → k < w.heap.size → T k) : Chg T w w' :=
  ⟨g.os, g.tape, g.output, g.size, fun k hk hn => g.block k hk (fun e => hn (hT k e.symm hk))⟩
theorem Chg.set (w : World) (b o : Nat) (v : Value) (hT : T b) : Chg T w (w.setCell ⟨b, o, none⟩ v) := ⟨rfl, rfl, rfl, by simp, fun k _ hn => heap_set (fun e => hn (by rw [e]; exact hT)) v⟩
theorem Chg.alloc (w : World) (o : Obj) : Chg T w (w.alloc o) := Chg.ofExt (Ext.alloc w o)
theorem Chg.drew (w : World) : Chg T w w.drew := Chg.ofExt (Ext.drew w)
theorem Chg.drewN (w : World) (n : Nat) : Chg T w (w.drewN n) := Chg.ofExt (Ext.drewN w n)
theorem Chg.below {B : Nat} (h : Chg T w w') (hB : B ≤ w.heap.size) (hT : ∀ k, k < B → ¬ T k) : Below B w w' := ⟨h.os, h.tape, h.output, h.size, fun k hk => h.block k (by omega) (hT k hk)⟩
theorem Chg.ofBelow {B : Nat} (h : Below B w w') (hT : ∀ k, B ≤ k → k < w.heap.size → T k) : Chg T w w' := ⟨h.os, h.tape, h.output, h.size, fun k hk hn => h.block k (by
  rcases Nat.lt_or_ge k B with h1 | h1
  · exact h1
  · exact absurd (hT k h1 hk) hn)⟩
theorem Chg.ext (h : Chg (fun _ => False) w w') : Ext w w' := h.below (Nat.le_refl _) (fun _ _ t => t)
theorem Chg.cell (h : Chg T w w') {p : Addr} (hk : p.block < w.heap.size) (hn : ¬ T p.block) : w'.cell? p = w.cell? p := World.cell?_of_block (h.block _ hk hn)
theorem Chg.frozen (h : Chg T w w') {p : Addr} (hk : p.block < w.heap.size) (hn : ¬ T p.block) : w'.frozen? p = w.frozen? p := World.frozen?_of_block (h.block _ hk hn)
theorem Chg.lt (h : Chg T w w') {k : Nat} (hk : k < w.heap.size) : k < w'.heap.size := Nat.lt_of_lt_of_le hk h.size
end

/-- The blocks that a slice lies in: its own, if it has any room. -/
def foot (A : Option Addr) (c : Nat) (k : Nat) : Prop := 0 < c ∧ ∃ o, A = some ⟨k, o, none⟩
theorem foot_none {c k : Nat} : ¬ foot none c k := fun h => by obtain ⟨_, o, h⟩ := h; cases h
theorem foot_zero {A : Option Addr} {k : Nat} : ¬ foot A 0 k := fun h => absurd h.1 (by omega)
theorem foot_some {b o c k : Nat} (h : foot (some ⟨b, o, none⟩) c k) : k = b := by obtain ⟨_, o', e⟩ := h; cases e; rfl
theorem foot_mono {A : Option Addr} {c c' k : Nat} (h : foot A c k) (hc : c ≤ c') : foot A c' k := ⟨by have := h.1; omega, h.2⟩

/-- The slice '.slice A n c' may be written in its room, and holds xs. -/
def Room (w : World) (A : Option Addr) (n c : Nat) (xs : List Value) : Prop :=
  xs.length = n ∧ n ≤ c ∧ c ≤ maxLen ∧ (c = 0 ∨ ∃ g o, A = some ⟨g, o, none⟩ ∧ g < w.heap.size ∧ (∀ j u, xs[j]? = some u → w.cell? ⟨g, o + j, none⟩ = some u) ∧ (∀ j, j < c → (w.cell? ⟨g, o + j, none⟩).isSome = true ∧ w.frozen? ⟨g, o + j, none⟩ = false))
section
variable {T : Nat → Prop} {w w' : World} {A : Option Addr} {n c : Nat} {xs : List Value}
theorem Room.nil : Room w none 0 0 [] := ⟨rfl, Nat.le_refl _, by simp [maxLen], .inl rfl⟩
theorem Room.zero : Room w A 0 0 [] := ⟨rfl, Nat.le_refl _, by simp [maxLen], .inl rfl⟩
theorem Room.lt (h : Room w A n c xs) {k : Nat} (hf : foot A c k) : k < w.heap.size := by
  rcases h.2.2.2 with h0 | ⟨g, o, rfl, hg, _⟩
  · exact absurd hf.1 (by omega)
  · rw [foot_some hf]; exact hg
theorem Room.chg (h : Room w A n c xs) (hc : Chg T w w') (hT : ∀ k, foot A c k → ¬ T k) : Room w' A n c xs := by
  refine ⟨h.1, h.2.1, h.2.2.1, ?_⟩
  rcases h.2.2.2 with h0 | ⟨g, o, rfl, hg, h1, h2⟩
  · exact .inl h0
  · by_cases h0 : c = 0
    · exact .inl h0
    · have hn := hT g ⟨by omega, o, rfl⟩
      exact .inr ⟨g, o, rfl, hc.lt hg, fun j u hu => (hc.cell (p := ⟨g, o + j, none⟩) hg hn).trans (h1 j u hu), fun j hj => ⟨by rw [hc.cell (p := ⟨g, o + j, none⟩) hg hn]; exact (h2 j hj).1, (hc.frozen (p := ⟨g, o + j, none⟩) hg hn).trans (h2 j hj).2⟩⟩
theorem Room.ext (h : Room w A n c xs) (e : Ext w w') : Room w' A n c xs := h.chg (T := fun _ => False) (Chg.ofExt e) (fun _ _ t => t)
theorem Room.rd {α : Type} {f : α → Value} {ys : List α} (h : Room w A n c (ys.map f)) : Rd f w A n ys := by
  refine ⟨by have := h.1; simpa using this, fun hn => ?_⟩
  rcases h.2.2.2 with h0 | ⟨g, o, rfl, hg, h1, h2⟩
  · have := h.2.1; omega
  · exact ⟨g, o, rfl, hg, fun i x hx => h1 i _ (by rw [List.getElem?_map, hx]; rfl)⟩
theorem Room.of_own {base : Nat} {e : TypeId} (h : w.ownsRow base e 1 (.slice A n c) n xs) : Room w A n c xs := by
  refine ⟨by have := h.1; simpa using this, own_cap h, ?_, ?_⟩
  · rcases h.2 with ⟨h1, h2⟩ | ⟨g, cap, cur, h1, -, -, h2, h3, -⟩
    · simp only [Value.slice.injEq] at h1; simp only [maxLen]; omega
    · simp only [Value.slice.injEq] at h1; omega
  · rcases h.2 with ⟨h1, h2⟩ | ⟨g, cap, cur, h1, _, hg, hn, hm, hs, ht⟩
    · simp only [Value.slice.injEq] at h1; exact .inl h1.2.2
    · simp only [Value.slice.injEq] at h1
      obtain ⟨rfl, -, rfl⟩ := h1
      refine .inr ⟨g, 0, rfl, (Array.getElem?_eq_some_iff.1 hg).1, fun j u hu => ?_, fun j hj => ⟨?_, ?_⟩⟩
      · rw [Nat.zero_add, cell_of_row w g j cur e (0, 0) hg]
        rw [← ht, List.getElem?_take] at hu
        split at hu
        · simpa using hu
        · cases hu
      · rw [Nat.zero_add, cell_of_row w g j cur e (0, 0) hg, Array.getElem?_eq_getElem (by omega)]; rfl
      · simp [World.frozen?, hg]
theorem foot_own {base : Nat} {e : TypeId} (h : w.ownsRow base e 1 (.slice A n c) n xs) {k : Nat} (hf : foot A c k) : base ≤ k := by
  obtain ⟨_, o, rfl⟩ := hf
  exact (h.lt k rfl).1
theorem Room.of_blk {g : Nat} {t : TypeId} {cs : Array Value} (h : Blk w g t cs) (hn : cs.size = n) (hm : n ≤ maxLen) : Room w (some ⟨g, 0, none⟩) n n cs.toList :=
  ⟨by simp [hn], Nat.le_refl _, hm, .inr ⟨g, 0, rfl, h.lt, fun j u hu => by rw [Nat.zero_add, h.cell]; simpa using hu, fun j hj => ⟨by rw [Nat.zero_add, h.cell, Array.getElem?_eq_getElem (by omega)]; rfl, by rw [Nat.zero_add]; exact h.frozen j⟩⟩⟩
/-- s[:k] -/
theorem Room.take (h : Room w A n c xs) {k : Nat} (hk : k ≤ n) : Room w A k c (xs.take k) := by
  refine ⟨by rw [List.length_take, h.1]; omega, by have := h.2.1; omega, h.2.2.1, ?_⟩
  rcases h.2.2.2 with h0 | ⟨g, o, rfl, hg, h1, h2⟩
  · exact .inl h0
  · refine .inr ⟨g, o, rfl, hg, fun j u hu => h1 j u ?_, h2⟩
    rw [List.getElem?_take] at hu
    split at hu
    · exact hu
    · cases hu
/-- s[k:], the capacity larger than k. -/
theorem Room.drop {g o : Nat} (h : Room w (some ⟨g, o, none⟩) n c xs) {k : Nat} (hk : k ≤ n) : Room w (some ⟨g, o + k, none⟩) (n - k) (c - k) (xs.drop k) := by
  refine ⟨by rw [List.length_drop, h.1], by have := h.2.1; omega, by have := h.2.2.1; omega, ?_⟩
  rcases h.2.2.2 with h0 | ⟨g', o', e, hg, h1, h2⟩
  · exact .inl (by omega)
  · cases e
    refine .inr ⟨g, o + k, rfl, hg, fun j u hu => ?_, fun j hj => ?_⟩
    · rw [List.getElem?_drop] at hu
      rw [Nat.add_assoc]; exact h1 _ u hu
    · rw [Nat.add_assoc]; exact h2 _ (by omega)
/-- A cell of the room is written. -/
theorem Room.set {g o : Nat} (h : Room w (some ⟨g, o, none⟩) n c xs) {k : Nat} (hk : k < n) (u : Value) : Room (w.setCell ⟨g, o + k, none⟩ u) (some ⟨g, o, none⟩) n c (xs.set k u) := by
  refine ⟨by rw [List.length_set, h.1], h.2.1, h.2.2.1, ?_⟩
  rcases h.2.2.2 with h0 | ⟨g', o', e, hg, h1, h2⟩
  · exact .inl h0
  · cases e
    have hc := h.2.1
    refine .inr ⟨g, o, rfl, by rw [setCell_size]; exact hg, fun j v hv => ?_, fun j hj => ⟨?_, ?_⟩⟩
    · by_cases hjk : k = j
      · subst hjk
        obtain ⟨x, hx⟩ := Option.isSome_iff_exists.1 (h2 k (by omega)).1
        rw [List.getElem?_set_self (by rw [h.1]; exact hk)] at hv
        cases hv
        exact World.cell?_setCell_same _ _ _ hx
      · rw [List.getElem?_set_ne hjk] at hv
        rw [World.cell?_setCell_other _ _ _ _ (by simp)]
        exact h1 j v hv
    · by_cases hjk : k = j
      · subst hjk
        obtain ⟨x, hx⟩ := Option.isSome_iff_exists.1 (h2 k hj).1
        rw [World.cell?_setCell_same _ _ _ hx]; rfl
      · rw [World.cell?_setCell_other _ _ _ _ (by simp)]
        exact (h2 j hj).1
    · rw [World.frozen?_setCell]; exact (h2 j hj).2
theorem Room.cellAt {g o : Nat} (h : Room w (some ⟨g, o, none⟩) n c xs) {k : Nat} {u : Value} (hu : xs[k]? = some u) : w.cell? ⟨g, o + k, none⟩ = some u := by
  have hk := (List.getElem?_eq_some_iff.1 hu).1
  rcases h.2.2.2 with h0 | ⟨g', o', e, hg, h1, h2⟩
  · have := h.1; have := h.2.1; omega
  · cases e; exact h1 k u hu
theorem Room.frozenAt {g o : Nat} (h : Room w (some ⟨g, o, none⟩) n c xs) {k : Nat} (hk : k < c) : w.frozen? ⟨g, o + k, none⟩ = false := by
  rcases h.2.2.2 with h0 | ⟨g', o', e, hg, h1, h2⟩
  · omega
  · cases e; exact (h2 k hk).2
theorem Room.some_ (h : Room w A n c xs) (hc : 0 < c) : ∃ g o, A = some ⟨g, o, none⟩ ∧ g < w.heap.size := by
  rcases h.2.2.2 with h0 | ⟨g, o, e, hg, _⟩
  · omega
  · exact ⟨g, o, e, hg⟩
end

section
variable {P : Program} (w : World)
theorem chg_setCells {T : Nat → Prop} (g o : Nat) (vs : List Value) (hT : T g) : Chg T w (w.setCells g o vs) := by
  induction vs generalizing w o with
  | nil => exact Chg.refl _ _
  | cons v vs ih => exact (Chg.set w g o v hT).t (ih (w := w.setCell ⟨g, o, none⟩ v) (o := o + 1))
/-- append to a slice with room, whatever its place. -/
theorem run_append_at (t tx ty e : TypeId) (z : Value) (bytes : Nat) (ht : P.underlying t = some (.slice e)) (hi : (P.info? e).map (fun i => (i.zero, i.size, i.bytes)) = some (some z, 1, bytes)) (hzs : z.cells.size = 1)
    (A : Option Addr) (n c : Nat) (xs : List Value) (hr : Room w A n c xs) (x : Value) (m : Nat) (news : List Value) (hs : Src P 1 tx x m news w) (h63 : n + m ≤ maxLen) (hbytes : (n + m) * bytes ≤ 140737488355328) :
    ∃ A' c' w', (Builtin.append_ #[t, tx] ty #[.slice A n c, x]).run P w = .ok (.slice A' (n + m) c') w' ∧ Room w' A' (n + m) c' (xs ++ news) ∧ Chg (foot A c) w w' ∧ (∀ k, foot A' c' k → foot A c k ∨ w.heap.size ≤ k) := by
  obtain ⟨i, hi', hz, hsize, hby⟩ := info_parts hi
  subst hby
  have hnl : news.length = m := by have := hs.newsLen; omega
  by_cases hroom : n + m ≤ c
  · rcases hr.2.2.2 with h0 | ⟨g, o, rfl, hg, h1, h2⟩
    · obtain rfl : m = 0 := by omega
      obtain rfl : news = [] := List.eq_nil_of_length_eq_zero hnl
      have hrun := run_append_nothing (P := P) w t tx ty e i ht hi' A n c (by omega) _ (by rw [hsize]; exact hs)
      exact ⟨A, c, w, hrun, by rw [List.append_nil]; exact hr, Chg.refl _ _, fun k h => .inl h⟩
    · have hrun := run_append_room_src (P := P) w t tx ty e i ht hi' g o n c x m news (by rw [hsize]; exact hs) hroom (fun j hj => by rw [hsize, Nat.mul_one, Nat.add_assoc]; exact (h2 _ (by omega)).1) (fun j hj => by rw [hsize, Nat.mul_one, Nat.add_assoc]; exact (h2 _ (by omega)).2)
      rw [hsize, Nat.mul_one] at hrun
      refine ⟨_, _, _, hrun, ⟨by rw [List.length_append, hr.1, hnl], hroom, hr.2.2.1, ?_⟩, ?_, fun k h => .inl h⟩
      · by_cases hc0 : c = 0
        · exact .inl hc0
        · refine .inr ⟨g, o, rfl, (chg_setCells w (T := fun _ => True) g (o + n) news trivial).lt hg, fun j u hu => ?_, fun j hj => ⟨?_, by rw [World.frozen?_setCells]; exact (h2 j hj).2⟩⟩
          · by_cases hjn : j < n
            · rw [List.getElem?_append_left (by rw [hr.1]; exact hjn)] at hu
              rw [World.cell?_setCells_out g news (o + n) w _ (fun _ _ => .inl (by simp only; omega))]
              exact h1 j u hu
            · rw [List.getElem?_append_right (by rw [hr.1]; omega), hr.1] at hu
              obtain ⟨hj, rfl⟩ := List.getElem?_eq_some_iff.1 hu
              have := World.cell?_setCells_in g news (o + n) w (fun k hk => by rw [Nat.add_assoc]; exact (h2 _ (by omega)).1) (j - n) hj
              rwa [show o + n + (j - n) = o + j by omega] at this
          · by_cases hin : n ≤ j ∧ j < n + news.length
            · have := World.cell?_setCells_in g news (o + n) w (fun k hk => by rw [Nat.add_assoc]; exact (h2 _ (by omega)).1) (j - n) (by omega)
              rw [show o + n + (j - n) = o + j by omega] at this
              rw [this]; rfl
            · rw [World.cell?_setCells_out g news (o + n) w _ (fun _ _ => by simp only; omega)]
              exact (h2 j hj).1
      · by_cases hc0 : c = 0
        · have : news = [] := List.eq_nil_of_length_eq_zero (by omega)
          subst this
          exact Chg.refl _ _
        · exact chg_setCells w g (o + n) news ⟨by omega, o, rfl⟩
  · have hold : (Builtin.firstCells i.size n (.slice A n c)).run P w.drew = .ok xs.toArray w.drew := by
      rw [hsize]
      rcases hr.2.2.2 with h0 | ⟨g, o, rfl, hg, h1, h2⟩
      · have hn0 : n = 0 := by have := hr.2.1; omega
        subst hn0
        obtain rfl : xs = [] := List.eq_nil_of_length_eq_zero hr.1
        cases A with
        | none => exact run_firstCells_none w.drew 1 0 0 c
        | some a => exact run_firstCells_some w.drew 1 0 a 0 c [] (by simp) (by intro _ _ h'; simp at h')
      · exact run_firstCells_some w.drew 1 n ⟨g, o, none⟩ n c xs (by rw [hr.1, Nat.mul_one]) (fun j u hu => by rw [Addr.add_lit]; exact h1 j u hu)
    have hrun := run_append_grow_src (P := P) w t tx ty e i z ht hi' hz A n c xs hold x m news (by rw [hsize]; exact hs) (by omega) (by simp only [maxLen] at h63; omega) (growslice_fits (by omega) hbytes)
    have hge := grownCap_ge w (n + m) c e
    have hcm := grownCap_le_maxLen w (n + m) c e h63
    have hlen : (xs ++ news).length = n + m := by rw [List.length_append, hr.1, hnl]
    have hsz : ((xs ++ news).toArray ++ Builtin.zeroCells z.cells (grownCap w (n + m) c e - (n + m))).size = grownCap w (n + m) c e := by
      rw [Array.size_append, List.size_toArray, hlen, size_zeroCells, hzs]; omega
    have hb := Blk.new w.drew e ((xs ++ news).toArray ++ Builtin.zeroCells z.cells (grownCap w (n + m) c e - (n + m)))
    refine ⟨_, _, _, hrun, ⟨hlen, hge, hcm, .inr ⟨w.heap.size, 0, rfl, by simp, fun j u hu => ?_, fun j hj => ⟨?_, ?_⟩⟩⟩, (Chg.drew w).t (Chg.alloc _ _), fun k h => .inr (by rw [foot_some h]; exact Nat.le_refl _)⟩
    · rw [Nat.zero_add]
      refine (hb.cell j).trans ?_
      rw [← Array.getElem?_toList, Array.toList_append, List.getElem?_append_left (by simpa using (List.getElem?_eq_some_iff.1 hu).1)]
      exact hu
    · rw [Nat.zero_add]
      refine (congrArg Option.isSome (hb.cell j)).trans ?_
      rw [Array.getElem?_eq_getElem (by omega)]; rfl
    · rw [Nat.zero_add]
      exact hb.frozen j
end

theorem Src.ofRd {P : Program} {w : World} {t e' : TypeId} {α : Type} {f : α → Value} {A : Option Addr} {n c : Nat} {xs : List α} (hk : P.underlying t = some (.slice e')) (h : Rd f w A n xs) (h1 : ∀ x, (f x).oneCell' = true) : Src P 1 t (.slice A n c) n (xs.map f) w := by
  by_cases hn : 0 < n
  · obtain ⟨b, o, rfl⟩ := h.some_ hn
    exact Src.ofSlice w hk ⟨b, o, none⟩ n c _ (by simp [h.1]) h.news (one_cells _ h1)
  · obtain rfl : n = 0 := by omega
    obtain rfl : xs = [] := List.eq_nil_of_length_eq_zero h.1
    cases A with
    | none => exact ⟨.inl ⟨_, hk⟩, fun _ => rfl, run_firstCells_none w 1 0 0 c, run_firstCells_none w.drew 1 0 0 c, by simp, by simp⟩
    | some ad => exact Src.ofSlice w hk ad 0 c [] (by simp) (by simp) (by simp)

section
variable {P : Program} {w : World} {ops : Array Oper} {rest : List Oper} {o : Oper} {a : Act} {Q : Exit → Act → World → Prop} {s x : Operand} {t e : TypeId} {z : Value} {bytes : Nat} {A : Option Addr} {n c : Nat} {xs : List Value} {v : Value} {m : Nat} {news : List Value}
theorem wp_append_at {K : Act → World → Prop} (ho : o.op = .call { callee := .builtin .append, args := #[s, x], argTypes := #[t, t] })
    (ht : P.underlying t = some (.slice e)) (hi : (P.info? e).map (fun i => (i.zero, i.size, i.bytes)) = some (some z, 1, bytes)) (hzs : z.cells.size = 1)
    (hs : a.eval s = .slice A n c) (hr : Room w A n c xs) (hx : a.eval x = v) (hsrc : Src P 1 t v m news w) (h63 : n + m ≤ maxLen) (hbytes : (n + m) * bytes ≤ 140737488355328)
    (h : ∀ A' c' w', Room w' A' (n + m) c' (xs ++ news) → Chg (foot A c) w w' → (∀ k, foot A' c' k → foot A c k ∨ w.heap.size ≤ k) → K (a.put o.dst (.slice A' (n + m) c')) w') : o.wp P a w K Q := by
  obtain ⟨A', c', w', hrun, h1, h2, h3⟩ := run_append_at (P := P) w t t o.type e z bytes ht hi hzs A n c xs hr v m news hsrc h63 hbytes
  unfold Oper.wp execOp
  simp only [ho, resolve, invoke, builtin, Sem.run_bind, Sem.run_pure, Result.andThen_ok, List.map_toArray, List.map_cons, List.map_nil, hs, hx, hrun]
  exact h A' c' w' h1 h2 h3
/-- .. in a straight walk; what follows is hidden. -/
theorem wpl_append_at (hgd : Region.wanted o (yielded ops a.tmps) = true) (ho : o.op = .call { callee := .builtin .append, args := #[s, x], argTypes := #[t, t] })
    (ht : P.underlying t = some (.slice e)) (hi : (P.info? e).map (fun i => (i.zero, i.size, i.bytes)) = some (some z, 1, bytes)) (hzs : z.cells.size = 1)
    (hs : a.eval s = .slice A n c) (hr : Room w A n c xs) (hx : a.eval x = v) (hsrc : Src P 1 t v m news w) (h63 : n + m ≤ maxLen) (hbytes : (n + m) * bytes ≤ 140737488355328)
    (h : ∀ A' c' w', Room w' A' (n + m) c' (xs ++ news) → Chg (foot A c) w w' → (∀ k, foot A' c' k → foot A c k ∨ w.heap.size ≤ k) → Hid (wpList P ops Q rest (a.put o.dst (.slice A' (n + m) c')) w')) : wpList P ops Q (o :: rest) a w := by
  refine wpList_step fun K hK => ?_
  rw [if_pos hgd]
  exact wp_append_at ho ht hi hzs hs hr hx hsrc h63 hbytes fun A' c' w' h1 h2 h3 => hK _ _ (h A' c' w' h1 h2 h3).out
/-- .. as one step of a region that draws its order. -/
theorem step_append_at {K : Act → World → Prop} {E : Prop} (hgd : o.guard = none) (ho : o.op = .call { callee := .builtin .append, args := #[s, x], argTypes := #[t, t] })
    (ht : P.underlying t = some (.slice e)) (hi : (P.info? e).map (fun i => (i.zero, i.size, i.bytes)) = some (some z, 1, bytes)) (hzs : z.cells.size = 1)
    (hs : a.eval s = .slice A n c) (hr : Room w A n c xs) (hx : a.eval x = v) (hsrc : Src P 1 t v m news w) (h63 : n + m ≤ maxLen) (hbytes : (n + m) * bytes ≤ 140737488355328)
    (h : ∀ A' c' w', Room w' A' (n + m) c' (xs ++ news) → Chg (foot A c) w w' → (∀ k, foot A' c' k → foot A c k ∨ w.heap.size ≤ k) → K (a.put o.dst (.slice A' (n + m) c')) w') :
    if Region.wanted o (yielded ops a.tmps) = true then Oper.wp P o a w K Q else E := by
  have hw : Region.wanted o (yielded ops a.tmps) = true := by simp [Region.wanted, hgd]
  rw [if_pos hw]
  exact wp_append_at ho ht hi hzs hs hr hx hsrc h63 hbytes h
end

section
variable {T : Nat → Prop} {w w' : World} {A : Option Addr} {n : Nat} {α : Type} {f : α → Value} {xs : List α}
theorem Rd.chg (h : Rd f w A n xs) (hc : Chg T w w') (hT : ∀ k o, A = some ⟨k, o, none⟩ → 0 < n → ¬ T k) : Rd f w' A n xs :=
  ⟨h.1, fun hn => by
    obtain ⟨b, o, e, hb, h1⟩ := h.2 hn
    have hn' := hT b o e hn
    exact ⟨b, o, e, hc.lt hb, fun i x hx => (hc.cell (p := ⟨b, o + i, none⟩) hb hn').trans (h1 i x hx)⟩⟩
theorem Blk.chg {g : Nat} {t : TypeId} {cs : Array Value} (h : Blk w g t cs) (hc : Chg T w w') (hT : ¬ T g) : Blk w' g t cs := (hc.block g h.lt hT).trans h
end

/-! Slices of bytes as values; lists of them. -/
structure Sl where
  A : Option Addr
  n : Nat
  c : Nat
def slv (s : Sl) : Value := .slice s.A s.n s.c
/-- A slice of bytes that may be written. -/
structure Byt (w : World) (s : Sl) (xs : List Nat) : Prop where
  room : Room w s.A s.n s.c (xs.map fun x : Nat => .int .u8 (x : Int))
  lt : ∀ x ∈ xs, x < 256
theorem Byt.chg {T : Nat → Prop} {w w' : World} {s : Sl} {xs : List Nat} (h : Byt w s xs) (hc : Chg T w w') (hT : ∀ k, foot s.A s.c k → ¬ T k) : Byt w' s xs := ⟨h.room.chg hc hT, h.lt⟩
theorem Byt.ext {w w' : World} {s : Sl} {xs : List Nat} (h : Byt w s xs) (e : Ext w w') : Byt w' s xs := ⟨h.room.ext e, h.lt⟩
theorem Byt.rd {w : World} {s : Sl} {xs : List Nat} (h : Byt w s xs) : Rd (fun x : Nat => Value.int .u8 (x : Int)) w s.A s.n xs := h.room.rd
/-- A list of slices of bytes: the slices' values, and what they hold. -/
structure Byts (w : World) (ss : List Sl) (xss : List (List Nat)) : Prop where
  len : ss.length = xss.length
  at_ : ∀ (i : Nat) (s : Sl), ss[i]? = some s → ∃ xs, xss[i]? = some xs ∧ Byt w s xs
def foots (ss : List Sl) (k : Nat) : Prop := ∃ s ∈ ss, foot s.A s.c k
section
variable {T : Nat → Prop} {w w' : World} {ss : List Sl} {xss : List (List Nat)}
theorem Byts.nil : Byts w [] [] := ⟨rfl, by simp⟩
theorem Byts.chg (h : Byts w ss xss) (hc : Chg T w w') (hT : ∀ k, foots ss k → ¬ T k) : Byts w' ss xss :=
  ⟨h.len, fun i s hs => by
    obtain ⟨xs, h1, h2⟩ := h.at_ i s hs
    exact ⟨xs, h1, h2.chg hc (fun k hk => hT k ⟨s, List.mem_of_getElem? hs, hk⟩)⟩⟩
theorem Byts.ext (h : Byts w ss xss) (e : Ext w w') : Byts w' ss xss := h.chg (T := fun _ => False) (Chg.ofExt e) (fun _ _ t => t)
theorem Byts.snoc {s : Sl} {xs : List Nat} (h : Byts w ss xss) (hb : Byt w s xs) : Byts w (ss ++ [s]) (xss ++ [xs]) := by
  refine ⟨by simp [h.len], fun i s' hs => ?_⟩
  by_cases hi : i < ss.length
  · rw [List.getElem?_append_left hi] at hs
    obtain ⟨ys, h1, h2⟩ := h.at_ i s' hs
    exact ⟨ys, by rw [List.getElem?_append_left (by rw [← h.len]; exact hi)]; exact h1, h2⟩
  · rw [List.getElem?_append_right (by omega)] at hs
    obtain ⟨hj, e⟩ := List.getElem?_eq_some_iff.1 hs
    simp at hj
    have : i - ss.length = 0 := by omega
    simp [this] at e
    subst e
    exact ⟨xs, by rw [List.getElem?_append_right (by rw [← h.len]; omega), ← h.len, this]; rfl, hb⟩
theorem Byts.append {ss2 : List Sl} {xss2 : List (List Nat)} (h : Byts w ss xss) (h2 : Byts w ss2 xss2) : Byts w (ss ++ ss2) (xss ++ xss2) := by
  refine ⟨by simp [h.len, h2.len], fun i s hs => ?_⟩
  by_cases hi : i < ss.length
  · rw [List.getElem?_append_left hi] at hs
    obtain ⟨ys, h1, h3⟩ := h.at_ i s hs
    exact ⟨ys, by rw [List.getElem?_append_left (by rw [← h.len]; exact hi)]; exact h1, h3⟩
  · rw [List.getElem?_append_right (by omega)] at hs
    obtain ⟨ys, h1, h3⟩ := h2.at_ _ s hs
    exact ⟨ys, by rw [List.getElem?_append_right (by rw [← h.len]; omega), ← h.len]; exact h1, h3⟩
theorem Byts.tail {s : Sl} {xs : List Nat} (h : Byts w (s :: ss) (xs :: xss)) : Byt w s xs ∧ Byts w ss xss := by
  obtain ⟨ys, h1, h2⟩ := h.at_ 0 s rfl
  cases h1
  exact ⟨h2, by have := h.len; simpa using this, fun i s' hs => by simpa using h.at_ (i + 1) s' (by simpa using hs)⟩
theorem foots_append {a b : List Sl} {k : Nat} : foots (a ++ b) k ↔ foots a k ∨ foots b k := by
  unfold foots
  constructor
  · rintro ⟨s, hs, hk⟩
    rcases List.mem_append.1 hs with h | h
    · exact .inl ⟨s, h, hk⟩
    · exact .inr ⟨s, h, hk⟩
  · rintro (⟨s, hs, hk⟩ | ⟨s, hs, hk⟩)
    · exact ⟨s, List.mem_append_left _ hs, hk⟩
    · exact ⟨s, List.mem_append_right _ hs, hk⟩
theorem foots_one {s : Sl} {k : Nat} : foots [s] k ↔ foot s.A s.c k := by
  unfold foots
  constructor
  · rintro ⟨s', hs, hk⟩; simp at hs; subst hs; exact hk
  · exact fun h => ⟨s, by simp, h⟩
theorem foots_cons {s : Sl} {l : List Sl} {k : Nat} : foots (s :: l) k ↔ foot s.A s.c k ∨ foots l k := by
  rw [show s :: l = [s] ++ l by rfl, foots_append, foots_one]
theorem foots_nil {k : Nat} : ¬ foots [] k := by rintro ⟨s, hs, _⟩; cases hs
end
end Go.Fx
