/- Sts: slices of structs: elements of s cells each; reading them, and room for more. No condition. -/
import Derived.Test.YtlneifgihdickaaChg
import Derived.Test.YtlneifgihdickaaSlFrom
namespace Go.Fx
open Go.RowKit
section
variable {α : Type} {f : α → List Value} {s : Nat}
theorem flat_len (hf : ∀ x, (f x).length = s) : ∀ xs : List α, (xs.flatMap f).length = xs.length * s
  | [] => by simp
  | x :: xs => by rw [List.flatMap_cons, List.length_append, hf, flat_len hf xs, List.length_cons, Nat.add_mul, Nat.one_mul, Nat.add_comm]
theorem flat_get (hf : ∀ x, (f x).length = s) : ∀ (xs : List α) (i j : Nat) (x : α), xs[i]? = some x → j < s → (xs.flatMap f)[i * s + j]? = (f x)[j]?
  | [], i, j, x, h, _ => by simp at h
  | y :: ys, 0, j, x, h, hj => by
    simp at h
    subst h
    rw [List.flatMap_cons, Nat.zero_mul, Nat.zero_add, List.getElem?_append_left (by rw [hf]; exact hj)]
  | y :: ys, i + 1, j, x, h, hj => by
    have h' : ys[i]? = some x := by simpa using h
    rw [List.flatMap_cons, List.getElem?_append_right (by rw [hf, Nat.add_mul]; omega), hf, show (i + 1) * s + j - s = i * s + j by rw [Nat.add_mul]; omega]
    exact flat_get hf ys i j x h' hj
theorem flat_inv (hf : ∀ x, (f x).length = s) : ∀ (xs : List α) (k : Nat) (u : Value), (xs.flatMap f)[k]? = some u → ∃ i j x, xs[i]? = some x ∧ j < s ∧ k = i * s + j ∧ (f x)[j]? = some u
  | [], k, u, h => by simp at h
  | y :: ys, k, u, h => by
    rw [List.flatMap_cons] at h
    by_cases hk : k < s
    · rw [List.getElem?_append_left (by rw [hf]; exact hk)] at h
      exact ⟨0, k, y, rfl, hk, by simp, h⟩
    · rw [List.getElem?_append_right (by rw [hf]; omega), hf] at h
      obtain ⟨i, j, x, h1, h2, h3, h4⟩ := flat_inv hf ys _ u h
      exact ⟨i + 1, j, x, by simpa using h1, h2, by rw [Nat.add_mul]; omega, h4⟩
theorem flat_take (hf : ∀ x, (f x).length = s) (xs : List α) (k : Nat) : (xs.take k).flatMap f = (xs.flatMap f).take (k * s) := by
  induction xs generalizing k with
  | nil => simp
  | cons y ys ih =>
    cases k with
    | zero => simp
    | succ k =>
      rw [List.take_succ_cons, List.flatMap_cons, List.flatMap_cons, ih, Nat.add_mul, Nat.one_mul, List.take_append, hf, show k * s + s - s = k * s by omega, List.take_of_length_le (l := f y) (by rw [hf]; omega)]
theorem flat_drop (hf : ∀ x, (f x).length = s) (xs : List α) (k : Nat) : (xs.drop k).flatMap f = (xs.flatMap f).drop (k * s) := by
  induction xs generalizing k with
  | nil => simp
  | cons y ys ih =>
    cases k with
    | zero => simp
    | succ k =>
      rw [List.drop_succ_cons, List.flatMap_cons, ih, Nat.add_mul, Nat.one_mul, List.drop_append, hf, show k * s + s - s = k * s by omega, show (f y).drop (k * s + s) = [] from List.drop_eq_nil_of_le (by rw [hf]; omega), List.nil_append]
end
/-- The slice '.slice A n c' reads as the structs xs, the cells of each being 'f x', s of them. -/
def RdS {α : Type} (s : Nat) (f : α → List Value) (w : World) (A : Option Addr) (n : Nat) (xs : List α) : Prop :=
  xs.length = n ∧ (0 < n → ∃ b o, A = some ⟨b, o, none⟩ ∧ b < w.heap.size ∧ ∀ i x, xs[i]? = some x → ∀ j u, (f x)[j]? = some u → w.cell? ⟨b, o + i * s + j, none⟩ = some u)
section
variable {α : Type} {f : α → List Value} {s : Nat} {w w' : World} {n : Nat} {A : Option Addr} {xs : List α} {T : Nat → Prop}
theorem RdS.none_ : RdS s f w A 0 ([] : List α) := ⟨rfl, fun h => absurd h (by omega)⟩
theorem RdS.at_ {k : Nat} (h : RdS s f w A n xs) (hk : k < n) : ∃ b o x, A = some ⟨b, o, none⟩ ∧ b < w.heap.size ∧ xs[k]? = some x ∧ ∀ j u, (f x)[j]? = some u → w.cell? ⟨b, o + k * s + j, none⟩ = some u := by
  obtain ⟨b, o, e, hb, hc⟩ := h.2 (by omega)
  have hl : k < xs.length := by have := h.1; omega
  exact ⟨b, o, xs[k], e, hb, List.getElem?_eq_getElem hl, hc k _ (List.getElem?_eq_getElem hl)⟩
theorem RdS.chg (h : RdS s f w A n xs) (hc : Chg T w w') (hT : ∀ k o, A = some ⟨k, o, none⟩ → 0 < n → ¬ T k) : RdS s f w' A n xs :=
  ⟨h.1, fun hn => by
    obtain ⟨b, o, e, hb, h1⟩ := h.2 hn
    have hn' := hT b o e hn
    exact ⟨b, o, e, hc.lt hb, fun i x hx j u hu => (hc.cell (p := ⟨b, o + i * s + j, none⟩) hb hn').trans (h1 i x hx j u hu)⟩⟩
theorem RdS.ext (h : RdS s f w A n xs) (e : Ext w w') : RdS s f w' A n xs := h.chg (T := fun _ => False) (Chg.ofExt e) (fun _ _ _ _ t => t)
theorem RdS.some_ (h : RdS s f w A n xs) (hn : 0 < n) : ∃ b o, A = some ⟨b, o, none⟩ := by
  obtain ⟨b, o, h1, _⟩ := h.2 hn
  exact ⟨b, o, h1⟩
theorem RdS.take {k : Nat} (h : RdS s f w A n xs) (hk : k ≤ n) : RdS s f w A k (xs.take k) := by
  refine ⟨by rw [List.length_take, h.1]; omega, fun hp => ?_⟩
  obtain ⟨b, o, e, hb, hc⟩ := h.2 (by omega)
  refine ⟨b, o, e, hb, fun i x hx => hc i x ?_⟩
  rw [List.getElem?_take] at hx
  split at hx
  · exact hx
  · cases hx
theorem RdS.cells (hf : ∀ x, (f x).length = s) {b o : Nat} (h : RdS s f w (some ⟨b, o, none⟩) n xs) : ∀ k u, (xs.flatMap f)[k]? = some u → w.cell? ⟨b, o + k, none⟩ = some u := by
  intro k u hu
  obtain ⟨i, j, x, h1, h2, rfl, h4⟩ := flat_inv hf xs k u hu
  have hi : i < n := by have := (List.getElem?_eq_some_iff.1 h1).1; have := h.1; omega
  obtain ⟨b', o', x', e, _, hx, hc⟩ := h.at_ hi
  cases e
  rw [h1] at hx; cases hx
  rw [← Nat.add_assoc]; exact hc j u h4
theorem RdS.news (hf : ∀ x, (f x).length = s) {b o : Nat} (h : RdS s f w (some ⟨b, o, none⟩) n xs) : ∀ k u, (xs.flatMap f)[k]? = some u → w.cell? ((⟨b, o, none⟩ : Addr).add k) = some u := by
  intro k u hu; rw [Addr.add_lit]; exact h.cells hf k u hu
end
theorem one_flat {α : Type} {f : α → List Value} (h : ∀ x, ∀ u ∈ f x, u.oneCell' = true) (xs : List α) : ∀ u ∈ xs.flatMap f, u.oneCell' = true := by
  intro u hu
  obtain ⟨x, _, h2⟩ := List.mem_flatMap.1 hu
  exact h x u h2
theorem Src.ofRdS {P : Program} {w : World} {t e' : TypeId} {α : Type} {f : α → List Value} {s : Nat} {A : Option Addr} {n c : Nat} {xs : List α} (hk : P.underlying t = some (.slice e')) (hf : ∀ x, (f x).length = s) (h : RdS s f w A n xs) (h1 : ∀ x, ∀ u ∈ f x, u.oneCell' = true) : Src P s t (.slice A n c) n (xs.flatMap f) w := by
  by_cases hn : 0 < n
  · obtain ⟨b, o, rfl⟩ := h.some_ hn
    exact Src.ofSlice w hk ⟨b, o, none⟩ n c _ (by rw [flat_len hf, h.1]) (h.news hf) (one_flat h1 xs)
  · obtain rfl : n = 0 := by omega
    obtain rfl : xs = [] := List.eq_nil_of_length_eq_zero h.1
    cases A with
    | none => exact ⟨.inl ⟨_, hk⟩, fun _ => rfl, run_firstCells_none w s 0 0 c, run_firstCells_none w.drew s 0 0 c, by simp, by simp⟩
    | some ad => exact Src.ofSlice w hk ad 0 c [] (by simp) (by simp) (by simp)

/-- The slice '.slice A n c' of elements of s cells each may be written in its room, and holds the cells xs. -/
def RoomS (s : Nat) (w : World) (A : Option Addr) (n c : Nat) (xs : List Value) : Prop :=
  xs.length = n * s ∧ n ≤ c ∧ c ≤ maxLen ∧ (c = 0 ∨ ∃ g o, A = some ⟨g, o, none⟩ ∧ g < w.heap.size ∧ (∀ j u, xs[j]? = some u → w.cell? ⟨g, o + j, none⟩ = some u) ∧ (∀ j, j < c * s → (w.cell? ⟨g, o + j, none⟩).isSome = true ∧ w.frozen? ⟨g, o + j, none⟩ = false))
section
variable {s : Nat} {T : Nat → Prop} {w w' : World} {A : Option Addr} {n c : Nat} {xs : List Value}
theorem RoomS.nil : RoomS s w none 0 0 [] := ⟨by simp, Nat.le_refl _, by simp [maxLen], .inl rfl⟩
theorem RoomS.zero : RoomS s w A 0 0 [] := ⟨by simp, Nat.le_refl _, by simp [maxLen], .inl rfl⟩
theorem RoomS.lt (h : RoomS s w A n c xs) {k : Nat} (hf : foot A c k) : k < w.heap.size := by
  rcases h.2.2.2 with h0 | ⟨g, o, rfl, hg, _⟩
  · exact absurd hf.1 (by omega)
  · rw [foot_some hf]; exact hg
theorem RoomS.chg (h : RoomS s w A n c xs) (hc : Chg T w w') (hT : ∀ k, foot A c k → ¬ T k) : RoomS s w' A n c xs := by
  refine ⟨h.1, h.2.1, h.2.2.1, ?_⟩
  rcases h.2.2.2 with h0 | ⟨g, o, rfl, hg, h1, h2⟩
  · exact .inl h0
  · by_cases h0 : c = 0
    · exact .inl h0
    · have hn := hT g ⟨by omega, o, rfl⟩
      exact .inr ⟨g, o, rfl, hc.lt hg, fun j u hu => (hc.cell (p := ⟨g, o + j, none⟩) hg hn).trans (h1 j u hu), fun j hj => ⟨by rw [hc.cell (p := ⟨g, o + j, none⟩) hg hn]; exact (h2 j hj).1, (hc.frozen (p := ⟨g, o + j, none⟩) hg hn).trans (h2 j hj).2⟩⟩
theorem RoomS.ext (h : RoomS s w A n c xs) (e : Ext w w') : RoomS s w' A n c xs := h.chg (T := fun _ => False) (Chg.ofExt e) (fun _ _ t => t)
theorem RoomS.some_ (h : RoomS s w A n c xs) (hc : 0 < c) : ∃ g o, A = some ⟨g, o, none⟩ ∧ g < w.heap.size := by
  rcases h.2.2.2 with h0 | ⟨g, o, e, hg, _⟩
  · omega
  · exact ⟨g, o, e, hg⟩
theorem RoomS.rd {α : Type} {f : α → List Value} (hf : ∀ x, (f x).length = s) (hs : 0 < s) {ys : List α} (h : RoomS s w A n c (ys.flatMap f)) : RdS s f w A n ys := by
  have hl : ys.length = n := by have := h.1; rw [flat_len hf] at this; exact Nat.eq_of_mul_eq_mul_right hs this
  refine ⟨hl, fun hn => ?_⟩
  rcases h.2.2.2 with h0 | ⟨g, o, rfl, hg, h1, h2⟩
  · have := h.2.1; omega
  · refine ⟨g, o, rfl, hg, fun i x hx j u hu => ?_⟩
    have hj : j < s := by have := (List.getElem?_eq_some_iff.1 hu).1; rw [hf] at this; exact this
    rw [Nat.add_assoc]
    exact h1 _ u (by rw [flat_get hf ys i j x hx hj]; exact hu)
theorem RoomS.of_blk {g : Nat} {t : TypeId} {cs : Array Value} (h : Blk w g t cs) (hn : cs.size = n * s) (hm : n ≤ maxLen) : RoomS s w (some ⟨g, 0, none⟩) n n cs.toList :=
  ⟨by simp [hn], Nat.le_refl _, hm, .inr ⟨g, 0, rfl, h.lt, fun j u hu => by rw [Nat.zero_add, h.cell]; simpa using hu, fun j hj => ⟨by rw [Nat.zero_add, h.cell, Array.getElem?_eq_getElem (by omega)]; rfl, by rw [Nat.zero_add]; exact h.frozen j⟩⟩⟩
theorem RoomS.take (h : RoomS s w A n c xs) {k : Nat} (hk : k ≤ n) : RoomS s w A k c (xs.take (k * s)) := by
  refine ⟨by rw [List.length_take, h.1]; exact Nat.min_eq_left (Nat.mul_le_mul_right s hk), by have := h.2.1; omega, h.2.2.1, ?_⟩
  rcases h.2.2.2 with h0 | ⟨g, o, rfl, hg, h1, h2⟩
  · exact .inl h0
  · refine .inr ⟨g, o, rfl, hg, fun j u hu => h1 j u ?_, h2⟩
    rw [List.getElem?_take] at hu
    split at hu
    · exact hu
    · cases hu
theorem RoomS.clip (h : RoomS s w A n c xs) {c' : Nat} (h1 : n ≤ c') (h2 : c' ≤ c) : RoomS s w A n c' xs := by
  refine ⟨h.1, h1, Nat.le_trans h2 h.2.2.1, ?_⟩
  rcases h.2.2.2 with h0 | ⟨g, o, rfl, hg, h3, h4⟩
  · exact .inl (by omega)
  · exact .inr ⟨g, o, rfl, hg, h3, fun j hj => h4 j (Nat.lt_of_lt_of_le hj (Nat.mul_le_mul_right s h2))⟩
/-- Cells of an element that is there are written. -/
theorem RoomS.set {g o : Nat} (h : RoomS s w (some ⟨g, o, none⟩) n c xs) {k : Nat} (hk : k < n * s) (u : Value) : RoomS s (w.setCell ⟨g, o + k, none⟩ u) (some ⟨g, o, none⟩) n c (xs.set k u) := by
  refine ⟨by rw [List.length_set, h.1], h.2.1, h.2.2.1, ?_⟩
  rcases h.2.2.2 with h0 | ⟨g', o', e, hg, h1, h2⟩
  · exact .inl h0
  · cases e
    have hc : n * s ≤ c * s := Nat.mul_le_mul_right s h.2.1
    refine .inr ⟨g, o, rfl, by rw [setCell_size]; exact hg, fun j v hv => ?_, fun j hj => ⟨?_, ?_⟩⟩
    · by_cases hjk : k = j
      · subst hjk
        obtain ⟨x, hx⟩ := Option.isSome_iff_exists.1 (h2 k (by omega)).1
        rw [List.getElem?_set_self (by rw [h.1]; exact hk)] at hv
        cases hv
        exact World.cell?_setCell_same _ _ _ hx
      · rw [List.getElem?_set_ne hjk] at hv
        rw [World.cell?_setCell_other _ _ _ _ (by simp)]
        exact h1 j v hv
    · by_cases hjk : k = j
      · subst hjk
        obtain ⟨x, hx⟩ := Option.isSome_iff_exists.1 (h2 k hj).1
        rw [World.cell?_setCell_same _ _ _ hx]; rfl
      · rw [World.cell?_setCell_other _ _ _ _ (by simp)]
        exact (h2 j hj).1
    · rw [World.frozen?_setCell]; exact (h2 j hj).2
theorem RoomS.frozenAt {g o : Nat} (h : RoomS s w (some ⟨g, o, none⟩) n c xs) {k : Nat} (hk : k < c * s) : w.frozen? ⟨g, o + k, none⟩ = false := by
  rcases h.2.2.2 with h0 | ⟨g', o', e, hg, h1, h2⟩
  · subst h0; omega
  · cases e; exact (h2 k hk).2
theorem RoomS.cellAt {g o : Nat} (h : RoomS s w (some ⟨g, o, none⟩) n c xs) {k : Nat} {u : Value} (hu : xs[k]? = some u) : w.cell? ⟨g, o + k, none⟩ = some u := by
  have hk := (List.getElem?_eq_some_iff.1 hu).1
  rcases h.2.2.2 with h0 | ⟨g', o', e, hg, h1, h2⟩
  · have h3 := h.1
    have h4 := h.2.1
    have : n = 0 := by omega
    subst this
    omega
  · cases e; exact h1 k u hu
end
theorem RdS.from_ {α : Type} {f : α → List Value} {s : Nat} {w : World} {A : Option Addr} {n c k : Nat} {xs : List α} (h : RdS s f w A n xs) (hk : k ≤ n) (hc : n ≤ c) : RdS s f w (fromS s A c k) (n - k) (xs.drop k) := by
  refine ⟨by rw [List.length_drop, h.1], fun hn => ?_⟩
  obtain ⟨b, o, rfl, hb, hcell⟩ := h.2 (by omega)
  unfold fromS
  rw [if_neg (by omega)]
  refine ⟨b, o + k * s, by simp [Addr.add_lit], hb, fun i x hx j u hu => ?_⟩
  rw [List.getElem?_drop] at hx
  have := hcell _ x hx j u hu
  rwa [Nat.add_mul, ← Nat.add_assoc] at this
theorem RoomS.from_ {s : Nat} {w : World} {A : Option Addr} {n c : Nat} {xs : List Value} (h : RoomS s w A n c xs) {k : Nat} (hk : k ≤ n) : RoomS s w (fromS s A c k) (n - k) (c - k) (xs.drop (k * s)) := by
  unfold fromS
  by_cases hc : c = k
  · rw [if_pos hc]
    have := h.2.1
    have e1 : n - k = 0 := by omega
    have e2 : c - k = 0 := by omega
    have e3 : n = k := by omega
    subst e3
    rw [e1, e2, List.drop_eq_nil_of_le (by rw [h.1]; exact Nat.le_refl _)]
    exact RoomS.zero
  · rw [if_neg hc]
    have hcn := h.2.1
    obtain ⟨g, o, rfl, _⟩ := h.some_ (by omega)
    rcases h.2.2.2 with h0 | ⟨g', o', e, hg, h1, h2⟩
    · omega
    · cases e
      refine ⟨by rw [List.length_drop, h.1, Nat.sub_mul], by omega, by have := h.2.2.1; omega, .inr ⟨g, o + k * s, by simp [Addr.add_lit], hg, fun j u hu => ?_, fun j hj => ?_⟩⟩
      · rw [List.getElem?_drop] at hu
        rw [Nat.add_assoc]; exact h1 _ u hu
      · rw [Nat.add_assoc]
        rw [Nat.sub_mul] at hj
        exact h2 _ (by omega)
theorem foot_fromS {s : Nat} {w : World} {A : Option Addr} {n c k j : Nat} {xs : List Value} (hr : RoomS s w A n c xs) (h : foot (fromS s A c k) (c - k) j) : foot A c j := by
  obtain ⟨h1, o, h2⟩ := h
  obtain ⟨b, o', rfl, _⟩ := hr.some_ (by omega)
  unfold fromS at h2
  rw [if_neg (by omega)] at h2
  simp [Addr.add_lit] at h2
  obtain ⟨rfl, rfl⟩ := h2
  exact ⟨by omega, o', rfl⟩
section
variable {P : Program} (w : World)
/-- append to a slice of structs with room, whatever its place. -/
theorem run_append_atS (t tx ty e : TypeId) (z : Value) (bytes s : Nat) (ht : P.underlying t = some (.slice e)) (hi : (P.info? e).map (fun i => (i.zero, i.size, i.bytes)) = some (some z, s, bytes)) (hzs : z.cells.size = s)
    (A : Option Addr) (n c : Nat) (xs : List Value) (hr : RoomS s w A n c xs) (x : Value) (m : Nat) (news : List Value) (hs : Src P s tx x m news w) (h63 : n + m ≤ maxLen) (hbytes : (n + m) * bytes ≤ 140737488355328) :
    ∃ A' c' w', (Builtin.append_ #[t, tx] ty #[.slice A n c, x]).run P w = .ok (.slice A' (n + m) c') w' ∧ RoomS s w' A' (n + m) c' (xs ++ news) ∧ Chg (foot A c) w w' ∧ (∀ k, foot A' c' k → foot A c k ∨ w.heap.size ≤ k) := by
  obtain ⟨i, hi', hz, hsize, hby⟩ := info_parts hi
  subst hby
  have hnl : news.length = m * s := hs.newsLen
  by_cases hroom : n + m ≤ c
  · rcases hr.2.2.2 with h0 | ⟨g, o, rfl, hg, h1, h2⟩
    · obtain rfl : m = 0 := by omega
      obtain rfl : news = [] := List.eq_nil_of_length_eq_zero (by omega)
      have hrun := run_append_nothing (P := P) w t tx ty e i ht hi' A n c (by omega) _ (by rw [hsize]; exact hs)
      exact ⟨A, c, w, hrun, by rw [List.append_nil]; exact hr, Chg.refl _ _, fun k h => .inl h⟩
    · have hcs : (n + m) * s ≤ c * s := Nat.mul_le_mul_right s hroom
      have hnm : (n + m) * s = n * s + m * s := Nat.add_mul n m s
      have hrun := run_append_room_src (P := P) w t tx ty e i ht hi' g o n c x m news (by rw [hsize]; exact hs) hroom (fun j hj => by rw [hsize, Nat.add_assoc]; exact (h2 _ (by omega)).1) (fun j hj => by rw [hsize, Nat.add_assoc]; exact (h2 _ (by omega)).2)
      rw [hsize] at hrun
      refine ⟨_, _, _, hrun, ⟨by rw [List.length_append, hr.1, hnl, hnm], hroom, hr.2.2.1, ?_⟩, ?_, fun k h => .inl h⟩
      · by_cases hc0 : c = 0
        · exact .inl hc0
        · refine .inr ⟨g, o, rfl, (chg_setCells w (T := fun _ => True) g (o + n * s) news trivial).lt hg, fun j u hu => ?_, fun j hj => ⟨?_, by rw [World.frozen?_setCells]; exact (h2 j hj).2⟩⟩
          · by_cases hjn : j < n * s
            · rw [List.getElem?_append_left (by rw [hr.1]; exact hjn)] at hu
              rw [World.cell?_setCells_out g news (o + n * s) w _ (fun _ _ => .inl (by simp only; omega))]
              exact h1 j u hu
            · rw [List.getElem?_append_right (by rw [hr.1]; omega), hr.1] at hu
              obtain ⟨hj, rfl⟩ := List.getElem?_eq_some_iff.1 hu
              have := World.cell?_setCells_in g news (o + n * s) w (fun k hk => by rw [Nat.add_assoc]; exact (h2 _ (by omega)).1) (j - n * s) hj
              rwa [show o + n * s + (j - n * s) = o + j by omega] at this
          · by_cases hin : n * s ≤ j ∧ j < n * s + news.length
            · have := World.cell?_setCells_in g news (o + n * s) w (fun k hk => by rw [Nat.add_assoc]; exact (h2 _ (by omega)).1) (j - n * s) (by omega)
              rw [show o + n * s + (j - n * s) = o + j by omega] at this
              rw [this]; rfl
            · rw [World.cell?_setCells_out g news (o + n * s) w _ (fun _ _ => by simp only; omega)]
              exact (h2 j hj).1
      · by_cases hc0 : c = 0
        · have hm0 : m = 0 := by omega
          subst hm0
          have : news = [] := List.eq_nil_of_length_eq_zero (by omega)
          subst this
          exact Chg.refl _ _
        · exact chg_setCells w g (o + n * s) news ⟨by omega, o, rfl⟩
  · have hold : (Builtin.firstCells i.size n (.slice A n c)).run P w.drew = .ok xs.toArray w.drew := by
      rw [hsize]
      rcases hr.2.2.2 with h0 | ⟨g, o, rfl, hg, h1, h2⟩
      · have hn0 : n = 0 := by have := hr.2.1; omega
        subst hn0
        obtain rfl : xs = [] := List.eq_nil_of_length_eq_zero (by rw [hr.1]; simp)
        cases A with
        | none => exact run_firstCells_none w.drew s 0 0 c
        | some a => exact run_firstCells_some w.drew s 0 a 0 c [] (by simp) (by intro _ _ h'; simp at h')
      · exact run_firstCells_some w.drew s n ⟨g, o, none⟩ n c xs hr.1 (fun j u hu => by rw [Addr.add_lit]; exact h1 j u hu)
    have hrun := run_append_grow_src (P := P) w t tx ty e i z ht hi' hz A n c xs hold x m news (by rw [hsize]; exact hs) (by omega) (by simp only [maxLen] at h63; omega) (growslice_fits (by omega) hbytes)
    have hge := grownCap_ge w (n + m) c e
    have hcm := grownCap_le_maxLen w (n + m) c e h63
    have hlen : (xs ++ news).length = (n + m) * s := by rw [List.length_append, hr.1, hnl, Nat.add_mul]
    have hsz : ((xs ++ news).toArray ++ Builtin.zeroCells z.cells (grownCap w (n + m) c e - (n + m))).size = grownCap w (n + m) c e * s := by
      rw [Array.size_append, List.size_toArray, hlen, size_zeroCells, hzs, ← Nat.add_mul]; congr 1; omega
    have hb := Blk.new w.drew e ((xs ++ news).toArray ++ Builtin.zeroCells z.cells (grownCap w (n + m) c e - (n + m)))
    refine ⟨_, _, _, hrun, ⟨hlen, hge, hcm, .inr ⟨w.heap.size, 0, rfl, by simp, fun j u hu => ?_, fun j hj => ⟨?_, ?_⟩⟩⟩, (Chg.drew w).t (Chg.alloc _ _), fun k h => .inr (by rw [foot_some h]; exact Nat.le_refl _)⟩
    · rw [Nat.zero_add]
      refine (hb.cell j).trans ?_
      rw [← Array.getElem?_toList, Array.toList_append, List.getElem?_append_left (by simpa using (List.getElem?_eq_some_iff.1 hu).1)]
      exact hu
    · rw [Nat.zero_add]
      refine (congrArg Option.isSome (hb.cell j)).trans ?_
      rw [Array.getElem?_eq_getElem (by omega)]; rfl
    · rw [Nat.zero_add]
      exact hb.frozen j
end
section
variable {P : Program} {w : World} {ops : Array Oper} {rest : List Oper} {o : Oper} {a : Act} {Q : Exit → Act → World → Prop} {s x : Operand} {t e : TypeId} {z : Value} {bytes sz : Nat} {A : Option Addr} {n c : Nat} {xs : List Value} {v : Value} {m : Nat} {news : List Value}
theorem wp_append_atS {K : Act → World → Prop} (ho : o.op = .call { callee := .builtin .append, args := #[s, x], argTypes := #[t, t] })
    (ht : P.underlying t = some (.slice e)) (hi : (P.info? e).map (fun i => (i.zero, i.size, i.bytes)) = some (some z, sz, bytes)) (hzs : z.cells.size = sz)
    (hs : a.eval s = .slice A n c) (hr : RoomS sz w A n c xs) (hx : a.eval x = v) (hsrc : Src P sz t v m news w) (h63 : n + m ≤ maxLen) (hbytes : (n + m) * bytes ≤ 140737488355328)
    (h : ∀ A' c' w', RoomS sz w' A' (n + m) c' (xs ++ news) → Chg (foot A c) w w' → (∀ k, foot A' c' k → foot A c k ∨ w.heap.size ≤ k) → K (a.put o.dst (.slice A' (n + m) c')) w') : o.wp P a w K Q := by
  obtain ⟨A', c', w', hrun, h1, h2, h3⟩ := run_append_atS (P := P) w t t o.type e z bytes sz ht hi hzs A n c xs hr v m news hsrc h63 hbytes
  unfold Oper.wp execOp
  simp only [ho, resolve, invoke, builtin, Sem.run_bind, Sem.run_pure, Result.andThen_ok, List.map_toArray, List.map_cons, List.map_nil, hs, hx, hrun]
  exact h A' c' w' h1 h2 h3
/-- .. in a straight walk; what follows is hidden. -/
theorem wpl_append_atS (hgd : Region.wanted o (yielded ops a.tmps) = true) (ho : o.op = .call { callee := .builtin .append, args := #[s, x], argTypes := #[t, t] })
    (ht : P.underlying t = some (.slice e)) (hi : (P.info? e).map (fun i => (i.zero, i.size, i.bytes)) = some (some z, sz, bytes)) (hzs : z.cells.size = sz)
    (hs : a.eval s = .slice A n c) (hr : RoomS sz w A n c xs) (hx : a.eval x = v) (hsrc : Src P sz t v m news w) (h63 : n + m ≤ maxLen) (hbytes : (n + m) * bytes ≤ 140737488355328)
    (h : ∀ A' c' w', RoomS sz w' A' (n + m) c' (xs ++ news) → Chg (foot A c) w w' → (∀ k, foot A' c' k → foot A c k ∨ w.heap.size ≤ k) → Hid (wpList P ops Q rest (a.put o.dst (.slice A' (n + m) c')) w')) : wpList P ops Q (o :: rest) a w := by
  refine wpList_step fun K hK => ?_
  rw [if_pos hgd]
  exact wp_append_atS ho ht hi hzs hs hr hx hsrc h63 hbytes fun A' c' w' h1 h2 h3 => hK _ _ (h A' c' w' h1 h2 h3).out
/-- .. as one step of a region that draws its order. -/
theorem step_append_atS {K : Act → World → Prop} {E : Prop} (hgd : o.guard = none) (ho : o.op = .call { callee := .builtin .append, args := #[s, x], argTypes := #[t, t] })
    (ht : P.underlying t = some (.slice e)) (hi : (P.info? e).map (fun i => (i.zero, i.size, i.bytes)) = some (some z, sz, bytes)) (hzs : z.cells.size = sz)
    (hs : a.eval s = .slice A n c) (hr : RoomS sz w A n c xs) (hx : a.eval x = v) (hsrc : Src P sz t v m news w) (h63 : n + m ≤ maxLen) (hbytes : (n + m) * bytes ≤ 140737488355328)
    (h : ∀ A' c' w', RoomS sz w' A' (n + m) c' (xs ++ news) → Chg (foot A c) w w' → (∀ k, foot A' c' k → foot A c k ∨ w.heap.size ≤ k) → K (a.put o.dst (.slice A' (n + m) c')) w') :
    if Region.wanted o (yielded ops a.tmps) = true then Oper.wp P o a w K Q else E := by
  have hw : Region.wanted o (yielded ops a.tmps) = true := by simp [Region.wanted, hgd]
  rw [if_pos hw]
  exact wp_append_atS ho ht hi hzs hs hr hx hsrc h63 hbytes h
end
section
variable {P : Program} {w : World} {ops : Array Oper} {rest : List Oper} {o : Oper} {a : Act} {Q : Exit → Act → World → Prop} {t elem : TypeId} {z : Value} {bytes s len : Nat} {parts : Array (Nat × Operand)} {α : Type} {f : α → List Value}
theorem run_buildS (hf : ∀ x, (f x).length = s) (hs0 : 0 < s) (ht : P.underlying t = some (.slice elem)) (hi : (P.info? elem).map (fun i => (i.zero, i.size, i.bytes)) = some (some z, s, bytes))
    (os : List Operand) (hp : parts = (os.zipIdx.map fun p => (p.2, p.1)).toArray) (hl : os.length = len) (hb : len * s ≤ 16777216) (xs : List α) (hv : os.map a.eval = xs.map fun x => Value.agg (f x).toArray) :
    (Instr.buildSlice t len (parts.map fun (i, x) => (i, a.eval x))).run P w = .ok (.slice (some ⟨w.heap.size, 0, none⟩) len len) (w.alloc (.cells (xs.flatMap f).toArray elem)) := by
  have hxl : xs.length = len := by rw [← hl]; have := congrArg List.length hv; simpa using this.symm
  have hparts : (parts.map fun (i, x) => (i, a.eval x)).toList = ((os.map a.eval).zipIdx 0).map fun p => (p.2, p.1) := by
    rw [hp]; simp [List.zipIdx_map, List.map_map, Function.comp_def]
  by_cases h0 : len = 0
  · subst h0
    have hos : os = [] := List.eq_nil_of_length_eq_zero hl
    have hxs : xs = [] := List.eq_nil_of_length_eq_zero hxl
    subst hos; subst hxs; subst hp
    simpa using run_buildSlice0 (P := P) w ht hi
  · refine run_buildSlice (P := P) w ht hi len _ _ (Nat.mul_pos (by omega) hs0) hb ?_
    rw [hparts, hv]
    have hsz : ((Array.range (len * s)).map (fun x => z.cells[x % z.cells.size]!)).size = len * s := by simp
    rw [fill_seq s (xs.map fun x => Value.agg (f x).toArray) 0 _ (fun v hv => by obtain ⟨x, _, rfl⟩ := List.mem_map.1 hv; exact (by simp [Value.cells, hf])) (by rw [hsz]; simp [hxl])]
    simp only [Nat.zero_mul, List.take_zero, List.nil_append, List.flatMap_map]
    rfl
/-- A slice of structs is written out: a new block under a name of its own. -/
theorem wpl_buildS (hf : ∀ x, (f x).length = s) (hs0 : 0 < s) (hgd : Region.wanted o (yielded ops a.tmps) = true) (ho : o.op = .buildSlice t len parts) (ht : P.underlying t = some (.slice elem)) (hi : (P.info? elem).map (fun i => (i.zero, i.size, i.bytes)) = some (some z, s, bytes))
    (os : List Operand) (hp : parts = (os.zipIdx.map fun p => (p.2, p.1)).toArray) (hl : os.length = len) (hb : len * s ≤ 16777216) (xs : List α) (hv : os.map a.eval = xs.map fun x => Value.agg (f x).toArray)
    (h : ∀ g w', Blk w' g elem (xs.flatMap f).toArray → Ext w w' → w.heap.size ≤ g → RdS s f w' (some ⟨g, 0, none⟩) len xs → Hid (wpList P ops Q rest (a.put o.dst (.slice (some ⟨g, 0, none⟩) len len)) w')) : wpList P ops Q (o :: rest) a w := by
  have hxl : xs.length = len := by rw [← hl]; have := congrArg List.length hv; simpa using this.symm
  have hrun := run_buildS (P := P) (w := w) hf hs0 ht hi os hp hl hb xs hv
  have hbk := Blk.new w elem (xs.flatMap f).toArray
  have hsz : (xs.flatMap f).toArray.size = len * s := by rw [List.size_toArray, flat_len hf, hxl]
  have hr : RdS s f (w.alloc (.cells (xs.flatMap f).toArray elem)) (some ⟨w.heap.size, 0, none⟩) len xs := by
    refine ⟨hxl, fun _ => ⟨_, 0, rfl, hbk.lt, fun i x hx j u hu => ?_⟩⟩
    have hj : j < s := by have := (List.getElem?_eq_some_iff.1 hu).1; rw [hf] at this; exact this
    rw [Nat.zero_add, hbk.cell, List.getElem?_toArray, flat_get hf xs i j x hx hj]
    exact hu
  have h' := (h w.heap.size _ hbk (Ext.alloc w _) (Nat.le_refl _) hr).out
  refine wpList_step fun K hK => ?_
  rw [if_pos hgd]
  unfold Oper.wp execOp
  simp only [ho, Sem.run_bind, hrun, Result.andThen_ok, Sem.run_pure]
  exact hK _ _ h'
end
end Go.Fx
