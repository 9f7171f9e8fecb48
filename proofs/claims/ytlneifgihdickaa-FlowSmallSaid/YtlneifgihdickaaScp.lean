/- Scp: copy, of elements of s cells, and what it leaves in a slice with room. No condition. -/
import Derived.Test.YtlneifgihdickaaSts
import Derived.Laws.IdiomCopy
import Derived.Lib.AppendZerosOnto
import Derived.Lib.Overlaps
import Derived.Laws.Externs
namespace Go.Fx
open Go.RowKit
theorem RoomS.setCells {s : Nat} {w : World} {g o n c : Nat} {L : List Value} (h : RoomS s w (some ⟨g, o, none⟩) n c L) (off : Nat) (vs : List Value) (hv : off + vs.length ≤ n * s) :
    RoomS s (w.setCells g (o + off) vs) (some ⟨g, o, none⟩) n c (L.take off ++ vs ++ L.drop (off + vs.length)) := by
  have hl := h.1
  have hnc := h.2.1
  have hcs : n * s ≤ c * s := Nat.mul_le_mul_right s hnc
  rcases h.2.2.2 with h0 | ⟨g', o', hA, hg, hcell, hfr⟩
  · obtain rfl : n = 0 := by omega
    obtain rfl : L = [] := List.eq_nil_of_length_eq_zero (by omega)
    obtain rfl : vs = [] := List.eq_nil_of_length_eq_zero (by omega)
    exact ⟨by simp, hnc, h.2.2.1, .inl h0⟩
  · cases hA
    refine ⟨by simp; omega, hnc, h.2.2.1, .inr ⟨g, o, rfl, (chg_setCells w (T := fun _ => True) g (o + off) vs trivial).lt hg, fun j u hu => ?_, fun j hj => ⟨?_, by rw [World.frozen?_setCells]; exact (hfr j hj).2⟩⟩⟩
    · by_cases h1 : j < off
      · rw [List.append_assoc, List.getElem?_append_left (by rw [List.length_take]; omega), List.getElem?_take, if_pos h1] at hu
        rw [World.cell?_setCells_out g _ _ w _ (fun _ _ => by simp only; omega)]
        exact hcell j u hu
      · by_cases h2 : j < off + vs.length
        · rw [List.append_assoc, List.getElem?_append_right (by rw [List.length_take]; omega), List.getElem?_append_left (by rw [List.length_take]; omega)] at hu
          have e : j - (L.take off).length = j - off := by rw [List.length_take]; omega
          rw [e] at hu
          obtain ⟨hj, rfl⟩ := List.getElem?_eq_some_iff.1 hu
          have := World.cell?_setCells_in g vs (o + off) w (fun i hi => by rw [Nat.add_assoc]; exact (hfr (off + i) (by omega)).1) (j - off) hj
          rw [show o + off + (j - off) = o + j by omega] at this
          exact this
        · rw [List.getElem?_append_right (by simp; omega), List.getElem?_drop] at hu
          have e : off + vs.length + (j - (L.take off ++ vs).length) = j := by simp; omega
          rw [e] at hu
          rw [World.cell?_setCells_out g _ _ w _ (fun _ _ => by simp only; omega)]
          exact hcell j u hu
    · by_cases h1 : off ≤ j ∧ j < off + vs.length
      · have := World.cell?_setCells_in g vs (o + off) w (fun i hi => by rw [Nat.add_assoc]; exact (hfr (off + i) (by omega)).1) (j - off) (by omega)
        rw [show o + off + (j - off) = o + j by omega] at this
        rw [this]; rfl
      · rw [World.cell?_setCells_out g _ _ w _ (fun _ _ => by simp only; omega)]
        exact (hfr j hj).1
/-- The room behind the elements is made elements: what stands there is some cells. -/
theorem RoomS.wide {s : Nat} {w : World} {g o n c : Nat} {L : List Value} (h : RoomS s w (some ⟨g, o, none⟩) n c L) {n' : Nat} (h1 : n ≤ n') (h2 : n' ≤ c) : ∃ L', RoomS s w (some ⟨g, o, none⟩) n' c (L ++ L') := by
  have hcs : n' * s ≤ c * s := Nat.mul_le_mul_right s h2
  have hns : n * s ≤ n' * s := Nat.mul_le_mul_right s h1
  rcases h.2.2.2 with h0 | ⟨g', o', hA, hg, hcell, hfr⟩
  · obtain rfl : n' = 0 := by omega
    obtain rfl : n = 0 := by omega
    exact ⟨[], by rw [List.append_nil]; exact h⟩
  · cases hA
    refine ⟨(List.range (n' * s - n * s)).map fun j => (w.cell? ⟨g, o + (n * s + j), none⟩).getD undef, by simp [h.1]; omega, h2, h.2.2.1, .inr ⟨g, o, rfl, hg, fun j u hu => ?_, hfr⟩⟩
    by_cases hj : j < n * s
    · rw [List.getElem?_append_left (by rw [h.1]; exact hj)] at hu
      exact hcell j u hu
    · rw [List.getElem?_append_right (by rw [h.1]; omega), h.1, List.getElem?_map] at hu
      obtain ⟨x, hx, rfl⟩ := Option.map_eq_some_iff.1 hu
      obtain ⟨hx1, hx2⟩ := List.getElem?_eq_some_iff.1 hx
      simp only [List.length_range] at hx1
      rw [List.getElem_range] at hx2
      subst hx2
      rw [show n * s + (j - n * s) = j by omega]
      obtain ⟨v, hv⟩ := Option.isSome_iff_exists.1 (hfr j (by omega)).1
      rw [hv]; rfl
theorem shape_of_room {s : Nat} {w : World} {g o n c : Nat} {L : List Value} (h : RoomS s w (some ⟨g, o, none⟩) n c L) (hc : 0 < c) (hs : 0 < s) : ∃ t k, w.shape? g = some (t, k) ∧ k ≠ 0 := by
  rcases h.2.2.2 with h0 | ⟨g', o', hA, hg, hcell, hfr⟩
  · omega
  · cases hA
    have h1 := (hfr 0 (Nat.mul_pos hc hs)).1
    obtain ⟨v, hv⟩ := Option.isSome_iff_exists.1 h1
    unfold World.shape?
    cases hb : w.heap[g]? with
    | none => simp [World.cell?, hb] at hv
    | some ob =>
      cases ob with
      | cells cs t fr =>
        simp only [World.cell?, hb] at hv
        obtain ⟨hlt, _⟩ := Array.getElem?_eq_some_iff.1 hv
        exact ⟨t, cs.size, rfl, by omega⟩
      | _ => simp [World.cell?, hb] at hv
section
variable {P : Program}
theorem run_copyS (w : World) {dT sT ty e : TypeId} {s : Nat} (hu : P.underlying dT = some (.slice e)) (hs : (P.info? e).map (·.size) = some s) {g of nd cd b o2 ns c2 m : Nat} {cs : List Value} (hm : m = min ns nd) (hl : cs.length = m * s)
    (hsrc : ∀ j v, cs[j]? = some v → w.cell? ⟨b, o2 + j, none⟩ = some v) (hc : ∀ j, j < cs.length → (w.cell? ⟨g, of + j, none⟩).isSome = true) (hf : ∀ j, j < cs.length → w.frozen? ⟨g, of + j, none⟩ = false) (h1 : ∀ v ∈ cs, v.oneCell' = true) :
    (Builtin.copy_ #[dT, sT] ty #[.slice (some ⟨g, of, none⟩) nd cd, .slice (some ⟨b, o2, none⟩) ns c2]).run P w = .ok (goInt m) (w.setCells g of cs) := by
  have hload := run_loadCells_list (P := P) w ⟨b, o2, none⟩ cs (fun j v h => by rw [Addr.add_lit]; exact hsrc j v h)
  have hst := run_storeCells_cells (P := P) g of cs 0 w (by simpa using hc) (by simpa using hf) h1
  have hm' : Nat.min ns nd = m := hm.symm
  cases hq : P.info? e with
  | none => simp [hq] at hs
  | some i =>
    have hi : i.size = s := by simpa [hq] using hs
    simp [Builtin.copy_, run_underlying hu, Builtin.lenOf, Builtin.firstCells, sizeOf, typeInfo, hq, hi, hm', ← hl, hload, hst]
variable {w : World} {ops : Array Oper} {rest : List Oper} {o : Oper} {a : Act} {Q : Exit → Act → World → Prop} {d x : Operand} {dT sT e : TypeId} {s g of nd cd b o2 ns c2 m : Nat} {cs : List Value}
theorem wp_copyS {K : Act → World → Prop} (ho : o.op = .call { callee := .builtin .copy, args := #[d, x], argTypes := #[dT, sT] }) (hu : P.underlying dT = some (.slice e)) (hs : (P.info? e).map (·.size) = some s)
    (hd : a.eval d = .slice (some ⟨g, of, none⟩) nd cd) (hx : a.eval x = .slice (some ⟨b, o2, none⟩) ns c2) (hm : m = min ns nd) (hl : cs.length = m * s)
    (hsrc : ∀ j v, cs[j]? = some v → w.cell? ⟨b, o2 + j, none⟩ = some v) (hc : ∀ j, j < cs.length → (w.cell? ⟨g, of + j, none⟩).isSome = true) (hf : ∀ j, j < cs.length → w.frozen? ⟨g, of + j, none⟩ = false) (h1 : ∀ v ∈ cs, v.oneCell' = true)
    (h : K (a.put o.dst (goInt m)) (w.setCells g of cs)) : o.wp P a w K Q := by
  have hrun := run_copyS (P := P) (ty := o.type) (sT := sT) (cd := cd) (c2 := c2) w hu hs hm hl hsrc hc hf h1
  unfold Oper.wp execOp
  simp only [ho, resolve, invoke, builtin, Sem.run_bind, Sem.run_pure, Result.andThen_ok, List.map_toArray, List.map_cons, List.map_nil, hd, hx, hrun]
  exact h
theorem wpl_copyS (hgd : Region.wanted o (yielded ops a.tmps) = true) (ho : o.op = .call { callee := .builtin .copy, args := #[d, x], argTypes := #[dT, sT] }) (hu : P.underlying dT = some (.slice e)) (hs : (P.info? e).map (·.size) = some s)
    (hd : a.eval d = .slice (some ⟨g, of, none⟩) nd cd) (hx : a.eval x = .slice (some ⟨b, o2, none⟩) ns c2) (hm : m = min ns nd) (hl : cs.length = m * s)
    (hsrc : ∀ j v, cs[j]? = some v → w.cell? ⟨b, o2 + j, none⟩ = some v) (hc : ∀ j, j < cs.length → (w.cell? ⟨g, of + j, none⟩).isSome = true) (hf : ∀ j, j < cs.length → w.frozen? ⟨g, of + j, none⟩ = false) (h1 : ∀ v ∈ cs, v.oneCell' = true)
    (h : ∀ w', Hid (w' = w.setCells g of cs) → Hid (wpList P ops Q rest (a.put o.dst (goInt m)) w')) : wpList P ops Q (o :: rest) a w := by
  refine wpList_step fun K hK => ?_
  rw [if_pos hgd]
  exact wp_copyS ho hu hs hd hx hm hl hsrc hc hf h1 (hK _ _ (h _ (Lib.hid rfl)).out)
theorem step_copyS {K : Act → World → Prop} {E : Prop} (hgd : o.guard = none) (ho : o.op = .call { callee := .builtin .copy, args := #[d, x], argTypes := #[dT, sT] }) (hu : P.underlying dT = some (.slice e)) (hs : (P.info? e).map (·.size) = some s)
    (hd : a.eval d = .slice (some ⟨g, of, none⟩) nd cd) (hx : a.eval x = .slice (some ⟨b, o2, none⟩) ns c2) (hm : m = min ns nd) (hl : cs.length = m * s)
    (hsrc : ∀ j v, cs[j]? = some v → w.cell? ⟨b, o2 + j, none⟩ = some v) (hc : ∀ j, j < cs.length → (w.cell? ⟨g, of + j, none⟩).isSome = true) (hf : ∀ j, j < cs.length → w.frozen? ⟨g, of + j, none⟩ = false) (h1 : ∀ v ∈ cs, v.oneCell' = true)
    (h : ∀ w', Hid (w' = w.setCells g of cs) → K (a.put o.dst (goInt m)) w') : if Region.wanted o (yielded ops a.tmps) = true then Oper.wp P o a w K Q else E := by
  have hw : Region.wanted o (yielded ops a.tmps) = true := by simp [Region.wanted, hgd]
  rw [if_pos hw]
  exact wp_copyS ho hu hs hd hx hm hl hsrc hc hf h1 (h _ (Lib.hid rfl))
/-- append(s, make([]T, k)...), where there is no room: a new row. -/
theorem wpl_append_zerosS {y : Operand} {t tn : TypeId} {z : Value} {bytes k i c : Nat} {A : Option Addr} {xs : List Value} (hgd : Region.wanted o (yielded ops a.tmps) = true) (ho : o.op = .call { callee := .builtin .append, args := #[x, y], argTypes := #[t, tn] }) (ht : P.underlying t = some (.slice e)) (htn : P.underlying tn = some (.int .i64))
    (hi : (P.info? e).map (fun i => (i.zero, i.size, i.bytes)) = some (some z, s, bytes)) (hzs : z.cells.size = s) (hs0 : 0 < s) (hx : a.eval x = .slice A i c) (hy : a.eval y = .int .i64 (k : Int)) (hr : RoomS s w A i c xs) (hk : 0 < k) (hg : c < i + k) (hb : (i + k) * bytes ≤ 140737488355328) (hb2 : i + k ≤ 1000000000)
    (h : ∀ g' c' w' L, RoomS s w' (some ⟨g', 0, none⟩) (i + k) c' (xs ++ L) → Ext w w' → w.heap.size ≤ g' → Hid (wpList P ops Q rest (a.put o.dst (.slice (some ⟨g', 0, none⟩) (i + k) c')) w')) : wpList P ops Q (o :: rest) a w := by
  obtain ⟨i0, hi', hz, hsize, hby⟩ := info_parts hi
  subst hby
  subst hsize
  have hold : (Builtin.firstCells i0.size i (.slice A i c)).run P w.drew = .ok xs.toArray w.drew := by
    rcases hr.2.2.2 with h0 | ⟨g, o, rfl, hg, h1, h2⟩
    · have hn0 : i = 0 := by have := hr.2.1; omega
      subst hn0
      obtain rfl : xs = [] := List.eq_nil_of_length_eq_zero (by rw [hr.1]; simp)
      cases A with
      | none => exact run_firstCells_none w.drew _ 0 0 c
      | some a => exact run_firstCells_some w.drew _ 0 a 0 c [] (by simp) (by intro _ _ h'; simp at h')
    · exact run_firstCells_some w.drew _ i ⟨g, o, none⟩ i c xs hr.1 (fun j u hu => by rw [Addr.add_lit]; exact h1 j u hu)
  have hkb : k * i0.bytes ≤ 281474976710656 := by have := Nat.mul_le_mul_right i0.bytes (Nat.le_add_left k i); omega
  have hrun := Lib.run_append_grow_zeros (P := P) w t tn o.type e i0 z .i64 .i64 ht htn hi' hz A i c xs hold k hk hs0 hg (by omega) hkb (growslice_fits hg hb)
  have hge := grownCap_ge w (i + k) c e
  have hcm := grownCap_le_maxLen w (i + k) c e (by unfold maxLen; omega)
  have hxl := hr.1
  generalize grownCap w (i + k) c e = G at *
  have hL : (xs.toArray ++ Builtin.zeroCells z.cells k ++ Builtin.zeroCells z.cells (G - (i + k))).size = G * i0.size := by
    rw [Array.size_append, Array.size_append, List.size_toArray, size_zeroCells, size_zeroCells, hzs, hxl, ← Nat.add_mul, ← Nat.add_mul]; congr 1; omega
  have hb0 := Blk.new w.drew e (xs.toArray ++ Builtin.zeroCells z.cells k ++ Builtin.zeroCells z.cells (G - (i + k)))
  have hroom : RoomS i0.size (w.drew.alloc (.cells (xs.toArray ++ Builtin.zeroCells z.cells k ++ Builtin.zeroCells z.cells (G - (i + k))) e)) (some ⟨w.heap.size, 0, none⟩) (i + k) G (xs ++ (Builtin.zeroCells z.cells k).toList) := by
    have h1 := (RoomS.of_blk (s := i0.size) hb0 hL hcm).take (k := i + k) hge
    have e1 : (xs.toArray ++ Builtin.zeroCells z.cells k ++ Builtin.zeroCells z.cells (G - (i + k))).toList.take ((i + k) * i0.size) = xs ++ (Builtin.zeroCells z.cells k).toList := by
      rw [Array.toList_append, Array.toList_append, List.toList_toArray]
      refine List.take_left' ?_
      have e2 : (Builtin.zeroCells z.cells k).toList.length = k * i0.size := by rw [Array.length_toList, size_zeroCells, hzs]
      rw [List.length_append, e2, hxl, Nat.add_mul]
    rw [e1] at h1
    exact h1
  refine wpList_step fun K hK => ?_
  rw [if_pos hgd]
  unfold Oper.wp execOp
  simp only [ho, resolve, invoke, builtin, Sem.run_bind, Sem.run_pure, Result.andThen_ok, List.map_toArray, List.map_cons, List.map_nil, hx, hy, hrun]
  exact hK _ _ (h _ _ _ _ hroom ((Ext.drew w).t (Ext.alloc _ _)) (Nat.le_refl _)).out
end
end Go.Fx
