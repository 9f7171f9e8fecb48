/- Fcp: make([]byte, n), and copy of a whole slice, in the words of slices with room. -/
import Derived.Test.YtippgnbmilnjbaaFBas
import Derived.Laws.MakeOwn
import Derived.OwnWalk
namespace Go.Fx
open Go.RowKit
section
variable {P : Program} {w : World} {ops : Array Oper} {rest : List Oper} {o : Oper} {a : Act} {Q : Exit → Act → World → Prop}
/-- make([]T, n): n zero elements, in a new block. -/
theorem wpl_makeN (hgd : o.guard = none) {l c : Operand} {t : TypeId} (ho : o.op = Op.makeSlice t l c) {e : TypeId} {z : Value} {bytes : Nat} (ht : P.underlying t = some (.slice e)) (hi : (P.info? e).map (fun i => (i.zero, i.size, i.bytes)) = some (some z, 1, bytes)) (hz1 : z.cells = #[z])
    {kl kc : IntKind} {L C : Int} {n : Nat} (hl : a.eval l = .int kl L) (hc : a.eval c = .int kc C) (hL : L = (n : Int)) (hC : C = (n : Int)) (b2 : bytes * n ≤ 281474976710656) (b3 : n ≤ maxLen)
    (h : ∀ A w', Room w' A n n (List.replicate n z) → Ext w w' → (∀ k, foot A n k → w.heap.size ≤ k) → Hid (wpList P ops Q rest (a.put o.dst (.slice A n n)) w')) : wpList P ops Q (o :: rest) a w := by
  obtain ⟨i, hi', hz, hsize, hby⟩ := info_parts hi
  subst hby
  refine wpList_make_full w hgd l c t ho w.heap.size e i z 1 ht hi' hz hsize kl kc L C n hl hc hL hC b2 b3 (Nat.le_refl _) (fun w' h1 h2 => ?_)
  refine (h (some ⟨w.heap.size, 0, none⟩) w' ?_ (below_of_grown h2 (Nat.le_refl _) (fun k hk => by cases hk)) (fun k hk => by rw [foot_some hk]; exact Nat.le_refl _)).out
  have h3 := Room.of_own h1
  have e1 : (madeCells z.cells (n * 1)).toList = List.replicate n z := by
    rw [hz1, Nat.mul_one]
    unfold madeCells
    simp
    try (apply List.ext_getElem <;> simp [Nat.mod_one])
  rwa [e1] at h3
/-- copy(dst, src), both of one length. -/
theorem wpl_copyN (hgd : Region.wanted o (yielded ops a.tmps) = true) {d s : Operand} {dT sT e : TypeId} (ho : o.op = .call { callee := .builtin .copy, args := #[d, s], argTypes := #[dT, sT] }) (hu : P.underlying dT = some (.slice e)) (hs1 : (P.info? e).map (·.size) = some 1)
    {A A2 : Option Addr} {n c c2 : Nat} {α : Type} {f : α → Value} {old : List Value} {xs : List α} (hd : a.eval d = .slice A n c) (hs : a.eval s = .slice A2 n c2) (hr : Room w A n c old) (hx : Rd f w A2 n xs) (h1 : ∀ x, (f x).oneCell' = true)
    (h : ∀ w', Room w' A n c (xs.map f) → Chg (foot A c) w w' → Hid (wpList P ops Q rest (a.put o.dst (goInt n)) w')) : wpList P ops Q (o :: rest) a w := by
  have hrun : ∃ w', (Builtin.copy_ #[dT, sT] o.type #[.slice A n c, .slice A2 n c2]).run P w = .ok (goInt n) w' ∧ Room w' A n c (xs.map f) ∧ Chg (foot A c) w w' := by
    by_cases hn : n = 0
    · subst hn
      obtain rfl : xs = [] := List.eq_nil_of_length_eq_zero hx.1
      obtain rfl : old = [] := List.eq_nil_of_length_eq_zero hr.1
      exact ⟨w, run_copy_none w dT sT o.type e A A2 0 c 0 c2 hu hs1 rfl, hr, Chg.refl _ _⟩
    · have hnc := hr.2.1
      rcases hr.2.2.2 with h0 | ⟨g, of, rfl, hg, hcell, hfr⟩
      · omega
      obtain ⟨b, o2, rfl⟩ := hx.some_ (by omega)
      have hl : (xs.map f).length = n := by simp [hx.1]
      refine ⟨w.setCells g of (xs.map f), ?_, ⟨hl, hnc, hr.2.2.1, .inr ⟨g, of, rfl, (chg_setCells w (T := fun _ => True) g of _ trivial).lt hg, fun j u hu => ?_, fun j hj => ⟨?_, by rw [World.frozen?_setCells]; exact (hfr j hj).2⟩⟩⟩, chg_setCells w g of _ ⟨by omega, of, rfl⟩⟩
      · have := run_copy_cells (P := P) (elem := e) w dT sT o.type g of n c ⟨b, o2, none⟩ n c2 (xs.map f) hu hs1 (by rw [hl]; exact (Nat.min_self n).symm) hx.news (fun j hj => (hfr j (by omega)).1) (fun j hj => (hfr j (by omega)).2) (one_cells _ h1)
        rw [hl] at this
        exact this
      · obtain ⟨hj, rfl⟩ := List.getElem?_eq_some_iff.1 hu
        exact World.cell?_setCells_in g _ of w (fun k hk => (hfr k (by omega)).1) j hj
      · by_cases hin : j < n
        · have := World.cell?_setCells_in g (xs.map f) of w (fun k hk => (hfr k (by omega)).1) j (by omega)
          rw [this]; rfl
        · rw [World.cell?_setCells_out g _ of w _ (fun _ _ => by simp only; omega)]
          exact (hfr j hj).1
  obtain ⟨w', hr', h2, h3⟩ := hrun
  refine wpList_step fun K hK => ?_
  rw [if_pos hgd]
  unfold Oper.wp execOp
  simp only [ho, resolve, invoke, builtin, Sem.run_bind, Sem.run_pure, Result.andThen_ok, List.map_toArray, List.map_cons, List.map_nil, hd, hs, hr']
  exact hK _ _ (h w' h2 h3).out
end
end Go.Fx
