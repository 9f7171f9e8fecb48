/- Fwg: appending to a slice that has no spare room: nothing that was there is written. -/
import Derived.Test.YtippgnbmilnjbaaChg
namespace Go.Fx
open Go.RowKit
section
variable {P : Program} {w : World} {ops : Array Oper} {rest : List Oper} {o : Oper} {a : Act} {Q : Exit → Act → World → Prop}
theorem wpl_append_full (hgd : Region.wanted o (yielded ops a.tmps) = true) {s x : Operand} {t e : TypeId} {z : Value} {bytes : Nat} (ho : o.op = .call { callee := .builtin .append, args := #[s, x], argTypes := #[t, t] })
    (ht : P.underlying t = some (.slice e)) (hi : (P.info? e).map (fun i => (i.zero, i.size, i.bytes)) = some (some z, 1, bytes)) (hzs : z.cells.size = 1)
    {A A2 : Option Addr} {n m c2 : Nat} {α : Type} {f : α → Value} {xs ys : List α} (hs : a.eval s = .slice A n n) (hr : Rd f w A n xs) (hx : a.eval x = .slice A2 m c2) (hy : Rd f w A2 m ys) (h1 : ∀ x, (f x).oneCell' = true) (h63 : n + m ≤ maxLen) (hbytes : (n + m) * bytes ≤ 140737488355328)
    (h : ∀ A' c' w', Rd f w' A' (n + m) (xs ++ ys) → n + m ≤ c' → c' ≤ maxLen → Ext w w' → Hid (wpList P ops Q rest (a.put o.dst (.slice A' (n + m) c')) w')) : wpList P ops Q (o :: rest) a w := by
  refine wpList_step fun K hK => ?_
  rw [if_pos hgd]
  by_cases hm : 0 < m
  · obtain ⟨b, of, rfl⟩ := hy.some_ hm
    refine wp_append_dst w ho ht hi hzs (by omega) hs (Dst.full (base := w.heap.size) hr) hx (news := ys.map f) (by simp [hy.1]) hy.news (one_cells _ h1) hm h63 hbytes (Nat.le_refl _) ?_
    intro g cap w' h2 h3 _ _
    rw [← List.map_append] at h2
    have hrm := Room.of_own h2
    exact hK _ _ (h _ _ _ hrm.rd hrm.2.1 hrm.2.2.1 (below_of_grown h3 (Nat.le_refl _) (fun k hk => by cases hk))).out
  · obtain rfl : m = 0 := by omega
    obtain rfl : ys = [] := List.eq_nil_of_length_eq_zero hy.1
    obtain ⟨i, hi', hz, hsize, hby⟩ := info_parts hi
    have hsrc : Src P i.size t (.slice A2 0 c2) 0 [] w := by
      cases A2 with
      | none => exact ⟨.inl ⟨_, ht⟩, fun _ => rfl, run_firstCells_none w i.size 0 0 c2, run_firstCells_none w.drew i.size 0 0 c2, by simp, by simp⟩
      | some ad => exact Src.ofSlice w ht ad 0 c2 [] (by simp) (by simp) (by simp)
    have hrun := run_append_nothing (P := P) w t t o.type e i ht hi' A n n (Nat.le_refl _) _ hsrc
    unfold Oper.wp execOp
    simp only [ho, resolve, invoke, builtin, Sem.run_bind, Sem.run_pure, Result.andThen_ok, List.map_toArray, List.map_cons, List.map_nil, hs, hx, hrun]
    exact hK _ _ (h A n w (by rw [List.append_nil]; exact hr) (Nat.le_refl _) (by omega) (Ext.refl w)).out
end
end Go.Fx
