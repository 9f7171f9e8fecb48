/- Step: appending the elements of a slice, as one step of a region that draws its order. -/
import Derived.Test.YtlneifgihdickaaMore
namespace Go.Fx
open Go.RowKit
theorem blk_ge {g n c k : Nat} (h : (Value.slice (some ⟨g, 0, none⟩) n c).ownBlock = some k) : g ≤ k := by
  cases h; exact Nat.le_refl _
section
variable {P : Program}
/-- As wpl_append, for a region that draws its order. -/
theorem step_append {w : World} {ops : Array Oper} {o : Oper} {a : Act} {K : Act → World → Prop} {Q : Exit → Act → World → Prop} {E : Prop} (hgd : o.guard = none) {s x : Operand} {t : TypeId}
    (ho : o.op = .call { callee := .builtin .append, args := #[s, x], argTypes := #[t, t] })
    {base : Nat} {e : TypeId} {z : Value} {bytes : Nat} (ht : P.underlying t = some (.slice e)) (hi : (P.info? e).map (fun i => (i.zero, i.size, i.bytes)) = some (some z, 1, bytes)) (hzs : z.cells.size = 1)
    {v : Value} {n : Nat} {α : Type} {f : α → Value} {xs ys : List α} (hs : a.eval s = v) (hown : w.ownsRow base e 1 v n (xs.map f))
    {A : Option Addr} {m c : Nat} (hx : a.eval x = .slice A m c) (r : Rd f w A m ys) (h1 : ∀ x, (f x).oneCell' = true)
    (h63 : n + m ≤ maxLen) (hbytes : (n + m) * bytes ≤ 140737488355328) (hbase : base ≤ w.heap.size)
    (h : ∀ A' c' w', w'.ownsRow base e 1 (.slice A' (n + m) c') (n + m) ((xs ++ ys).map f) → w.grownBy w' v.ownBlock → K (a.put o.dst (.slice A' (n + m) c')) w') :
    if Region.wanted o (yielded ops a.tmps) = true then Oper.wp P o a w K Q else E := by
  have hw : Region.wanted o (yielded ops a.tmps) = true := by simp [Region.wanted, hgd]
  rw [if_pos hw]
  by_cases hm : 0 < m
  · obtain ⟨b, of, rfl⟩ := r.some_ hm
    refine wp_append_dst w ho ht hi hzs (by omega) hs (Dst.of_own hown) hx (news := ys.map f) (by simp [r.1]) r.news (one_cells _ h1) hm h63 hbytes hbase ?_
    intro g cap w' h2 h3 _ _
    exact h (some ⟨g, 0, none⟩) cap w' (by rw [List.map_append]; exact h2) h3
  · obtain rfl : m = 0 := by omega
    obtain rfl : ys = [] := List.eq_nil_of_length_eq_zero r.1
    obtain ⟨A0, c0, rfl⟩ := own_slice hown
    obtain ⟨i, hi', hz, hsize, hby⟩ := info_parts hi
    have hsrc : Src P i.size t (.slice A 0 c) 0 [] w := by
      cases A with
      | none => exact ⟨.inl ⟨_, ht⟩, fun _ => rfl, run_firstCells_none w i.size 0 0 c, run_firstCells_none w.drew i.size 0 0 c, by simp, by simp⟩
      | some ad => exact Src.ofSlice w ht ad 0 c [] (by simp) (by simp) (by simp)
    have hr := run_append_nothing (P := P) w t t o.type e i ht hi' A0 n c0 (own_cap hown) _ hsrc
    unfold Oper.wp execOp
    simp only [ho, resolve, invoke, builtin, Sem.run_bind, Sem.run_pure, Result.andThen_ok, List.map_toArray, List.map_cons, List.map_nil, hs, hx, hr]
    exact h A0 c0 w (by rw [List.append_nil]; exact hown) ⟨rfl, rfl, rfl, Nat.le_refl _, fun _ _ _ => rfl⟩
end
end Go.Fx
