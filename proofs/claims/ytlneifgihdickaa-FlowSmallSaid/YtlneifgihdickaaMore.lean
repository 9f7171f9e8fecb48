/- More: further laws of rows and slices. -/
import Derived.Test.YtlneifgihdickaaLib
import Derived.Deep.Upon
namespace Go.Fx
open Go.RowKit
theorem own_cap {w : World} {base : Nat} {e : TypeId} {size : Nat} {A : Option Addr} {n c : Nat} {xs : List Value} (h : w.ownsRow base e size (.slice A n c) n xs) : n ≤ c := by
  rcases h.2 with ⟨h1, h2⟩ | ⟨g, cap, cur, h1, -, -, h2, -⟩
  · omega
  · simp only [Value.slice.injEq] at h1
    omega
theorem own_max {w : World} {base : Nat} {e : TypeId} {size : Nat} {A : Option Addr} {n c : Nat} {xs : List Value} (h : w.ownsRow base e size (.slice A n c) n xs) : n ≤ maxLen := by
  rcases h.2 with ⟨h1, h2⟩ | ⟨g, cap, cur, h1, -, -, h2, h3, -⟩
  · simp only [maxLen]; omega
  · omega
theorem own_slice {w : World} {base : Nat} {e : TypeId} {size : Nat} {v : Value} {n : Nat} {xs : List Value} (h : w.ownsRow base e size v n xs) : ∃ A c, v = .slice A n c := by
  rcases h.2 with ⟨rfl, rfl⟩ | ⟨g, cap, _, rfl, _⟩
  · exact ⟨_, _, rfl⟩
  · exact ⟨_, _, rfl⟩
theorem Rd.some_ {α : Type} {f : α → Value} {w : World} {A : Option Addr} {n : Nat} {xs : List α} (h : Rd f w A n xs) (hn : 0 < n) : ∃ b o, A = some ⟨b, o, none⟩ := by
  obtain ⟨b, o, x, rfl, _⟩ := h.at_ hn
  exact ⟨b, o, rfl⟩
theorem Rd.news {α : Type} {f : α → Value} {w : World} {b o n : Nat} {xs : List α} (h : Rd f w (some ⟨b, o, none⟩) n xs) : ∀ j u, (xs.map f)[j]? = some u → w.cell? ((⟨b, o, none⟩ : Addr).add j) = some u := by
  intro j u hu
  rw [List.getElem?_map] at hu
  obtain ⟨x, hx, rfl⟩ := Option.map_eq_some_iff.1 hu
  have hj : j < n := by have := (List.getElem?_eq_some_iff.1 hx).1; have := h.1; omega
  obtain ⟨b', o', y, e, _, hy, hc⟩ := h.at_ hj
  cases e
  rw [hx] at hy; cases hy
  rw [Addr.add_lit]
  exact hc
section
variable {P : Program}
/-- Elements of a slice are appended to a row of the call's own; none is enough. -/
theorem wpl_append {w : World} {ops : Array Oper} {rest : List Oper} {o : Oper} {a : Act} {Q : Exit → Act → World → Prop} (hgd : Region.wanted o (yielded ops a.tmps) = true) {s x : Operand} {t : TypeId}
    (ho : o.op = .call { callee := .builtin .append, args := #[s, x], argTypes := #[t, t] })
    {base : Nat} {e : TypeId} {z : Value} {bytes : Nat} (ht : P.underlying t = some (.slice e)) (hi : (P.info? e).map (fun i => (i.zero, i.size, i.bytes)) = some (some z, 1, bytes)) (hzs : z.cells.size = 1)
    {v : Value} {n : Nat} {α : Type} {f : α → Value} {xs ys : List α} (hs : a.eval s = v) (hown : w.ownsRow base e 1 v n (xs.map f))
    {A : Option Addr} {m c : Nat} (hx : a.eval x = .slice A m c) (r : Rd f w A m ys) (h1 : ∀ x, (f x).oneCell' = true)
    (h63 : n + m ≤ maxLen) (hbytes : (n + m) * bytes ≤ 140737488355328) (hbase : base ≤ w.heap.size)
    (h : ∀ A' c' w', w'.ownsRow base e 1 (.slice A' (n + m) c') (n + m) ((xs ++ ys).map f) → w.grownBy w' v.ownBlock → ((Value.slice A' (n + m) c').ownBlock = v.ownBlock ∨ ∀ k, (Value.slice A' (n + m) c').ownBlock = some k → w.heap.size ≤ k) → Hid (wpList P ops Q rest (a.put o.dst (.slice A' (n + m) c')) w')) : wpList P ops Q (o :: rest) a w := by
  refine wpList_step fun K hK => ?_
  rw [if_pos hgd]
  by_cases hm : 0 < m
  · obtain ⟨b, of, rfl⟩ := r.some_ hm
    refine wp_append_dst w ho ht hi hzs (by omega) hs (Dst.of_own hown) hx (news := ys.map f) (by simp [r.1]) r.news (one_cells _ h1) hm h63 hbytes hbase ?_
    intro g cap w' h2 h3 h4 _
    refine hK _ _ (h (some ⟨g, 0, none⟩) cap w' (by rw [List.map_append]; exact h2) h3 ?_).out
    rcases h4 with h4 | h4
    · exact .inl h4.symm
    · exact .inr (fun k hk => by cases hk; simp only; omega)
  · obtain rfl : m = 0 := by omega
    obtain rfl : ys = [] := List.eq_nil_of_length_eq_zero r.1
    obtain ⟨A0, c0, rfl⟩ := own_slice hown
    obtain ⟨i, hi', hz, hsize, hby⟩ := info_parts hi
    have hsrc : Src P i.size t (.slice A 0 c) 0 [] w := by
      cases A with
      | none => exact ⟨.inl ⟨_, ht⟩, fun _ => rfl, run_firstCells_none w i.size 0 0 c, run_firstCells_none w.drew i.size 0 0 c, by simp, by simp⟩
      | some ad => exact Src.ofSlice w ht ad 0 c [] (by simp) (by simp) (by simp)
    have hr := run_append_nothing (P := P) w t t o.type e i ht hi' A0 n c0 (own_cap hown) _ hsrc
    unfold Oper.wp execOp
    simp only [ho, resolve, invoke, builtin, Sem.run_bind, Sem.run_pure, Result.andThen_ok, List.map_toArray, List.map_cons, List.map_nil, hs, hx, hr]
    refine hK _ _ (h A0 c0 w (by rw [List.append_nil]; exact hown) ⟨rfl, rfl, rfl, Nat.le_refl _, fun _ _ _ => rfl⟩ (.inl rfl)).out
end
end Go.Fx
