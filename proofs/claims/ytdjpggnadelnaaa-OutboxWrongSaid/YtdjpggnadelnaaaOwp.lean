/- Owp: what is wrong with events that are put, in plain Lean; a list without room of its own grows. -/
import Derived.Test.YtdjpggnadelnaaaOmp
namespace Go.Fx
open Go.RowKit
section
variable {s e last : Int} {x x' : Ev} {own : List Ev} {k er : Nat}
theorem look_290 (h : rightK x.k = false ∨ x.to < 1 ∨ 16 < x.to) : lookF s e last x = 290 := by
  unfold lookF; rw [if_pos h]
theorem look_291 (h1 : rightK x.k = true) (h2 : 1 ≤ x.to) (h3 : x.to ≤ 16) (h : x.s ≠ s) : lookF s e last x = 291 := by
  unfold lookF
  rw [if_neg (by rw [h1]; simp; omega), if_pos h]
theorem look_292 (h1 : rightK x.k = true) (h2 : 1 ≤ x.to) (h3 : x.to ≤ 16) (h4 : x.s = s) (h : x.t < e) : lookF s e last x = 292 := by
  unfold lookF
  rw [if_neg (by rw [h1]; simp; omega), if_neg (by simpa using h4), if_pos h]
theorem look_293 (h1 : rightK x.k = true) (h2 : 1 ≤ x.to) (h3 : x.to ≤ 16) (h4 : x.s = s) (h5 : e ≤ x.t) (h : x.q ≤ last) : lookF s e last x = 293 := by
  unfold lookF
  rw [if_neg (by rw [h1]; simp; omega), if_neg (by simpa using h4), if_neg (by omega), if_pos h]
theorem wrong_set {lim : Int} (ho : okP s e (-1) own = true) (hx : own[k]? = some x) (h : ∀ last, lookF s e last x' = er) (h0 : er ≠ 0) : putF s lim e [] (own.set k x') = ((k : Int), er, []) := by
  have hk := (List.getElem?_eq_some_iff.1 hx).1
  rw [List.set_eq_take_append_cons_drop, if_pos hk, put_bad (s := s) (e := e) (evs := []) (a := own.take k) (okP_take ho k) (h _) h0, List.length_take, Nat.min_eq_left (by omega)]
end
theorem mg_twice {r : List Ev × Int × Nat} (h : MgB [some (7, []), some (7, []), none] r) : r = ([], 1, 294) := by
  rcases h with ⟨h, -⟩ | ⟨o, ho, h, hb, rfl⟩
  · exact absurd (h 1 (by decide)) (by decide)
  · match o, ho with
    | 0, _ => exact absurd rfl hb
    | 1, _ => rfl
    | 2, _ => exact absurd (h 1 (by decide)) (by decide)
theorem mg_nil {r : List Ev × Int × Nat} (h : MgB [some (7, []), none, some (7, [])] r) : r = ([], 1, 1) := by
  rcases h with ⟨h, -⟩ | ⟨o, ho, h, hb, rfl⟩
  · exact absurd (h 1 (by decide)) (by decide)
  · match o, ho with
    | 0, _ => exact absurd rfl hb
    | 1, _ => rfl
    | 2, _ => exact absurd (h 1 (by decide)) (by decide)
section
variable {P : Program} {w : World} {ops : Array Oper} {rest : List Oper} {o : Oper} {a : Act} {Q : Exit → Act → World → Prop} {s x : Operand} {t e : TypeId} {z : Value} {bytes sz : Nat} {A : Option Addr} {n c : Nat} {v : Value} {m : Nat} {news : List Value} {α : Type} {f : α → List Value} {ys : List α} {N : Nat}
/-- append to a slice of structs that is read only and has no room. -/
theorem wpl_append_growS (hgd : Region.wanted o (yielded ops a.tmps) = true) (ho : o.op = .call { callee := .builtin .append, args := #[s, x], argTypes := #[t, t] })
    (ht : P.underlying t = some (.slice e)) (hi : (P.info? e).map (fun i => (i.zero, i.size, i.bytes)) = some (some z, sz, bytes)) (hzs : z.cells.size = sz)
    (hs : a.eval s = .slice A n c) (hf : ∀ x, (f x).length = sz) (hr : RdS sz f w A n ys) (hx : a.eval x = v) (hsrc : Src P sz t v m news w) (hc : c < n + m) (hN : n + m = N) (h63 : N ≤ maxLen) (hbytes : N * bytes ≤ 140737488355328)
    (h : ∀ A' c' w', RoomS sz w' A' N c' (ys.flatMap f ++ news) → Ext w w' → (∀ k, foot A' c' k → w.heap.size ≤ k) → Hid (wpList P ops Q rest (a.put o.dst (.slice A' N c')) w')) : wpList P ops Q (o :: rest) a w := by
  subst hN
  obtain ⟨i, hi', hz, hsize, hby⟩ := info_parts hi
  subst hby
  have hnl : news.length = m * sz := hsrc.newsLen
  have hyl : (ys.flatMap f).length = n * sz := by rw [flat_len hf, hr.1]
  have hold : (Builtin.firstCells i.size n (.slice A n c)).run P w.drew = .ok (ys.flatMap f).toArray w.drew := by
    rw [hsize]
    by_cases hn : 0 < n
    · obtain ⟨g, o, rfl⟩ := hr.some_ hn
      exact run_firstCells_some w.drew sz n ⟨g, o, none⟩ n c _ hyl (fun j u hu => by rw [Addr.add_lit]; exact hr.cells hf j u hu)
    · obtain rfl : n = 0 := by omega
      obtain rfl : ys = [] := List.eq_nil_of_length_eq_zero hr.1
      cases A with
      | none => exact run_firstCells_none w.drew sz 0 0 c
      | some a => exact run_firstCells_some w.drew sz 0 a 0 c [] (by simp) (by intro _ _ h'; simp at h')
  have hrun := run_append_grow_src (P := P) w t t o.type e i z ht hi' hz A n c (ys.flatMap f) hold v m news (by rw [hsize]; exact hsrc) hc (by simp only [maxLen] at h63; omega) (growslice_fits (by omega) hbytes)
  have hge := grownCap_ge w (n + m) c e
  have hcm := grownCap_le_maxLen w (n + m) c e h63
  have hlen : (ys.flatMap f ++ news).length = (n + m) * sz := by rw [List.length_append, hyl, hnl, Nat.add_mul]
  have hsz : ((ys.flatMap f ++ news).toArray ++ Builtin.zeroCells z.cells (grownCap w (n + m) c e - (n + m))).size = grownCap w (n + m) c e * sz := by
    rw [Array.size_append, List.size_toArray, hlen, size_zeroCells, hzs, ← Nat.add_mul]; congr 1; omega
  have hb := Blk.new w.drew e ((ys.flatMap f ++ news).toArray ++ Builtin.zeroCells z.cells (grownCap w (n + m) c e - (n + m)))
  have h' := (h (some ⟨w.heap.size, 0, none⟩) (grownCap w (n + m) c e) _ ⟨hlen, hge, hcm, .inr ⟨w.heap.size, 0, rfl, hb.lt, fun j u hu => by
      rw [Nat.zero_add]
      refine (hb.cell j).trans ?_
      rw [← Array.getElem?_toList, Array.toList_append, List.getElem?_append_left (by simpa using (List.getElem?_eq_some_iff.1 hu).1)]
      exact hu, fun j hj => ⟨by
      rw [Nat.zero_add]
      refine (congrArg Option.isSome (hb.cell j)).trans ?_
      rw [Array.getElem?_eq_getElem (by omega)]; rfl, by
      rw [Nat.zero_add]
      exact hb.frozen j⟩⟩⟩ ((Ext.drew w).t (Ext.alloc _ _)) (fun k hk => by rw [foot_some hk]; exact Nat.le_refl _)).out
  refine wpList_step fun K hK => ?_
  rw [if_pos hgd]
  unfold Oper.wp execOp
  simp only [ho, resolve, invoke, builtin, Sem.run_bind, Sem.run_pure, Result.andThen_ok, List.map_toArray, List.map_cons, List.map_nil, hs, hx, hrun]
  exact hK _ _ h'
end
end Go.Fx
namespace Go.Proofs.Ytdjpggnadelnaaa
open Go.RowKit Go.Fx
theorem wrong_twice {s e : Int} {x : Ev} {own : List Ev} {lim : Int} (ho : okP s e (-1) own = true) (hx : own[own.length - 1]? = some x) : putF s lim e [] (own ++ [x]) = ((own.length : Int), 293, []) := by
  have hg := okP_good ho x (List.mem_of_getElem? hx)
  refine put_bad (s := s) (e := e) (evs := []) (a := own) (b := []) ho (look_293 hg.1 hg.2.1 hg.2.2.1 hg.2.2.2.1 hg.2.2.2.2.1 ?_) (by decide)
  rw [lastR_get hx]
  exact Int.le_refl _
end Go.Proofs.Ytdjpggnadelnaaa
