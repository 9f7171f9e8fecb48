/- Lists of the reference's frames: two cells each. -/
import Derived.Test.YtpipnefepnknoaaRan
import Derived.Deep.CutRange
namespace Go.Fx
open Go.RowKit
/-- A frame of the reference: where its bytes lie, and what they are. -/
abbrev Fr := Sl × List Nat
def fcell (p : Fr) : List Value := [slv p.1, .int .i64 ((needs p.2 : Nat) : Int)]
def fcells : List Fr → List Value
  | [] => []
  | p :: l => slv p.1 :: .int .i64 ((needs p.2 : Nat) : Int) :: fcells l
theorem fcells_len (l : List Fr) : (fcells l).length = 2 * l.length := by
  induction l with
  | nil => rfl
  | cons p l ih => simp only [fcells, List.length_cons, ih]; omega
theorem fcells_append (l m : List Fr) : fcells (l ++ m) = fcells l ++ fcells m := by
  induction l with
  | nil => rfl
  | cons p l ih => simp only [List.cons_append, fcells, ih]
theorem fcells_get (l : List Fr) {k : Nat} {p : Fr} (h : l[k]? = some p) : (fcells l)[k * 2]? = some (slv p.1) ∧ (fcells l)[k * 2 + 1]? = some (.int .i64 ((needs p.2 : Nat) : Int)) := by
  induction l generalizing k with
  | nil => cases h
  | cons q l ih =>
    cases k with
    | zero => cases h; exact ⟨rfl, rfl⟩
    | succ k =>
      have := ih (k := k) (by simpa using h)
      rw [show (k + 1) * 2 = k * 2 + 1 + 1 by omega]
      simpa [fcells] using this
theorem fcells_one (l : List Fr) : ∀ u ∈ fcells l, u.oneCell' = true := by
  induction l with
  | nil => intro u hu; cases hu
  | cons p l ih =>
    intro u hu
    simp only [fcells, List.mem_cons] at hu
    rcases hu with rfl | rfl | hu
    · rfl
    · rfl
    · exact ih u hu
structure FrL (w : World) (A : Option Addr) (n : Nat) (l : List Fr) : Prop where
  len : l.length = n
  at_ : 0 < n → ∃ b o, A = some ⟨b, o, none⟩ ∧ b < w.heap.size ∧ ∀ j u, (fcells l)[j]? = some u → w.cell? ⟨b, o + j, none⟩ = some u
section
variable {w w' : World} {A : Option Addr} {n c : Nat} {l m : List Fr} {p : Fr}
theorem FrL.nil : FrL w A 0 [] := ⟨rfl, fun h => absurd h (by omega)⟩
theorem FrL.ext (h : FrL w A n l) (e : Ext w w') : FrL w' A n l := ⟨h.len, fun hn => by
  obtain ⟨b, o, hA, hb, hc⟩ := h.at_ hn
  exact ⟨b, o, hA, Nat.lt_of_lt_of_le hb e.size, fun j u hu => (e.cell (p := ⟨b, o + j, none⟩) hb).trans (hc j u hu)⟩⟩
theorem FrL.get (h : FrL w A n l) {k : Nat} (hk : k < n) : ∃ b o p, A = some ⟨b, o, none⟩ ∧ b < w.heap.size ∧ l[k]? = some p ∧ w.cell? ⟨b, o + k * 2, none⟩ = some (slv p.1) ∧ w.cell? ⟨b, o + k * 2 + 1, none⟩ = some (.int .i64 ((needs p.2 : Nat) : Int)) := by
  obtain ⟨b, o, hA, hb, hc⟩ := h.at_ (by omega)
  have hl := h.len
  have hp : l[k]? = some (l[k]'(by omega)) := List.getElem?_eq_getElem _
  obtain ⟨h1, h2⟩ := fcells_get l hp
  exact ⟨b, o, _, hA, hb, hp, hc _ _ h1, by have := hc _ _ h2; rwa [← Nat.add_assoc] at this⟩
theorem FrL.tail {b o : Nat} (h : FrL w (some ⟨b, o, none⟩) n (p :: l)) : FrL w (some ⟨b, o + 2, none⟩) (n - 1) l :=
  ⟨by have := h.len; simp at this; omega, fun hn => by
    obtain ⟨b', o', hA, hb, hc⟩ := h.at_ (by omega)
    cases hA
    refine ⟨b, o + 2, rfl, hb, fun j u hu => ?_⟩
    have := hc (j + 2) u (by simpa [fcells] using hu)
    rwa [show o + (j + 2) = o + 2 + j by omega] at this⟩
theorem FrL.of_own {base : Nat} {e : TypeId} (h : w.ownsRow base e 2 (.slice A n c) n (fcells l)) : FrL w A n l := by
  have hl := h.1
  rw [fcells_len] at hl
  refine ⟨by omega, fun hn => ?_⟩
  rcases h.2 with ⟨h1, h2⟩ | ⟨g, cap, cur, h1, _, hg, hcn, hcm, hs, ht⟩
  · omega
  · simp only [Value.slice.injEq] at h1
    obtain ⟨rfl, -, rfl⟩ := h1
    refine ⟨g, 0, rfl, (Array.getElem?_eq_some_iff.1 hg).1, fun j u hu => ?_⟩
    rw [Nat.zero_add, cell_of_row w g j cur e (0, 0) hg]
    rw [← ht, List.getElem?_take] at hu
    split at hu
    · simpa using hu
    · cases hu
end
section
variable {P : Program}
/-- Appending whatever to an empty slice without room, as one step of a region that draws its order. -/
theorem step_append_empty {w : World} {ops : Array Oper} {o : Oper} {a : Act} {K : Act → World → Prop} {Q : Exit → Act → World → Prop} {E : Prop} (hgd : o.guard = none) {s x : Operand} {t : TypeId}
    (ho : o.op = .call { callee := .builtin .append, args := #[s, x], argTypes := #[t, t] })
    {e : TypeId} {z : Value} {size bytes : Nat} (ht : P.underlying t = some (.slice e)) (hi : (P.info? e).map (fun i => (i.zero, i.size, i.bytes)) = some (some z, size, bytes)) (hzs : z.cells.size = size) (hsz : 0 < size)
    {A0 : Option Addr} (hs : a.eval s = .slice A0 0 0) {A : Option Addr} {m c : Nat} {news : List Value} (hx : a.eval x = .slice A m c) (hl : news.length = m * size)
    (hat : 0 < m → ∃ b o, A = some ⟨b, o, none⟩ ∧ ∀ j u, news[j]? = some u → w.cell? ⟨b, o + j, none⟩ = some u) (h1 : ∀ u ∈ news, u.oneCell' = true) (h63 : m ≤ maxLen) (hbytes : m * bytes ≤ 140737488355328)
    (h : ∀ A' c' w' row', Ext w w' → Dst w' w.heap.size e size (.slice A' m c') m news row' → (∀ k, row' = some k → w.heap.size ≤ k) → K (a.put o.dst (.slice A' m c')) w') :
    if Region.wanted o (yielded ops a.tmps) = true then Oper.wp P o a w K Q else E := by
  have hw : Region.wanted o (yielded ops a.tmps) = true := by simp [Region.wanted, hgd]
  rw [if_pos hw]
  by_cases hm : 0 < m
  · obtain ⟨b, of, rfl, hc⟩ := hat hm
    refine wp_append_dst w ho ht hi hzs hsz hs (base := w.heap.size) (n := 0) (xs := []) (row := none) (.inr ⟨A0, rfl, rfl, by simp, fun h => absurd h (by omega)⟩) hx hl (fun j u hu => by rw [Addr.add_lit]; exact hc j u hu) h1 hm (by omega) (by simpa using hbytes) (Nat.le_refl _) ?_
    intro g cap w' h2 h3 h4 _
    rw [Nat.zero_add, List.nil_append] at h2
    rw [Nat.zero_add]
    refine h (some ⟨g, 0, none⟩) cap w' _ ⟨h3.os, h3.tape, h3.output, h3.size, fun k hk => h3.block k hk (by simp)⟩ (Dst.of_own h2) (fun k hk => ?_)
    cases hk
    rcases h4 with h4 | h4
    · cases h4
    · exact Nat.le_of_eq h4.symm
  · obtain rfl : m = 0 := by omega
    obtain rfl : news = [] := List.eq_nil_of_length_eq_zero (by omega)
    obtain ⟨i, hi', hz, hsize, hby⟩ := info_parts hi
    have hsrc : Src P i.size t (.slice A 0 c) 0 [] w := by
      cases A with
      | none => exact ⟨.inl ⟨_, ht⟩, fun _ => rfl, run_firstCells_none w i.size 0 0 c, run_firstCells_none w.drew i.size 0 0 c, by simp, by simp⟩
      | some ad => exact Src.ofSlice w ht ad 0 c [] (by simp) (by simp) (by simp)
    have hr := run_append_nothing (P := P) w t t o.type e i ht hi' A0 0 0 (Nat.le_refl _) _ hsrc
    unfold Oper.wp execOp
    simp only [ho, resolve, invoke, builtin, Sem.run_bind, Sem.run_pure, Result.andThen_ok, List.map_toArray, List.map_cons, List.map_nil, hs, hx, hr]
    exact h A0 0 w none (Ext.refl w) (.inr ⟨A0, rfl, rfl, by simp, fun h => absurd h (by omega)⟩) (fun k hk => by cases hk)
end
/-- The cells of the reference's state. -/
def refC (W P : Sl) (pn : Int) (l p a t i : Nat) : Array Value := #[.slice W.A W.n W.c, .slice P.A P.n P.c, .int .i64 pn, .int .i64 (l : Int), .int .i64 (p : Int), .int .i64 (a : Int), .int .i64 (t : Int), .int .i64 (i : Int)]
def refV (W P : Sl) (pn : Int) (l p a t i : Nat) : Value := .agg #[.slice W.A W.n W.c, .slice P.A P.n P.c, .int .i64 pn, .int .i64 (l : Int), .int .i64 (p : Int), .int .i64 (a : Int), .int .i64 (t : Int), .int .i64 (i : Int)]
theorem Blk.c8 {w : World} {g : Nat} {t : TypeId} {a0 a1 a2 a3 a4 a5 a6 a7 : Value} (h : Blk w g t #[a0, a1, a2, a3, a4, a5, a6, a7]) :
    w.cell? ⟨g, 0, none⟩ = some a0 ∧ w.cell? ⟨g, 1, none⟩ = some a1 ∧ w.cell? ⟨g, 2, none⟩ = some a2 ∧ w.cell? ⟨g, 3, none⟩ = some a3 ∧ w.cell? ⟨g, 4, none⟩ = some a4 ∧ w.cell? ⟨g, 5, none⟩ = some a5 ∧ w.cell? ⟨g, 6, none⟩ = some a6 ∧ w.cell? ⟨g, 7, none⟩ = some a7 :=
  ⟨by rw [h.cell]; rfl, by rw [h.cell]; rfl, by rw [h.cell]; rfl, by rw [h.cell]; rfl, by rw [h.cell]; rfl, by rw [h.cell]; rfl, by rw [h.cell]; rfl, by rw [h.cell]; rfl⟩
theorem Blk.f8 {w : World} {g : Nat} {t : TypeId} {cs : Array Value} (h : Blk w g t cs) :
    w.frozen? ⟨g, 0, none⟩ = false ∧ w.frozen? ⟨g, 1, none⟩ = false ∧ w.frozen? ⟨g, 2, none⟩ = false ∧ w.frozen? ⟨g, 3, none⟩ = false ∧ w.frozen? ⟨g, 4, none⟩ = false ∧ w.frozen? ⟨g, 5, none⟩ = false ∧ w.frozen? ⟨g, 6, none⟩ = false ∧ w.frozen? ⟨g, 7, none⟩ = false :=
  ⟨h.frozen 0, h.frozen 1, h.frozen 2, h.frozen 3, h.frozen 4, h.frozen 5, h.frozen 6, h.frozen 7⟩
theorem chg_set1 (w : World) (g i : Nat) (v : Value) : Chg (fun k => k = g) w (w.setCell ⟨g, i, none⟩ v) := Chg.set _ _ _ _ rfl
theorem Blk.all8 {w : World} {g : Nat} {t : TypeId} {a0 a1 a2 a3 a4 a5 a6 a7 : Value} (h : Blk w g t #[a0, a1, a2, a3, a4, a5, a6, a7]) (b0 b1 b2 b3 b4 b5 b6 b7 : Value) :
    Blk ((((((((w.setCell ⟨g, 0, none⟩ b0).setCell ⟨g, 1, none⟩ b1).setCell ⟨g, 2, none⟩ b2).setCell ⟨g, 3, none⟩ b3).setCell ⟨g, 4, none⟩ b4).setCell ⟨g, 5, none⟩ b5).setCell ⟨g, 6, none⟩ b6).setCell ⟨g, 7, none⟩ b7) g t #[b0, b1, b2, b3, b4, b5, b6, b7] ∧
    Chg (fun k => k = g) w ((((((((w.setCell ⟨g, 0, none⟩ b0).setCell ⟨g, 1, none⟩ b1).setCell ⟨g, 2, none⟩ b2).setCell ⟨g, 3, none⟩ b3).setCell ⟨g, 4, none⟩ b4).setCell ⟨g, 5, none⟩ b5).setCell ⟨g, 6, none⟩ b6).setCell ⟨g, 7, none⟩ b7) := by
  refine ⟨?_, (((((((chg_set1 _ _ _ _).t (chg_set1 _ _ _ _)).t (chg_set1 _ _ _ _)).t (chg_set1 _ _ _ _)).t (chg_set1 _ _ _ _)).t (chg_set1 _ _ _ _)).t (chg_set1 _ _ _ _)).t (chg_set1 _ _ _ _)⟩
  have := (((((((h.set_ 0 b0).set_ 1 b1).set_ 2 b2).set_ 3 b3).set_ 4 b4).set_ 5 b5).set_ 6 b6).set_ 7 b7
  simpa using this
end Go.Fx
namespace Go.Proofs.Ytpipnefepnknoaa
open Go.RowKit Go.Fx
theorem ul_fr : Try.prog.underlying 65 = some (.slice 67) := Try.underlying65
/-- The block that a list lies in, if it has any element. -/
def rowF (A : Option Addr) (n k : Nat) : Prop := 0 < n ∧ ∃ o, A = some ⟨k, o, none⟩
/-- The reference's state has what an inbox has (the frames' bytes are read in the world wb, where they came from). -/
structure RefOk (wb w : World) (W P : Sl) (fs : List Fr) (st : St) : Prop where
  frl : FrL w W.A W.n fs
  le : W.n ≤ W.c
  max : W.c ≤ maxLen
  wait : fs.map (·.2) = st.wait
  rds : ∀ p ∈ fs, Rd u8v wb p.1.A p.1.n p.2 ∧ ∀ x ∈ p.2, x < 256
  cur : Rd u8v wb P.A P.n st.cur ∧ ∀ x ∈ st.cur, x < 256
theorem RefOk.ext {wb w w' : World} {W P : Sl} {fs : List Fr} {st : St} (h : RefOk wb w W P fs st) (e : Ext w w') : RefOk wb w' W P fs st :=
  ⟨h.frl.ext e, h.le, h.max, h.wait, h.rds, h.cur⟩
theorem frl_chg {T : Nat → Prop} {w w' : World} {A : Option Addr} {n : Nat} {l : List Fr} (h : FrL w A n l) (ch : Chg T w w') (hT : ∀ k, rowF A n k → ¬ T k) : FrL w' A n l := ⟨h.len, fun hn => by
  obtain ⟨b, o, hA, hb, hc⟩ := h.at_ hn
  exact ⟨b, o, hA, ch.lt hb, fun j u hu => (ch.cell (p := ⟨b, o + j, none⟩) hb (hT b ⟨hn, o, hA⟩)).trans (hc j u hu)⟩⟩
theorem RefOk.chg {T : Nat → Prop} {wb w w' : World} {W P : Sl} {fs : List Fr} {st : St} (h : RefOk wb w W P fs st) (ch : Chg T w w') (hT : ∀ k, rowF W.A W.n k → ¬ T k) : RefOk wb w' W P fs st :=
  ⟨frl_chg h.frl ch hT, h.le, h.max, h.wait, h.rds, h.cur⟩
theorem frl_lt {w : World} {A : Option Addr} {n : Nat} {l : List Fr} (h : FrL w A n l) {k : Nat} (hk : rowF A n k) : k < w.heap.size := by
  obtain ⟨hn, o, hA⟩ := hk
  obtain ⟨b, o', hA', hb, _⟩ := h.at_ hn
  rw [hA] at hA'; cases hA'; exact hb
theorem rd_lt {w : World} {A : Option Addr} {n : Nat} {os : List Sl} (h : Rd slv w A n os) {k : Nat} (hk : rowF A n k) : k < w.heap.size := by
  obtain ⟨hn, o, hA⟩ := hk
  obtain ⟨b, o', hA', hb, _⟩ := h.2 hn
  rw [hA] at hA'; cases hA'; exact hb
end Go.Proofs.Ytpipnefepnknoaa
