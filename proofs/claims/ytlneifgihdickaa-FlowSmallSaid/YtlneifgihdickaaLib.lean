/- Plain words for memory that the walks of this claim share: a slice of numbers that reads as a list; what survives new blocks and draws. No condition. -/
import Derived.Test.YtlneifgihdickaaRows
import Derived.WalkKit
import Derived.WalkLawsBesides
import Derived.WalkSpells
import Derived.Deep.QuietTactic
import Derived.BigQuiet
import Derived.Deep.RegionLaw
import Derived.Deep.Draws
import Derived.Deep.AppendSrc
import Derived.Deep.AppendLies
import Derived.Lib.Hide
namespace Go.Fx
open Go.RowKit

theorem below_drewN {B : Nat} {a w : World} (h : Below B a w) (n : Nat) : Below B a (w.drewN n) := ⟨h.os, h.tape, h.output, h.size, h.block⟩
theorem below_of_drewN {B : Nat} {a w : World} {n : Nat} (h : Below B (a.drewN n) w) : Below B a w := ⟨h.os, h.tape, h.output, h.size, h.block⟩
theorem below_of_drew {B : Nat} {a w : World} (h : Below B a.drew w) : Below B a w := ⟨h.os, h.tape, h.output, h.size, h.block⟩
theorem below_of_alloc {a w : World} {o : Obj} (h : Below (a.alloc o).heap.size (a.alloc o) w) : Below a.heap.size a w :=
  ((Below.refl _ _).alloc (Nat.le_refl _) o).trans (h.mono (by simp))

/-- Nothing that was there has turned; new blocks may have come. -/
abbrev Ext (w w' : World) : Prop := Below w.heap.size w w'
theorem Ext.refl (w : World) : Ext w w := Below.refl _ _
theorem Ext.alloc (w : World) (o : Obj) : Ext w (w.alloc o) := (Below.refl _ _).alloc (Nat.le_refl _) o
theorem Ext.drewN (w : World) (n : Nat) : Ext w (w.drewN n) := below_drewN (Below.refl _ _) n
theorem Ext.drew (w : World) : Ext w w.drew := (Below.refl _ _).drew
end Go.Fx
namespace Go.RowKit
theorem Below.ext {B : Nat} {a w w' : World} (h : Below B a w) (e : Below w.heap.size w w') (hB : B ≤ w.heap.size := by first | assumption | (have := Below.size ‹_›; omega)) : Below B a w' := h.trans (e.mono hB)
theorem Below.t {a w w' : World} (h : Below a.heap.size a w) (e : Below w.heap.size w w') : Below a.heap.size a w' := h.trans (e.mono h.size)
end Go.RowKit
namespace Go.Fx
open Go.RowKit

/-- The slice '.slice A n c' reads as the cells 'f x', x in xs. -/
def Rd {α : Type} (f : α → Value) (w : World) (A : Option Addr) (n : Nat) (xs : List α) : Prop :=
  xs.length = n ∧ (0 < n → ∃ b o, A = some ⟨b, o, none⟩ ∧ b < w.heap.size ∧ ∀ i x, xs[i]? = some x → w.cell? ⟨b, o + i, none⟩ = some (f x))

section
variable {α : Type} {f : α → Value} {w w' : World} {n : Nat} {A : Option Addr} {xs : List α}
theorem Rd.none_ : Rd f w A 0 ([] : List α) := ⟨rfl, fun h => absurd h (by omega)⟩
theorem Rd.at_ {k : Nat} (h : Rd f w A n xs) (hk : k < n) : ∃ b o x, A = some ⟨b, o, none⟩ ∧ b < w.heap.size ∧ xs[k]? = some x ∧ w.cell? ⟨b, o + k, none⟩ = some (f x) := by
  obtain ⟨b, o, e, hb, hc⟩ := h.2 (by omega)
  have hl : k < xs.length := by have := h.1; omega
  exact ⟨b, o, xs[k], e, hb, List.getElem?_eq_getElem hl, hc k _ (List.getElem?_eq_getElem hl)⟩
theorem Rd.keep (h : Rd f w A n xs) (hs : w.heap.size ≤ w'.heap.size) (hk : ∀ p : Addr, p.block < w.heap.size → w'.cell? p = w.cell? p) : Rd f w' A n xs :=
  ⟨h.1, fun hn => by
    obtain ⟨b, o, e, hb, hc⟩ := h.2 hn
    exact ⟨b, o, e, by omega, fun i x hx => (hk ⟨b, o + i, none⟩ hb).trans (hc i x hx)⟩⟩
theorem Rd.ext (h : Rd f w A n xs) (e : Ext w w') : Rd f w' A n xs := h.keep e.size fun _ hp => e.cell hp
theorem Rd.drew (h : Rd f w A n xs) : Rd f w.drew A n xs := h
theorem Rd.drewN (h : Rd f w A n xs) (k : Nat) : Rd f (w.drewN k) A n xs := h
theorem Rd.alloc (h : Rd f w A n xs) (o : Obj) : Rd f (w.alloc o) A n xs := h.ext (Ext.alloc w o)
/-- A block that is known whole. -/
theorem Rd.of_block {b : Nat} {t : TypeId} {cs : Array Value} {fr : Nat × Nat} (h : w.heap[b]? = some (.cells cs t fr)) (hc : cs.toList.take n = xs.map f) (hn : n ≤ cs.size) : Rd f w (some ⟨b, 0, none⟩) n xs := by
  have hl : xs.length = n := by
    have := congrArg List.length hc
    rw [List.length_take, List.length_map, Array.length_toList] at this
    omega
  refine ⟨hl, fun _ => ⟨b, 0, rfl, (Array.getElem?_eq_some_iff.1 h).1, fun i x hx => ?_⟩⟩
  have hi : i < n := by have := (List.getElem?_eq_some_iff.1 hx).1; omega
  have e1 : (cs.toList.take n)[i]? = some (f x) := by rw [hc, List.getElem?_map, hx]; rfl
  rw [List.getElem?_take, if_pos hi] at e1
  simp only [World.cell?, h, Nat.zero_add]
  simpa using e1
theorem Rd.of_own {base : Nat} {e : TypeId} {c : Nat} (h : w.ownsRow base e 1 (.slice A n c) n (xs.map f)) : Rd f w A n xs := by
  have hl : xs.length = n := by have := h.1; simpa using this
  refine ⟨hl, fun hn => ?_⟩
  obtain ⟨g, cap, hv, _, hlt⟩ := h.form hn
  have hA : A = some ⟨g, 0, none⟩ := by injection hv
  subst hA
  refine ⟨g, 0, rfl, hlt, fun i x hx => ?_⟩
  have := h.cells (g := g) rfl i (f x) (by rw [List.getElem?_map, hx]; rfl)
  simpa [Addr.add_lit] using this
end

theorem take_snoc {α : Type} {xs : List α} {k : Nat} {x : α} (h : xs[k]? = some x) : xs.take (k + 1) = xs.take k ++ [x] := by
  obtain ⟨hk, rfl⟩ := List.getElem?_eq_some_iff.1 h
  rw [List.take_succ_eq_append_getElem hk]
theorem ret_bool {a b : Bool} (h : a = b) : Ending.returned (.bool a) = .returned (.bool b) := by rw [h]
theorem ret_int {k : IntKind} {a b : Int} (h : a = b) : Ending.returned (.int k a) = .returned (.int k b) := by rw [h]

/-- 'Dst': what an append may be done to: a row of the call's own ('row': the block that may then be written); or a slice without spare room (then no block is written). -/
def Dst (w : World) (base : Nat) (e : TypeId) (size : Nat) (v : Value) (n : Nat) (xs : List Value) (row : Option Nat) : Prop :=
  (w.ownsRow base e size v n xs ∧ row = v.ownBlock) ∨
  (∃ A, v = .slice A n n ∧ row = none ∧ xs.length = n * size ∧ (0 < n → ∃ b o, A = some ⟨b, o, none⟩ ∧ b < w.heap.size ∧ ∀ j u, xs[j]? = some u → w.cell? ⟨b, o + j, none⟩ = some u))

section
variable {w w' : World} {base : Nat} {e : TypeId} {size : Nat} {v : Value} {n : Nat} {xs : List Value} {row : Option Nat}
theorem Dst.of_own (h : w.ownsRow base e size v n xs) : Dst w base e size v n xs v.ownBlock := .inl ⟨h, rfl⟩
theorem Dst.nil : Dst w base e size (.slice none 0 0) 0 [] none := .inl ⟨World.ownsRow_nil w base e size, rfl⟩
theorem Dst.full {α : Type} {f : α → Value} {A : Option Addr} {ys : List α} (h : Rd f w A n ys) : Dst w base e 1 (.slice A n n) n (ys.map f) none := by
  refine .inr ⟨A, rfl, rfl, by simp [h.1], fun hn => ?_⟩
  obtain ⟨b, o, hA, hb, hc⟩ := h.2 hn
  refine ⟨b, o, hA, by omega, fun j u hu => ?_⟩
  rw [List.getElem?_map] at hu
  cases hy : ys[j]? with
  | none => rw [hy] at hu; cases hu
  | some y => rw [hy] at hu; injection hu with hu; subst hu; exact hc j y hy
theorem Dst.alloc (h : Dst w base e size v n xs row) (o : Obj) : Dst (w.alloc o) base e size v n xs row := by
  rcases h with ⟨h, hr⟩ | ⟨A, hv, hr, hl, hc⟩
  · exact .inl ⟨h.alloc o, hr⟩
  · refine .inr ⟨A, hv, hr, hl, fun hn => ?_⟩
    obtain ⟨b, o', hA, hb, hc⟩ := hc hn
    exact ⟨b, o', hA, by simp; omega, fun j u hu => (World.cell?_alloc_lt w o ⟨b, o' + j, none⟩ hb).trans (hc j u hu)⟩
theorem Dst.ext (h : Dst w base e size v n xs row) (hb : Below w.heap.size w w') : Dst w' base e size v n xs row := by
  rcases h with ⟨h, hr⟩ | ⟨A, hv, hr, hl, hc⟩
  · refine .inl ⟨⟨h.1, ?_⟩, hr⟩
    rcases h.2 with h2 | ⟨g, cap, cur, hv, hbg, hg, rest⟩
    · exact .inl h2
    · exact .inr ⟨g, cap, cur, hv, hbg, (hb.block g (Array.getElem?_eq_some_iff.1 hg).1).trans hg, rest⟩
  · refine .inr ⟨A, hv, hr, hl, fun hn => ?_⟩
    obtain ⟨b, o', hA, hbl, hc⟩ := hc hn
    have := hb.size
    exact ⟨b, o', hA, by omega, fun j u hu => (hb.cell (p := ⟨b, o' + j, none⟩) hbl).trans (hc j u hu)⟩
theorem Dst.drew (h : Dst w base e size v n xs row) : Dst w.drew base e size v n xs row := h
theorem Dst.drewN (h : Dst w base e size v n xs row) (k : Nat) : Dst (w.drewN k) base e size v n xs row := h
theorem Dst.shape (h : Dst w base e size v n xs row) : ∃ A c, v = .slice A n c := by
  rcases h with ⟨h, _⟩ | ⟨A, hv, _⟩
  · rcases h.2 with ⟨rfl, rfl⟩ | ⟨g, cap, _, rfl, _⟩
    · exact ⟨_, _, rfl⟩
    · exact ⟨_, _, rfl⟩
  · exact ⟨_, _, hv⟩
theorem Dst.row_lt (h : Dst w base e size v n xs row) : ∀ k, row = some k → base ≤ k ∧ k < w.heap.size := by
  rcases h with ⟨h, rfl⟩ | ⟨A, hv, rfl, _⟩
  · exact h.lt
  · intro k hk; cases hk
end

section
variable {P : Program} (w : World)
/-- append of at least one element: the result is a row of the call's own. -/
theorem run_append_dst (base : Nat) (t ty e : TypeId) (i : TypeInfo) (z : Value) (size bytes : Nat) (ht : P.underlying t = some (.slice e)) (hi : P.info? e = some i) (hz : i.zero = some z)
    (hsize : i.size = size) (hby : i.bytes = bytes) (hzs : z.cells.size = size) (hsz : 0 < size)
    (v : Value) (n : Nat) (xs : List Value) (row : Option Nat) (hd : Dst w base e size v n xs row)
    (a : Addr) (m c : Nat) (news : List Value) (hl : news.length = m * size) (hnews : ∀ j u, news[j]? = some u → w.cell? (a.add j) = some u) (h1 : ∀ u ∈ news, u.oneCell' = true)
    (hm : 0 < m) (h63 : n + m ≤ maxLen) (hbytes : (n + m) * bytes ≤ 140737488355328) (hbase : base ≤ w.heap.size) :
    ∃ g cap w', (Builtin.append_ #[t, t] ty #[v, .slice (some a) m c]).run P w = .ok (.slice (some ⟨g, 0, none⟩) (n + m) cap) w' ∧
      w'.ownsRow base e size (.slice (some ⟨g, 0, none⟩) (n + m) cap) (n + m) (xs ++ news) ∧ w.grownBy w' row ∧ (row = some g ∨ g = w.heap.size) ∧ g < w'.heap.size := by
  rcases hd with ⟨hown, rfl⟩ | ⟨A, rfl, rfl, hxl, hc⟩
  · obtain ⟨g, cap, w', h⟩ := run_append_lies (P := P) w t ty base e i z size bytes ht hi hz hsize hby hzs hsz v n xs hown a m c news hl hnews h1 hm h63 hbytes hbase _ rfl
    exact ⟨g, cap, w', h⟩
  · subst hsize
    subst hby
    have hsrc : Src P i.size t (.slice (some a) m c) m news w := Src.ofSlice w ht a m c news hl hnews h1
    have hold : (Builtin.firstCells i.size n (.slice A n n)).run P w.drew = .ok xs.toArray w.drew := by
      by_cases hn : 0 < n
      · obtain ⟨b, o, rfl, _, hc⟩ := hc hn
        exact run_firstCells_some w.drew i.size n ⟨b, o, none⟩ n n xs hxl (fun j u hu => by rw [Addr.add_lit]; exact hc j u hu)
      · obtain rfl : n = 0 := by omega
        obtain rfl : xs = [] := List.eq_nil_of_length_eq_zero (by simpa using hxl)
        cases A with
        | none => exact run_firstCells_none w.drew i.size 0 0 0
        | some a' => exact run_firstCells_some w.drew i.size 0 a' 0 0 [] (by simp) (by intro _ _ h'; simp at h')
    have hrun := run_append_grow_src (P := P) w t t ty e i z ht hi hz A n n xs hold _ m news hsrc (by omega) (by simp only [maxLen] at h63; omega) (growslice_fits (by omega) hbytes)
    have hge := grownCap_ge w (n + m) n e
    have hcm := grownCap_le_maxLen w (n + m) n e h63
    have hlen : (xs ++ news).length = (n + m) * i.size := by rw [List.length_append, hxl, hl, Nat.add_mul]
    refine ⟨w.heap.size, _, _, hrun, ⟨hlen, .inr ⟨w.heap.size, _, _, rfl, hbase, heap_alloc_new w.drew _, hge, hcm, ?_, ?_⟩⟩, ⟨rfl, rfl, rfl, by simp, fun k hk _ => Below.heap_alloc w.drew _ k hk⟩, .inr rfl, by simp⟩
    · rw [Array.size_append, List.size_toArray, hlen, size_zeroCells, hzs, ← Nat.add_mul]
      congr 1
      omega
    · simp only [Array.toList_append, ← hlen]
      exact List.take_left
theorem wp_append_dst {o : Oper} {a : Act} {K : Act → World → Prop} {Q : Exit → Act → World → Prop} {s x : Operand} {t : TypeId}
    (ho : o.op = .call { callee := .builtin .append, args := #[s, x], argTypes := #[t, t] })
    {base : Nat} {e : TypeId} {z : Value} {size bytes : Nat} (ht : P.underlying t = some (.slice e)) (hi : (P.info? e).map (fun i => (i.zero, i.size, i.bytes)) = some (some z, size, bytes))
    (hzs : z.cells.size = size) (hsz : 0 < size)
    {v : Value} {n : Nat} {xs : List Value} {row : Option Nat} (hs : a.eval s = v) (hd : Dst w base e size v n xs row)
    {ad : Addr} {m c : Nat} {news : List Value} (hx : a.eval x = .slice (some ad) m c) (hl : news.length = m * size) (hnews : ∀ j u, news[j]? = some u → w.cell? (ad.add j) = some u) (h1 : ∀ u ∈ news, u.oneCell' = true)
    (hm : 0 < m) (h63 : n + m ≤ maxLen) (hbytes : (n + m) * bytes ≤ 140737488355328) (hbase : base ≤ w.heap.size)
    (h : ∀ g cap w', w'.ownsRow base e size (.slice (some ⟨g, 0, none⟩) (n + m) cap) (n + m) (xs ++ news) → w.grownBy w' row → (row = some g ∨ g = w.heap.size) → g < w'.heap.size → K (a.put o.dst (.slice (some ⟨g, 0, none⟩) (n + m) cap)) w') : o.wp P a w K Q := by
  obtain ⟨i, hi', hz, hsize, hby⟩ := info_parts hi
  obtain ⟨g, cap, w', hr, h2, h3, h4, h5⟩ := run_append_dst (P := P) w base t o.type e i z size bytes ht hi' hz hsize hby hzs hsz v n xs row hd ad m c news hl hnews h1 hm h63 hbytes hbase
  unfold Oper.wp execOp
  simp only [ho, resolve, invoke, builtin, Sem.run_bind, Sem.run_pure, Result.andThen_ok, List.map_toArray, List.map_cons, List.map_nil, hs, hx, hr]
  exact h g cap w' h2 h3 h4 h5
theorem wpList_append_dst {ops : Array Oper} {rest : List Oper} {o : Oper} {a : Act} {Q : Exit → Act → World → Prop} (hgd : o.guard = none) {s x : Operand} {t : TypeId}
    (ho : o.op = .call { callee := .builtin .append, args := #[s, x], argTypes := #[t, t] })
    {base : Nat} {e : TypeId} {z : Value} {size bytes : Nat} (ht : P.underlying t = some (.slice e)) (hi : (P.info? e).map (fun i => (i.zero, i.size, i.bytes)) = some (some z, size, bytes))
    (hzs : z.cells.size = size) (hsz : 0 < size)
    {v : Value} {n : Nat} {xs : List Value} {row : Option Nat} (hs : a.eval s = v) (hd : Dst w base e size v n xs row)
    {ad : Addr} {m c : Nat} {news : List Value} (hx : a.eval x = .slice (some ad) m c) (hl : news.length = m * size) (hnews : ∀ j u, news[j]? = some u → w.cell? (ad.add j) = some u) (h1 : ∀ u ∈ news, u.oneCell' = true)
    (hm : 0 < m) (h63 : n + m ≤ maxLen) (hbytes : (n + m) * bytes ≤ 140737488355328) (hbase : base ≤ w.heap.size)
    (h : ∀ g cap w', w'.ownsRow base e size (.slice (some ⟨g, 0, none⟩) (n + m) cap) (n + m) (xs ++ news) → w.grownBy w' row → (row = some g ∨ g = w.heap.size) → g < w'.heap.size → wpList P ops Q rest (a.put o.dst (.slice (some ⟨g, 0, none⟩) (n + m) cap)) w') : wpList P ops Q (o :: rest) a w :=
  wpList_plain hgd fun _ hK => wp_append_dst w ho ht hi hzs hsz hs hd hx hl hnews h1 hm h63 hbytes hbase fun g cap w' h2 h3 h4 h5 => hK _ _ (h g cap w' h2 h3 h4 h5)
theorem step_append_dst {ops : Array Oper} {o : Oper} {a : Act} {K : Act → World → Prop} {Q : Exit → Act → World → Prop} {E : Prop} (hgd : o.guard = none) {s x : Operand} {t : TypeId}
    (ho : o.op = .call { callee := .builtin .append, args := #[s, x], argTypes := #[t, t] })
    {base : Nat} {e : TypeId} {z : Value} {size bytes : Nat} (ht : P.underlying t = some (.slice e)) (hi : (P.info? e).map (fun i => (i.zero, i.size, i.bytes)) = some (some z, size, bytes))
    (hzs : z.cells.size = size) (hsz : 0 < size)
    {v : Value} {n : Nat} {xs : List Value} {row : Option Nat} (hs : a.eval s = v) (hd : Dst w base e size v n xs row)
    {ad : Addr} {m c : Nat} {news : List Value} (hx : a.eval x = .slice (some ad) m c) (hl : news.length = m * size) (hnews : ∀ j u, news[j]? = some u → w.cell? (ad.add j) = some u) (h1 : ∀ u ∈ news, u.oneCell' = true)
    (hm : 0 < m) (h63 : n + m ≤ maxLen) (hbytes : (n + m) * bytes ≤ 140737488355328) (hbase : base ≤ w.heap.size)
    (h : ∀ g cap w', w'.ownsRow base e size (.slice (some ⟨g, 0, none⟩) (n + m) cap) (n + m) (xs ++ news) → w.grownBy w' row → (row = some g ∨ g = w.heap.size) → g < w'.heap.size → K (a.put o.dst (.slice (some ⟨g, 0, none⟩) (n + m) cap)) w') :
    if Region.wanted o (yielded ops a.tmps) = true then Oper.wp P o a w K Q else E := by
  have hw : Region.wanted o (yielded ops a.tmps) = true := by simp [Region.wanted, hgd]
  rw [if_pos hw]
  exact wp_append_dst w ho ht hi hzs hsz hs hd hx hl hnews h1 hm h63 hbytes hbase h
end

/-- Block g is just the cells cs of element type t, none frozen. -/
def Blk (w : World) (g : Nat) (t : TypeId) (cs : Array Value) : Prop := w.heap[g]? = some (.cells cs t (0, 0))
section
variable {w w' : World} {g : Nat} {t : TypeId} {cs : Array Value}
theorem Blk.lt (h : Blk w g t cs) : g < w.heap.size := by
  rcases Nat.lt_or_ge g w.heap.size with hlt | hge
  · exact hlt
  · unfold Blk at h; rw [Array.getElem?_eq_none hge] at h; cases h
theorem Blk.cell (h : Blk w g t cs) (i : Nat) : w.cell? ⟨g, i, none⟩ = cs[i]? := cell_of_row w g i cs t (0, 0) h
theorem Blk.cell_at (h : Blk w g t cs) {i : Nat} (hi : i < cs.size) : ∃ u, w.cell? ⟨g, i, none⟩ = some u := ⟨cs[i], by rw [h.cell, Array.getElem?_eq_getElem hi]⟩
theorem Blk.frozen (h : Blk w g t cs) (i : Nat) : w.frozen? ⟨g, i, none⟩ = false := by
  unfold Blk at h
  simp [World.frozen?, h]
theorem Blk.new (w : World) (t : TypeId) (cs : Array Value) : Blk (w.alloc (.cells cs t)) w.heap.size t cs := heap_alloc_new w _
theorem Blk.cell0 {v : Value} (h : Blk w g t #[v]) : w.cell? ⟨g, 0, none⟩ = some v := by rw [h.cell]; rfl
theorem Blk.drew (h : Blk w g t cs) : Blk w.drew g t cs := h
theorem Blk.drewN (h : Blk w g t cs) (n : Nat) : Blk (w.drewN n) g t cs := h
theorem Blk.alloc (h : Blk w g t cs) (o : Obj) : Blk (w.alloc o) g t cs := (Below.heap_alloc w o g h.lt).trans h
theorem Blk.set_ (h : Blk w g t cs) (i : Nat) (u : Value) : Blk (w.setCell ⟨g, i, none⟩ u) g t (cs.setIfInBounds i u) := by
  unfold Blk at h ⊢
  simp [World.setCell, Array.getElem?_modify, h]
theorem Blk.set0 {v : Value} (h : Blk w g t #[v]) (u : Value) : Blk (w.setCell ⟨g, 0, none⟩ u) g t #[u] := h.set_ 0 u
theorem Blk.far (h : Blk w g t cs) {p : Addr} (hp : g ≠ p.block) (u : Value) : Blk (w.setCell p u) g t cs := (Below.heap_setCell w p u g hp).trans h
theorem Blk.below {B : Nat} (h : Blk w g t cs) (hb : Below B w w') (hg : g < B) : Blk w' g t cs := (hb.block g hg).trans h
theorem Blk.grown {row : Option Nat} (h : Blk w g t cs) (hb : w.grownBy w' row) (hg : some g ≠ row) : Blk w' g t cs := (hb.block g h.lt hg).trans h
end
theorem setCell_size (w : World) (p : Addr) (u : Value) : (w.setCell p u).heap.size = w.heap.size := by simp [World.setCell]
theorem news_of_blk {w : World} {g : Nat} {t : TypeId} {cs : Array Value} {m : Nat} {l : List Value} (h : Blk w g t cs) (hl : cs.toList.take m = l) : ∀ j u, l[j]? = some u → w.cell? ((⟨g, 0, none⟩ : Addr).add j) = some u := by
  intro j u hu
  rw [Addr.add_lit, Nat.zero_add, h.cell]
  rw [← hl, List.getElem?_take] at hu
  split at hu
  · simpa using hu
  · cases hu
theorem one_cells {α : Type} {f : α → Value} (l : List α) (h : ∀ x, (f x).oneCell' = true) : ∀ u ∈ l.map f, u.oneCell' = true := by
  intro u hu
  obtain ⟨x, _, rfl⟩ := List.mem_map.1 hu
  exact h x
theorem grown_of_below {w w1 w2 : World} {row : Option Nat} (h : Below w.heap.size w w1) (hg : w1.grownBy w2 row) : w.grownBy w2 row :=
  ⟨hg.os.trans h.os, hg.tape.trans h.tape, hg.output.trans h.output, Nat.le_trans h.size hg.size, fun k hk hr => (hg.block k (Nat.lt_of_lt_of_le hk h.size) hr).trans (h.block k hk)⟩
theorem grown_trans {w w1 w2 : World} {row r2 : Option Nat} (h : w.grownBy w1 row) (hg : w1.grownBy w2 r2) (hr : ∀ k, r2 = some k → row = some k ∨ w.heap.size ≤ k) : w.grownBy w2 row :=
  ⟨hg.os.trans h.os, hg.tape.trans h.tape, hg.output.trans h.output, Nat.le_trans h.size hg.size, fun k hk hk2 => (hg.block k (Nat.lt_of_lt_of_le hk h.size) (fun e => by
    rcases hr k e.symm with h1 | h1
    · exact hk2 h1.symm
    · omega)).trans (h.block k hk hk2)⟩
theorem below_of_grown {w w1 : World} {row : Option Nat} {B : Nat} (hg : w.grownBy w1 row) (hB : B ≤ w.heap.size) (hr : ∀ k, row = some k → B ≤ k) : Below B w w1 := (Below.refl _ _).grown hg hB hr
theorem ret_slice {A A' : Option Addr} {n n' c : Nat} (hA : A = A') (hn : n = n') : Ending.returned (.slice A n c) = .returned (.slice A' n' c) := by rw [hA, hn]
theorem or_u64 (y d : Nat) (h : y * 256 + d < 18446744073709551616) (hd : d < 256) : bits .or .u64 (IntKind.u64.wrap ((y : Int) * 256)) (d : Int) = (y : Int) * 256 + (d : Int) := by
  rw [IntWalk.u64_in _ (by omega)]
  have h1 : 256 * y + d = 256 * y ||| d := Nat.two_pow_add_eq_or_of_lt (i := 8) (by omega : d < 2 ^ 8) y
  have h2 : ((y : Int) * 256) = ((256 * y : Nat) : Int) := by omega
  rw [h2, u64_or_nat _ _ (by omega) (by omega), ← h1]
  omega
theorem or_u64' (y d : Nat) (h : y * 256 + d < 18446744073709551616) (hd : d < 256) : bits .or .u64 ((y : Int) * 256) (d : Int) = (y : Int) * 256 + (d : Int) := by
  have h1 := or_u64 y d h hd
  rwa [IntWalk.u64_in _ (by omega)] at h1
theorem own_grown {w w' : World} {base : Nat} {e : TypeId} {size : Nat} {v : Value} {n : Nat} {xs : List Value} {row : Option Nat} (h : w.ownsRow base e size v n xs) (hg : w.grownBy w' row) (hne : v.ownBlock = none ∨ v.ownBlock ≠ row) : w'.ownsRow base e size v n xs := h.kept hg hne
theorem own_ne {w : World} {base : Nat} {e : TypeId} {size : Nat} {v : Value} {n : Nat} {xs : List Value} (h : w.ownsRow base e size v n xs) {g : Nat} (hg : g < base) : v.ownBlock ≠ some g := fun e => by have := (h.lt g e).1; omega
theorem Blk.off {w : World} {g : Nat} {t : TypeId} {cs : Array Value} (h : Blk w g t cs) {b o : Nat} (hp : g ≠ b) (u : Value) : Blk (w.setCell ⟨b, o, none⟩ u) g t cs := h.far hp u
theorem heap_set {w : World} {k b o : Nat} (hp : k ≠ b) (u : Value) : (w.setCell ⟨b, o, none⟩ u).heap[k]? = w.heap[k]? := Below.heap_setCell w ⟨b, o, none⟩ u k hp
theorem heap_all {w : World} {k : Nat} (hk : k < w.heap.size) (x : Obj) : (w.alloc x).heap[k]? = w.heap[k]? := Below.heap_alloc w x k hk
theorem below_set {B b o : Nat} {a w : World} (h : Below B a w) (hp : B ≤ b) (u : Value) : Below B a (w.setCell ⟨b, o, none⟩ u) := h.setCell (p := ⟨b, o, none⟩) hp u
theorem own_set {w : World} {base : Nat} {e : TypeId} {size : Nat} {v : Value} {n : Nat} {xs : List Value} (h : w.ownsRow base e size v n xs) {b o : Nat} (hb : v.ownBlock ≠ some b) (u : Value) : (w.setCell ⟨b, o, none⟩ u).ownsRow base e size v n xs :=
  ownsRow_setCell_other h hb u
theorem Blk.ext {w w' : World} {g : Nat} {t : TypeId} {cs : Array Value} (h : Blk w g t cs) (e : Ext w w') : Blk w' g t cs := h.below e h.lt
theorem Blk.rd {α : Type} {f : α → Value} {w : World} {g : Nat} {t : TypeId} {cs : Array Value} (h : Blk w g t cs) {n : Nat} {xs : List α} (hn : cs.size = n) (hx : cs.toList = xs.map f) : Rd f w (some ⟨g, 0, none⟩) n xs :=
  Rd.of_block h (by rw [← hn, ← hx, List.take_of_length_le (by simp)]) (by omega)
theorem own_ext {w w' : World} {base : Nat} {e : TypeId} {size : Nat} {v : Value} {n : Nat} {xs : List Value} (h : w.ownsRow base e size v n xs) (he : Ext w w') : w'.ownsRow base e size v n xs := by
  refine ⟨h.1, ?_⟩
  rcases h.2 with h2 | ⟨g, cap, cur, hv, hbg, hg, rest⟩
  · exact .inl h2
  · exact .inr ⟨g, cap, cur, hv, hbg, (he.block g (Array.getElem?_eq_some_iff.1 hg).1).trans hg, rest⟩

/-! A slice that is written out: a new block under a name of its own. -/
section
variable {P : Program}
theorem run_buildSlice (w : World) {t elem : TypeId} {z : Value} {size bytes : Nat} (ht : P.underlying t = some (.slice elem)) (hi : (P.info? elem).map (fun i => (i.zero, i.size, i.bytes)) = some (some z, size, bytes))
    (len : Nat) (parts : Array (Nat × Value)) (cells : Array Value) (hp : 0 < len * size) (hb : len * size ≤ 16777216)
    (hf : Instr.fill (fun i => some (i * size, size)) ((Array.range (len * size)).map (z.cells[· % z.cells.size]!)) parts.toList = some cells) :
    (Instr.buildSlice t len parts).run P w = .ok (.slice (some ⟨w.heap.size, 0, none⟩) len len) (w.alloc (.cells cells elem)) := by
  obtain ⟨i, hi', hz, hsize, hby⟩ := info_parts hi
  subst hsize
  have hb' : ¬ 16777216 < len * i.size := by omega
  have h0 : ¬ len * i.size = 0 := by omega
  simp [Instr.buildSlice, run_underlying ht, sizeOf, typeInfo, hi', hb', h0, zeroValue, hz, hf, newRow, Result.andThen]
theorem run_buildSlice0 (w : World) {t elem : TypeId} {z : Value} {size bytes : Nat} (ht : P.underlying t = some (.slice elem)) (hi : (P.info? elem).map (fun i => (i.zero, i.size, i.bytes)) = some (some z, size, bytes)) :
    (Instr.buildSlice t 0 #[]).run P w = .ok (.slice (some ⟨w.heap.size, 0, none⟩) 0 0) (w.alloc (.cells #[] elem)) := by
  obtain ⟨i, hi', hz, hsize, hby⟩ := info_parts hi
  simp [Instr.buildSlice, run_underlying ht, sizeOf, typeInfo, hi', newRow, Result.andThen, Instr.fill]
  have e : Array.map (fun _ => (default : Value)) (Array.range 0) = #[] := by apply Array.ext <;> simp
  rw [e]

theorem foldl_set : ∀ (l : List Value) (off j : Nat) (cs : Array Value), off + j + l.length ≤ cs.size →
    ((l.zipIdx j).foldl (fun cs p => cs.setIfInBounds (off + p.2) p.1) cs).toList = cs.toList.take (off + j) ++ l ++ cs.toList.drop (off + j + l.length) := by
  intro l
  induction l with
  | nil => intro off j cs h; simp
  | cons v l ih =>
    intro off j cs h
    simp only [List.length_cons] at h
    simp only [List.zipIdx_cons, List.foldl_cons, List.length_cons]
    rw [ih off (j + 1) _ (by simp; omega)]
    have e1 : (cs.setIfInBounds (off + j) v).toList = cs.toList.set (off + j) v := by simp
    rw [e1, show off + (j + 1) = off + j + 1 by omega]
    rw [List.take_set, List.drop_set, if_pos (by omega)]
    have hlt : off + j < cs.toList.length := by simp; omega
    have e2 : (cs.toList.take (off + j + 1)).set (off + j) v = cs.toList.take (off + j) ++ [v] := by
      have hl : (cs.toList.take (off + j)).length = off + j := by rw [List.length_take]; omega
      rw [List.take_succ_eq_append_getElem hlt, List.set_append_right _ _ (by omega), hl, Nat.sub_self]
      rfl
    rw [e2]
    simp only [List.append_assoc, List.singleton_append]
    congr 3
    omega
theorem fill_seq (s : Nat) : ∀ (vals : List Value) (k : Nat) (cs : Array Value), (∀ v ∈ vals, v.cells.size = s) → (k + vals.length) * s = cs.size →
    Instr.fill (fun i => some (i * s, s)) cs ((vals.zipIdx k).map fun p => (p.2, p.1)) = some (cs.toList.take (k * s) ++ vals.flatMap (·.cells.toList)).toArray := by
  intro vals
  induction vals with
  | nil =>
    intro k cs _ hk
    simp only [List.length_nil, Nat.add_zero] at hk
    simp [Instr.fill, List.take_of_length_le, hk]
  | cons v vals ih =>
    intro k cs h1 hk
    have hv := h1 v (by simp)
    simp only [List.length_cons] at hk
    have hks : k * s + s ≤ cs.size := by rw [← hk, show k + (vals.length + 1) = (k + 1) + vals.length by omega, Nat.add_mul, Nat.add_mul]; omega
    simp only [List.zipIdx_cons, List.map_cons, Instr.fill]
    rw [if_neg (by simp [hv]; omega)]
    have hf := foldl_set v.cells.toList (k * s) 0 cs (by simp [hv]; omega)
    have e : (v.cells.zipIdx.foldl (fun cs x => match x with | (c, j) => cs.setIfInBounds (k * s + j) c) cs) = ((v.cells.toList.zipIdx 0).foldl (fun cs p => cs.setIfInBounds (k * s + p.2) p.1) cs) := by
      rw [← Array.foldl_toList, Array.toList_zipIdx]
    rw [e]
    generalize (v.cells.toList.zipIdx 0).foldl (fun cs p => cs.setIfInBounds (k * s + p.2) p.1) cs = cs' at *
    have hsz : cs'.size = cs.size := by
      have := congrArg List.length hf
      simp [hv] at this
      omega
    rw [ih (k + 1) cs' (fun u hu => h1 u (by simp [hu])) (by rw [hsz, ← hk]; congr 1; omega), hf]
    congr 2
    rw [Nat.add_mul, Nat.one_mul]
    simp only [Nat.add_zero, List.flatMap_cons]
    have h3 : (cs.toList.take (k * s) ++ v.cells.toList).length = k * s + s := by rw [List.length_append, List.length_take, Array.length_toList, Array.length_toList, hv]; omega
    rw [List.take_left' h3, List.append_assoc]

/-- A slice of one-cell elements is written out, each of them given: a new block under a name of its own. -/
theorem wpl_build {w : World} {ops : Array Oper} {rest : List Oper} {o : Oper} {a : Act} {Q : Exit → Act → World → Prop} {t : TypeId} {len : Nat} {parts : Array (Nat × Operand)} (hgd : Region.wanted o (yielded ops a.tmps) = true)
    (ho : o.op = .buildSlice t len parts) {elem : TypeId} {z : Value} {bytes : Nat} (ht : P.underlying t = some (.slice elem)) (hi : (P.info? elem).map (fun i => (i.zero, i.size, i.bytes)) = some (some z, 1, bytes))
    (os : List Operand) (hp : parts = (os.zipIdx.map fun p => (p.2, p.1)).toArray) (hl : os.length = len) (hb : len ≤ 16777216)
    {α : Type} {f : α → Value} (xs : List α) (hv : os.map a.eval = xs.map f) (h1 : ∀ x, (f x).cells = #[f x])
    (h : ∀ g w', Blk w' g elem (xs.map f).toArray → Ext w w' → w.heap.size ≤ g → Rd f w' (some ⟨g, 0, none⟩) len xs → Hid (wpList P ops Q rest (a.put o.dst (.slice (some ⟨g, 0, none⟩) len len)) w')) : wpList P ops Q (o :: rest) a w := by
  have hxl : xs.length = len := by rw [← hl]; have := congrArg List.length hv; simpa using this.symm
  have hrun : (Instr.buildSlice t len (parts.map fun (i, x) => (i, a.eval x))).run P w = .ok (.slice (some ⟨w.heap.size, 0, none⟩) len len) (w.alloc (.cells (xs.map f).toArray elem)) := by
    have hparts : (parts.map fun (i, x) => (i, a.eval x)).toList = ((os.map a.eval).zipIdx 0).map fun p => (p.2, p.1) := by
      rw [hp]; simp [List.zipIdx_map, List.map_map, Function.comp_def]
    by_cases h0 : len = 0
    · subst h0
      have hos : os = [] := List.eq_nil_of_length_eq_zero hl
      have hxs : xs = [] := List.eq_nil_of_length_eq_zero hxl
      subst hos; subst hxs; subst hp
      simpa using run_buildSlice0 (P := P) w ht hi
    · refine run_buildSlice (P := P) w ht hi len _ _ (by omega) (by omega) ?_
      rw [hparts, hv]
      have hsz : ((Array.range (len * 1)).map (fun x => z.cells[x % z.cells.size]!)).size = len * 1 := by simp
      rw [fill_seq 1 (xs.map f) 0 _ (fun v hv => by obtain ⟨x, _, rfl⟩ := List.mem_map.1 hv; rw [h1]; rfl) (by rw [hsz]; simp [hxl])]
      simp only [Nat.zero_mul, List.take_zero, List.nil_append, List.flatMap_map, h1]
      have hfl : ∀ l : List α, l.flatMap (fun a => [f a]) = l.map f := fun l => by
        induction l with
        | nil => rfl
        | cons b l ih => rw [List.flatMap_cons, ih]; rfl
      rw [hfl]
  have h' := (h w.heap.size (w.alloc (.cells (xs.map f).toArray elem)) (Blk.new w _ _) (Ext.alloc w _) (Nat.le_refl _) ((Blk.new w _ _).rd (by simp [hxl]) rfl)).out
  refine wpList_step fun K hK => ?_
  rw [if_pos hgd]
  unfold Oper.wp execOp
  simp only [ho, Sem.run_bind, hrun, Result.andThen_ok, Sem.run_pure]
  exact hK _ _ h'
end
theorem xor_u64_zero (a : Int) (h0 : 0 ≤ a) (h1 : a < 18446744073709551616) : bits .xor .u64 a 0 = a := by
  obtain ⟨n, rfl⟩ := Int.eq_ofNat_of_zero_le h0
  have := u64_xor_nat n 0 (by omega) (by omega)
  simpa using this
theorem xor_u64_ones (a : Int) (h0 : 0 ≤ a) (h1 : a < 18446744073709551616) : bits .xor .u64 a 18446744073709551615 = 18446744073709551615 - a := by
  obtain ⟨n, rfl⟩ := Int.eq_ofNat_of_zero_le h0
  show IntKind.u64.wrap ((BitVec.ofInt 64 (n : Int) ^^^ BitVec.ofInt 64 18446744073709551615).toNat : Int) = _
  have e : BitVec.ofInt 64 18446744073709551615 = BitVec.allOnes 64 := by decide
  rw [e, BitVec.xor_allOnes, BitVec.toNat_not, ofInt_u64 n (by omega), IntKind.wrap_u64]
  omega
theorem xor_i64_zero (a : Int) (h0 : -9223372036854775808 ≤ a) (h1 : a ≤ 9223372036854775807) : bits .xor .i64 a 0 = a := by
  show IntKind.i64.wrap ((BitVec.ofInt 64 a ^^^ BitVec.ofInt 64 0).toNat : Int) = _
  have e : BitVec.ofInt 64 0 = 0#64 := by decide
  rw [e, BitVec.xor_zero, BitVec.toNat_ofInt, IntKind.wrap_i64]
  omega
theorem xor_i64_ones (a : Int) (h0 : -9223372036854775808 ≤ a) (h1 : a ≤ 9223372036854775807) : bits .xor .i64 a (-1) = -a - 1 := by
  show IntKind.i64.wrap ((BitVec.ofInt 64 a ^^^ BitVec.ofInt 64 (-1)).toNat : Int) = _
  have e : BitVec.ofInt 64 (-1) = BitVec.allOnes 64 := by decide
  rw [e, BitVec.xor_allOnes, BitVec.toNat_not, BitVec.toNat_ofInt, IntKind.wrap_i64]
  omega
theorem and_u64_one (a : Int) (h0 : 0 ≤ a) (h1 : a < 18446744073709551616) : bits .and .u64 a 1 = a % 2 := by
  obtain ⟨n, rfl⟩ := Int.eq_ofNat_of_zero_le h0
  have := u64_and_nat n 1 (by omega) (by omega)
  rw [Nat.and_one_is_mod] at this
  simpa using this
theorem xor_i64_ones' (a : Int) (h0 : -9223372036854775808 ≤ a) (h1 : a ≤ 9223372036854775807) : bits .xor .i64 (-1) a = -a - 1 := by
  rw [← xor_i64_ones a h0 h1]
  show IntKind.i64.wrap ((BitVec.ofInt 64 (-1) ^^^ BitVec.ofInt 64 a).toNat : Int) = IntKind.i64.wrap ((BitVec.ofInt 64 a ^^^ BitVec.ofInt 64 (-1)).toNat : Int)
  rw [BitVec.xor_comm]
theorem Rd.take {α : Type} {f : α → Value} {w : World} {A : Option Addr} {n k : Nat} {xs : List α} (h : Rd f w A n xs) (hk : k ≤ n) : Rd f w A k (xs.take k) := by
  refine ⟨by rw [List.length_take, h.1]; omega, fun hp => ?_⟩
  obtain ⟨b, o, e, hb, hc⟩ := h.2 (by omega)
  refine ⟨b, o, e, hb, fun i x hx => hc i x ?_⟩
  rw [List.getElem?_take] at hx
  split at hx
  · exact hx
  · cases hx
theorem own_of_blk {w : World} {g base n : Nat} {t : TypeId} {cs : Array Value} (h : Blk w g t cs) (hb : base ≤ g) (hn : cs.size = n) (hm : n ≤ maxLen) : w.ownsRow base t 1 (.slice (some ⟨g, 0, none⟩) n n) n cs.toList :=
  ⟨by simp [hn], .inr ⟨g, n, cs, rfl, hb, h, Nat.le_refl _, hm, by omega, by rw [List.take_of_length_le (by simp; omega)]⟩⟩
end Go.Fx
