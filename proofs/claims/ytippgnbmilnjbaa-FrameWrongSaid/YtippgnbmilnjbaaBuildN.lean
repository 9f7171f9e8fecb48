/- BuildN: a slice of elements of several cells is written out. No condition. -/
import Derived.Test.YtippgnbmilnjbaaChg
namespace Go.Fx
open Go.RowKit
section
variable {P : Program} {w : World} {o : Oper} {a : Act} {t : TypeId} {len : Nat} {parts : Array (Nat × Operand)} {elem : TypeId} {z : Value} {size bytes : Nat}
/-- What is at hand behind it: the cells, at an address that is a letter. -/
def RowAt (w : World) (b o : Nat) (cs : List Value) : Prop := b < w.heap.size ∧ ∀ j u, cs[j]? = some u → w.cell? ⟨b, o + j, none⟩ = some u
theorem RowAt.ext {w w' : World} {b o : Nat} {cs : List Value} (h : RowAt w b o cs) (e : Ext w w') : RowAt w' b o cs :=
  ⟨Nat.lt_of_lt_of_le h.1 e.size, fun j u hu => (e.cell (p := ⟨b, o + j, none⟩) h.1).trans (h.2 j u hu)⟩
theorem RowAt.drew {w : World} {b o : Nat} {cs : List Value} (h : RowAt w b o cs) : RowAt w.drew b o cs := h
theorem row_of_blk {w : World} {g : Nat} {t : TypeId} {cs : Array Value} {l : List Value} (h : Blk w g t cs) (hc : cs.toList = l) : RowAt w g 0 l :=
  ⟨h.lt, fun j u hu => by rw [Nat.zero_add, h.cell]; rw [← hc] at hu; simpa using hu⟩
theorem wp_buildN {K : Act → World → Prop} {Q : Exit → Act → World → Prop} (ho : o.op = .buildSlice t len parts) (ht : P.underlying t = some (.slice elem)) (hi : (P.info? elem).map (fun i => (i.zero, i.size, i.bytes)) = some (some z, size, bytes))
    (os : List Operand) (hp : parts = (os.zipIdx.map fun p => (p.2, p.1)).toArray) (hl : os.length = len) (hpos : 0 < len * size) (hb : len * size ≤ 16777216)
    (vals : List Value) (hv : os.map a.eval = vals) (h1 : ∀ v ∈ vals, v.cells.size = size)
    (h : ∀ b o' w', RowAt w' b o' (vals.flatMap (·.cells.toList)) → Ext w w' → w.heap.size ≤ b → K (a.put o.dst (.slice (some ⟨b, o', none⟩) len len)) w') : o.wp P a w K Q := by
  have hvl : vals.length = len := by rw [← hl]; have := congrArg List.length hv; simpa using this.symm
  have hrun : (Instr.buildSlice t len (parts.map fun (i, x) => (i, a.eval x))).run P w = .ok (.slice (some ⟨w.heap.size, 0, none⟩) len len) (w.alloc (.cells (vals.flatMap (·.cells.toList)).toArray elem)) := by
    have hparts : (parts.map fun (i, x) => (i, a.eval x)).toList = ((os.map a.eval).zipIdx 0).map fun p => (p.2, p.1) := by
      rw [hp]; simp [List.zipIdx_map, List.map_map, Function.comp_def]
    refine run_buildSlice (P := P) w ht hi len _ _ hpos hb ?_
    rw [hparts, hv]
    have hsz : ((Array.range (len * size)).map (fun x => z.cells[x % z.cells.size]!)).size = len * size := by simp
    rw [fill_seq size vals 0 _ h1 (by rw [hsz, hvl]; simp)]
    simp only [Nat.zero_mul, List.take_zero, List.nil_append]
  unfold Oper.wp execOp
  simp only [ho, Sem.run_bind, hrun, Result.andThen_ok, Sem.run_pure]
  refine h w.heap.size 0 _ ⟨(Blk.new w _ _).lt, fun j u hu => ?_⟩ (Ext.alloc w _) (Nat.le_refl _)
  rw [Nat.zero_add, (Blk.new w elem _).cell]
  simpa using hu
theorem wpl_buildN {ops : Array Oper} {rest : List Oper} {Q : Exit → Act → World → Prop} (hgd : Region.wanted o (yielded ops a.tmps) = true) (ho : o.op = .buildSlice t len parts) (ht : P.underlying t = some (.slice elem)) (hi : (P.info? elem).map (fun i => (i.zero, i.size, i.bytes)) = some (some z, size, bytes))
    (os : List Operand) (hp : parts = (os.zipIdx.map fun p => (p.2, p.1)).toArray) (hl : os.length = len) (hpos : 0 < len * size) (hb : len * size ≤ 16777216)
    (vals : List Value) (hv : os.map a.eval = vals) (h1 : ∀ v ∈ vals, v.cells.size = size)
    (h : ∀ b o' w', RowAt w' b o' (vals.flatMap (·.cells.toList)) → Ext w w' → w.heap.size ≤ b → Hid (wpList P ops Q rest (a.put o.dst (.slice (some ⟨b, o', none⟩) len len)) w')) : wpList P ops Q (o :: rest) a w := by
  refine wpList_step fun K hK => ?_
  rw [if_pos hgd]
  exact wp_buildN ho ht hi os hp hl hpos hb vals hv h1 fun b o' w' h2 h3 h4 => hK _ _ (h b o' w' h2 h3 h4).out
theorem step_buildN {ops : Array Oper} {K : Act → World → Prop} {Q : Exit → Act → World → Prop} {E : Prop} (hgd : o.guard = none) (ho : o.op = .buildSlice t len parts) (ht : P.underlying t = some (.slice elem)) (hi : (P.info? elem).map (fun i => (i.zero, i.size, i.bytes)) = some (some z, size, bytes))
    (os : List Operand) (hp : parts = (os.zipIdx.map fun p => (p.2, p.1)).toArray) (hl : os.length = len) (hpos : 0 < len * size) (hb : len * size ≤ 16777216)
    (vals : List Value) (hv : os.map a.eval = vals) (h1 : ∀ v ∈ vals, v.cells.size = size)
    (h : ∀ b o' w', RowAt w' b o' (vals.flatMap (·.cells.toList)) → Ext w w' → w.heap.size ≤ b → K (a.put o.dst (.slice (some ⟨b, o', none⟩) len len)) w') :
    if Region.wanted o (yielded ops a.tmps) = true then Oper.wp P o a w K Q else E := by
  have hw : Region.wanted o (yielded ops a.tmps) = true := by simp [Region.wanted, hgd]
  rw [if_pos hw]
  exact wp_buildN ho ht hi os hp hl hpos hb vals hv h1 h
end
theorem flat2 {α : Type} (f g : α → Value) : ∀ (l : List α) (i : Nat), (l.flatMap fun x => [f x, g x])[i * 2]? = l[i]?.map f ∧ (l.flatMap fun x => [f x, g x])[i * 2 + 1]? = l[i]?.map g
  | [], i => by simp
  | x :: l, 0 => by simp
  | x :: l, i + 1 => by
    have h := flat2 f g l i
    rw [show (i + 1) * 2 = i * 2 + 1 + 1 by omega]
    simp only [List.flatMap_cons, List.cons_append, List.nil_append, List.getElem?_cons_succ]
    exact h
end Go.Fx
