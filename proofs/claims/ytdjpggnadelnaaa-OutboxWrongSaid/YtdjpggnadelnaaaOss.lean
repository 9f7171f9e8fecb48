/- Oss: lists of lists of small numbers come in; made events whose Seqs are shifted; a store into a list of structs. -/
import Derived.Test.YtdjpggnadelnaaaOfl
import Derived.Test.YtdjpggnadelnaaaEls
namespace Go.Fx
open Go.RowKit
theorem flat_set {α : Type} {f : α → List Value} {s j : Nat} (hf : ∀ x, (f x).length = s) (hj : j < s) {x y : α} {u : Value} (hy : f y = (f x).set j u) : ∀ (xs : List α) (i : Nat), xs[i]? = some x → (xs.flatMap f).set (i * s + j) u = (xs.set i y).flatMap f
  | [], i, h => by simp at h
  | a :: xs, 0, h => by
    obtain rfl : a = x := by simpa using h
    rw [List.flatMap_cons, Nat.zero_mul, Nat.zero_add, List.set_append_left _ _ (by rw [hf]; exact hj), ← hy]
    rfl
  | a :: xs, i + 1, h => by
    have h' : xs[i]? = some x := by simpa using h
    rw [List.flatMap_cons, List.set_append_right _ _ (by rw [hf, Nat.succ_mul]; omega), hf, show (i + 1) * s + j - s = i * s + j by rw [Nat.succ_mul]; omega, flat_set hf hj hy xs i h']
    rfl
/-- An event whose Seq is greater by d. -/
def shE (d : Int) (x : Ev) : Ev := ⟨x.t, x.s, x.q + d, x.to, x.v⟩
def mixE (d : Int) (L : List Ev) (p : Nat) : List Ev := (L.take p).map (shE d) ++ L.drop p
theorem mix_zero (d : Int) (L : List Ev) : mixE d L 0 = L := by simp [mixE]
theorem mix_all (d : Int) (L : List Ev) : mixE d L L.length = L.map (shE d) := by simp [mixE]
theorem mix_at {d : Int} {L : List Ev} {p : Nat} {x : Ev} (h : L[p]? = some x) : (mixE d L p)[p]? = some x := by
  have hlt := (List.getElem?_eq_some_iff.1 h).1
  unfold mixE
  rw [List.getElem?_append_right (by simp; omega)]
  simp only [List.length_map, List.length_take, List.getElem?_drop]
  rw [show p + (p - min p L.length) = p by omega]
  exact h
theorem mix_succ {d : Int} {L : List Ev} {p : Nat} {x : Ev} (h : L[p]? = some x) : mixE d L (p + 1) = (mixE d L p).set p (shE d x) := by
  obtain ⟨hlt, hx⟩ := List.getElem?_eq_some_iff.1 h
  unfold mixE
  rw [take_snoc h, List.map_append, List.set_append_right _ _ (by simp; omega)]
  simp only [List.length_map, List.length_take]
  rw [show p - min p L.length = 0 by omega, List.drop_eq_getElem_cons hlt, List.set_cons_zero, List.append_assoc]
  rfl
theorem shE_cells (d : Int) (x : Ev) : evC (shE d x) = (evC x).set 2 (.int .i64 (x.q + d)) := rfl
theorem mix_set {d : Int} {L : List Ev} {p : Nat} {x : Ev} (h : L[p]? = some x) : ((mixE d L p).flatMap evC).set (p * 5 + 2) (.int .i64 (x.q + d)) = (mixE d L (p + 1)).flatMap evC := by
  rw [flat_set evC_len (by decide) (shE_cells d x) _ _ (mix_at h), mix_succ h]
theorem made_sh (s e : Int) (D : Nat) : ∀ (l : List Sb) (q : Nat), (madeF s e q l).map (shE (D : Int)) = madeF s e (q + D) l
  | [], _ => rfl
  | x :: xs, q => by
    rw [madeF, madeF, List.map_cons, made_sh s e D xs, show q + x.sk % 3 + 1 + D = q + D + x.sk % 3 + 1 by omega]
    congr 1
    simp only [shE, mkB, Ev.mk.injEq, true_and, and_true]
    omega
theorem madeF_q {s e : Int} : ∀ (l : List Sb) (q : Nat), ∀ y ∈ madeF s e q l, y.q < (q : Int) + 3 * (l.length : Int)
  | [], _, y, hy => by cases hy
  | x :: xs, q, y, hy => by
    rw [List.length_cons]
    rcases List.mem_cons.1 hy with rfl | hy
    · simp only [mkB]; omega
    · have := madeF_q xs _ y hy; omega
theorem lastR_lt {l : List Ev} {B : Int} (hB : -1 < B) (h : ∀ x ∈ l, x.q < B) : lastR (-1) l < B := by
  unfold lastR
  split
  · exact hB
  · next x hx => exact h x (List.mem_of_getLast? hx)
end Go.Fx
namespace Go.Proofs.Ytdjpggnadelnaaa
open Go.RowKit Go.Fx Go.ChangeShapes Go.WideShapes Go.ChangeAt Go.Deep
/-- A list of lists of small numbers that came in. -/
structure SsArg (W : World) (A : Option Addr) (n c : Nat) (z : List (Sl × List Sb)) : Prop where
  rd : Rd slv W A n (z.map Prod.fst)
  at_ : ∀ y ∈ z, SbArg W y.1.A y.1.n y.1.c y.2
  le : n ≤ c
  max : c ≤ maxLen
theorem SsArg.ext {w w' : World} {A : Option Addr} {n c : Nat} {z : List (Sl × List Sb)} (h : SsArg w A n c z) (e : Ext w w') : SsArg w' A n c z := ⟨h.rd.ext e, fun y hy => (h.at_ y hy).ext e, h.le, h.max⟩
theorem SsArg.get {w : World} {A : Option Addr} {n c k : Nat} {z : List (Sl × List Sb)} (h : SsArg w A n c z) (hk : k < n) : ∃ b o, A = some ⟨b, o, none⟩ ∧ ∃ s l, z[k]? = some (s, l) ∧ w.cell? ⟨b, o + k, none⟩ = some (.slice s.A s.n s.c) ∧ SbArg w s.A s.n s.c l := by
  obtain ⟨b, o, h1, _, h3⟩ := h.rd.2 (by omega)
  have hl := h.rd.1
  rw [List.length_map] at hl
  have hz := List.getElem?_eq_getElem (l := z) (i := k) (by omega)
  refine ⟨b, o, h1, z[k].1, z[k].2, hz, ?_, h.at_ _ (List.getElem_mem _)⟩
  exact h3 k z[k].1 (by rw [List.getElem?_map, hz]; rfl)
theorem ss_to {A : Option Addr} {n c hi : Nat} {li : Int} (w : World) (e : li = (hi : Int)) (h2 : hi ≤ c) :
    (Instr.sliceAt 23 (.slice A n c) none (some (.int .i64 li)) none).run Try.prog w = .ok (.slice A hi c) w := by
  subst e
  have h4 : (hi : Int) ≤ (c : Int) := by omega
  have h5 : (0 : Int) ≤ (hi : Int) := by omega
  simp [go_sem, sliced, h4, Addr.add]
section
variable {H : Type} {enc : TypeId × Value → H} {w : World} {base b0 : Nat} {spare : Nat → Bool} {held : Bool} {r : Reach}
set_option maxRecDepth 100000 in
theorem open_t23 {v : Value} {d : DataW H} {p : List MemPlace} (hv : Value.okWide Try.prog w r b0 23 v) (h : DataW.Trod enc Try.prog w base spare held 23 v d p) :
    ∃ (A : Option Addr) (n c : Nat) (z : List (Sl × List Sb)), v = .slice A n c ∧ SsArg w A n c z := by
  obtain ⟨A, n, c, zs, h1, h2, h3, h4, h5⟩ := open_slice_of (f := fun z : Sl × List Sb => [slv z.1]) (OK := fun z => SbArg w z.1.A z.1.n z.1.c z.2) (s := 1) Try.underlying23 (by kernel_rfl) (by decide) (fun _ => rfl) (fun h => by
    obtain ⟨A, n, c, l, rfl, ha⟩ := sbs_cells h
    exact ⟨(⟨A, n, c⟩, l), rfl, ha⟩) hv h
  exact ⟨A, n, c, zs, h1, ⟨h2.rd1, h3, h4, h5⟩⟩
end
end Go.Proofs.Ytdjpggnadelnaaa
