/- OpE: how slices come in whose elements are known to come in; slices of slices. -/
import Derived.Test.YtdjpggnadelnaaaOpS
namespace Go.Fx
open Go.RowKit Go.ChangeShapes Go.WideShapes Go.ChangeAt Go.Deep
section
variable {H : Type} {enc : TypeId × Value → H} {P : Program} {w : World} {base b0 : Nat} {spare : Nat → Bool} {held : Bool} {r : Reach}
/-- The cells of a slice, where each element's cells are known. -/
theorem cells_slice {α : Type} {f : α → List Value} {OK : α → Prop} {s : Nat} {t e : TypeId} {fuel : Nat} {cs : List Value} {x : DataW H × List MemPlace} (hT : P.underlying t = some (.slice e)) (hc : P.cellsOf e = s) (h0 : 0 < s) (hf : ∀ y, (f y).length = s)
    (hE : ∀ {fuel : Nat} {cs : List Value} {x : DataW H × List MemPlace}, DataW.trod enc P w base spare held fuel e cs = some x → ∃ y, cs = f y ∧ OK y) (h : DataW.trod enc P w base spare held fuel t cs = some x) :
    ∃ A n c xs, cs = [.slice A n c] ∧ RdS s f w A n xs ∧ (∀ y ∈ xs, OK y) ∧ n ≤ c ∧ c ≤ maxLen := by
  rcases open_slice hT h with ⟨rfl, _⟩ | ⟨a, n, c, m, k, D, Pl, rfl, _, hl, hm, hmm, _, hx⟩
  · exact ⟨none, 0, 0, [], rfl, RdS.none_, by simp, Nat.le_refl _, Nat.zero_le _⟩
  · have hsp0 : 0 < n → a.spot = none := fun hn => by
      obtain ⟨cs, hcell, htr⟩ := hx 0 (by rw [hmm]; split <;> omega)
      rw [hc] at hcell
      obtain ⟨_, hlen, hcl⟩ := World.cells?_some hcell
      obtain ⟨y, rfl, hok⟩ := hE htr
      have hc0 := hcl 0 h0
      have hlt0 : 0 < (f y).length := by rw [hf]; exact h0
      rw [List.getElem?_eq_getElem hlt0] at hc0
      have h1 := World.cell?_spot hc0
      simpa [Addr.add] using h1
    have one : ∀ i, i < n → ∃ y, OK y ∧ a.spot = none ∧ ∃ b o, a = ⟨b, o, none⟩ ∧ b < w.heap.size ∧ ∀ j u, (f y)[j]? = some u → w.cell? ⟨b, o + i * s + j, none⟩ = some u := fun i hi => by
      obtain ⟨cs, hcell, htr⟩ := hx i (by rw [hmm]; split <;> omega)
      rw [hc] at hcell
      obtain ⟨_, hlen, hcl⟩ := World.cells?_some hcell
      obtain ⟨y, rfl, hok⟩ := hE htr
      have hc0 := hcl 0 h0
      have hlt0 : 0 < (f y).length := by rw [hf]; exact h0
      rw [List.getElem?_eq_getElem hlt0] at hc0
      have hsp := hsp0 (by omega)
      obtain ⟨b, o, sp⟩ := a
      obtain rfl : sp = none := hsp
      have hbl := World.block_lt_of_cell? _ _ hc0
      rw [Addr.add_lit, Addr.add_lit] at hbl
      refine ⟨y, hok, rfl, b, o, rfl, hbl, fun j u hu => ?_⟩
      have hj : j < s := by rw [← hf y]; exact (List.getElem?_eq_some_iff.1 hu).1
      have := hcl j hj
      rw [Addr.add_lit, Addr.add_lit] at this
      rw [this]; exact hu
    rcases Nat.eq_zero_or_pos n with rfl | hn
    · exact ⟨some a, 0, c, [], rfl, ⟨rfl, fun h => absurd h (by omega)⟩, by simp, hl, hm⟩
    · obtain ⟨y0, _⟩ := one 0 hn
      haveI : Inhabited α := ⟨y0⟩
      obtain ⟨g, hg⟩ := choose_lt (α := α) one
      refine ⟨some a, n, c, (List.range n).map g, rfl, ⟨by simp, fun _ => ?_⟩, ?_, hl, hm⟩
      · obtain ⟨_, _, b, o, h1, h2, _⟩ := hg 0 hn
        refine ⟨b, o, by rw [h1], h2, fun i x hx j u hu => ?_⟩
        rw [List.getElem?_map] at hx
        have hi : i < n := by
          rcases Nat.lt_or_ge i n with h | h
          · exact h
          · rw [List.getElem?_eq_none (by simpa using h)] at hx; simp at hx
        rw [List.getElem?_range hi] at hx
        simp at hx
        subst hx
        obtain ⟨_, _, b', o', h1', _, h3⟩ := hg i hi
        rw [h1] at h1'
        cases h1'
        exact h3 j u hu
      · intro y hy
        obtain ⟨i, hi, rfl⟩ := List.mem_map.1 hy
        exact (hg i (by simpa using hi)).1
/-- .. as a value. -/
theorem open_slice_of {α : Type} {f : α → List Value} {OK : α → Prop} {s : Nat} {t e : TypeId} {v : Value} {d : DataW H} {p : List MemPlace} (hT : P.underlying t = some (.slice e)) (hc : P.cellsOf e = s) (h0 : 0 < s) (hf : ∀ y, (f y).length = s)
    (hE : ∀ {fuel : Nat} {cs : List Value} {x : DataW H × List MemPlace}, DataW.trod enc P w base spare held fuel e cs = some x → ∃ y, cs = f y ∧ OK y) (hv : Value.okWide P w r b0 t v) (h : DataW.Trod enc P w base spare held t v d p) :
    ∃ A n c xs, v = .slice A n c ∧ RdS s f w A n xs ∧ (∀ y ∈ xs, OK y) ∧ n ≤ c ∧ c ≤ maxLen := by
  obtain ⟨A, n, c, rfl⟩ := okWide_slice hT hv
  obtain ⟨fuel, hf1⟩ := h
  obtain ⟨A', n', c', xs, hcs, h1⟩ := cells_slice hT hc h0 hf hE hf1
  simp [Value.cells] at hcs
  obtain ⟨rfl, rfl, rfl⟩ := hcs
  exact ⟨A, n, c, xs, rfl, h1⟩
end
theorem RdS.rd1 {α : Type} {g : α → Sl} {w : World} {A : Option Addr} {n : Nat} {zs : List α} (h : RdS 1 (fun z => [slv (g z)]) w A n zs) : Rd slv w A n (zs.map g) := by
  refine ⟨by rw [List.length_map]; exact h.1, fun hn => ?_⟩
  obtain ⟨b, o, h1, h2, h3⟩ := h.2 hn
  refine ⟨b, o, h1, h2, fun i x hx => ?_⟩
  rw [List.getElem?_map] at hx
  obtain ⟨z, hz, rfl⟩ := Option.map_eq_some_iff.1 hx
  have := h3 i z hz 0 (slv (g z)) rfl
  simpa using this
end Go.Fx
