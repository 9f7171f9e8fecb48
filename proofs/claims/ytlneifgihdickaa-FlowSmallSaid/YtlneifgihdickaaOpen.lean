/- How arguments that are slices of unsigned integers come in: as slices that read as lists of numbers. -/
import Derived.Test.YtlneifgihdickaaLib
import Derived.ProofKit
import Derived.OpenShut
namespace Go.Fx
open Go.RowKit Go.ChangeShapes Go.WideShapes Go.ChangeAt

/-- A slice of unsigned integers of kind k that came in; each is below M. -/
structure Arg (k : IntKind) (M : Nat) (W : World) (A : Option Addr) (n c : Nat) (xs : List Nat) : Prop where
  rd : Rd (fun x : Nat => .int k (x : Int)) W A n xs
  lt : ∀ x ∈ xs, x < M
  le : n ≤ c
  max : c ≤ maxLen

section
variable {H : Type} {enc : TypeId × Value → H} {P : Program} {w : World} {base b0 : Nat} {spare : Nat → Bool} {held : Bool} {r : Reach}
theorem open_nats {t e : TypeId} {k : IntKind} (M : Nat) (hM : ∀ n : Int, (Lit.int k n).wf = true → 0 ≤ n ∧ n < (M : Int)) {v : Value} {d : DataW H} {p : List MemPlace} (ht : P.underlying t = some (.slice e)) (he : P.underlying e = some (.int k)) (hc : P.cellsOf e = 1)
    (hv : Value.okWide P w r b0 t v) (h : DataW.Trod enc P w base spare held t v d p) : ∃ A n c xs, v = .slice A n c ∧ Arg k M w A n c xs := by
  obtain ⟨A, n, c, rfl⟩ := okWide_slice ht hv
  obtain ⟨fuel, hf⟩ := h
  rcases open_ints ht he hc hf with ⟨hcs, _⟩ | ⟨x, l, c', zs, hcs, _, hl, hm, hz, _, hcell, hwz⟩
  · simp [Value.cells] at hcs
    obtain ⟨rfl, rfl, rfl⟩ := hcs
    exact ⟨none, 0, 0, [], rfl, Rd.none_, by simp, Nat.le_refl _, by simp [maxLen]⟩
  · simp [Value.cells] at hcs
    obtain ⟨rfl, rfl, rfl⟩ := hcs
    have hlen : n ≤ zs.length := by rw [hz]; split <;> omega
    refine ⟨some x, n, c, (zs.take n).map Int.toNat, rfl, ⟨by simp; omega, fun hn => ?_⟩, ?_, hl, hm⟩
    · have h0 := hcell 0 (by omega)
      have hsp : x.spot = none := by
        have := World.cell?_spot h0
        simpa [Addr.add] using this
      obtain ⟨b, o, s⟩ := x
      obtain rfl : s = none := hsp
      refine ⟨b, o, rfl, ?_, fun i y hy => ?_⟩
      · have := World.block_lt_of_cell? _ _ h0
        simpa [Addr.add_lit] using this
      · rw [List.getElem?_map, List.getElem?_take] at hy
        by_cases hi : i < n
        · rw [if_pos hi, List.getElem?_eq_getElem (by omega)] at hy
          simp at hy
          have := hcell i (by omega)
          rw [Addr.add_lit] at this
          rw [this]
          have hw := hM _ (hwz (zs[i]'(by omega)) (List.getElem_mem _))
          simp [List.getD, List.getElem?_eq_getElem (show i < zs.length by omega)]
          omega
        · rw [if_neg hi] at hy; simp at hy
    · intro y hy
      obtain ⟨z, hz', rfl⟩ := List.mem_map.1 hy
      have hw := hM z (hwz z (List.mem_of_mem_take hz'))
      omega
end
end Go.Fx
