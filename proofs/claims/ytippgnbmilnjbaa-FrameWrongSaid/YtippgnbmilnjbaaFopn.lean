/- Fopn: how a list of slices of bytes comes in. -/
import Derived.Test.YtippgnbmilnjbaaOpen
import Derived.Test.YtippgnbmilnjbaaFBas
import Derived.Deep.Slices
import Derived.ChangeSame
namespace Go.Fx
open Go.RowKit Go.ChangeShapes Go.WideShapes Go.ChangeAt Go.Deep
section
variable {H : Type} {enc : TypeId × Value → H} {P : Program} {w : World} {base b0 : Nat} {spare : Nat → Bool} {held : Bool} {r : Reach}
theorem nats_cells {t e : TypeId} {k : IntKind} (M : Nat) (hM : ∀ n : Int, (Lit.int k n).wf = true → 0 ≤ n ∧ n < (M : Int)) {fuel : Nat} {cs : List Value} {x : DataW H × List MemPlace} (ht : P.underlying t = some (.slice e)) (he : P.underlying e = some (.int k)) (hc : P.cellsOf e = 1)
    (h : DataW.trod enc P w base spare held fuel t cs = some x) : ∃ A n c xs, cs = [.slice A n c] ∧ Arg k M w A n c xs ∧ (A = none → n = 0) := by
  rcases open_ints ht he hc h with ⟨rfl, _⟩ | ⟨x, l, c', zs, rfl, _, hl, hm, hz, _, hcell, hwz⟩
  · exact ⟨none, 0, 0, [], rfl, ⟨Rd.none_, by simp, Nat.le_refl _, by simp [maxLen]⟩, fun _ => rfl⟩
  · have hlen : l ≤ zs.length := by rw [hz]; split <;> omega
    refine ⟨some x, l, c', (zs.take l).map Int.toNat, rfl, ⟨⟨by simp; omega, fun hn => ?_⟩, ?_, hl, hm⟩, fun h => by cases h⟩
    · have h0 := hcell 0 (by omega)
      have hsp : x.spot = none := by
        have := World.cell?_spot h0
        simpa [Addr.add] using this
      obtain ⟨b, o, s⟩ := x
      obtain rfl : s = none := hsp
      refine ⟨b, o, rfl, ?_, fun i y hy => ?_⟩
      · have := World.block_lt_of_cell? _ _ h0
        simpa [Addr.add_lit] using this
      · rw [List.getElem?_map, List.getElem?_take] at hy
        by_cases hi : i < l
        · rw [if_pos hi, List.getElem?_eq_getElem (by omega)] at hy
          simp at hy
          have := hcell i (by omega)
          rw [Addr.add_lit] at this
          rw [this]
          have hw := hM _ (hwz (zs[i]'(by omega)) (List.getElem_mem _))
          simp [List.getD, List.getElem?_eq_getElem (show i < zs.length by omega)]
          omega
        · rw [if_neg hi] at hy; simp at hy
    · intro y hy
      obtain ⟨z, hz', rfl⟩ := List.mem_map.1 hy
      have hw := hM z (hwz z (List.mem_of_mem_take hz'))
      omega
end
end Go.Fx
namespace Go.Proofs.Ytippgnbmilnjbaa
open Go.RowKit Go.Fx Go.ChangeShapes Go.WideShapes Go.ChangeAt Go.Deep
/-- A list of slices of bytes that came in. -/
structure BbArg (W : World) (A : Option Addr) (n c : Nat) (z : List (Sl × List Nat)) : Prop where
  rd : Rd slv W A n (z.map Prod.fst)
  reads : Reads W (z.map Prod.fst) (z.map Prod.snd)
  le : n ≤ c
  max : c ≤ maxLen
section
variable {H : Type} {enc : TypeId × Value → H} {w : World} {base b0 : Nat} {spare : Nat → Bool} {held : Bool} {r : Reach}
set_option maxRecDepth 100000 in
theorem open_t25 {v : Value} {d : DataW H} {p : List MemPlace} (hv : Value.okWide Try.prog w r b0 25 v) (h : DataW.Trod enc Try.prog w base spare held 25 v d p) :
    ∃ A n c z, v = .slice A n c ∧ BbArg w A n c z := by
  obtain ⟨A, n, c, rfl⟩ := okWide_slice Try.underlying25 hv
  obtain ⟨fuel, hf⟩ := h
  have hce : Try.prog.cellsOf 23 = 1 := by kernel_rfl
  rcases open_slice Try.underlying25 hf with ⟨hcs, _⟩ | ⟨a, len, cap, m, k, D, Pl, hcs, _, hl, hm, hmm, _, hx⟩
  · simp [Value.cells] at hcs
    obtain ⟨rfl, rfl, rfl⟩ := hcs
    exact ⟨none, 0, 0, [], rfl, Rd.none_, Reads.nil, Nat.le_refl _, Nat.zero_le _⟩
  · simp [Value.cells] at hcs
    obtain ⟨rfl, rfl, rfl⟩ := hcs
    have hsp0 : 0 < n → a.spot = none := fun hn => by
      obtain ⟨cs, hcell, htr⟩ := hx 0 (by rw [hmm]; split <;> omega)
      rw [hce] at hcell
      obtain ⟨_, hlen, hcl⟩ := World.cells?_some hcell
      have hc0 := hcl 0 (by omega)
      match cs, hlen with
      | [v0], _ =>
        have := World.cell?_spot hc0
        simpa [Addr.add] using this
    have key : ∀ i, i < n → ∃ z : Sl × List Nat, ∃ b o, a = ⟨b, o, none⟩ ∧ b < w.heap.size ∧ w.cell? ⟨b, o + i, none⟩ = some (slv z.1) ∧ Rd u8v w z.1.A z.1.n z.2 ∧ (∀ x ∈ z.2, x < 256) := fun i hi => by
      obtain ⟨cs, hcell, htr⟩ := hx i (by rw [hmm]; split <;> omega)
      rw [hce] at hcell
      obtain ⟨_, hlen, hcl⟩ := World.cells?_some hcell
      have e5 : Try.prog.cellsOf 5 = 1 := by kernel_rfl
      obtain ⟨A1, n1, c1, xs, rfl, harg, _⟩ := nats_cells (k := .u8) 256 (fun n h => by have := bounds_u8 h; omega) Try.underlying23 Try.underlying5 e5 htr
      have hc0 := hcl 0 (by omega)
      simp only [List.getElem?_cons_zero] at hc0
      have hsp := hsp0 (by omega)
      obtain ⟨b, o, s⟩ := a
      obtain rfl : s = none := hsp
      rw [Addr.add_lit, Addr.add_lit, Nat.mul_one, Nat.add_zero] at hc0
      have hbl := World.block_lt_of_cell? _ _ hc0
      refine ⟨(⟨A1, n1, c1⟩, xs), b, o, rfl, hbl, ?_, harg.rd, harg.lt⟩
      exact hc0
    haveI : Inhabited (Sl × List Nat) := ⟨(⟨none, 0, 0⟩, [])⟩
    obtain ⟨f, hfx⟩ := choose_lt (α := Sl × List Nat) (p := fun i z => ∃ b o, a = ⟨b, o, none⟩ ∧ b < w.heap.size ∧ w.cell? ⟨b, o + i, none⟩ = some (slv z.1) ∧ Rd u8v w z.1.A z.1.n z.2 ∧ (∀ x ∈ z.2, x < 256)) key
    have hget : ∀ i z, ((List.range n).map f)[i]? = some z → i < n ∧ z = f i := fun i z hz => by
      rw [List.getElem?_map] at hz
      have hi : i < n := by
        rcases Nat.lt_or_ge i n with h | h
        · exact h
        · rw [List.getElem?_eq_none (by simpa using h)] at hz; simp at hz
      rw [List.getElem?_range hi] at hz
      simp at hz
      exact ⟨hi, hz.symm⟩
    refine ⟨some a, n, c, (List.range n).map f, rfl, ⟨by simp, fun hn => ?_⟩, ⟨by simp, fun i s hs => ?_⟩, hl, hm⟩
    · obtain ⟨b, o, h1, h2, _⟩ := hfx 0 hn
      refine ⟨b, o, by rw [h1], h2, fun i s hs => ?_⟩
      rw [List.getElem?_map] at hs
      obtain ⟨z, hz, rfl⟩ := Option.map_eq_some_iff.1 hs
      obtain ⟨hi, rfl⟩ := hget i z hz
      obtain ⟨b', o', h1', _, h3, _⟩ := hfx i hi
      rw [h1] at h1'
      cases h1'
      exact h3
    · rw [List.getElem?_map] at hs ⊢
      obtain ⟨z, hz, rfl⟩ := Option.map_eq_some_iff.1 hs
      rw [hz]
      obtain ⟨hi, rfl⟩ := hget i z hz
      obtain ⟨_, _, _, _, _, h4, h5⟩ := hfx i hi
      exact ⟨_, rfl, h4, h5⟩
end
end Go.Proofs.Ytippgnbmilnjbaa
