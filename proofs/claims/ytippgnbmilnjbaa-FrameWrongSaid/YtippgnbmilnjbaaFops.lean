/- Fops: how a list of small numbers, and one pair of them, come in. -/
import Derived.Test.YtippgnbmilnjbaaFopn
import Derived.Test.YtippgnbmilnjbaaFmd
namespace Go.Proofs.Ytippgnbmilnjbaa
open Go.RowKit Go.Fx Go.ChangeShapes Go.WideShapes Go.ChangeAt Go.Deep
/-- A list of pairs of small numbers that came in. -/
structure SmArg (W : World) (A : Option Addr) (n c : Nat) (l : List (Nat × Nat)) : Prop where
  sm : Smalls W A n l
  le : n ≤ c
  max : c ≤ maxLen
theorem e_u16 : Try.prog.cellsOf 51 = 1 := by kernel_rfl
theorem e_u8 : Try.prog.cellsOf 5 = 1 := by kernel_rfl
theorem e_small : Try.prog.cellsOf 53 = 2 := by kernel_rfl
section
variable {H : Type} {enc : TypeId × Value → H} {w : World} {base b0 : Nat} {spare : Nat → Bool} {held : Bool} {r : Reach}
set_option maxRecDepth 100000 in
theorem small_cells {fuel : Nat} {cs : List Value} {x : DataW H × List MemPlace} (hl : cs.length = 2) (h : DataW.trod enc Try.prog w base spare held fuel 53 cs = some x) : ∃ a : Nat × Nat, cs = [.int .u16 (a.1 : Int), .int .u8 (a.2 : Int)] ∧ a.1 < 65536 ∧ a.2 < 256 := by
  obtain ⟨y0, y1, k', _, _, h0, h1⟩ := trod_struct2 Try.underlying53 h
  match cs, hl with
  | [v0, v1], _ =>
    simp only [e_u16, e_u8, List.drop_zero, List.take_succ_cons, List.take_zero, List.drop_succ_cons] at h0 h1
    obtain ⟨z, hz, _, hw⟩ := DataW.trod_int Try.underlying51 h0
    obtain ⟨z1, hz1, _, hw1⟩ := DataW.trod_int Try.underlying5 h1
    simp only [List.cons.injEq, and_true] at hz hz1
    subst hz hz1
    have hb := bounds_u16 hw
    have hb1 := bounds_u8 hw1
    refine ⟨(z.toNat, z1.toNat), ?_, by simp only; omega, by simp only; omega⟩
    have e1 : ((z.toNat : Nat) : Int) = z := by omega
    have e2 : ((z1.toNat : Nat) : Int) = z1 := by omega
    simp only [e1, e2]
set_option maxRecDepth 100000 in
theorem open_t22 {v : Value} {d : DataW H} {p : List MemPlace} (hv : Value.okWide Try.prog w r b0 22 v) (h : DataW.Trod enc Try.prog w base spare held 22 v d p) :
    ∃ A n c l, v = .slice A n c ∧ SmArg w A n c l := by
  obtain ⟨A, n, c, rfl⟩ := okWide_slice Try.underlying22 hv
  obtain ⟨fuel, hf⟩ := h
  rcases open_slice Try.underlying22 hf with ⟨hcs, _⟩ | ⟨a, len, cap, m, k, D, Pl, hcs, _, hl, hm, hmm, _, hx⟩
  · simp [Value.cells] at hcs
    obtain ⟨rfl, rfl, rfl⟩ := hcs
    exact ⟨none, 0, 0, [], rfl, ⟨rfl, fun i a ha => by simp at ha⟩, Nat.le_refl _, Nat.zero_le _⟩
  · simp [Value.cells] at hcs
    obtain ⟨rfl, rfl, rfl⟩ := hcs
    have hsp0 : 0 < n → a.spot = none := fun hn => by
      obtain ⟨cs, hcell, _⟩ := hx 0 (by rw [hmm]; split <;> omega)
      rw [e_small] at hcell
      obtain ⟨_, hlen, hcl⟩ := World.cells?_some hcell
      have hc0 := hcl 0 (by omega)
      match cs, hlen with
      | [v0, v1], _ =>
        have := World.cell?_spot hc0
        simpa [Addr.add] using this
    have key : ∀ i, i < n → ∃ a' : Nat × Nat, ∃ b o, a = ⟨b, o, none⟩ ∧ b < w.heap.size ∧ w.cell? ⟨b, o + i * 2, none⟩ = some (.int .u16 (a'.1 : Int)) ∧ w.cell? ⟨b, o + i * 2 + 1, none⟩ = some (.int .u8 (a'.2 : Int)) ∧ a'.1 < 65536 ∧ a'.2 < 256 := fun i hi => by
      obtain ⟨cs, hcell, htr⟩ := hx i (by rw [hmm]; split <;> omega)
      rw [e_small] at hcell
      obtain ⟨_, hlen, hcl⟩ := World.cells?_some hcell
      obtain ⟨a', rfl, h1, h2⟩ := small_cells hlen htr
      have hc0 := hcl 0 (by omega)
      have hc1 := hcl 1 (by omega)
      simp only [List.getElem?_cons_zero, List.getElem?_cons_succ] at hc0 hc1
      have hsp := hsp0 (by omega)
      obtain ⟨b, o, s⟩ := a
      obtain rfl : s = none := hsp
      rw [Addr.add_lit, Addr.add_lit] at hc0 hc1
      have hbl := World.block_lt_of_cell? _ _ hc0
      exact ⟨a', b, o, rfl, hbl, by simpa using hc0, hc1, h1, h2⟩
    obtain ⟨f, hfx⟩ := choose_lt (α := Nat × Nat) (p := fun i a' => ∃ b o, a = ⟨b, o, none⟩ ∧ b < w.heap.size ∧ w.cell? ⟨b, o + i * 2, none⟩ = some (.int .u16 (a'.1 : Int)) ∧ w.cell? ⟨b, o + i * 2 + 1, none⟩ = some (.int .u8 (a'.2 : Int)) ∧ a'.1 < 65536 ∧ a'.2 < 256) key
    refine ⟨some a, n, c, (List.range n).map f, rfl, ⟨by simp, fun i z hz => ?_⟩, hl, hm⟩
    rw [List.getElem?_map] at hz
    have hi : i < n := by
      rcases Nat.lt_or_ge i n with h | h
      · exact h
      · rw [List.getElem?_eq_none (by simpa using h)] at hz; simp at hz
    rw [List.getElem?_range hi] at hz
    simp at hz
    subst hz
    obtain ⟨b, o, h1, h2⟩ := hfx i hi
    exact ⟨b, o, by rw [h1], h2⟩
end
end Go.Proofs.Ytippgnbmilnjbaa
