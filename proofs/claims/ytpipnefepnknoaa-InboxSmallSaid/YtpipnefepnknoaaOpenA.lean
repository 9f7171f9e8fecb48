/- How a list of acts comes in. -/
import Derived.Test.YtpipnefepnknoaaOpen
import Derived.Test.YtpipnefepnknoaaPlay
import Derived.Deep.Slices
import Derived.ChangeSame
namespace Go.Fx
open Go.RowKit Go.ChangeShapes Go.WideShapes Go.ChangeAt Go.Deep
section
variable {H : Type} {enc : TypeId × Value → H} {P : Program} {w : World} {base b0 : Nat} {spare : Nat → Bool} {held : Bool} {r : Reach}
theorem nats_cells {t e : TypeId} {k : IntKind} (M : Nat) (hM : ∀ n : Int, (Lit.int k n).wf = true → 0 ≤ n ∧ n < (M : Int)) {fuel : Nat} {cs : List Value} {x : DataW H × List MemPlace} (ht : P.underlying t = some (.slice e)) (he : P.underlying e = some (.int k)) (hc : P.cellsOf e = 1)
    (h : DataW.trod enc P w base spare held fuel t cs = some x) : ∃ A n c xs, cs = [.slice A n c] ∧ Arg k M w A n c xs ∧ (A = none → n = 0) := by
  rcases open_ints ht he hc h with ⟨rfl, _⟩ | ⟨x, l, c', zs, rfl, _, hl, hm, hz, _, hcell, hwz⟩
  · exact ⟨none, 0, 0, [], rfl, ⟨Rd.none_, by simp, Nat.le_refl _, by simp [maxLen]⟩, fun _ => rfl⟩
  · have hlen : l ≤ zs.length := by rw [hz]; split <;> omega
    refine ⟨some x, l, c', (zs.take l).map Int.toNat, rfl, ⟨⟨by simp; omega, fun hn => ?_⟩, ?_, hl, hm⟩, fun h => by cases h⟩
    · have h0 := hcell 0 (by omega)
      have hsp : x.spot = none := by
        have := World.cell?_spot h0
        simpa [Addr.add] using this
      obtain ⟨b, o, s⟩ := x
      obtain rfl : s = none := hsp
      refine ⟨b, o, rfl, ?_, fun i y hy => ?_⟩
      · have := World.block_lt_of_cell? _ _ h0
        simpa [Addr.add_lit] using this
      · rw [List.getElem?_map, List.getElem?_take] at hy
        by_cases hi : i < l
        · rw [if_pos hi, List.getElem?_eq_getElem (by omega)] at hy
          simp at hy
          have := hcell i (by omega)
          rw [Addr.add_lit] at this
          rw [this]
          have hw := hM _ (hwz (zs[i]'(by omega)) (List.getElem_mem _))
          simp [List.getD, List.getElem?_eq_getElem (show i < zs.length by omega)]
          omega
        · rw [if_neg hi] at hy; simp at hy
    · intro y hy
      obtain ⟨z, hz', rfl⟩ := List.mem_map.1 hy
      have hw := hM z (hwz z (List.mem_of_mem_take hz'))
      omega
end
end Go.Fx
namespace Go.Proofs.Ytpipnefepnknoaa
open Go.RowKit Go.Fx Go.ChangeShapes Go.WideShapes Go.ChangeAt Go.Deep
structure ActsArg (W : World) (A : Option Addr) (n c : Nat) (al : List ActN) : Prop where
  acts : Acts W A n al
  le : n ≤ c
  max : c ≤ maxLen
theorem maxLen_pos : 0 ≤ maxLen := Nat.zero_le _
theorem add_b (a : Addr) (i : Nat) : (a.add i).block = a.block := by unfold Addr.add; split <;> rfl
section
variable {H : Type} {enc : TypeId × Value → H} {w : World} {base b0 : Nat} {spare : Nat → Bool} {held : Bool} {r : Reach}
theorem open_t22 {v : Value} {d : DataW H} {p : List MemPlace} (hv : Value.okWide Try.prog w r b0 22 v) (h : DataW.Trod enc Try.prog w base spare held 22 v d p) :
    ∃ A n c al, v = .slice A n c ∧ ActsArg w A n c al := by
  obtain ⟨A, n, c, rfl⟩ := okWide_slice Try.underlying22 hv
  obtain ⟨fuel, hf⟩ := h
  have hce : Try.prog.cellsOf 47 = 2 := by kernel_rfl
  rcases open_slice Try.underlying22 hf with ⟨hcs, _⟩ | ⟨a, len, cap, m, k, D, Pl, hcs, _, hl, hm, hmm, _, hx⟩
  · simp [Value.cells] at hcs
    obtain ⟨rfl, rfl, rfl⟩ := hcs
    exact ⟨none, 0, 0, [], rfl, ⟨rfl, fun i a ha => by simp at ha⟩, Nat.le_refl _, Nat.zero_le _⟩
  · simp [Value.cells] at hcs
    obtain ⟨rfl, rfl, rfl⟩ := hcs
    have hsp0 : 0 < n → a.spot = none := fun hn => by
      obtain ⟨cs, hcell, _⟩ := hx 0 (by rw [hmm]; split <;> omega)
      rw [hce] at hcell
      obtain ⟨_, hlen, hcl⟩ := World.cells?_some hcell
      have hc0 := hcl 0 (by omega)
      match cs, hlen with
      | [v0, v1], _ =>
        have := World.cell?_spot hc0
        simpa [Addr.add] using this
    have key : ∀ i, i < n → ∃ a' : ActN, ∃ b o s, a = ⟨b, o, none⟩ ∧ b < w.heap.size ∧ ActAt w b (o + i * 2) a' s := fun i hi => by
      obtain ⟨cs, hcell, htr⟩ := hx i (by rw [hmm]; split <;> omega)
      rw [hce] at hcell
      obtain ⟨_, hlen, hcl⟩ := World.cells?_some hcell
      obtain ⟨y0, y1, k', _, _, h0, h1⟩ := trod_struct2 Try.underlying47 htr
      match cs, hlen with
      | [v0, v1], _ =>
        have e5 : Try.prog.cellsOf 5 = 1 := by kernel_rfl
        have e29 : Try.prog.cellsOf 29 = 1 := by kernel_rfl
        simp only [e5, e29, List.drop_zero, List.take_succ_cons, List.take_zero, List.drop_succ_cons] at h0 h1
        obtain ⟨z, hz, _, hw⟩ := DataW.trod_int Try.underlying5 h0
        obtain ⟨A1, n1, c1, xs, hv1, harg, hnn⟩ := nats_cells (k := .u8) 256 (fun n h => by have := bounds_u8 h; omega) Try.underlying29 Try.underlying5 e5 h1
        simp only [List.cons.injEq, and_true] at hz hv1
        subst hz hv1
        have hb := bounds_u8 hw
        have hc0 := hcl 0 (by omega)
        have hc1 := hcl 1 (by omega)
        simp only [List.getElem?_cons_zero, List.getElem?_cons_succ] at hc0 hc1
        obtain ⟨b, o, s⟩ := a
        obtain rfl : s = none := hsp0 (by omega)
        rw [Addr.add_lit, Addr.add_lit] at hc0 hc1
        have hbl := World.block_lt_of_cell? _ _ hc0
        have hn : ((z.toNat : Nat) : Int) = z := by omega
        cases A1 with
        | none =>
          refine ⟨(z.toNat, none), b, o, ⟨none, n1, c1⟩, rfl, hbl, ⟨?_, hc1, by simp; omega, ⟨rfl, hnn rfl⟩⟩⟩
          simp only [Nat.add_zero] at hc0 ⊢
          rw [hn]; exact hc0
        | some x =>
          refine ⟨(z.toNat, some xs), b, o, ⟨some x, n1, c1⟩, rfl, hbl, ⟨?_, hc1, by simp; omega, ⟨by simp, harg.rd, harg.lt⟩⟩⟩
          simp only [Nat.add_zero] at hc0 ⊢
          rw [hn]; exact hc0
    obtain ⟨f, hfx⟩ := choose_lt (α := ActN) (p := fun i a' => ∃ b o s, a = ⟨b, o, none⟩ ∧ b < w.heap.size ∧ ActAt w b (o + i * 2) a' s) key
    refine ⟨some a, n, c, (List.range n).map f, rfl, ⟨by simp, fun i a' ha => ?_⟩, hl, hm⟩
    rw [List.getElem?_map] at ha
    have hi : i < n := by
      rcases Nat.lt_or_ge i n with h | h
      · exact h
      · rw [List.getElem?_eq_none (by simpa using h)] at ha; simp at ha
    rw [List.getElem?_range hi] at ha
    simp at ha
    subst ha
    obtain ⟨b, o, s, h1, h2, h3⟩ := hfx i hi
    exact ⟨b, o, s, by rw [h1], h2, h3⟩
end
end Go.Proofs.Ytpipnefepnknoaa
