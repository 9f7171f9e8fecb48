/- OpS: how slices of structs of integers come in. No condition. -/
import Derived.Test.YtlneifgihdickaaOpen
import Derived.Test.YtlneifgihdickaaSts
import Derived.Deep.Slices
import Derived.ChangeSame
namespace Go.Fx
open Go.RowKit Go.ChangeShapes Go.WideShapes Go.ChangeAt Go.Deep
/-- These cells are integers of these kinds. -/
def IntsOk (ks : List IntKind) (cs : List Value) : Prop := cs.length = ks.length ∧ ∀ (i : Nat) (k : IntKind), ks[i]? = some k → ∃ z, cs[i]? = some (Value.int k z) ∧ (Lit.int k z).wf = true
section
variable {H : Type} {enc : TypeId × Value → H} {P : Program} {w : World} {base b0 : Nat} {spare : Nat → Bool} {held : Bool} {r : Reach}
theorem ints_struct {t : TypeId} {fs : Array Field} {ks : List IntKind} {fuel : Nat} {cs : List Value} {x : DataW H × List MemPlace} (ht : P.underlying t = some (.struct fs)) (hs : fs.size = ks.length) (hc : P.cellsOf t = ks.length)
    (hf : ∀ (i : Nat) (k : IntKind), ks[i]? = some k → ∃ f : Field, fs[i]? = some f ∧ P.underlying f.type = some (.int k) ∧ P.cellsOf f.type = 1 ∧ f.offset = i) (h : DataW.trod enc P w base spare held fuel t cs = some x) : IntsOk ks cs := by
  obtain ⟨xs, n, _, rfl, hl, hlen, hx⟩ := DataW.trod_struct ht h
  refine ⟨hl.trans hc, fun i k hk => ?_⟩
  obtain ⟨f, hfi, hu, hc1, ho⟩ := hf i k hk
  have hi : i < ks.length := (List.getElem?_eq_some_iff.1 hk).1
  have h1 := hx i f hfi
  rw [hc1, ho] at h1
  have hcl : i < cs.length := by rw [hl, hc]; exact hi
  have e1 : (cs.drop i).take 1 = [cs[i]] := by rw [List.drop_eq_getElem_cons hcl]; rfl
  rw [e1] at h1
  have hxi : i < xs.length := by rw [hlen, hs]; exact hi
  rw [List.getElem?_eq_getElem hxi] at h1
  obtain ⟨z, hz, _, hw⟩ := DataW.trod_int hu h1
  refine ⟨z, ?_, hw⟩
  rw [List.getElem?_eq_getElem hcl]
  simp only [List.cons.injEq, and_true] at hz
  rw [hz]
theorem open_structs {T t : TypeId} {fs : Array Field} {ks : List IntKind} {v : Value} {d : DataW H} {p : List MemPlace} (hT : P.underlying T = some (.slice t)) (ht : P.underlying t = some (.struct fs)) (hs : fs.size = ks.length) (hc : P.cellsOf t = ks.length) (h0 : 0 < ks.length)
    (hf : ∀ (i : Nat) (k : IntKind), ks[i]? = some k → ∃ f : Field, fs[i]? = some f ∧ P.underlying f.type = some (.int k) ∧ P.cellsOf f.type = 1 ∧ f.offset = i) (hv : Value.okWide P w r b0 T v) (h : DataW.Trod enc P w base spare held T v d p) :
    ∃ A n c zs, v = .slice A n c ∧ RdS ks.length (fun cs : List Value => cs) w A n zs ∧ (∀ cs ∈ zs, IntsOk ks cs) ∧ n ≤ c ∧ c ≤ maxLen := by
  obtain ⟨A, n, c, rfl⟩ := okWide_slice hT hv
  obtain ⟨fuel, hf1⟩ := h
  rcases open_slice hT hf1 with ⟨hcs, _⟩ | ⟨a, len, cap, m, k, D, Pl, hcs, _, hl, hm, hmm, _, hx⟩
  · simp [Value.cells] at hcs
    obtain ⟨rfl, rfl, rfl⟩ := hcs
    exact ⟨none, 0, 0, [], rfl, RdS.none_, by simp, Nat.le_refl _, Nat.zero_le _⟩
  · simp [Value.cells] at hcs
    obtain ⟨rfl, rfl, rfl⟩ := hcs
    have hsp0 : 0 < n → a.spot = none := fun hn => by
      obtain ⟨cs, hcell, htr⟩ := hx 0 (by rw [hmm]; split <;> omega)
      rw [hc] at hcell
      obtain ⟨_, hlen, hcl⟩ := World.cells?_some hcell
      have hok := ints_struct ht hs hc hf htr
      have hc0 := hcl 0 h0
      have hlt0 : 0 < cs.length := by rw [hok.1]; exact h0
      rw [List.getElem?_eq_getElem hlt0] at hc0
      have h1 := World.cell?_spot hc0
      simpa [Addr.add] using h1
    have key : ∀ i, i < n → ∃ cs : List Value, IntsOk ks cs ∧ ∃ b o, a = ⟨b, o, none⟩ ∧ b < w.heap.size ∧ ∀ j u, cs[j]? = some u → w.cell? ⟨b, o + i * ks.length + j, none⟩ = some u := fun i hi => by
      obtain ⟨cs, hcell, htr⟩ := hx i (by rw [hmm]; split <;> omega)
      rw [hc] at hcell
      obtain ⟨_, hlen, hcl⟩ := World.cells?_some hcell
      have hok := ints_struct ht hs hc hf htr
      have hc0 := hcl 0 h0
      have hlt0 : 0 < cs.length := by rw [hok.1]; exact h0
      rw [List.getElem?_eq_getElem hlt0] at hc0
      have hsp := hsp0 (by omega)
      obtain ⟨b, o, s⟩ := a
      obtain rfl : s = none := hsp
      have hbl := World.block_lt_of_cell? _ _ hc0
      rw [Addr.add_lit, Addr.add_lit] at hbl
      refine ⟨cs, hok, b, o, rfl, hbl, fun j u hu => ?_⟩
      have hj : j < ks.length := by rw [← hok.1]; exact (List.getElem?_eq_some_iff.1 hu).1
      have := hcl j hj
      rw [Addr.add_lit, Addr.add_lit] at this
      rw [this]; exact hu
    obtain ⟨f, hfx⟩ := choose_lt (α := List Value) key
    refine ⟨some a, n, c, (List.range n).map f, rfl, ⟨by simp, fun hn => ?_⟩, ?_, hl, hm⟩
    · obtain ⟨_, b, o, h1, h2, _⟩ := hfx 0 hn
      refine ⟨b, o, by rw [h1], h2, fun i x hx j u hu => ?_⟩
      rw [List.getElem?_map] at hx
      have hi : i < n := by
        rcases Nat.lt_or_ge i n with h | h
        · exact h
        · rw [List.getElem?_eq_none (by simpa using h)] at hx; simp at hx
      rw [List.getElem?_range hi] at hx
      simp at hx
      subst hx
      obtain ⟨_, b', o', h1', _, h3⟩ := hfx i hi
      rw [h1] at h1'
      cases h1'
      exact h3 j u hu
    · intro cs hcs
      obtain ⟨i, hi, rfl⟩ := List.mem_map.1 hcs
      exact (hfx i (by simpa using hi)).1
end
/-- Each of a list of cells is what a struct holds. -/
theorem RdS.of_ints {α : Type} {f : α → List Value} {OK : α → Prop} {s : Nat} {w : World} {A : Option Addr} {n : Nat} : ∀ {zs : List (List Value)}, (∀ cs ∈ zs, ∃ x, cs = f x ∧ OK x) → RdS s (fun cs : List Value => cs) w A n zs → ∃ l : List α, RdS s f w A n l ∧ ∀ x ∈ l, OK x := by
  intro zs h hr
  have key : ∀ zs : List (List Value), (∀ cs ∈ zs, ∃ x, cs = f x ∧ OK x) → ∃ l : List α, zs = l.map f ∧ ∀ x ∈ l, OK x := by
    intro zs
    induction zs with
    | nil => intro _; exact ⟨[], rfl, by simp⟩
    | cons c zs ih =>
      intro h
      obtain ⟨x, hx, ho⟩ := h c (by simp)
      obtain ⟨l, hl, hl2⟩ := ih (fun cs hcs => h cs (by simp [hcs]))
      exact ⟨x :: l, by rw [List.map_cons, hx, hl], fun y hy => (List.mem_cons.1 hy).elim (fun e => by rw [e]; exact ho) (hl2 y)⟩
  obtain ⟨l, rfl, hl⟩ := key zs h
  refine ⟨l, ⟨by have := hr.1; simpa using this, fun hn => ?_⟩, hl⟩
  obtain ⟨b, o, h1, h2, h3⟩ := hr.2 hn
  exact ⟨b, o, h1, h2, fun i x hx j u hu => h3 i (f x) (by rw [List.getElem?_map, hx]; rfl) j u hu⟩
end Go.Fx
