/- Fsl: slicing bytes: b[k:], b[lo:hi], the address under one name. -/
import Derived.Test.YtippgnbmilnjbaaFBas
namespace Go.Fx
open Go.RowKit
/-- The address of s[k:]. -/
def from_ (A : Option Addr) (c k : Nat) : Option Addr := if c = k then A else A.map (·.add k)
theorem Rd.cut_ {α : Type} {f : α → Value} {w : World} {A : Option Addr} {n c lo hi : Nat} {xs : List α} (h : Rd f w A n xs) (h1 : lo ≤ hi) (h2 : hi ≤ n) (hc : n ≤ c) : Rd f w (from_ A c lo) (hi - lo) ((xs.take hi).drop lo) := by
  have hl := h.1
  refine ⟨by rw [List.length_drop, List.length_take]; omega, fun hn => ?_⟩
  obtain ⟨b, o, rfl, hb, hcell⟩ := h.2 (by omega)
  unfold from_
  rw [if_neg (by omega)]
  refine ⟨b, o + lo, by simp [Addr.add_lit], hb, fun i x hx => ?_⟩
  rw [List.getElem?_drop, List.getElem?_take] at hx
  split at hx
  · rw [Nat.add_assoc]; exact hcell _ x hx
  · cases hx
theorem Rd.from_ {α : Type} {f : α → Value} {w : World} {A : Option Addr} {n c k : Nat} {xs : List α} (h : Rd f w A n xs) (hk : k ≤ n) (hc : n ≤ c) : Rd f w (Go.Fx.from_ A c k) (n - k) (xs.drop k) := by
  have h2 := h.cut_ hk (Nat.le_refl n) hc
  rwa [List.take_of_length_le (by rw [h.1]; exact Nat.le_refl _)] at h2
theorem Room.from_ {w : World} {A : Option Addr} {n c : Nat} {xs : List Value} (h : Room w A n c xs) {k : Nat} (hk : k ≤ n) : Room w (Go.Fx.from_ A c k) (n - k) (c - k) (xs.drop k) := by
  unfold Go.Fx.from_
  by_cases hc : c = k
  · rw [if_pos hc]
    have := h.2.1
    have e1 : n - k = 0 := by omega
    have e2 : c - k = 0 := by omega
    rw [e1, e2, List.drop_eq_nil_of_le (by rw [h.1]; omega)]
    exact Room.zero
  · rw [if_neg hc]
    obtain ⟨g, o, rfl, _⟩ := h.some_ (by have := h.2.1; omega)
    have h3 := h.drop hk
    rw [show (some (⟨g, o, none⟩ : Addr)).map (·.add k) = some ⟨g, o + k, none⟩ from by simp [Addr.add_lit]]
    exact h3
theorem foot_from {w : World} {A : Option Addr} {n c k j : Nat} {xs : List Value} (hr : Room w A n c xs) (h : foot (Go.Fx.from_ A c k) (c - k) j) : foot A c j := by
  obtain ⟨h1, o, h2⟩ := h
  obtain ⟨b, o', rfl, _⟩ := hr.some_ (by omega)
  unfold Go.Fx.from_ at h2
  rw [if_neg (by omega)] at h2
  simp [Addr.add_lit] at h2
  obtain ⟨rfl, rfl⟩ := h2
  exact ⟨by omega, o', rfl⟩
end Go.Fx
namespace Go.Proofs.Ytippgnbmilnjbaa
open Go.RowKit Go.Fx
theorem u8_from (A : Option Addr) (n c k : Nat) (w : World) (hk : k ≤ n) :
    (Instr.sliceAt 23 (.slice A n c) (some (.int .i64 (k : Int))) none none).run Try.prog w = .ok (.slice (from_ A c k) (n - k) (c - k)) w := by
  have h1 : (k : Int) ≤ (n : Int) := by omega
  have h2 : (0 : Int) ≤ (k : Int) := by omega
  simp [go_sem, sliced, from_, h1]
theorem u8_cut (A : Option Addr) (n c lo hi : Nat) (w : World) (h1 : lo ≤ hi) (h2 : hi ≤ c) :
    (Instr.sliceAt 23 (.slice A n c) (some (.int .i64 (lo : Int))) (some (.int .i64 (hi : Int))) none).run Try.prog w = .ok (.slice (from_ A c lo) (hi - lo) (c - lo)) w := by
  have h3 : (lo : Int) ≤ (hi : Int) := by omega
  have h4 : (hi : Int) ≤ (c : Int) := by omega
  have h5 : (0 : Int) ≤ (lo : Int) := by omega
  simp [go_sem, sliced, from_, h3, h4]
theorem u8_cutI {A : Option Addr} {n c lo hi : Nat} {li hi' : Int} (w : World) (e1 : li = (lo : Int)) (e2 : hi' = (hi : Int)) (h1 : lo ≤ hi) (h2 : hi ≤ c) :
    (Instr.sliceAt 23 (.slice A n c) (some (.int .i64 li)) (some (.int .i64 hi')) none).run Try.prog w = .ok (.slice (from_ A c lo) (hi - lo) (c - lo)) w := by
  subst e1; subst e2; exact u8_cut A n c lo hi w h1 h2
theorem u8_fromI {A : Option Addr} {n c lo : Nat} {li : Int} (w : World) (e1 : li = (lo : Int)) (h1 : lo ≤ n) :
    (Instr.sliceAt 23 (.slice A n c) (some (.int .i64 li)) none none).run Try.prog w = .ok (.slice (from_ A c lo) (n - lo) (c - lo)) w := by
  subst e1; exact u8_from A n c lo w h1
theorem bb_from (A : Option Addr) (n c k : Nat) (w : World) (hk : k ≤ n) :
    (Instr.sliceAt 25 (.slice A n c) (some (.int .i64 (k : Int))) none none).run Try.prog w = .ok (.slice (from_ A c k) (n - k) (c - k)) w := by
  have h1 : (k : Int) ≤ (n : Int) := by omega
  have h2 : (0 : Int) ≤ (k : Int) := by omega
  simp [go_sem, sliced, from_, h1]
end Go.Proofs.Ytippgnbmilnjbaa
