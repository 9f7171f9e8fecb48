/- What others hold beside an inbox; slicing a list of frames from a place on. -/
import Derived.Test.YtpipnefepnknoaaOrd
namespace Go.Proofs.Ytpipnefepnknoaa
open Go.RowKit Go.Fx
/-- Blocks that are neither the inbox's nor a list's. -/
structure Far (w : World) (ib : Nat) (L : Lay) (A : Option Addr) (c : Nat) (G : Nat → Prop) : Prop where
  lt : ∀ k, G k → k < w.heap.size
  box : ∀ k, G k → ¬ boxF ib L k
  row : ∀ k, G k → ¬ foot A c k
theorem Far.step {w w' : World} {ib : Nat} {L L' : Lay} {A : Option Addr} {c : Nat} {G : Nat → Prop} (h : Far w ib L A c G) (s : Step w ib L w' L') : Far w' ib L' A c G :=
  ⟨fun k hk => s.chg.lt (h.lt k hk), fun k hk hk2 => (s.nb k hk2).elim (h.box k hk) (fun h1 => by have := h.lt k hk; omega), h.row⟩
theorem Far.app {w w' : World} {ib : Nat} {L : Lay} {A A' : Option Addr} {c c' : Nat} {G : Nat → Prop} (h : Far w ib L A c G) (ch : Chg (foot A c) w w') (ft : ∀ k, foot A' c' k → foot A c k ∨ w.heap.size ≤ k) : Far w' ib L A' c' G :=
  ⟨fun k hk => ch.lt (h.lt k hk), h.box, fun k hk hk2 => (ft k hk2).elim (h.row k hk) (fun h1 => by have := h.lt k hk; omega)⟩
theorem Far.ext {w w' : World} {ib : Nat} {L : Lay} {A : Option Addr} {c : Nat} {G : Nat → Prop} (h : Far w ib L A c G) (e : Ext w w') : Far w' ib L A c G :=
  ⟨fun k hk => Nat.lt_of_lt_of_le (h.lt k hk) e.size, h.box, h.row⟩
def from_ (A : Option Addr) (c k : Nat) : Option Addr := if c = k then A else A.map (·.add k)
theorem bb_from (A : Option Addr) (n c k : Nat) (w : World) (hk : k ≤ n) :
    (Instr.sliceAt 25 (.slice A n c) (some (.int .i64 (k : Int))) none none).run Try.prog w = .ok (.slice (from_ A c k) (n - k) (c - k)) w := by
  have h1 : (k : Int) ≤ (n : Int) := by omega
  have h2 : (0 : Int) ≤ (k : Int) := by omega
  simp [go_sem, sliced, from_, h1]
theorem Room.from_ {w : World} {A : Option Addr} {n c : Nat} {xs : List Value} (h : Room w A n c xs) {k : Nat} (hk : k ≤ n) : Room w (from_ A c k) (n - k) (c - k) (xs.drop k) := by
  unfold Go.Proofs.Ytpipnefepnknoaa.from_
  by_cases hc : c = k
  · rw [if_pos hc]
    have := h.2.1
    have e1 : n - k = 0 := by omega
    have e2 : c - k = 0 := by omega
    rw [e1, e2, List.drop_eq_nil_of_le (by rw [h.1]; omega)]
    exact Room.zero
  · rw [if_neg hc]
    obtain ⟨g, o, rfl, _⟩ := h.some_ (by have := h.2.1; omega)
    have h3 := h.drop hk
    rw [show (some (⟨g, o, none⟩ : Addr)).map (·.add k) = some ⟨g, o + k, none⟩ from by simp [Addr.add_lit]]
    exact h3
theorem fd_cnt1 (a0 a1 a2 a3 : Int) (w : World) : (Instr.field 33 (.agg #[.int .i64 a0, .int .i64 a1, .int .i64 a2, .int .i64 a3]) 1).run Try.prog w = .ok (.int .i64 a1) w := by kernel_rfl
theorem fd_cnt2 (a0 a1 a2 a3 : Int) (w : World) : (Instr.field 33 (.agg #[.int .i64 a0, .int .i64 a1, .int .i64 a2, .int .i64 a3]) 2).run Try.prog w = .ok (.int .i64 a2) w := by kernel_rfl
end Go.Proofs.Ytpipnefepnknoaa
