/- Mkey: keys of events as the keys of a map. -/
import Derived.Test.YtdjpggnadelnaaaMal
import Derived.DeepKeys5
import Derived.Maps.OwnSet
import Derived.Maps.RangeWalk
namespace Go.Proofs.Ytdjpggnadelnaaa
open Go.RowKit Go.Fx
theorem laid_out : laidOutB Try.prog = true := by kernel_rfl
theorem keyed_ky : Maps.Keyed Try.prog 33 := Maps.Keyed.of_law (deep_law_gate laid_out (of_decide_eq_true (by kernel_rfl)) (of_decide_eq_true (by kernel_rfl)) (by kernel_rfl) (by kernel_rfl))
theorem ul_mk : Try.prog.underlying 81 = some (.map 33 3) := by kernel_rfl
theorem cells_ky : Try.prog.cellsOf 33 = 3 := by kernel_rfl
theorem cells_i : Try.prog.cellsOf 3 = 1 := by kernel_rfl
theorem lits_int (D : Nat) (x : Int) (h : (Lit.int .i64 x).wf = true) : Try.prog.keyLits (D + 1) 3 [.int .i64 x] = some [.int .i64 x] := by
  unfold Program.keyLits
  rw [Try.underlying3]
  simp [h]
theorem key_some (k : Ky) (h1 : (Lit.int .i64 k.t).wf = true) (h2 : (Lit.int .i64 k.s).wf = true) (h3 : (Lit.int .i64 k.q).wf = true) : ∃ l, keyOf Try.prog 33 (kyV k) = some l := by
  have hk : Try.prog.keyType 33 = true := by kernel_rfl
  have hf : (kyV k).formed Try.prog 33 = true := by
    unfold Value.formed kyV
    rw [Try.underlying33, cells_ky]; rfl
  obtain ⟨D, hD⟩ : ∃ D, Try.prog.types.size + 1 = D + 1 + 1 := by
    have : 1 ≤ Try.prog.types.size := of_decide_eq_true (by kernel_rfl)
    exact ⟨Try.prog.types.size - 1, by omega⟩
  have e1 := lits_int D k.t h1
  have e2 := lits_int D k.s h2
  have e3 := lits_int D k.q h3
  have hl : Try.prog.keyLits (D + 1 + 1) 33 [.int .i64 k.t, .int .i64 k.s, .int .i64 k.q] = some [.int .i64 k.t, .int .i64 k.s, .int .i64 k.q] := by
    unfold Program.keyLits
    rw [Try.underlying33]
    simp [cells_ky, cells_i, e1, e2, e3]
  unfold keyOf
  rw [Try.underlying33]
  simp only [hk, hf, Bool.and_self, if_true, hD]
  exact ⟨_, by rw [show (kyV k).cells.toList = [.int .i64 k.t, .int .i64 k.s, .int .i64 k.q] from rfl, hl]; rfl⟩
end Go.Proofs.Ytdjpggnadelnaaa
