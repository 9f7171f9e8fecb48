/- CaP: the examples of the chapter, in plain Lean. -/
import Derived.Test.YtiakcehhegippaaCrl
import Derived.Test.YtiakcehhegippaaCwr
namespace Go.Fx
open Go.RowKit Go.Proofs Go.Proofs.Ytiakcehhegippaa
theorem ex_w1 : writeF [⟨10, 0, 0, 0, 2⟩, ⟨9, 0, 0, 0, 0⟩, ⟨1, 0, 0, 0, 0⟩] = ([10, 0, 0, 2, 9, 0, 0, 1], 0) := by decide +kernel
theorem ex_c1 : checkF [⟨10, 0, 0, 0, 2⟩, ⟨9, 0, 0, 0, 0⟩, ⟨1, 0, 0, 0, 0⟩] = (-1, 0) := by decide +kernel
theorem ex_w2 : writeF [⟨3, 1, 0, 0, -2⟩, ⟨33, 1, 2, 3, 0⟩, ⟨8, 1, 2, 0, 4⟩, ⟨1, 0, 0, 0, 0⟩] = ([3, 1, 255, 255, 255, 255, 255, 255, 255, 254, 33, 1, 2, 3, 8, 1, 2, 4, 1], 0) := by decide +kernel
theorem ex_k1 : checkF [⟨9, 0, 0, 0, 1⟩] = (0, 142) := by decide +kernel
theorem ex_k2 : checkF [⟨4, 0, 0, 0, 0⟩] = (0, 143) := by decide +kernel
theorem ex_o : oneF ⟨1, 1, 0, 0, 0⟩ = 141 ∧ oneF ⟨4, 8, 0, 0, 0⟩ = 141 ∧ oneF ⟨12, 0, 0, 0, 0⟩ = 140 ∧ oneF ⟨32, 0, 0, 0, 0⟩ = 140 ∧ oneF ⟨50, 0, 0, 0, 0⟩ = 140 := by decide +kernel
theorem ex_r1 : readF [9, 0] = ([], 0, 144) := by
  have h : (rdS [9, 0]).2.1 = 144 := by decide +kernel
  have e : rlF [] [9, 0] = ([], 144) := by rw [rlF_bad (by decide) (by decide) (by rw [h]; decide), h]
  unfold readF; rw [e]; rfl
theorem ex_r2 : readF [1, 12] = ([], 1, 140) := by
  have h0 : rdS [1, 12] = (⟨1, 0, 0, 0, 0⟩, 0, 1) := by decide +kernel
  have h : (rdS [12]).2.1 = 140 := by decide +kernel
  have e : rlF [] [1, 12] = ([⟨1, 0, 0, 0, 0⟩], 140) := by
    rw [rlF_step (by decide) (by decide) (by rw [h0]), h0]
    show rlF [⟨1, 0, 0, 0, 0⟩] [12] = _
    rw [rlF_bad (by decide) (by decide) (by rw [h]; decide), h]
  unfold readF; rw [e]; rfl
theorem ex_r3 : readF [5, 8, 0] = ([], 0, 141) := by
  have h : (rdS [5, 8, 0]).2.1 = 141 := by decide +kernel
  have e : rlF [] [5, 8, 0] = ([], 141) := by rw [rlF_bad (by decide) (by decide) (by rw [h]; decide), h]
  unfold readF; rw [e]; rfl
end Go.Fx
