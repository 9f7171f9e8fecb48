/- Mlt: the law's own order of events. -/
import Derived.Test.YtkeapijehfacfaaEvm
namespace Go.Proofs.Ytkeapijehfacfaa
open Go.RowKit Go.Fx
set_option maxRecDepth 100000 in
theorem less_ (a b : Ev) (w : World) : Calls Try.prog 17 #[evV a, evV b] w fun e w' => e = .returned (.bool (elB a b)) ∧ Ext w w' := by
  by_cases h1 : a.t = b.t
  · by_cases h2 : a.s = b.s
    · have hv : elB a b = decide (a.q < b.q) := by
        unfold elB klB
        simp [Ev.k, h1, h2]
      rw [hv]
      have g1 : (a.t != b.t) = false := by simp [h1]
      have g2 : (a.s != b.s) = false := by simp [h2]
      unfold evV
      go_enter Try.func17, Try.ntmps17
      go_wp2_with fail
      go_ret
      exact ⟨rfl, (Ext.alloc _ _).t (Ext.alloc _ _)⟩
    · have hv : elB a b = decide (a.s < b.s) := by
        unfold elB klB
        simp [Ev.k, h1, h2]
      rw [hv]
      have g1 : (a.t != b.t) = false := by simp [h1]
      have g2 : (a.s != b.s) = true := by simp [h2]
      unfold evV
      go_enter Try.func17, Try.ntmps17
      go_wp2_with fail
      go_ret
      exact ⟨rfl, (Ext.alloc _ _).t (Ext.alloc _ _)⟩
  · have hv : elB a b = decide (a.t < b.t) := by
      unfold elB klB
      simp [Ev.k, h1]
    rw [hv]
    have g1 : (a.t != b.t) = true := by simp [h1]
    unfold evV
    go_enter Try.func17, Try.ntmps17
    go_wp2_with fail
    go_ret
    exact ⟨rfl, (Ext.alloc _ _).t (Ext.alloc _ _)⟩
end Go.Proofs.Ytkeapijehfacfaa
