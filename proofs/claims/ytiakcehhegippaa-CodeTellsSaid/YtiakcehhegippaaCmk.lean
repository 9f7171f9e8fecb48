/- Cmk: instructions as the keys of a map. -/
import Derived.Test.YtiakcehhegippaaCls
import Derived.DeepKeys5
import Derived.Maps.RangeWalk
namespace Go.Proofs.Ytiakcehhegippaa
open Go.RowKit Go.Fx
theorem laid_out : laidOutB Try.prog = true := by kernel_rfl
theorem keyed_ins : Maps.Keyed Try.prog 38 := Maps.Keyed.of_law (deep_law_gate laid_out (by decide) (by decide) (by kernel_rfl) (by kernel_rfl))
end Go.Proofs.Ytiakcehhegippaa
