/- More: further laws of rows and slices. -/
import Derived.Test.YtidjimkhppfjjaaLib
namespace Go.Fx
theorem own_cap {w : World} {base : Nat} {e : TypeId} {size : Nat} {A : Option Addr} {n c : Nat} {xs : List Value} (h : w.ownsRow base e size (.slice A n c) n xs) : n ≤ c := by
  rcases h.2 with ⟨h1, h2⟩ | ⟨g, cap, cur, h1, -, -, h2, -⟩
  · omega
  · simp only [Value.slice.injEq] at h1
    omega
end Go.Fx
