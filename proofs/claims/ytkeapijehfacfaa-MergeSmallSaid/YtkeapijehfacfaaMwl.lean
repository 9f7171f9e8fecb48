/- Mwl: two lists of events that grow side by side. -/
import Derived.Test.YtkeapijehfacfaaMwc
namespace Go.Fx
open Go.RowKit
/-- Two new lists in blocks of their own. -/
structure TwoJ (w : World) (A1 : Option Addr) (n1 c1 : Nat) (A2 : Option Addr) (n2 c2 : Nat) (l1 l2 : List Ev) (W : World) : Prop where
  r1 : RoomS 5 W A1 n1 c1 (l1.flatMap evC)
  r2 : RoomS 5 W A2 n2 c2 (l2.flatMap evC)
  e1 : l1.length = n1
  e2 : l2.length = n2
  f1 : ∀ k, foot A1 c1 k → w.heap.size ≤ k
  f2 : ∀ k, foot A2 c2 k → w.heap.size ≤ k
  dis : ∀ k, foot A1 c1 k → ¬ foot A2 c2 k
  ext : Ext w W
section
variable {w W W1 w3 : World} {A1 A2 A3 : Option Addr} {n1 c1 n2 c2 c3 : Nat} {l1 l2 : List Ev} {x : Ev}
theorem TwoJ.e (h : TwoJ w A1 n1 c1 A2 n2 c2 l1 l2 W) (e : Ext W W1) : TwoJ w A1 n1 c1 A2 n2 c2 l1 l2 W1 :=
  ⟨h.r1.ext e, h.r2.ext e, h.e1, h.e2, h.f1, h.f2, h.dis, h.ext.t e⟩
theorem TwoJ.swap (h : TwoJ w A1 n1 c1 A2 n2 c2 l1 l2 W) : TwoJ w A2 n2 c2 A1 n1 c1 l2 l1 W :=
  ⟨h.r2, h.r1, h.e2, h.e1, h.f2, h.f1, fun k h2 h1 => h.dis k h1 h2, h.ext⟩
theorem TwoJ.app (h : TwoJ w A1 n1 c1 A2 n2 c2 l1 l2 W) (r : RoomS 5 w3 A3 (n1 + 1) c3 (l1.flatMap evC ++ [x].flatMap evC)) (ch : Chg (foot A1 c1) W w3) (S : Nat) (ft : ∀ k, foot A3 c3 k → foot A1 c1 k ∨ S ≤ k) (hS : W.heap.size ≤ S) : TwoJ w A3 (n1 + 1) c3 A2 n2 c2 (l1 ++ [x]) l2 w3 := by
  refine ⟨by rw [List.flatMap_append]; exact r, h.r2.chg ch (fun k h2 h1 => h.dis k h1 h2), by rw [List.length_append, h.e1]; rfl, h.e2, fun q hq => (ft q hq).elim (h.f1 q) (fun h' => ?_), h.f2, fun q hq h2 => (ft q hq).elim (fun h1 => h.dis q h1 h2) (fun h' => ?_), h.ext.trans (ch.below h.ext.size (fun q hq hf => by have := h.f1 q hf; omega))⟩
  · have := h.ext.size; omega
  · have := h.r2.lt h2; omega
end
end Go.Fx
