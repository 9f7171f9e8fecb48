/- SlFrom: the address of s[k:], of elements of several cells. -/
import Derived.WalkKit
namespace Go.Fx
/-- The address of s[k:], the elements of s cells each. -/
def fromS (s : Nat) (A : Option Addr) (c k : Nat) : Option Addr := if c = k then A else A.map (·.add (k * s))
end Go.Fx
