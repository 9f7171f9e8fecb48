/-
  No cell of these rows narrows 'for every input' (looked for: loops, veiled, ifaces, maps, wideKeys, modest, calm, conditions, laid).
  DERIVED. THE GIVEN ROWS OF THIS SEAT. 8 by the template 'for every input the law returns true; each argument reads behind the call as it read before'; 0 by the template 'total and deterministic' (their statements: YtidjimkhppfjjaaTotals.lean).
  GIVEN WITH THE SEED: the statements are not yours to turn. If you find one false, say at which input.
  Laid BY PROGRAM, IN A SANDBOX (cutbox-rows.mjs): the forced cells as the released guide's own fill.sh prints them over the translation 07d17eb3ab1a6884… (all of the seat's roots in one cut). By AI agents, Wed Nov 11 2026. No macro, syntax, notation, axiom, sorry.
-/
import Derived.Test.YtidjimkhppfjjaaChecked
import GoSem.Claim
import GoSem.ClaimJoined
import GoSem.ClaimMapViews
import Derived.JoinedTies
import Derived.KernelRfl
namespace Go.Proofs.Ytidjimkhppfjjaa
/- THE CELL 'sum', in the pinned program and in every row, IS THE sha256 OF THE DUMP (.gsa) THAT YtidjimkhppfjjaaProg.lean LOADS. Nothing in Lean hashes anything: it is a label: what it is worth is what the hold of that sum in a sandbox is worth. -/
noncomputable def Try.pinned : Pinned := { name := "ytidjimkhppfjjaa", sum := "07d17eb3ab1a6884f3d8c8c800efd0b9a777f376ce671dbeb043284027547756", checked := Try.checked }
namespace Rows
def none {H : Type} : Left H := { results := [], args := [] }

/-- 'fermatalaw01.NumLimits': WHATEVER THE INPUT: true; the input reads as it did. -/
def numLimitsSpec : ChangeSpec := { name := "numLimits", fn := fun _ => fun
  | [d1, d2, d3, d4] => { results := [.lit (.bool true)], args := [d1, d2, d3, d4] }
  | _ => none }
def numLimitsRow : OpenClaim := { program := "ytidjimkhppfjjaa", sum := "07d17eb3ab1a6884f3d8c8c800efd0b9a777f376ce671dbeb043284027547756", func := "fermata/fermatalaw01.NumLimits", spec := "numLimits", unfollowed := true, recurses := true, apart := false }
def NumLimitsSaid : Prop := numLimitsRow.holds Try.pinned (OpenSpec.ofChange numLimitsSpec)

/-- ITS FALSE NEIGHBOUR: 'it returns false'. Refute it at one input. -/
def numLimitsWrong : ChangeSpec := { name := "numLimits", fn := fun _ => fun
  | [d1, d2, d3, d4] => { results := [.lit (.bool false)], args := [d1, d2, d3, d4] }
  | _ => none }
def NumLimitsWrongFalsely : Prop := numLimitsRow.holds Try.pinned (OpenSpec.ofChange numLimitsWrong)

/-- 'fermatalaw01.NumWrites': WHATEVER THE INPUT: true; the input reads as it did. -/
def numWritesSpec : ChangeSpec := { name := "numWrites", fn := fun _ => fun
  | [d1, d2, d3] => { results := [.lit (.bool true)], args := [d1, d2, d3] }
  | _ => none }
def numWritesRow : OpenClaim := { program := "ytidjimkhppfjjaa", sum := "07d17eb3ab1a6884f3d8c8c800efd0b9a777f376ce671dbeb043284027547756", func := "fermata/fermatalaw01.NumWrites", spec := "numWrites", unfollowed := true, recurses := true, apart := false }
def NumWritesSaid : Prop := numWritesRow.holds Try.pinned (OpenSpec.ofChange numWritesSpec)

/-- ITS FALSE NEIGHBOUR: 'it returns false'. Refute it at one input. -/
def numWritesWrong : ChangeSpec := { name := "numWrites", fn := fun _ => fun
  | [d1, d2, d3] => { results := [.lit (.bool false)], args := [d1, d2, d3] }
  | _ => none }
def NumWritesWrongFalsely : Prop := numWritesRow.holds Try.pinned (OpenSpec.ofChange numWritesWrong)

/-- 'fermatalaw01.NumFolds': WHATEVER THE INPUT: true; the input reads as it did. -/
def numFoldsSpec : ChangeSpec := { name := "numFolds", fn := fun _ => fun
  | [d1, d2, d3] => { results := [.lit (.bool true)], args := [d1, d2, d3] }
  | _ => none }
def numFoldsRow : OpenClaim := { program := "ytidjimkhppfjjaa", sum := "07d17eb3ab1a6884f3d8c8c800efd0b9a777f376ce671dbeb043284027547756", func := "fermata/fermatalaw01.NumFolds", spec := "numFolds", unfollowed := true, recurses := true, apart := false }
def NumFoldsSaid : Prop := numFoldsRow.holds Try.pinned (OpenSpec.ofChange numFoldsSpec)

/-- ITS FALSE NEIGHBOUR: 'it returns false'. Refute it at one input. -/
def numFoldsWrong : ChangeSpec := { name := "numFolds", fn := fun _ => fun
  | [d1, d2, d3] => { results := [.lit (.bool false)], args := [d1, d2, d3] }
  | _ => none }
def NumFoldsWrongFalsely : Prop := numFoldsRow.holds Try.pinned (OpenSpec.ofChange numFoldsWrong)

/-- 'fermatalaw01.NumLists': WHATEVER THE INPUT: true; the input reads as it did. -/
def numListsSpec : ChangeSpec := { name := "numLists", fn := fun _ => fun
  | [d1, d2, d3] => { results := [.lit (.bool true)], args := [d1, d2, d3] }
  | _ => none }
def numListsRow : OpenClaim := { program := "ytidjimkhppfjjaa", sum := "07d17eb3ab1a6884f3d8c8c800efd0b9a777f376ce671dbeb043284027547756", func := "fermata/fermatalaw01.NumLists", spec := "numLists", inPlace := ["internal/bytealg.Compare"], unfollowed := true, recurses := true, apart := false }
def NumListsSaid : Prop := numListsRow.holds Try.pinned (OpenSpec.ofChange numListsSpec)

/-- ITS FALSE NEIGHBOUR: 'it returns false'. Refute it at one input. -/
def numListsWrong : ChangeSpec := { name := "numLists", fn := fun _ => fun
  | [d1, d2, d3] => { results := [.lit (.bool false)], args := [d1, d2, d3] }
  | _ => none }
def NumListsWrongFalsely : Prop := numListsRow.holds Try.pinned (OpenSpec.ofChange numListsWrong)

/-- 'fermatalaw01.NumReads': WHATEVER THE INPUT: true; the input reads as it did. -/
def numReadsSpec : ChangeSpec := { name := "numReads", fn := fun _ => fun
  | [d1, d2, d3, d4, d5] => { results := [.lit (.bool true)], args := [d1, d2, d3, d4, d5] }
  | _ => none }
def numReadsRow : OpenClaim := { program := "ytidjimkhppfjjaa", sum := "07d17eb3ab1a6884f3d8c8c800efd0b9a777f376ce671dbeb043284027547756", func := "fermata/fermatalaw01.NumReads", spec := "numReads", unfollowed := true, recurses := true, apart := false }
def NumReadsSaid : Prop := numReadsRow.holds Try.pinned (OpenSpec.ofChange numReadsSpec)

/-- ITS FALSE NEIGHBOUR: 'it returns false'. Refute it at one input. -/
def numReadsWrong : ChangeSpec := { name := "numReads", fn := fun _ => fun
  | [d1, d2, d3, d4, d5] => { results := [.lit (.bool false)], args := [d1, d2, d3, d4, d5] }
  | _ => none }
def NumReadsWrongFalsely : Prop := numReadsRow.holds Try.pinned (OpenSpec.ofChange numReadsWrong)

/-- 'fermatalaw01.NumWrong': WHATEVER THE INPUT: true; the input reads as it did. -/
def numWrongSpec : ChangeSpec := { name := "numWrong", fn := fun _ => fun
  | [d1, d2] => { results := [.lit (.bool true)], args := [d1, d2] }
  | _ => none }
def numWrongRow : OpenClaim := { program := "ytidjimkhppfjjaa", sum := "07d17eb3ab1a6884f3d8c8c800efd0b9a777f376ce671dbeb043284027547756", func := "fermata/fermatalaw01.NumWrong", spec := "numWrong", unfollowed := true, recurses := true, apart := false }
def NumWrongSaid : Prop := numWrongRow.holds Try.pinned (OpenSpec.ofChange numWrongSpec)

/-- ITS FALSE NEIGHBOUR: 'it returns false'. Refute it at one input. -/
def numWrongWrong : ChangeSpec := { name := "numWrong", fn := fun _ => fun
  | [d1, d2] => { results := [.lit (.bool false)], args := [d1, d2] }
  | _ => none }
def NumWrongWrongFalsely : Prop := numWrongRow.holds Try.pinned (OpenSpec.ofChange numWrongWrong)

/-- 'fermatalaw01.NumSmall': WHATEVER THE INPUT: true; the input reads as it did. -/
def numSmallSpec : ChangeSpec := { name := "numSmall", fn := fun _ => fun
  | [] => { results := [.lit (.bool true)], args := [] }
  | _ => none }
def numSmallRow : OpenClaim := { program := "ytidjimkhppfjjaa", sum := "07d17eb3ab1a6884f3d8c8c800efd0b9a777f376ce671dbeb043284027547756", func := "fermata/fermatalaw01.NumSmall", spec := "numSmall", unfollowed := true, recurses := true, apart := false }
def NumSmallSaid : Prop := numSmallRow.holds Try.pinned (OpenSpec.ofChange numSmallSpec)

/-- ITS FALSE NEIGHBOUR: 'it returns false'. Refute it at one input. -/
def numSmallWrong : ChangeSpec := { name := "numSmall", fn := fun _ => fun
  | [] => { results := [.lit (.bool false)], args := [] }
  | _ => none }
def NumSmallWrongFalsely : Prop := numSmallRow.holds Try.pinned (OpenSpec.ofChange numSmallWrong)

/-- 'fermatalaw01.NumOrder': WHATEVER THE INPUT: true; the input reads as it did. -/
def numOrderSpec : ChangeSpec := { name := "numOrder", fn := fun _ => fun
  | [d1, d2, d3] => { results := [.lit (.bool true)], args := [d1, d2, d3] }
  | _ => none }
def numOrderRow : OpenClaim := { program := "ytidjimkhppfjjaa", sum := "07d17eb3ab1a6884f3d8c8c800efd0b9a777f376ce671dbeb043284027547756", func := "fermata/fermatalaw01.NumOrder", spec := "numOrder", inPlace := ["internal/bytealg.Compare"], unfollowed := true, recurses := true, apart := false }
def NumOrderSaid : Prop := numOrderRow.holds Try.pinned (OpenSpec.ofChange numOrderSpec)

/-- ITS FALSE NEIGHBOUR: 'it returns false'. Refute it at one input. -/
def numOrderWrong : ChangeSpec := { name := "numOrder", fn := fun _ => fun
  | [d1, d2, d3] => { results := [.lit (.bool false)], args := [d1, d2, d3] }
  | _ => none }
def NumOrderWrongFalsely : Prop := numOrderRow.holds Try.pinned (OpenSpec.ofChange numOrderWrong)

/- THE SECOND FORM. 'bulk': how many values and letters a reading holds, each counted each time it is reached (what is shared counts as often as it is met; a slice's spare places count too). A statement '..UptoSaid' is the law's where the arguments, and the package variables that the reading takes, are together of bulk at most 1048576: NARROWER than '..Said'. Prove '..Said' where nothing that the law and all that it calls make is longer than what came in: it says more and counts as full. Else prove '..UptoSaid'. A law counts once. -/
mutual
def uptoBulk {H : Type} : DataW H → Nat
  | .lit (.string bytes) => bytes.length + 1
  | .lit _ => 1
  | .nil => 1
  | .ptr d => uptoBulk d + 1
  | .slice elems spare => uptoBulkAll elems + uptoBulkAll spare + 1
  | .agg parts => uptoBulkAll parts + 1
  | .iface _ d => uptoBulk d + 1
  | .map entries => uptoBulkEntries entries + 1
  | .held _ => 1
def uptoBulkAll {H : Type} : List (DataW H) → Nat
  | [] => 0
  | d :: r => uptoBulk d + uptoBulkAll r
def uptoBulkEntries {H : Type} : List (Lit × DataW H) → Nat
  | [] => 0
  | x :: r => uptoBulkEntry x + uptoBulkEntries r
def uptoBulkEntry {H : Type} : Lit × DataW H → Nat
  | (.string bytes, d) => bytes.length + uptoBulk d + 1
  | (_, d) => uptoBulk d + 1
 end
def uptoSmall : (H : Type) → List (DataW H) → Bool := fun _ ds => decide (uptoBulkAll ds ≤ 1048576)
def OpenSpec.upto (s : _root_.Go.ChangeSpec) : _root_.Go.OpenSpec := { _root_.Go.OpenSpec.ofChange s with cond := some uptoSmall }

/-- 'fermatalaw01.NumLimits', WHERE WHAT IT READS IS OF BULK AT MOST 1048576: true; the input reads as it did. -/
def numLimitsUptoRow : OpenClaim := { program := "ytidjimkhppfjjaa", sum := "07d17eb3ab1a6884f3d8c8c800efd0b9a777f376ce671dbeb043284027547756", func := "fermata/fermatalaw01.NumLimits", spec := "numLimits", unfollowed := true, recurses := true, apart := false, narrowed := true }
def NumLimitsUptoSaid : Prop := numLimitsUptoRow.holds Try.pinned (OpenSpec.upto numLimitsSpec)

/-- 'fermatalaw01.NumWrites', WHERE WHAT IT READS IS OF BULK AT MOST 1048576: true; the input reads as it did. -/
def numWritesUptoRow : OpenClaim := { program := "ytidjimkhppfjjaa", sum := "07d17eb3ab1a6884f3d8c8c800efd0b9a777f376ce671dbeb043284027547756", func := "fermata/fermatalaw01.NumWrites", spec := "numWrites", unfollowed := true, recurses := true, apart := false, narrowed := true }
def NumWritesUptoSaid : Prop := numWritesUptoRow.holds Try.pinned (OpenSpec.upto numWritesSpec)

/-- 'fermatalaw01.NumFolds', WHERE WHAT IT READS IS OF BULK AT MOST 1048576: true; the input reads as it did. -/
def numFoldsUptoRow : OpenClaim := { program := "ytidjimkhppfjjaa", sum := "07d17eb3ab1a6884f3d8c8c800efd0b9a777f376ce671dbeb043284027547756", func := "fermata/fermatalaw01.NumFolds", spec := "numFolds", unfollowed := true, recurses := true, apart := false, narrowed := true }
def NumFoldsUptoSaid : Prop := numFoldsUptoRow.holds Try.pinned (OpenSpec.upto numFoldsSpec)

/-- 'fermatalaw01.NumLists', WHERE WHAT IT READS IS OF BULK AT MOST 1048576: true; the input reads as it did. -/
def numListsUptoRow : OpenClaim := { program := "ytidjimkhppfjjaa", sum := "07d17eb3ab1a6884f3d8c8c800efd0b9a777f376ce671dbeb043284027547756", func := "fermata/fermatalaw01.NumLists", spec := "numLists", inPlace := ["internal/bytealg.Compare"], unfollowed := true, recurses := true, apart := false, narrowed := true }
def NumListsUptoSaid : Prop := numListsUptoRow.holds Try.pinned (OpenSpec.upto numListsSpec)

/-- 'fermatalaw01.NumReads', WHERE WHAT IT READS IS OF BULK AT MOST 1048576: true; the input reads as it did. -/
def numReadsUptoRow : OpenClaim := { program := "ytidjimkhppfjjaa", sum := "07d17eb3ab1a6884f3d8c8c800efd0b9a777f376ce671dbeb043284027547756", func := "fermata/fermatalaw01.NumReads", spec := "numReads", unfollowed := true, recurses := true, apart := false, narrowed := true }
def NumReadsUptoSaid : Prop := numReadsUptoRow.holds Try.pinned (OpenSpec.upto numReadsSpec)

/-- 'fermatalaw01.NumWrong', WHERE WHAT IT READS IS OF BULK AT MOST 1048576: true; the input reads as it did. -/
def numWrongUptoRow : OpenClaim := { program := "ytidjimkhppfjjaa", sum := "07d17eb3ab1a6884f3d8c8c800efd0b9a777f376ce671dbeb043284027547756", func := "fermata/fermatalaw01.NumWrong", spec := "numWrong", unfollowed := true, recurses := true, apart := false, narrowed := true }
def NumWrongUptoSaid : Prop := numWrongUptoRow.holds Try.pinned (OpenSpec.upto numWrongSpec)

/-- 'fermatalaw01.NumSmall', WHERE WHAT IT READS IS OF BULK AT MOST 1048576: true; the input reads as it did. -/
def numSmallUptoRow : OpenClaim := { program := "ytidjimkhppfjjaa", sum := "07d17eb3ab1a6884f3d8c8c800efd0b9a777f376ce671dbeb043284027547756", func := "fermata/fermatalaw01.NumSmall", spec := "numSmall", unfollowed := true, recurses := true, apart := false, narrowed := true }
def NumSmallUptoSaid : Prop := numSmallUptoRow.holds Try.pinned (OpenSpec.upto numSmallSpec)

/-- 'fermatalaw01.NumOrder', WHERE WHAT IT READS IS OF BULK AT MOST 1048576: true; the input reads as it did. -/
def numOrderUptoRow : OpenClaim := { program := "ytidjimkhppfjjaa", sum := "07d17eb3ab1a6884f3d8c8c800efd0b9a777f376ce671dbeb043284027547756", func := "fermata/fermatalaw01.NumOrder", spec := "numOrder", inPlace := ["internal/bytealg.Compare"], unfollowed := true, recurses := true, apart := false, narrowed := true }
def NumOrderUptoSaid : Prop := numOrderUptoRow.holds Try.pinned (OpenSpec.upto numOrderSpec)

end Rows
end Go.Proofs.Ytidjimkhppfjjaa
