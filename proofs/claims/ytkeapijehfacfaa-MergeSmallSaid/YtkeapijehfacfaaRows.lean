/-
  No cell of these rows narrows 'for every input' (looked for: loops, veiled, ifaces, maps, wideKeys, modest, calm, conditions, laid).
  DERIVED. THE GIVEN ROWS OF THIS SEAT. 10 by the template 'for every input the law returns true; each argument reads behind the call as it read before'; 0 by the template 'total and deterministic' (their statements: YtkeapijehfacfaaTotals.lean).
  GIVEN WITH THE SEED: the statements are not yours to turn. If you find one false, say at which input.
  Laid BY PROGRAM, IN A SANDBOX (cutbox-rows.mjs): the forced cells as the released guide's own fill.sh prints them over the translation 4e000a53eda19e92… (all of the seat's roots in one cut). By AI agents, Wed Nov 11 2026. No macro, syntax, notation, axiom, sorry.
-/
import Derived.Test.YtkeapijehfacfaaChecked
import GoSem.Claim
import GoSem.ClaimJoined
import GoSem.ClaimMapViews
import Derived.JoinedTies
import Derived.KernelRfl
namespace Go.Proofs.Ytkeapijehfacfaa
/- THE CELL 'sum', in the pinned program and in every row, IS THE sha256 OF THE DUMP (.gsa) THAT YtkeapijehfacfaaProg.lean LOADS. Nothing in Lean hashes anything: it is a label: what it is worth is what the hold of that sum in a sandbox is worth. -/
noncomputable def Try.pinned : Pinned := { name := "ytkeapijehfacfaa", sum := "4e000a53eda19e92cd5413f7bb351243919babc635b0af999a8f82ebe0955846", checked := Try.checked }
namespace Rows
def none {H : Type} : Left H := { results := [], args := [] }

/-- 'fermatalaw11.MergeRuns': WHATEVER THE INPUT: true; the input reads as it did. -/
def mergeRunsSpec : ChangeSpec := { name := "mergeRuns", fn := fun _ => fun
  | [d] => { results := [.lit (.bool true)], args := [d] }
  | _ => none }
def mergeRunsRow : OpenClaim := { program := "ytkeapijehfacfaa", sum := "4e000a53eda19e92cd5413f7bb351243919babc635b0af999a8f82ebe0955846", func := "fermata/fermatalaw11.MergeRuns", spec := "mergeRuns", unfollowed := true, recurses := true, plainKeys := false, apart := false }
def MergeRunsSaid : Prop := mergeRunsRow.holds Try.pinned (OpenSpec.ofChange mergeRunsSpec)

/-- ITS FALSE NEIGHBOUR: 'it returns false'. Refute it at one input. -/
def mergeRunsWrong : ChangeSpec := { name := "mergeRuns", fn := fun _ => fun
  | [d] => { results := [.lit (.bool false)], args := [d] }
  | _ => none }
def MergeRunsWrongFalsely : Prop := mergeRunsRow.holds Try.pinned (OpenSpec.ofChange mergeRunsWrong)

/-- 'fermatalaw11.MergeDeal': WHATEVER THE INPUT: true; the input reads as it did. -/
def mergeDealSpec : ChangeSpec := { name := "mergeDeal", fn := fun _ => fun
  | [d] => { results := [.lit (.bool true)], args := [d] }
  | _ => none }
def mergeDealRow : OpenClaim := { program := "ytkeapijehfacfaa", sum := "4e000a53eda19e92cd5413f7bb351243919babc635b0af999a8f82ebe0955846", func := "fermata/fermatalaw11.MergeDeal", spec := "mergeDeal", unfollowed := true, recurses := true, plainKeys := false, apart := false }
def MergeDealSaid : Prop := mergeDealRow.holds Try.pinned (OpenSpec.ofChange mergeDealSpec)

/-- ITS FALSE NEIGHBOUR: 'it returns false'. Refute it at one input. -/
def mergeDealWrong : ChangeSpec := { name := "mergeDeal", fn := fun _ => fun
  | [d] => { results := [.lit (.bool false)], args := [d] }
  | _ => none }
def MergeDealWrongFalsely : Prop := mergeDealRow.holds Try.pinned (OpenSpec.ofChange mergeDealWrong)

/-- 'fermatalaw11.MergeTells': WHATEVER THE INPUT: true; the input reads as it did. -/
def mergeTellsSpec : ChangeSpec := { name := "mergeTells", fn := fun _ => fun
  | [d] => { results := [.lit (.bool true)], args := [d] }
  | _ => none }
def mergeTellsRow : OpenClaim := { program := "ytkeapijehfacfaa", sum := "4e000a53eda19e92cd5413f7bb351243919babc635b0af999a8f82ebe0955846", func := "fermata/fermatalaw11.MergeTells", spec := "mergeTells", unfollowed := true, recurses := true, plainKeys := false, apart := false }
def MergeTellsSaid : Prop := mergeTellsRow.holds Try.pinned (OpenSpec.ofChange mergeTellsSpec)

/-- ITS FALSE NEIGHBOUR: 'it returns false'. Refute it at one input. -/
def mergeTellsWrong : ChangeSpec := { name := "mergeTells", fn := fun _ => fun
  | [d] => { results := [.lit (.bool false)], args := [d] }
  | _ => none }
def MergeTellsWrongFalsely : Prop := mergeTellsRow.holds Try.pinned (OpenSpec.ofChange mergeTellsWrong)

/-- 'fermatalaw11.MergeCut': WHATEVER THE INPUT: true; the input reads as it did. -/
def mergeCutSpec : ChangeSpec := { name := "mergeCut", fn := fun _ => fun
  | [d1, d2] => { results := [.lit (.bool true)], args := [d1, d2] }
  | _ => none }
def mergeCutRow : OpenClaim := { program := "ytkeapijehfacfaa", sum := "4e000a53eda19e92cd5413f7bb351243919babc635b0af999a8f82ebe0955846", func := "fermata/fermatalaw11.MergeCut", spec := "mergeCut", unfollowed := true, recurses := true, plainKeys := false, apart := false }
def MergeCutSaid : Prop := mergeCutRow.holds Try.pinned (OpenSpec.ofChange mergeCutSpec)

/-- ITS FALSE NEIGHBOUR: 'it returns false'. Refute it at one input. -/
def mergeCutWrong : ChangeSpec := { name := "mergeCut", fn := fun _ => fun
  | [d1, d2] => { results := [.lit (.bool false)], args := [d1, d2] }
  | _ => none }
def MergeCutWrongFalsely : Prop := mergeCutRow.holds Try.pinned (OpenSpec.ofChange mergeCutWrong)

/-- 'fermatalaw11.MergeWithout': WHATEVER THE INPUT: true; the input reads as it did. -/
def mergeWithoutSpec : ChangeSpec := { name := "mergeWithout", fn := fun _ => fun
  | [d1, d2, d3] => { results := [.lit (.bool true)], args := [d1, d2, d3] }
  | _ => none }
def mergeWithoutRow : OpenClaim := { program := "ytkeapijehfacfaa", sum := "4e000a53eda19e92cd5413f7bb351243919babc635b0af999a8f82ebe0955846", func := "fermata/fermatalaw11.MergeWithout", spec := "mergeWithout", unfollowed := true, recurses := true, plainKeys := false, apart := false }
def MergeWithoutSaid : Prop := mergeWithoutRow.holds Try.pinned (OpenSpec.ofChange mergeWithoutSpec)

/-- ITS FALSE NEIGHBOUR: 'it returns false'. Refute it at one input. -/
def mergeWithoutWrong : ChangeSpec := { name := "mergeWithout", fn := fun _ => fun
  | [d1, d2, d3] => { results := [.lit (.bool false)], args := [d1, d2, d3] }
  | _ => none }
def MergeWithoutWrongFalsely : Prop := mergeWithoutRow.holds Try.pinned (OpenSpec.ofChange mergeWithoutWrong)

/-- 'fermatalaw11.MergeLists': WHATEVER THE INPUT: true; the input reads as it did. -/
def mergeListsSpec : ChangeSpec := { name := "mergeLists", fn := fun _ => fun
  | [d1, d2, d3, d4] => { results := [.lit (.bool true)], args := [d1, d2, d3, d4] }
  | _ => none }
def mergeListsRow : OpenClaim := { program := "ytkeapijehfacfaa", sum := "4e000a53eda19e92cd5413f7bb351243919babc635b0af999a8f82ebe0955846", func := "fermata/fermatalaw11.MergeLists", spec := "mergeLists", unfollowed := true, recurses := true, plainKeys := false, apart := false }
def MergeListsSaid : Prop := mergeListsRow.holds Try.pinned (OpenSpec.ofChange mergeListsSpec)

/-- ITS FALSE NEIGHBOUR: 'it returns false'. Refute it at one input. -/
def mergeListsWrong : ChangeSpec := { name := "mergeLists", fn := fun _ => fun
  | [d1, d2, d3, d4] => { results := [.lit (.bool false)], args := [d1, d2, d3, d4] }
  | _ => none }
def MergeListsWrongFalsely : Prop := mergeListsRow.holds Try.pinned (OpenSpec.ofChange mergeListsWrong)

/-- 'fermatalaw11.MergeSmall': WHATEVER THE INPUT: true; the input reads as it did. -/
def mergeSmallSpec : ChangeSpec := { name := "mergeSmall", fn := fun _ => fun
  | [] => { results := [.lit (.bool true)], args := [] }
  | _ => none }
def mergeSmallRow : OpenClaim := { program := "ytkeapijehfacfaa", sum := "4e000a53eda19e92cd5413f7bb351243919babc635b0af999a8f82ebe0955846", func := "fermata/fermatalaw11.MergeSmall", spec := "mergeSmall", unfollowed := true, recurses := true, plainKeys := false, apart := false }
def MergeSmallSaid : Prop := mergeSmallRow.holds Try.pinned (OpenSpec.ofChange mergeSmallSpec)

/-- ITS FALSE NEIGHBOUR: 'it returns false'. Refute it at one input. -/
def mergeSmallWrong : ChangeSpec := { name := "mergeSmall", fn := fun _ => fun
  | [] => { results := [.lit (.bool false)], args := [] }
  | _ => none }
def MergeSmallWrongFalsely : Prop := mergeSmallRow.holds Try.pinned (OpenSpec.ofChange mergeSmallWrong)

/-- 'fermatalaw11.MergeLeast': WHATEVER THE INPUT: true; the input reads as it did. -/
def mergeLeastSpec : ChangeSpec := { name := "mergeLeast", fn := fun _ => fun
  | [d] => { results := [.lit (.bool true)], args := [d] }
  | _ => none }
def mergeLeastRow : OpenClaim := { program := "ytkeapijehfacfaa", sum := "4e000a53eda19e92cd5413f7bb351243919babc635b0af999a8f82ebe0955846", func := "fermata/fermatalaw11.MergeLeast", spec := "mergeLeast", inPlace := ["slices.overlaps[fermata/api.Event]"], unfollowed := true, recurses := true, plainKeys := false, apart := false }
def MergeLeastSaid : Prop := mergeLeastRow.holds Try.pinned (OpenSpec.ofChange mergeLeastSpec)

/-- ITS FALSE NEIGHBOUR: 'it returns false'. Refute it at one input. -/
def mergeLeastWrong : ChangeSpec := { name := "mergeLeast", fn := fun _ => fun
  | [d] => { results := [.lit (.bool false)], args := [d] }
  | _ => none }
def MergeLeastWrongFalsely : Prop := mergeLeastRow.holds Try.pinned (OpenSpec.ofChange mergeLeastWrong)

/-- 'fermatalaw11.MergeWrong': WHATEVER THE INPUT: true; the input reads as it did. -/
def mergeWrongSpec : ChangeSpec := { name := "mergeWrong", fn := fun _ => fun
  | [d1, d2, d3, d4] => { results := [.lit (.bool true)], args := [d1, d2, d3, d4] }
  | _ => none }
def mergeWrongRow : OpenClaim := { program := "ytkeapijehfacfaa", sum := "4e000a53eda19e92cd5413f7bb351243919babc635b0af999a8f82ebe0955846", func := "fermata/fermatalaw11.MergeWrong", spec := "mergeWrong", inPlace := ["slices.overlaps[fermata/api.Event]", "slices.overlaps[[]fermata/api.Event]"], unfollowed := true, recurses := true, plainKeys := false, apart := false }
def MergeWrongSaid : Prop := mergeWrongRow.holds Try.pinned (OpenSpec.ofChange mergeWrongSpec)

/-- ITS FALSE NEIGHBOUR: 'it returns false'. Refute it at one input. -/
def mergeWrongWrong : ChangeSpec := { name := "mergeWrong", fn := fun _ => fun
  | [d1, d2, d3, d4] => { results := [.lit (.bool false)], args := [d1, d2, d3, d4] }
  | _ => none }
def MergeWrongWrongFalsely : Prop := mergeWrongRow.holds Try.pinned (OpenSpec.ofChange mergeWrongWrong)

/-- 'fermatalaw11.MergeAll': WHATEVER THE INPUT: true; the input reads as it did. -/
def mergeAllSpec : ChangeSpec := { name := "mergeAll", fn := fun _ => fun
  | [d1, d2] => { results := [.lit (.bool true)], args := [d1, d2] }
  | _ => none }
def mergeAllRow : OpenClaim := { program := "ytkeapijehfacfaa", sum := "4e000a53eda19e92cd5413f7bb351243919babc635b0af999a8f82ebe0955846", func := "fermata/fermatalaw11.MergeAll", spec := "mergeAll", inPlace := ["slices.overlaps[fermata/api.Event]"], unfollowed := true, recurses := true, plainKeys := false, apart := false }
def MergeAllSaid : Prop := mergeAllRow.holds Try.pinned (OpenSpec.ofChange mergeAllSpec)

/-- ITS FALSE NEIGHBOUR: 'it returns false'. Refute it at one input. -/
def mergeAllWrong : ChangeSpec := { name := "mergeAll", fn := fun _ => fun
  | [d1, d2] => { results := [.lit (.bool false)], args := [d1, d2] }
  | _ => none }
def MergeAllWrongFalsely : Prop := mergeAllRow.holds Try.pinned (OpenSpec.ofChange mergeAllWrong)

/- THE SECOND FORM. 'bulk': how many values and letters a reading holds, each counted each time it is reached (what is shared counts as often as it is met; a slice's spare places count too). A statement '..UptoSaid' is the law's where the arguments, and the package variables that the reading takes, are together of bulk at most 1048576: NARROWER than '..Said'. Prove '..Said' where nothing that the law and all that it calls make is longer than what came in: it says more and counts as full. Else prove '..UptoSaid'. A law counts once. -/
mutual
def uptoBulk {H : Type} : DataW H → Nat
  | .lit (.string bytes) => bytes.length + 1
  | .lit _ => 1
  | .nil => 1
  | .ptr d => uptoBulk d + 1
  | .slice elems spare => uptoBulkAll elems + uptoBulkAll spare + 1
  | .agg parts => uptoBulkAll parts + 1
  | .iface _ d => uptoBulk d + 1
  | .map entries => uptoBulkEntries entries + 1
  | .held _ => 1
def uptoBulkAll {H : Type} : List (DataW H) → Nat
  | [] => 0
  | d :: r => uptoBulk d + uptoBulkAll r
def uptoBulkEntries {H : Type} : List (Lit × DataW H) → Nat
  | [] => 0
  | x :: r => uptoBulkEntry x + uptoBulkEntries r
def uptoBulkEntry {H : Type} : Lit × DataW H → Nat
  | (.string bytes, d) => bytes.length + uptoBulk d + 1
  | (_, d) => uptoBulk d + 1
 end
def uptoSmall : (H : Type) → List (DataW H) → Bool := fun _ ds => decide (uptoBulkAll ds ≤ 1048576)
def OpenSpec.upto (s : _root_.Go.ChangeSpec) : _root_.Go.OpenSpec := { _root_.Go.OpenSpec.ofChange s with cond := some uptoSmall }

/-- 'fermatalaw11.MergeRuns', WHERE WHAT IT READS IS OF BULK AT MOST 1048576: true; the input reads as it did. -/
def mergeRunsUptoRow : OpenClaim := { program := "ytkeapijehfacfaa", sum := "4e000a53eda19e92cd5413f7bb351243919babc635b0af999a8f82ebe0955846", func := "fermata/fermatalaw11.MergeRuns", spec := "mergeRuns", unfollowed := true, recurses := true, plainKeys := false, apart := false, narrowed := true }
def MergeRunsUptoSaid : Prop := mergeRunsUptoRow.holds Try.pinned (OpenSpec.upto mergeRunsSpec)

/-- 'fermatalaw11.MergeDeal', WHERE WHAT IT READS IS OF BULK AT MOST 1048576: true; the input reads as it did. -/
def mergeDealUptoRow : OpenClaim := { program := "ytkeapijehfacfaa", sum := "4e000a53eda19e92cd5413f7bb351243919babc635b0af999a8f82ebe0955846", func := "fermata/fermatalaw11.MergeDeal", spec := "mergeDeal", unfollowed := true, recurses := true, plainKeys := false, apart := false, narrowed := true }
def MergeDealUptoSaid : Prop := mergeDealUptoRow.holds Try.pinned (OpenSpec.upto mergeDealSpec)

/-- 'fermatalaw11.MergeTells', WHERE WHAT IT READS IS OF BULK AT MOST 1048576: true; the input reads as it did. -/
def mergeTellsUptoRow : OpenClaim := { program := "ytkeapijehfacfaa", sum := "4e000a53eda19e92cd5413f7bb351243919babc635b0af999a8f82ebe0955846", func := "fermata/fermatalaw11.MergeTells", spec := "mergeTells", unfollowed := true, recurses := true, plainKeys := false, apart := false, narrowed := true }
def MergeTellsUptoSaid : Prop := mergeTellsUptoRow.holds Try.pinned (OpenSpec.upto mergeTellsSpec)

/-- 'fermatalaw11.MergeCut', WHERE WHAT IT READS IS OF BULK AT MOST 1048576: true; the input reads as it did. -/
def mergeCutUptoRow : OpenClaim := { program := "ytkeapijehfacfaa", sum := "4e000a53eda19e92cd5413f7bb351243919babc635b0af999a8f82ebe0955846", func := "fermata/fermatalaw11.MergeCut", spec := "mergeCut", unfollowed := true, recurses := true, plainKeys := false, apart := false, narrowed := true }
def MergeCutUptoSaid : Prop := mergeCutUptoRow.holds Try.pinned (OpenSpec.upto mergeCutSpec)

/-- 'fermatalaw11.MergeWithout', WHERE WHAT IT READS IS OF BULK AT MOST 1048576: true; the input reads as it did. -/
def mergeWithoutUptoRow : OpenClaim := { program := "ytkeapijehfacfaa", sum := "4e000a53eda19e92cd5413f7bb351243919babc635b0af999a8f82ebe0955846", func := "fermata/fermatalaw11.MergeWithout", spec := "mergeWithout", unfollowed := true, recurses := true, plainKeys := false, apart := false, narrowed := true }
def MergeWithoutUptoSaid : Prop := mergeWithoutUptoRow.holds Try.pinned (OpenSpec.upto mergeWithoutSpec)

/-- 'fermatalaw11.MergeLists', WHERE WHAT IT READS IS OF BULK AT MOST 1048576: true; the input reads as it did. -/
def mergeListsUptoRow : OpenClaim := { program := "ytkeapijehfacfaa", sum := "4e000a53eda19e92cd5413f7bb351243919babc635b0af999a8f82ebe0955846", func := "fermata/fermatalaw11.MergeLists", spec := "mergeLists", unfollowed := true, recurses := true, plainKeys := false, apart := false, narrowed := true }
def MergeListsUptoSaid : Prop := mergeListsUptoRow.holds Try.pinned (OpenSpec.upto mergeListsSpec)

/-- 'fermatalaw11.MergeSmall', WHERE WHAT IT READS IS OF BULK AT MOST 1048576: true; the input reads as it did. -/
def mergeSmallUptoRow : OpenClaim := { program := "ytkeapijehfacfaa", sum := "4e000a53eda19e92cd5413f7bb351243919babc635b0af999a8f82ebe0955846", func := "fermata/fermatalaw11.MergeSmall", spec := "mergeSmall", unfollowed := true, recurses := true, plainKeys := false, apart := false, narrowed := true }
def MergeSmallUptoSaid : Prop := mergeSmallUptoRow.holds Try.pinned (OpenSpec.upto mergeSmallSpec)

/-- 'fermatalaw11.MergeLeast', WHERE WHAT IT READS IS OF BULK AT MOST 1048576: true; the input reads as it did. -/
def mergeLeastUptoRow : OpenClaim := { program := "ytkeapijehfacfaa", sum := "4e000a53eda19e92cd5413f7bb351243919babc635b0af999a8f82ebe0955846", func := "fermata/fermatalaw11.MergeLeast", spec := "mergeLeast", inPlace := ["slices.overlaps[fermata/api.Event]"], unfollowed := true, recurses := true, plainKeys := false, apart := false, narrowed := true }
def MergeLeastUptoSaid : Prop := mergeLeastUptoRow.holds Try.pinned (OpenSpec.upto mergeLeastSpec)

/-- 'fermatalaw11.MergeWrong', WHERE WHAT IT READS IS OF BULK AT MOST 1048576: true; the input reads as it did. -/
def mergeWrongUptoRow : OpenClaim := { program := "ytkeapijehfacfaa", sum := "4e000a53eda19e92cd5413f7bb351243919babc635b0af999a8f82ebe0955846", func := "fermata/fermatalaw11.MergeWrong", spec := "mergeWrong", inPlace := ["slices.overlaps[fermata/api.Event]", "slices.overlaps[[]fermata/api.Event]"], unfollowed := true, recurses := true, plainKeys := false, apart := false, narrowed := true }
def MergeWrongUptoSaid : Prop := mergeWrongUptoRow.holds Try.pinned (OpenSpec.upto mergeWrongSpec)

/-- 'fermatalaw11.MergeAll', WHERE WHAT IT READS IS OF BULK AT MOST 1048576: true; the input reads as it did. -/
def mergeAllUptoRow : OpenClaim := { program := "ytkeapijehfacfaa", sum := "4e000a53eda19e92cd5413f7bb351243919babc635b0af999a8f82ebe0955846", func := "fermata/fermatalaw11.MergeAll", spec := "mergeAll", inPlace := ["slices.overlaps[fermata/api.Event]"], unfollowed := true, recurses := true, plainKeys := false, apart := false, narrowed := true }
def MergeAllUptoSaid : Prop := mergeAllUptoRow.holds Try.pinned (OpenSpec.upto mergeAllSpec)

end Rows
end Go.Proofs.Ytkeapijehfacfaa
