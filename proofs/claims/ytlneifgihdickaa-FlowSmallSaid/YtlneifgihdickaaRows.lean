/-
  No cell of these rows narrows 'for every input' (looked for: loops, veiled, ifaces, maps, wideKeys, modest, calm, conditions, laid).
  DERIVED. THE GIVEN ROWS OF THIS SEAT. 7 by the template 'for every input the law returns true; each argument reads behind the call as it read before'; 0 by the template 'total and deterministic' (their statements: YtlneifgihdickaaTotals.lean).
  GIVEN WITH THE SEED: the statements are not yours to turn. If you find one false, say at which input.
  Laid BY PROGRAM, IN A SANDBOX (cutbox-rows.mjs): the forced cells as the released guide's own fill.sh prints them over the translation d7444403572f5022… (all of the seat's roots in one cut). By AI agents, Wed Nov 11 2026. No macro, syntax, notation, axiom, sorry.
-/
import Derived.Test.YtlneifgihdickaaChecked
import GoSem.Claim
import GoSem.ClaimJoined
import GoSem.ClaimMapViews
import Derived.JoinedTies
import Derived.KernelRfl
namespace Go.Proofs.Ytlneifgihdickaa
/- THE CELL 'sum', in the pinned program and in every row, IS THE sha256 OF THE DUMP (.gsa) THAT YtlneifgihdickaaProg.lean LOADS. Nothing in Lean hashes anything: it is a label: what it is worth is what the hold of that sum in a sandbox is worth. -/
noncomputable def Try.pinned : Pinned := { name := "ytlneifgihdickaa", sum := "d7444403572f5022bd44b738db060ccdde9bc68d07d735b7e9b0c8093ec381a9", checked := Try.checked }
namespace Rows
def none {H : Type} : Left H := { results := [], args := [] }

/-- 'fermatalaw16.FlowNext': WHATEVER THE INPUT: true; the input reads as it did. -/
def flowNextSpec : ChangeSpec := { name := "flowNext", fn := fun _ => fun
  | [d] => { results := [.lit (.bool true)], args := [d] }
  | _ => none }
def flowNextRow : OpenClaim := { program := "ytlneifgihdickaa", sum := "d7444403572f5022bd44b738db060ccdde9bc68d07d735b7e9b0c8093ec381a9", func := "fermata/fermatalaw16.FlowNext", spec := "flowNext", unfollowed := true, recurses := true, apart := false }
def FlowNextSaid : Prop := flowNextRow.holds Try.pinned (OpenSpec.ofChange flowNextSpec)

/-- ITS FALSE NEIGHBOUR: 'it returns false'. Refute it at one input. -/
def flowNextWrong : ChangeSpec := { name := "flowNext", fn := fun _ => fun
  | [d] => { results := [.lit (.bool false)], args := [d] }
  | _ => none }
def FlowNextWrongFalsely : Prop := flowNextRow.holds Try.pinned (OpenSpec.ofChange flowNextWrong)

/-- 'fermatalaw16.FlowWays': WHATEVER THE INPUT: true; the input reads as it did. -/
def flowWaysSpec : ChangeSpec := { name := "flowWays", fn := fun _ => fun
  | [d1, d2] => { results := [.lit (.bool true)], args := [d1, d2] }
  | _ => none }
def flowWaysRow : OpenClaim := { program := "ytlneifgihdickaa", sum := "d7444403572f5022bd44b738db060ccdde9bc68d07d735b7e9b0c8093ec381a9", func := "fermata/fermatalaw16.FlowWays", spec := "flowWays", unfollowed := true, recurses := true, apart := false }
def FlowWaysSaid : Prop := flowWaysRow.holds Try.pinned (OpenSpec.ofChange flowWaysSpec)

/-- ITS FALSE NEIGHBOUR: 'it returns false'. Refute it at one input. -/
def flowWaysWrong : ChangeSpec := { name := "flowWays", fn := fun _ => fun
  | [d1, d2] => { results := [.lit (.bool false)], args := [d1, d2] }
  | _ => none }
def FlowWaysWrongFalsely : Prop := flowWaysRow.holds Try.pinned (OpenSpec.ofChange flowWaysWrong)

/-- 'fermatalaw16.FlowDominates': WHATEVER THE INPUT: true; the input reads as it did. -/
def flowDominatesSpec : ChangeSpec := { name := "flowDominates", fn := fun _ => fun
  | [d1, d2] => { results := [.lit (.bool true)], args := [d1, d2] }
  | _ => none }
def flowDominatesRow : OpenClaim := { program := "ytlneifgihdickaa", sum := "d7444403572f5022bd44b738db060ccdde9bc68d07d735b7e9b0c8093ec381a9", func := "fermata/fermatalaw16.FlowDominates", spec := "flowDominates", unfollowed := true, recurses := true, apart := false }
def FlowDominatesSaid : Prop := flowDominatesRow.holds Try.pinned (OpenSpec.ofChange flowDominatesSpec)

/-- ITS FALSE NEIGHBOUR: 'it returns false'. Refute it at one input. -/
def flowDominatesWrong : ChangeSpec := { name := "flowDominates", fn := fun _ => fun
  | [d1, d2] => { results := [.lit (.bool false)], args := [d1, d2] }
  | _ => none }
def FlowDominatesWrongFalsely : Prop := flowDominatesRow.holds Try.pinned (OpenSpec.ofChange flowDominatesWrong)

/-- 'fermatalaw16.FlowTells': WHATEVER THE INPUT: true; the input reads as it did. -/
def flowTellsSpec : ChangeSpec := { name := "flowTells", fn := fun _ => fun
  | [d1, d2] => { results := [.lit (.bool true)], args := [d1, d2] }
  | _ => none }
def flowTellsRow : OpenClaim := { program := "ytlneifgihdickaa", sum := "d7444403572f5022bd44b738db060ccdde9bc68d07d735b7e9b0c8093ec381a9", func := "fermata/fermatalaw16.FlowTells", spec := "flowTells", unfollowed := true, recurses := true, apart := false }
def FlowTellsSaid : Prop := flowTellsRow.holds Try.pinned (OpenSpec.ofChange flowTellsSpec)

/-- ITS FALSE NEIGHBOUR: 'it returns false'. Refute it at one input. -/
def flowTellsWrong : ChangeSpec := { name := "flowTells", fn := fun _ => fun
  | [d1, d2] => { results := [.lit (.bool false)], args := [d1, d2] }
  | _ => none }
def FlowTellsWrongFalsely : Prop := flowTellsRow.holds Try.pinned (OpenSpec.ofChange flowTellsWrong)

/-- 'fermatalaw16.FlowSmall': WHATEVER THE INPUT: true; the input reads as it did. -/
def flowSmallSpec : ChangeSpec := { name := "flowSmall", fn := fun _ => fun
  | [] => { results := [.lit (.bool true)], args := [] }
  | _ => none }
def flowSmallRow : OpenClaim := { program := "ytlneifgihdickaa", sum := "d7444403572f5022bd44b738db060ccdde9bc68d07d735b7e9b0c8093ec381a9", func := "fermata/fermatalaw16.FlowSmall", spec := "flowSmall", unfollowed := true, recurses := true, apart := false }
def FlowSmallSaid : Prop := flowSmallRow.holds Try.pinned (OpenSpec.ofChange flowSmallSpec)

/-- ITS FALSE NEIGHBOUR: 'it returns false'. Refute it at one input. -/
def flowSmallWrong : ChangeSpec := { name := "flowSmall", fn := fun _ => fun
  | [] => { results := [.lit (.bool false)], args := [] }
  | _ => none }
def FlowSmallWrongFalsely : Prop := flowSmallRow.holds Try.pinned (OpenSpec.ofChange flowSmallWrong)

/-- 'fermatalaw16.FlowBlocks': WHATEVER THE INPUT: true; the input reads as it did. -/
def flowBlocksSpec : ChangeSpec := { name := "flowBlocks", fn := fun _ => fun
  | [d] => { results := [.lit (.bool true)], args := [d] }
  | _ => none }
def flowBlocksRow : OpenClaim := { program := "ytlneifgihdickaa", sum := "d7444403572f5022bd44b738db060ccdde9bc68d07d735b7e9b0c8093ec381a9", func := "fermata/fermatalaw16.FlowBlocks", spec := "flowBlocks", unfollowed := true, recurses := true, apart := false }
def FlowBlocksSaid : Prop := flowBlocksRow.holds Try.pinned (OpenSpec.ofChange flowBlocksSpec)

/-- ITS FALSE NEIGHBOUR: 'it returns false'. Refute it at one input. -/
def flowBlocksWrong : ChangeSpec := { name := "flowBlocks", fn := fun _ => fun
  | [d] => { results := [.lit (.bool false)], args := [d] }
  | _ => none }
def FlowBlocksWrongFalsely : Prop := flowBlocksRow.holds Try.pinned (OpenSpec.ofChange flowBlocksWrong)

/-- 'fermatalaw16.FlowWrong': WHATEVER THE INPUT: true; the input reads as it did. -/
def flowWrongSpec : ChangeSpec := { name := "flowWrong", fn := fun _ => fun
  | [d1, d2, d3, d4] => { results := [.lit (.bool true)], args := [d1, d2, d3, d4] }
  | _ => none }
def flowWrongRow : OpenClaim := { program := "ytlneifgihdickaa", sum := "d7444403572f5022bd44b738db060ccdde9bc68d07d735b7e9b0c8093ec381a9", func := "fermata/fermatalaw16.FlowWrong", spec := "flowWrong", unfollowed := true, recurses := true, apart := false }
def FlowWrongSaid : Prop := flowWrongRow.holds Try.pinned (OpenSpec.ofChange flowWrongSpec)

/-- ITS FALSE NEIGHBOUR: 'it returns false'. Refute it at one input. -/
def flowWrongWrong : ChangeSpec := { name := "flowWrong", fn := fun _ => fun
  | [d1, d2, d3, d4] => { results := [.lit (.bool false)], args := [d1, d2, d3, d4] }
  | _ => none }
def FlowWrongWrongFalsely : Prop := flowWrongRow.holds Try.pinned (OpenSpec.ofChange flowWrongWrong)

/- THE SECOND FORM. 'bulk': how many values and letters a reading holds, each counted each time it is reached (what is shared counts as often as it is met; a slice's spare places count too). A statement '..UptoSaid' is the law's where the arguments, and the package variables that the reading takes, are together of bulk at most 1048576: NARROWER than '..Said'. Prove '..Said' where nothing that the law and all that it calls make is longer than what came in: it says more and counts as full. Else prove '..UptoSaid'. A law counts once. -/
mutual
def uptoBulk {H : Type} : DataW H → Nat
  | .lit (.string bytes) => bytes.length + 1
  | .lit _ => 1
  | .nil => 1
  | .ptr d => uptoBulk d + 1
  | .slice elems spare => uptoBulkAll elems + uptoBulkAll spare + 1
  | .agg parts => uptoBulkAll parts + 1
  | .iface _ d => uptoBulk d + 1
  | .map entries => uptoBulkEntries entries + 1
  | .held _ => 1
def uptoBulkAll {H : Type} : List (DataW H) → Nat
  | [] => 0
  | d :: r => uptoBulk d + uptoBulkAll r
def uptoBulkEntries {H : Type} : List (Lit × DataW H) → Nat
  | [] => 0
  | x :: r => uptoBulkEntry x + uptoBulkEntries r
def uptoBulkEntry {H : Type} : Lit × DataW H → Nat
  | (.string bytes, d) => bytes.length + uptoBulk d + 1
  | (_, d) => uptoBulk d + 1
 end
def uptoSmall : (H : Type) → List (DataW H) → Bool := fun _ ds => decide (uptoBulkAll ds ≤ 1048576)
def OpenSpec.upto (s : _root_.Go.ChangeSpec) : _root_.Go.OpenSpec := { _root_.Go.OpenSpec.ofChange s with cond := some uptoSmall }

/-- 'fermatalaw16.FlowNext', WHERE WHAT IT READS IS OF BULK AT MOST 1048576: true; the input reads as it did. -/
def flowNextUptoRow : OpenClaim := { program := "ytlneifgihdickaa", sum := "d7444403572f5022bd44b738db060ccdde9bc68d07d735b7e9b0c8093ec381a9", func := "fermata/fermatalaw16.FlowNext", spec := "flowNext", unfollowed := true, recurses := true, apart := false, narrowed := true }
def FlowNextUptoSaid : Prop := flowNextUptoRow.holds Try.pinned (OpenSpec.upto flowNextSpec)

/-- 'fermatalaw16.FlowWays', WHERE WHAT IT READS IS OF BULK AT MOST 1048576: true; the input reads as it did. -/
def flowWaysUptoRow : OpenClaim := { program := "ytlneifgihdickaa", sum := "d7444403572f5022bd44b738db060ccdde9bc68d07d735b7e9b0c8093ec381a9", func := "fermata/fermatalaw16.FlowWays", spec := "flowWays", unfollowed := true, recurses := true, apart := false, narrowed := true }
def FlowWaysUptoSaid : Prop := flowWaysUptoRow.holds Try.pinned (OpenSpec.upto flowWaysSpec)

/-- 'fermatalaw16.FlowDominates', WHERE WHAT IT READS IS OF BULK AT MOST 1048576: true; the input reads as it did. -/
def flowDominatesUptoRow : OpenClaim := { program := "ytlneifgihdickaa", sum := "d7444403572f5022bd44b738db060ccdde9bc68d07d735b7e9b0c8093ec381a9", func := "fermata/fermatalaw16.FlowDominates", spec := "flowDominates", unfollowed := true, recurses := true, apart := false, narrowed := true }
def FlowDominatesUptoSaid : Prop := flowDominatesUptoRow.holds Try.pinned (OpenSpec.upto flowDominatesSpec)

/-- 'fermatalaw16.FlowTells', WHERE WHAT IT READS IS OF BULK AT MOST 1048576: true; the input reads as it did. -/
def flowTellsUptoRow : OpenClaim := { program := "ytlneifgihdickaa", sum := "d7444403572f5022bd44b738db060ccdde9bc68d07d735b7e9b0c8093ec381a9", func := "fermata/fermatalaw16.FlowTells", spec := "flowTells", unfollowed := true, recurses := true, apart := false, narrowed := true }
def FlowTellsUptoSaid : Prop := flowTellsUptoRow.holds Try.pinned (OpenSpec.upto flowTellsSpec)

/-- 'fermatalaw16.FlowSmall', WHERE WHAT IT READS IS OF BULK AT MOST 1048576: true; the input reads as it did. -/
def flowSmallUptoRow : OpenClaim := { program := "ytlneifgihdickaa", sum := "d7444403572f5022bd44b738db060ccdde9bc68d07d735b7e9b0c8093ec381a9", func := "fermata/fermatalaw16.FlowSmall", spec := "flowSmall", unfollowed := true, recurses := true, apart := false, narrowed := true }
def FlowSmallUptoSaid : Prop := flowSmallUptoRow.holds Try.pinned (OpenSpec.upto flowSmallSpec)

/-- 'fermatalaw16.FlowBlocks', WHERE WHAT IT READS IS OF BULK AT MOST 1048576: true; the input reads as it did. -/
def flowBlocksUptoRow : OpenClaim := { program := "ytlneifgihdickaa", sum := "d7444403572f5022bd44b738db060ccdde9bc68d07d735b7e9b0c8093ec381a9", func := "fermata/fermatalaw16.FlowBlocks", spec := "flowBlocks", unfollowed := true, recurses := true, apart := false, narrowed := true }
def FlowBlocksUptoSaid : Prop := flowBlocksUptoRow.holds Try.pinned (OpenSpec.upto flowBlocksSpec)

/-- 'fermatalaw16.FlowWrong', WHERE WHAT IT READS IS OF BULK AT MOST 1048576: true; the input reads as it did. -/
def flowWrongUptoRow : OpenClaim := { program := "ytlneifgihdickaa", sum := "d7444403572f5022bd44b738db060ccdde9bc68d07d735b7e9b0c8093ec381a9", func := "fermata/fermatalaw16.FlowWrong", spec := "flowWrong", unfollowed := true, recurses := true, apart := false, narrowed := true }
def FlowWrongUptoSaid : Prop := flowWrongUptoRow.holds Try.pinned (OpenSpec.upto flowWrongSpec)

end Rows
end Go.Proofs.Ytlneifgihdickaa
