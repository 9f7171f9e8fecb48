/-
  No cell of these rows narrows 'for every input' (looked for: loops, veiled, ifaces, maps, wideKeys, modest, calm, conditions, laid).
  DERIVED. THE GIVEN ROWS OF THIS SEAT. 7 by the template 'for every input the law returns true; each argument reads behind the call as it read before'; 0 by the template 'total and deterministic' (their statements: YtdjpggnadelnaaaTotals.lean).
  GIVEN WITH THE SEED: the statements are not yours to turn. If you find one false, say at which input.
  Laid BY PROGRAM, IN A SANDBOX (cutbox-rows.mjs): the forced cells as the released guide's own fill.sh prints them over the translation e01dd17b21624f0e… (all of the seat's roots in one cut). By AI agents, Wed Nov 11 2026. No macro, syntax, notation, axiom, sorry.
-/
import Derived.Test.YtdjpggnadelnaaaChecked
import GoSem.Claim
import GoSem.ClaimJoined
import GoSem.ClaimMapViews
import Derived.JoinedTies
import Derived.KernelRfl
namespace Go.Proofs.Ytdjpggnadelnaaa
/- THE CELL 'sum', in the pinned program and in every row, IS THE sha256 OF THE DUMP (.gsa) THAT YtdjpggnadelnaaaProg.lean LOADS. Nothing in Lean hashes anything: it is a label: what it is worth is what the hold of that sum in a sandbox is worth. -/
noncomputable def Try.pinned : Pinned := { name := "ytdjpggnadelnaaa", sum := "e01dd17b21624f0ed92f161353f2c8a6b7685f0532b8b459e5fbb6f84d9f7862", checked := Try.checked }
namespace Rows
def none {H : Type} : Left H := { results := [], args := [] }

/-- 'fermatalaw29.OutboxMerged': WHATEVER THE INPUT: true; the input reads as it did. -/
def outboxMergedSpec : ChangeSpec := { name := "outboxMerged", fn := fun _ => fun
  | [d1, d2, d3] => { results := [.lit (.bool true)], args := [d1, d2, d3] }
  | _ => none }
def outboxMergedRow : OpenClaim := { program := "ytdjpggnadelnaaa", sum := "e01dd17b21624f0ed92f161353f2c8a6b7685f0532b8b459e5fbb6f84d9f7862", func := "fermata/fermatalaw29.OutboxMerged", spec := "outboxMerged", unfollowed := true, recurses := true, plainKeys := false, apart := false }
def OutboxMergedSaid : Prop := outboxMergedRow.holds Try.pinned (OpenSpec.ofChange outboxMergedSpec)

/-- ITS FALSE NEIGHBOUR: 'it returns false'. Refute it at one input. -/
def outboxMergedWrong : ChangeSpec := { name := "outboxMerged", fn := fun _ => fun
  | [d1, d2, d3] => { results := [.lit (.bool false)], args := [d1, d2, d3] }
  | _ => none }
def OutboxMergedWrongFalsely : Prop := outboxMergedRow.holds Try.pinned (OpenSpec.ofChange outboxMergedWrong)

/-- 'fermatalaw29.OutboxLimit': WHATEVER THE INPUT: true; the input reads as it did. -/
def outboxLimitSpec : ChangeSpec := { name := "outboxLimit", fn := fun _ => fun
  | [d1, d2] => { results := [.lit (.bool true)], args := [d1, d2] }
  | _ => none }
def outboxLimitRow : OpenClaim := { program := "ytdjpggnadelnaaa", sum := "e01dd17b21624f0ed92f161353f2c8a6b7685f0532b8b459e5fbb6f84d9f7862", func := "fermata/fermatalaw29.OutboxLimit", spec := "outboxLimit", unfollowed := true, recurses := true, plainKeys := false, apart := false }
def OutboxLimitSaid : Prop := outboxLimitRow.holds Try.pinned (OpenSpec.ofChange outboxLimitSpec)

/-- ITS FALSE NEIGHBOUR: 'it returns false'. Refute it at one input. -/
def outboxLimitWrong : ChangeSpec := { name := "outboxLimit", fn := fun _ => fun
  | [d1, d2] => { results := [.lit (.bool false)], args := [d1, d2] }
  | _ => none }
def OutboxLimitWrongFalsely : Prop := outboxLimitRow.holds Try.pinned (OpenSpec.ofChange outboxLimitWrong)

/-- 'fermatalaw29.OutboxWrong': WHATEVER THE INPUT: true; the input reads as it did. -/
def outboxWrongSpec : ChangeSpec := { name := "outboxWrong", fn := fun _ => fun
  | [d1, d2, d3, d4, d5] => { results := [.lit (.bool true)], args := [d1, d2, d3, d4, d5] }
  | _ => none }
def outboxWrongRow : OpenClaim := { program := "ytdjpggnadelnaaa", sum := "e01dd17b21624f0ed92f161353f2c8a6b7685f0532b8b459e5fbb6f84d9f7862", func := "fermata/fermatalaw29.OutboxWrong", spec := "outboxWrong", unfollowed := true, recurses := true, plainKeys := false, apart := false }
def OutboxWrongSaid : Prop := outboxWrongRow.holds Try.pinned (OpenSpec.ofChange outboxWrongSpec)

/-- ITS FALSE NEIGHBOUR: 'it returns false'. Refute it at one input. -/
def outboxWrongWrong : ChangeSpec := { name := "outboxWrong", fn := fun _ => fun
  | [d1, d2, d3, d4, d5] => { results := [.lit (.bool false)], args := [d1, d2, d3, d4, d5] }
  | _ => none }
def OutboxWrongWrongFalsely : Prop := outboxWrongRow.holds Try.pinned (OpenSpec.ofChange outboxWrongWrong)

/-- 'fermatalaw29.OutboxBack': WHATEVER THE INPUT: true; the input reads as it did. -/
def outboxBackSpec : ChangeSpec := { name := "outboxBack", fn := fun _ => fun
  | [d1, d2, d3, d4] => { results := [.lit (.bool true)], args := [d1, d2, d3, d4] }
  | _ => none }
def outboxBackRow : OpenClaim := { program := "ytdjpggnadelnaaa", sum := "e01dd17b21624f0ed92f161353f2c8a6b7685f0532b8b459e5fbb6f84d9f7862", func := "fermata/fermatalaw29.OutboxBack", spec := "outboxBack", unfollowed := true, recurses := true, plainKeys := false, apart := false }
def OutboxBackSaid : Prop := outboxBackRow.holds Try.pinned (OpenSpec.ofChange outboxBackSpec)

/-- ITS FALSE NEIGHBOUR: 'it returns false'. Refute it at one input. -/
def outboxBackWrong : ChangeSpec := { name := "outboxBack", fn := fun _ => fun
  | [d1, d2, d3, d4] => { results := [.lit (.bool false)], args := [d1, d2, d3, d4] }
  | _ => none }
def OutboxBackWrongFalsely : Prop := outboxBackRow.holds Try.pinned (OpenSpec.ofChange outboxBackWrong)

/-- 'fermatalaw29.OutboxFor': WHATEVER THE INPUT: true; the input reads as it did. -/
def outboxForSpec : ChangeSpec := { name := "outboxFor", fn := fun _ => fun
  | [d1, d2] => { results := [.lit (.bool true)], args := [d1, d2] }
  | _ => none }
def outboxForRow : OpenClaim := { program := "ytdjpggnadelnaaa", sum := "e01dd17b21624f0ed92f161353f2c8a6b7685f0532b8b459e5fbb6f84d9f7862", func := "fermata/fermatalaw29.OutboxFor", spec := "outboxFor", unfollowed := true, recurses := true, plainKeys := false, apart := false }
def OutboxForSaid : Prop := outboxForRow.holds Try.pinned (OpenSpec.ofChange outboxForSpec)

/-- ITS FALSE NEIGHBOUR: 'it returns false'. Refute it at one input. -/
def outboxForWrong : ChangeSpec := { name := "outboxFor", fn := fun _ => fun
  | [d1, d2] => { results := [.lit (.bool false)], args := [d1, d2] }
  | _ => none }
def OutboxForWrongFalsely : Prop := outboxForRow.holds Try.pinned (OpenSpec.ofChange outboxForWrong)

/-- 'fermatalaw29.OutboxMerges': WHATEVER THE INPUT: true; the input reads as it did. -/
def outboxMergesSpec : ChangeSpec := { name := "outboxMerges", fn := fun _ => fun
  | [d] => { results := [.lit (.bool true)], args := [d] }
  | _ => none }
def outboxMergesRow : OpenClaim := { program := "ytdjpggnadelnaaa", sum := "e01dd17b21624f0ed92f161353f2c8a6b7685f0532b8b459e5fbb6f84d9f7862", func := "fermata/fermatalaw29.OutboxMerges", spec := "outboxMerges", unfollowed := true, recurses := true, plainKeys := false, apart := false }
def OutboxMergesSaid : Prop := outboxMergesRow.holds Try.pinned (OpenSpec.ofChange outboxMergesSpec)

/-- ITS FALSE NEIGHBOUR: 'it returns false'. Refute it at one input. -/
def outboxMergesWrong : ChangeSpec := { name := "outboxMerges", fn := fun _ => fun
  | [d] => { results := [.lit (.bool false)], args := [d] }
  | _ => none }
def OutboxMergesWrongFalsely : Prop := outboxMergesRow.holds Try.pinned (OpenSpec.ofChange outboxMergesWrong)

/-- 'fermatalaw29.OutboxTells': WHATEVER THE INPUT: true; the input reads as it did. -/
def outboxTellsSpec : ChangeSpec := { name := "outboxTells", fn := fun _ => fun
  | [d1, d2, d3, d4, d5] => { results := [.lit (.bool true)], args := [d1, d2, d3, d4, d5] }
  | _ => none }
def outboxTellsRow : OpenClaim := { program := "ytdjpggnadelnaaa", sum := "e01dd17b21624f0ed92f161353f2c8a6b7685f0532b8b459e5fbb6f84d9f7862", func := "fermata/fermatalaw29.OutboxTells", spec := "outboxTells", unfollowed := true, recurses := true, plainKeys := false, apart := false }
def OutboxTellsSaid : Prop := outboxTellsRow.holds Try.pinned (OpenSpec.ofChange outboxTellsSpec)

/-- ITS FALSE NEIGHBOUR: 'it returns false'. Refute it at one input. -/
def outboxTellsWrong : ChangeSpec := { name := "outboxTells", fn := fun _ => fun
  | [d1, d2, d3, d4, d5] => { results := [.lit (.bool false)], args := [d1, d2, d3, d4, d5] }
  | _ => none }
def OutboxTellsWrongFalsely : Prop := outboxTellsRow.holds Try.pinned (OpenSpec.ofChange outboxTellsWrong)

/- THE SECOND FORM. 'bulk': how many values and letters a reading holds, each counted each time it is reached (what is shared counts as often as it is met; a slice's spare places count too). A statement '..UptoSaid' is the law's where the arguments, and the package variables that the reading takes, are together of bulk at most 1048576: NARROWER than '..Said'. Prove '..Said' where nothing that the law and all that it calls make is longer than what came in: it says more and counts as full. Else prove '..UptoSaid'. A law counts once. -/
mutual
def uptoBulk {H : Type} : DataW H → Nat
  | .lit (.string bytes) => bytes.length + 1
  | .lit _ => 1
  | .nil => 1
  | .ptr d => uptoBulk d + 1
  | .slice elems spare => uptoBulkAll elems + uptoBulkAll spare + 1
  | .agg parts => uptoBulkAll parts + 1
  | .iface _ d => uptoBulk d + 1
  | .map entries => uptoBulkEntries entries + 1
  | .held _ => 1
def uptoBulkAll {H : Type} : List (DataW H) → Nat
  | [] => 0
  | d :: r => uptoBulk d + uptoBulkAll r
def uptoBulkEntries {H : Type} : List (Lit × DataW H) → Nat
  | [] => 0
  | x :: r => uptoBulkEntry x + uptoBulkEntries r
def uptoBulkEntry {H : Type} : Lit × DataW H → Nat
  | (.string bytes, d) => bytes.length + uptoBulk d + 1
  | (_, d) => uptoBulk d + 1
 end
def uptoSmall : (H : Type) → List (DataW H) → Bool := fun _ ds => decide (uptoBulkAll ds ≤ 1048576)
def OpenSpec.upto (s : _root_.Go.ChangeSpec) : _root_.Go.OpenSpec := { _root_.Go.OpenSpec.ofChange s with cond := some uptoSmall }

/-- 'fermatalaw29.OutboxMerged', WHERE WHAT IT READS IS OF BULK AT MOST 1048576: true; the input reads as it did. -/
def outboxMergedUptoRow : OpenClaim := { program := "ytdjpggnadelnaaa", sum := "e01dd17b21624f0ed92f161353f2c8a6b7685f0532b8b459e5fbb6f84d9f7862", func := "fermata/fermatalaw29.OutboxMerged", spec := "outboxMerged", unfollowed := true, recurses := true, plainKeys := false, apart := false, narrowed := true }
def OutboxMergedUptoSaid : Prop := outboxMergedUptoRow.holds Try.pinned (OpenSpec.upto outboxMergedSpec)

/-- 'fermatalaw29.OutboxLimit', WHERE WHAT IT READS IS OF BULK AT MOST 1048576: true; the input reads as it did. -/
def outboxLimitUptoRow : OpenClaim := { program := "ytdjpggnadelnaaa", sum := "e01dd17b21624f0ed92f161353f2c8a6b7685f0532b8b459e5fbb6f84d9f7862", func := "fermata/fermatalaw29.OutboxLimit", spec := "outboxLimit", unfollowed := true, recurses := true, plainKeys := false, apart := false, narrowed := true }
def OutboxLimitUptoSaid : Prop := outboxLimitUptoRow.holds Try.pinned (OpenSpec.upto outboxLimitSpec)

/-- 'fermatalaw29.OutboxWrong', WHERE WHAT IT READS IS OF BULK AT MOST 1048576: true; the input reads as it did. -/
def outboxWrongUptoRow : OpenClaim := { program := "ytdjpggnadelnaaa", sum := "e01dd17b21624f0ed92f161353f2c8a6b7685f0532b8b459e5fbb6f84d9f7862", func := "fermata/fermatalaw29.OutboxWrong", spec := "outboxWrong", unfollowed := true, recurses := true, plainKeys := false, apart := false, narrowed := true }
def OutboxWrongUptoSaid : Prop := outboxWrongUptoRow.holds Try.pinned (OpenSpec.upto outboxWrongSpec)

/-- 'fermatalaw29.OutboxBack', WHERE WHAT IT READS IS OF BULK AT MOST 1048576: true; the input reads as it did. -/
def outboxBackUptoRow : OpenClaim := { program := "ytdjpggnadelnaaa", sum := "e01dd17b21624f0ed92f161353f2c8a6b7685f0532b8b459e5fbb6f84d9f7862", func := "fermata/fermatalaw29.OutboxBack", spec := "outboxBack", unfollowed := true, recurses := true, plainKeys := false, apart := false, narrowed := true }
def OutboxBackUptoSaid : Prop := outboxBackUptoRow.holds Try.pinned (OpenSpec.upto outboxBackSpec)

/-- 'fermatalaw29.OutboxFor', WHERE WHAT IT READS IS OF BULK AT MOST 1048576: true; the input reads as it did. -/
def outboxForUptoRow : OpenClaim := { program := "ytdjpggnadelnaaa", sum := "e01dd17b21624f0ed92f161353f2c8a6b7685f0532b8b459e5fbb6f84d9f7862", func := "fermata/fermatalaw29.OutboxFor", spec := "outboxFor", unfollowed := true, recurses := true, plainKeys := false, apart := false, narrowed := true }
def OutboxForUptoSaid : Prop := outboxForUptoRow.holds Try.pinned (OpenSpec.upto outboxForSpec)

/-- 'fermatalaw29.OutboxMerges', WHERE WHAT IT READS IS OF BULK AT MOST 1048576: true; the input reads as it did. -/
def outboxMergesUptoRow : OpenClaim := { program := "ytdjpggnadelnaaa", sum := "e01dd17b21624f0ed92f161353f2c8a6b7685f0532b8b459e5fbb6f84d9f7862", func := "fermata/fermatalaw29.OutboxMerges", spec := "outboxMerges", unfollowed := true, recurses := true, plainKeys := false, apart := false, narrowed := true }
def OutboxMergesUptoSaid : Prop := outboxMergesUptoRow.holds Try.pinned (OpenSpec.upto outboxMergesSpec)

/-- 'fermatalaw29.OutboxTells', WHERE WHAT IT READS IS OF BULK AT MOST 1048576: true; the input reads as it did. -/
def outboxTellsUptoRow : OpenClaim := { program := "ytdjpggnadelnaaa", sum := "e01dd17b21624f0ed92f161353f2c8a6b7685f0532b8b459e5fbb6f84d9f7862", func := "fermata/fermatalaw29.OutboxTells", spec := "outboxTells", unfollowed := true, recurses := true, plainKeys := false, apart := false, narrowed := true }
def OutboxTellsUptoSaid : Prop := outboxTellsUptoRow.holds Try.pinned (OpenSpec.upto outboxTellsSpec)

end Rows
end Go.Proofs.Ytdjpggnadelnaaa
