/-
  No cell of these rows narrows 'for every input' (looked for: loops, veiled, ifaces, maps, wideKeys, modest, calm, conditions, laid).
  DERIVED. THE GIVEN ROWS OF THIS SEAT. 8 by the template 'for every input the law returns true; each argument reads behind the call as it read before'; 0 by the template 'total and deterministic' (their statements: YtiakcehhegippaaTotals.lean).
  GIVEN WITH THE SEED: the statements are not yours to turn. If you find one false, say at which input.
  Laid BY PROGRAM, IN A SANDBOX (cutbox-rows.mjs): the forced cells as the released guide's own fill.sh prints them over the translation e96f16bb3237423d… (all of the seat's roots in one cut). By AI agents, Wed Nov 11 2026. No macro, syntax, notation, axiom, sorry.
-/
import Derived.Test.YtiakcehhegippaaChecked
import GoSem.Claim
import GoSem.ClaimJoined
import GoSem.ClaimMapViews
import Derived.JoinedTies
import Derived.KernelRfl
namespace Go.Proofs.Ytiakcehhegippaa
/- THE CELL 'sum', in the pinned program and in every row, IS THE sha256 OF THE DUMP (.gsa) THAT YtiakcehhegippaaProg.lean LOADS. Nothing in Lean hashes anything: it is a label: what it is worth is what the hold of that sum in a sandbox is worth. -/
noncomputable def Try.pinned : Pinned := { name := "ytiakcehhegippaa", sum := "e96f16bb3237423d8ae623634021e0d61b4bc90f68238c09341d96a614111beb", checked := Try.checked }
namespace Rows
def none {H : Type} : Left H := { results := [], args := [] }

/-- 'fermatalaw14.CodeReads': WHATEVER THE INPUT: true; the input reads as it did. -/
def codeReadsSpec : ChangeSpec := { name := "codeReads", fn := fun _ => fun
  | [d] => { results := [.lit (.bool true)], args := [d] }
  | _ => none }
def codeReadsRow : OpenClaim := { program := "ytiakcehhegippaa", sum := "e96f16bb3237423d8ae623634021e0d61b4bc90f68238c09341d96a614111beb", func := "fermata/fermatalaw14.CodeReads", spec := "codeReads", unfollowed := true, recurses := true, plainKeys := false, apart := false }
def CodeReadsSaid : Prop := codeReadsRow.holds Try.pinned (OpenSpec.ofChange codeReadsSpec)

/-- ITS FALSE NEIGHBOUR: 'it returns false'. Refute it at one input. -/
def codeReadsWrong : ChangeSpec := { name := "codeReads", fn := fun _ => fun
  | [d] => { results := [.lit (.bool false)], args := [d] }
  | _ => none }
def CodeReadsWrongFalsely : Prop := codeReadsRow.holds Try.pinned (OpenSpec.ofChange codeReadsWrong)

/-- 'fermatalaw14.CodeBytes': WHATEVER THE INPUT: true; the input reads as it did. -/
def codeBytesSpec : ChangeSpec := { name := "codeBytes", fn := fun _ => fun
  | [d] => { results := [.lit (.bool true)], args := [d] }
  | _ => none }
def codeBytesRow : OpenClaim := { program := "ytiakcehhegippaa", sum := "e96f16bb3237423d8ae623634021e0d61b4bc90f68238c09341d96a614111beb", func := "fermata/fermatalaw14.CodeBytes", spec := "codeBytes", unfollowed := true, recurses := true, plainKeys := false, apart := false }
def CodeBytesSaid : Prop := codeBytesRow.holds Try.pinned (OpenSpec.ofChange codeBytesSpec)

/-- ITS FALSE NEIGHBOUR: 'it returns false'. Refute it at one input. -/
def codeBytesWrong : ChangeSpec := { name := "codeBytes", fn := fun _ => fun
  | [d] => { results := [.lit (.bool false)], args := [d] }
  | _ => none }
def CodeBytesWrongFalsely : Prop := codeBytesRow.holds Try.pinned (OpenSpec.ofChange codeBytesWrong)

/-- 'fermatalaw14.CodeForms': WHATEVER THE INPUT: true; the input reads as it did. -/
def codeFormsSpec : ChangeSpec := { name := "codeForms", fn := fun _ => fun
  | [d1, d2] => { results := [.lit (.bool true)], args := [d1, d2] }
  | _ => none }
def codeFormsRow : OpenClaim := { program := "ytiakcehhegippaa", sum := "e96f16bb3237423d8ae623634021e0d61b4bc90f68238c09341d96a614111beb", func := "fermata/fermatalaw14.CodeForms", spec := "codeForms", unfollowed := true, recurses := true, plainKeys := false, apart := false }
def CodeFormsSaid : Prop := codeFormsRow.holds Try.pinned (OpenSpec.ofChange codeFormsSpec)

/-- ITS FALSE NEIGHBOUR: 'it returns false'. Refute it at one input. -/
def codeFormsWrong : ChangeSpec := { name := "codeForms", fn := fun _ => fun
  | [d1, d2] => { results := [.lit (.bool false)], args := [d1, d2] }
  | _ => none }
def CodeFormsWrongFalsely : Prop := codeFormsRow.holds Try.pinned (OpenSpec.ofChange codeFormsWrong)

/-- 'fermatalaw14.CodeBack': WHATEVER THE INPUT: true; the input reads as it did. -/
def codeBackSpec : ChangeSpec := { name := "codeBack", fn := fun _ => fun
  | [d1, d2] => { results := [.lit (.bool true)], args := [d1, d2] }
  | _ => none }
def codeBackRow : OpenClaim := { program := "ytiakcehhegippaa", sum := "e96f16bb3237423d8ae623634021e0d61b4bc90f68238c09341d96a614111beb", func := "fermata/fermatalaw14.CodeBack", spec := "codeBack", unfollowed := true, recurses := true, plainKeys := false, apart := false }
def CodeBackSaid : Prop := codeBackRow.holds Try.pinned (OpenSpec.ofChange codeBackSpec)

/-- ITS FALSE NEIGHBOUR: 'it returns false'. Refute it at one input. -/
def codeBackWrong : ChangeSpec := { name := "codeBack", fn := fun _ => fun
  | [d1, d2] => { results := [.lit (.bool false)], args := [d1, d2] }
  | _ => none }
def CodeBackWrongFalsely : Prop := codeBackRow.holds Try.pinned (OpenSpec.ofChange codeBackWrong)

/-- 'fermatalaw14.CodeCuts': WHATEVER THE INPUT: true; the input reads as it did. -/
def codeCutsSpec : ChangeSpec := { name := "codeCuts", fn := fun _ => fun
  | [d1, d2, d3] => { results := [.lit (.bool true)], args := [d1, d2, d3] }
  | _ => none }
def codeCutsRow : OpenClaim := { program := "ytiakcehhegippaa", sum := "e96f16bb3237423d8ae623634021e0d61b4bc90f68238c09341d96a614111beb", func := "fermata/fermatalaw14.CodeCuts", spec := "codeCuts", unfollowed := true, recurses := true, plainKeys := false, apart := false }
def CodeCutsSaid : Prop := codeCutsRow.holds Try.pinned (OpenSpec.ofChange codeCutsSpec)

/-- ITS FALSE NEIGHBOUR: 'it returns false'. Refute it at one input. -/
def codeCutsWrong : ChangeSpec := { name := "codeCuts", fn := fun _ => fun
  | [d1, d2, d3] => { results := [.lit (.bool false)], args := [d1, d2, d3] }
  | _ => none }
def CodeCutsWrongFalsely : Prop := codeCutsRow.holds Try.pinned (OpenSpec.ofChange codeCutsWrong)

/-- 'fermatalaw14.CodeTells': WHATEVER THE INPUT: true; the input reads as it did. -/
def codeTellsSpec : ChangeSpec := { name := "codeTells", fn := fun _ => fun
  | [d1, d2] => { results := [.lit (.bool true)], args := [d1, d2] }
  | _ => none }
def codeTellsRow : OpenClaim := { program := "ytiakcehhegippaa", sum := "e96f16bb3237423d8ae623634021e0d61b4bc90f68238c09341d96a614111beb", func := "fermata/fermatalaw14.CodeTells", spec := "codeTells", unfollowed := true, recurses := true, plainKeys := false, apart := false }
def CodeTellsSaid : Prop := codeTellsRow.holds Try.pinned (OpenSpec.ofChange codeTellsSpec)

/-- ITS FALSE NEIGHBOUR: 'it returns false'. Refute it at one input. -/
def codeTellsWrong : ChangeSpec := { name := "codeTells", fn := fun _ => fun
  | [d1, d2] => { results := [.lit (.bool false)], args := [d1, d2] }
  | _ => none }
def CodeTellsWrongFalsely : Prop := codeTellsRow.holds Try.pinned (OpenSpec.ofChange codeTellsWrong)

/-- 'fermatalaw14.CodeWrong': WHATEVER THE INPUT: true; the input reads as it did. -/
def codeWrongSpec : ChangeSpec := { name := "codeWrong", fn := fun _ => fun
  | [d1, d2, d3] => { results := [.lit (.bool true)], args := [d1, d2, d3] }
  | _ => none }
def codeWrongRow : OpenClaim := { program := "ytiakcehhegippaa", sum := "e96f16bb3237423d8ae623634021e0d61b4bc90f68238c09341d96a614111beb", func := "fermata/fermatalaw14.CodeWrong", spec := "codeWrong", unfollowed := true, recurses := true, plainKeys := false, apart := false }
def CodeWrongSaid : Prop := codeWrongRow.holds Try.pinned (OpenSpec.ofChange codeWrongSpec)

/-- ITS FALSE NEIGHBOUR: 'it returns false'. Refute it at one input. -/
def codeWrongWrong : ChangeSpec := { name := "codeWrong", fn := fun _ => fun
  | [d1, d2, d3] => { results := [.lit (.bool false)], args := [d1, d2, d3] }
  | _ => none }
def CodeWrongWrongFalsely : Prop := codeWrongRow.holds Try.pinned (OpenSpec.ofChange codeWrongWrong)

/-- 'fermatalaw14.CodeSmall': WHATEVER THE INPUT: true; the input reads as it did. -/
def codeSmallSpec : ChangeSpec := { name := "codeSmall", fn := fun _ => fun
  | [] => { results := [.lit (.bool true)], args := [] }
  | _ => none }
def codeSmallRow : OpenClaim := { program := "ytiakcehhegippaa", sum := "e96f16bb3237423d8ae623634021e0d61b4bc90f68238c09341d96a614111beb", func := "fermata/fermatalaw14.CodeSmall", spec := "codeSmall", unfollowed := true, recurses := true, plainKeys := false, apart := false }
def CodeSmallSaid : Prop := codeSmallRow.holds Try.pinned (OpenSpec.ofChange codeSmallSpec)

/-- ITS FALSE NEIGHBOUR: 'it returns false'. Refute it at one input. -/
def codeSmallWrong : ChangeSpec := { name := "codeSmall", fn := fun _ => fun
  | [] => { results := [.lit (.bool false)], args := [] }
  | _ => none }
def CodeSmallWrongFalsely : Prop := codeSmallRow.holds Try.pinned (OpenSpec.ofChange codeSmallWrong)

/- THE SECOND FORM. 'bulk': how many values and letters a reading holds, each counted each time it is reached (what is shared counts as often as it is met; a slice's spare places count too). A statement '..UptoSaid' is the law's where the arguments, and the package variables that the reading takes, are together of bulk at most 1048576: NARROWER than '..Said'. Prove '..Said' where nothing that the law and all that it calls make is longer than what came in: it says more and counts as full. Else prove '..UptoSaid'. A law counts once. -/
mutual
def uptoBulk {H : Type} : DataW H → Nat
  | .lit (.string bytes) => bytes.length + 1
  | .lit _ => 1
  | .nil => 1
  | .ptr d => uptoBulk d + 1
  | .slice elems spare => uptoBulkAll elems + uptoBulkAll spare + 1
  | .agg parts => uptoBulkAll parts + 1
  | .iface _ d => uptoBulk d + 1
  | .map entries => uptoBulkEntries entries + 1
  | .held _ => 1
def uptoBulkAll {H : Type} : List (DataW H) → Nat
  | [] => 0
  | d :: r => uptoBulk d + uptoBulkAll r
def uptoBulkEntries {H : Type} : List (Lit × DataW H) → Nat
  | [] => 0
  | x :: r => uptoBulkEntry x + uptoBulkEntries r
def uptoBulkEntry {H : Type} : Lit × DataW H → Nat
  | (.string bytes, d) => bytes.length + uptoBulk d + 1
  | (_, d) => uptoBulk d + 1
 end
def uptoSmall : (H : Type) → List (DataW H) → Bool := fun _ ds => decide (uptoBulkAll ds ≤ 1048576)
def OpenSpec.upto (s : _root_.Go.ChangeSpec) : _root_.Go.OpenSpec := { _root_.Go.OpenSpec.ofChange s with cond := some uptoSmall }

/-- 'fermatalaw14.CodeReads', WHERE WHAT IT READS IS OF BULK AT MOST 1048576: true; the input reads as it did. -/
def codeReadsUptoRow : OpenClaim := { program := "ytiakcehhegippaa", sum := "e96f16bb3237423d8ae623634021e0d61b4bc90f68238c09341d96a614111beb", func := "fermata/fermatalaw14.CodeReads", spec := "codeReads", unfollowed := true, recurses := true, plainKeys := false, apart := false, narrowed := true }
def CodeReadsUptoSaid : Prop := codeReadsUptoRow.holds Try.pinned (OpenSpec.upto codeReadsSpec)

/-- 'fermatalaw14.CodeBytes', WHERE WHAT IT READS IS OF BULK AT MOST 1048576: true; the input reads as it did. -/
def codeBytesUptoRow : OpenClaim := { program := "ytiakcehhegippaa", sum := "e96f16bb3237423d8ae623634021e0d61b4bc90f68238c09341d96a614111beb", func := "fermata/fermatalaw14.CodeBytes", spec := "codeBytes", unfollowed := true, recurses := true, plainKeys := false, apart := false, narrowed := true }
def CodeBytesUptoSaid : Prop := codeBytesUptoRow.holds Try.pinned (OpenSpec.upto codeBytesSpec)

/-- 'fermatalaw14.CodeForms', WHERE WHAT IT READS IS OF BULK AT MOST 1048576: true; the input reads as it did. -/
def codeFormsUptoRow : OpenClaim := { program := "ytiakcehhegippaa", sum := "e96f16bb3237423d8ae623634021e0d61b4bc90f68238c09341d96a614111beb", func := "fermata/fermatalaw14.CodeForms", spec := "codeForms", unfollowed := true, recurses := true, plainKeys := false, apart := false, narrowed := true }
def CodeFormsUptoSaid : Prop := codeFormsUptoRow.holds Try.pinned (OpenSpec.upto codeFormsSpec)

/-- 'fermatalaw14.CodeBack', WHERE WHAT IT READS IS OF BULK AT MOST 1048576: true; the input reads as it did. -/
def codeBackUptoRow : OpenClaim := { program := "ytiakcehhegippaa", sum := "e96f16bb3237423d8ae623634021e0d61b4bc90f68238c09341d96a614111beb", func := "fermata/fermatalaw14.CodeBack", spec := "codeBack", unfollowed := true, recurses := true, plainKeys := false, apart := false, narrowed := true }
def CodeBackUptoSaid : Prop := codeBackUptoRow.holds Try.pinned (OpenSpec.upto codeBackSpec)

/-- 'fermatalaw14.CodeCuts', WHERE WHAT IT READS IS OF BULK AT MOST 1048576: true; the input reads as it did. -/
def codeCutsUptoRow : OpenClaim := { program := "ytiakcehhegippaa", sum := "e96f16bb3237423d8ae623634021e0d61b4bc90f68238c09341d96a614111beb", func := "fermata/fermatalaw14.CodeCuts", spec := "codeCuts", unfollowed := true, recurses := true, plainKeys := false, apart := false, narrowed := true }
def CodeCutsUptoSaid : Prop := codeCutsUptoRow.holds Try.pinned (OpenSpec.upto codeCutsSpec)

/-- 'fermatalaw14.CodeTells', WHERE WHAT IT READS IS OF BULK AT MOST 1048576: true; the input reads as it did. -/
def codeTellsUptoRow : OpenClaim := { program := "ytiakcehhegippaa", sum := "e96f16bb3237423d8ae623634021e0d61b4bc90f68238c09341d96a614111beb", func := "fermata/fermatalaw14.CodeTells", spec := "codeTells", unfollowed := true, recurses := true, plainKeys := false, apart := false, narrowed := true }
def CodeTellsUptoSaid : Prop := codeTellsUptoRow.holds Try.pinned (OpenSpec.upto codeTellsSpec)

/-- 'fermatalaw14.CodeWrong', WHERE WHAT IT READS IS OF BULK AT MOST 1048576: true; the input reads as it did. -/
def codeWrongUptoRow : OpenClaim := { program := "ytiakcehhegippaa", sum := "e96f16bb3237423d8ae623634021e0d61b4bc90f68238c09341d96a614111beb", func := "fermata/fermatalaw14.CodeWrong", spec := "codeWrong", unfollowed := true, recurses := true, plainKeys := false, apart := false, narrowed := true }
def CodeWrongUptoSaid : Prop := codeWrongUptoRow.holds Try.pinned (OpenSpec.upto codeWrongSpec)

/-- 'fermatalaw14.CodeSmall', WHERE WHAT IT READS IS OF BULK AT MOST 1048576: true; the input reads as it did. -/
def codeSmallUptoRow : OpenClaim := { program := "ytiakcehhegippaa", sum := "e96f16bb3237423d8ae623634021e0d61b4bc90f68238c09341d96a614111beb", func := "fermata/fermatalaw14.CodeSmall", spec := "codeSmall", unfollowed := true, recurses := true, plainKeys := false, apart := false, narrowed := true }
def CodeSmallUptoSaid : Prop := codeSmallUptoRow.holds Try.pinned (OpenSpec.upto codeSmallSpec)

end Rows
end Go.Proofs.Ytiakcehhegippaa
