/-
  No cell of these rows narrows 'for every input' (looked for: loops, veiled, ifaces, maps, wideKeys, modest, calm, conditions, laid).
  DERIVED. THE GIVEN ROWS OF THIS SEAT. 8 by the template 'for every input the law returns true; each argument reads behind the call as it read before'; 0 by the template 'total and deterministic' (their statements: YtpipnefepnknoaaTotals.lean).
  GIVEN WITH THE SEED: the statements are not yours to turn. If you find one false, say at which input.
  Laid BY PROGRAM, IN A SANDBOX (cutbox-rows.mjs): the forced cells as the released guide's own fill.sh prints them over the translation f2b0f822dda607d7… (all of the seat's roots in one cut). By AI agents, Wed Nov 11 2026. No macro, syntax, notation, axiom, sorry.
-/
import Derived.Test.YtpipnefepnknoaaChecked
import GoSem.Claim
import GoSem.ClaimJoined
import GoSem.ClaimMapViews
import Derived.JoinedTies
import Derived.KernelRfl
namespace Go.Proofs.Ytpipnefepnknoaa
/- THE CELL 'sum', in the pinned program and in every row, IS THE sha256 OF THE DUMP (.gsa) THAT YtpipnefepnknoaaProg.lean LOADS. Nothing in Lean hashes anything: it is a label: what it is worth is what the hold of that sum in a sandbox is worth. -/
noncomputable def Try.pinned : Pinned := { name := "ytpipnefepnknoaa", sum := "f2b0f822dda607d7fb280e91d3dd2ed81649e18065dab49b37ce8ad91cd17830", checked := Try.checked }
namespace Rows
def none {H : Type} : Left H := { results := [], args := [] }

/-- 'fermatalaw37.InboxCalls': WHATEVER THE INPUT: true; the input reads as it did. -/
def inboxCallsSpec : ChangeSpec := { name := "inboxCalls", fn := fun _ => fun
  | [d] => { results := [.lit (.bool true)], args := [d] }
  | _ => none }
def inboxCallsRow : OpenClaim := { program := "ytpipnefepnknoaa", sum := "f2b0f822dda607d7fb280e91d3dd2ed81649e18065dab49b37ce8ad91cd17830", func := "fermata/fermatalaw37.InboxCalls", spec := "inboxCalls", unfollowed := true, recurses := true, apart := false }
def InboxCallsSaid : Prop := inboxCallsRow.holds Try.pinned (OpenSpec.ofChange inboxCallsSpec)

/-- ITS FALSE NEIGHBOUR: 'it returns false'. Refute it at one input. -/
def inboxCallsWrong : ChangeSpec := { name := "inboxCalls", fn := fun _ => fun
  | [d] => { results := [.lit (.bool false)], args := [d] }
  | _ => none }
def InboxCallsWrongFalsely : Prop := inboxCallsRow.holds Try.pinned (OpenSpec.ofChange inboxCallsWrong)

/-- 'fermatalaw37.InboxWaits': WHATEVER THE INPUT: true; the input reads as it did. -/
def inboxWaitsSpec : ChangeSpec := { name := "inboxWaits", fn := fun _ => fun
  | [d1, d2] => { results := [.lit (.bool true)], args := [d1, d2] }
  | _ => none }
def inboxWaitsRow : OpenClaim := { program := "ytpipnefepnknoaa", sum := "f2b0f822dda607d7fb280e91d3dd2ed81649e18065dab49b37ce8ad91cd17830", func := "fermata/fermatalaw37.InboxWaits", spec := "inboxWaits", unfollowed := true, recurses := true, apart := false }
def InboxWaitsSaid : Prop := inboxWaitsRow.holds Try.pinned (OpenSpec.ofChange inboxWaitsSpec)

/-- ITS FALSE NEIGHBOUR: 'it returns false'. Refute it at one input. -/
def inboxWaitsWrong : ChangeSpec := { name := "inboxWaits", fn := fun _ => fun
  | [d1, d2] => { results := [.lit (.bool false)], args := [d1, d2] }
  | _ => none }
def InboxWaitsWrongFalsely : Prop := inboxWaitsRow.holds Try.pinned (OpenSpec.ofChange inboxWaitsWrong)

/-- 'fermatalaw37.InboxTells': WHATEVER THE INPUT: true; the input reads as it did. -/
def inboxTellsSpec : ChangeSpec := { name := "inboxTells", fn := fun _ => fun
  | [d] => { results := [.lit (.bool true)], args := [d] }
  | _ => none }
def inboxTellsRow : OpenClaim := { program := "ytpipnefepnknoaa", sum := "f2b0f822dda607d7fb280e91d3dd2ed81649e18065dab49b37ce8ad91cd17830", func := "fermata/fermatalaw37.InboxTells", spec := "inboxTells", unfollowed := true, recurses := true, apart := false }
def InboxTellsSaid : Prop := inboxTellsRow.holds Try.pinned (OpenSpec.ofChange inboxTellsSpec)

/-- ITS FALSE NEIGHBOUR: 'it returns false'. Refute it at one input. -/
def inboxTellsWrong : ChangeSpec := { name := "inboxTells", fn := fun _ => fun
  | [d] => { results := [.lit (.bool false)], args := [d] }
  | _ => none }
def InboxTellsWrongFalsely : Prop := inboxTellsRow.holds Try.pinned (OpenSpec.ofChange inboxTellsWrong)

/-- 'fermatalaw37.InboxSmall': WHATEVER THE INPUT: true; the input reads as it did. -/
def inboxSmallSpec : ChangeSpec := { name := "inboxSmall", fn := fun _ => fun
  | [] => { results := [.lit (.bool true)], args := [] }
  | _ => none }
def inboxSmallRow : OpenClaim := { program := "ytpipnefepnknoaa", sum := "f2b0f822dda607d7fb280e91d3dd2ed81649e18065dab49b37ce8ad91cd17830", func := "fermata/fermatalaw37.InboxSmall", spec := "inboxSmall", unfollowed := true, recurses := true, apart := false }
def InboxSmallSaid : Prop := inboxSmallRow.holds Try.pinned (OpenSpec.ofChange inboxSmallSpec)

/-- ITS FALSE NEIGHBOUR: 'it returns false'. Refute it at one input. -/
def inboxSmallWrong : ChangeSpec := { name := "inboxSmall", fn := fun _ => fun
  | [] => { results := [.lit (.bool false)], args := [] }
  | _ => none }
def InboxSmallWrongFalsely : Prop := inboxSmallRow.holds Try.pinned (OpenSpec.ofChange inboxSmallWrong)

/-- 'fermatalaw37.InboxOrder': WHATEVER THE INPUT: true; the input reads as it did. -/
def inboxOrderSpec : ChangeSpec := { name := "inboxOrder", fn := fun _ => fun
  | [d] => { results := [.lit (.bool true)], args := [d] }
  | _ => none }
def inboxOrderRow : OpenClaim := { program := "ytpipnefepnknoaa", sum := "f2b0f822dda607d7fb280e91d3dd2ed81649e18065dab49b37ce8ad91cd17830", func := "fermata/fermatalaw37.InboxOrder", spec := "inboxOrder", unfollowed := true, recurses := true, apart := false }
def InboxOrderSaid : Prop := inboxOrderRow.holds Try.pinned (OpenSpec.ofChange inboxOrderSpec)

/-- ITS FALSE NEIGHBOUR: 'it returns false'. Refute it at one input. -/
def inboxOrderWrong : ChangeSpec := { name := "inboxOrder", fn := fun _ => fun
  | [d] => { results := [.lit (.bool false)], args := [d] }
  | _ => none }
def InboxOrderWrongFalsely : Prop := inboxOrderRow.holds Try.pinned (OpenSpec.ofChange inboxOrderWrong)

/-- 'fermatalaw37.InboxTurns': WHATEVER THE INPUT: true; the input reads as it did. -/
def inboxTurnsSpec : ChangeSpec := { name := "inboxTurns", fn := fun _ => fun
  | [d1, d2] => { results := [.lit (.bool true)], args := [d1, d2] }
  | _ => none }
def inboxTurnsRow : OpenClaim := { program := "ytpipnefepnknoaa", sum := "f2b0f822dda607d7fb280e91d3dd2ed81649e18065dab49b37ce8ad91cd17830", func := "fermata/fermatalaw37.InboxTurns", spec := "inboxTurns", unfollowed := true, recurses := true, apart := false }
def InboxTurnsSaid : Prop := inboxTurnsRow.holds Try.pinned (OpenSpec.ofChange inboxTurnsSpec)

/-- ITS FALSE NEIGHBOUR: 'it returns false'. Refute it at one input. -/
def inboxTurnsWrong : ChangeSpec := { name := "inboxTurns", fn := fun _ => fun
  | [d1, d2] => { results := [.lit (.bool false)], args := [d1, d2] }
  | _ => none }
def InboxTurnsWrongFalsely : Prop := inboxTurnsRow.holds Try.pinned (OpenSpec.ofChange inboxTurnsWrong)

/-- 'fermatalaw37.InboxApart': WHATEVER THE INPUT: true; the input reads as it did. -/
def inboxApartSpec : ChangeSpec := { name := "inboxApart", fn := fun _ => fun
  | [d1, d2] => { results := [.lit (.bool true)], args := [d1, d2] }
  | _ => none }
def inboxApartRow : OpenClaim := { program := "ytpipnefepnknoaa", sum := "f2b0f822dda607d7fb280e91d3dd2ed81649e18065dab49b37ce8ad91cd17830", func := "fermata/fermatalaw37.InboxApart", spec := "inboxApart", unfollowed := true, recurses := true, apart := false }
def InboxApartSaid : Prop := inboxApartRow.holds Try.pinned (OpenSpec.ofChange inboxApartSpec)

/-- ITS FALSE NEIGHBOUR: 'it returns false'. Refute it at one input. -/
def inboxApartWrong : ChangeSpec := { name := "inboxApart", fn := fun _ => fun
  | [d1, d2] => { results := [.lit (.bool false)], args := [d1, d2] }
  | _ => none }
def InboxApartWrongFalsely : Prop := inboxApartRow.holds Try.pinned (OpenSpec.ofChange inboxApartWrong)

/-- 'fermatalaw37.InboxOwn': WHATEVER THE INPUT: true; the input reads as it did. -/
def inboxOwnSpec : ChangeSpec := { name := "inboxOwn", fn := fun _ => fun
  | [d1, d2] => { results := [.lit (.bool true)], args := [d1, d2] }
  | _ => none }
def inboxOwnRow : OpenClaim := { program := "ytpipnefepnknoaa", sum := "f2b0f822dda607d7fb280e91d3dd2ed81649e18065dab49b37ce8ad91cd17830", func := "fermata/fermatalaw37.InboxOwn", spec := "inboxOwn", unfollowed := true, recurses := true, apart := false }
def InboxOwnSaid : Prop := inboxOwnRow.holds Try.pinned (OpenSpec.ofChange inboxOwnSpec)

/-- ITS FALSE NEIGHBOUR: 'it returns false'. Refute it at one input. -/
def inboxOwnWrong : ChangeSpec := { name := "inboxOwn", fn := fun _ => fun
  | [d1, d2] => { results := [.lit (.bool false)], args := [d1, d2] }
  | _ => none }
def InboxOwnWrongFalsely : Prop := inboxOwnRow.holds Try.pinned (OpenSpec.ofChange inboxOwnWrong)

/- THE SECOND FORM. 'bulk': how many values and letters a reading holds, each counted each time it is reached (what is shared counts as often as it is met; a slice's spare places count too). A statement '..UptoSaid' is the law's where the arguments, and the package variables that the reading takes, are together of bulk at most 1048576: NARROWER than '..Said'. Prove '..Said' where nothing that the law and all that it calls make is longer than what came in: it says more and counts as full. Else prove '..UptoSaid'. A law counts once. -/
mutual
def uptoBulk {H : Type} : DataW H → Nat
  | .lit (.string bytes) => bytes.length + 1
  | .lit _ => 1
  | .nil => 1
  | .ptr d => uptoBulk d + 1
  | .slice elems spare => uptoBulkAll elems + uptoBulkAll spare + 1
  | .agg parts => uptoBulkAll parts + 1
  | .iface _ d => uptoBulk d + 1
  | .map entries => uptoBulkEntries entries + 1
  | .held _ => 1
def uptoBulkAll {H : Type} : List (DataW H) → Nat
  | [] => 0
  | d :: r => uptoBulk d + uptoBulkAll r
def uptoBulkEntries {H : Type} : List (Lit × DataW H) → Nat
  | [] => 0
  | x :: r => uptoBulkEntry x + uptoBulkEntries r
def uptoBulkEntry {H : Type} : Lit × DataW H → Nat
  | (.string bytes, d) => bytes.length + uptoBulk d + 1
  | (_, d) => uptoBulk d + 1
 end
def uptoSmall : (H : Type) → List (DataW H) → Bool := fun _ ds => decide (uptoBulkAll ds ≤ 1048576)
def OpenSpec.upto (s : _root_.Go.ChangeSpec) : _root_.Go.OpenSpec := { _root_.Go.OpenSpec.ofChange s with cond := some uptoSmall }

/-- 'fermatalaw37.InboxCalls', WHERE WHAT IT READS IS OF BULK AT MOST 1048576: true; the input reads as it did. -/
def inboxCallsUptoRow : OpenClaim := { program := "ytpipnefepnknoaa", sum := "f2b0f822dda607d7fb280e91d3dd2ed81649e18065dab49b37ce8ad91cd17830", func := "fermata/fermatalaw37.InboxCalls", spec := "inboxCalls", unfollowed := true, recurses := true, apart := false, narrowed := true }
def InboxCallsUptoSaid : Prop := inboxCallsUptoRow.holds Try.pinned (OpenSpec.upto inboxCallsSpec)

/-- 'fermatalaw37.InboxWaits', WHERE WHAT IT READS IS OF BULK AT MOST 1048576: true; the input reads as it did. -/
def inboxWaitsUptoRow : OpenClaim := { program := "ytpipnefepnknoaa", sum := "f2b0f822dda607d7fb280e91d3dd2ed81649e18065dab49b37ce8ad91cd17830", func := "fermata/fermatalaw37.InboxWaits", spec := "inboxWaits", unfollowed := true, recurses := true, apart := false, narrowed := true }
def InboxWaitsUptoSaid : Prop := inboxWaitsUptoRow.holds Try.pinned (OpenSpec.upto inboxWaitsSpec)

/-- 'fermatalaw37.InboxTells', WHERE WHAT IT READS IS OF BULK AT MOST 1048576: true; the input reads as it did. -/
def inboxTellsUptoRow : OpenClaim := { program := "ytpipnefepnknoaa", sum := "f2b0f822dda607d7fb280e91d3dd2ed81649e18065dab49b37ce8ad91cd17830", func := "fermata/fermatalaw37.InboxTells", spec := "inboxTells", unfollowed := true, recurses := true, apart := false, narrowed := true }
def InboxTellsUptoSaid : Prop := inboxTellsUptoRow.holds Try.pinned (OpenSpec.upto inboxTellsSpec)

/-- 'fermatalaw37.InboxSmall', WHERE WHAT IT READS IS OF BULK AT MOST 1048576: true; the input reads as it did. -/
def inboxSmallUptoRow : OpenClaim := { program := "ytpipnefepnknoaa", sum := "f2b0f822dda607d7fb280e91d3dd2ed81649e18065dab49b37ce8ad91cd17830", func := "fermata/fermatalaw37.InboxSmall", spec := "inboxSmall", unfollowed := true, recurses := true, apart := false, narrowed := true }
def InboxSmallUptoSaid : Prop := inboxSmallUptoRow.holds Try.pinned (OpenSpec.upto inboxSmallSpec)

/-- 'fermatalaw37.InboxOrder', WHERE WHAT IT READS IS OF BULK AT MOST 1048576: true; the input reads as it did. -/
def inboxOrderUptoRow : OpenClaim := { program := "ytpipnefepnknoaa", sum := "f2b0f822dda607d7fb280e91d3dd2ed81649e18065dab49b37ce8ad91cd17830", func := "fermata/fermatalaw37.InboxOrder", spec := "inboxOrder", unfollowed := true, recurses := true, apart := false, narrowed := true }
def InboxOrderUptoSaid : Prop := inboxOrderUptoRow.holds Try.pinned (OpenSpec.upto inboxOrderSpec)

/-- 'fermatalaw37.InboxTurns', WHERE WHAT IT READS IS OF BULK AT MOST 1048576: true; the input reads as it did. -/
def inboxTurnsUptoRow : OpenClaim := { program := "ytpipnefepnknoaa", sum := "f2b0f822dda607d7fb280e91d3dd2ed81649e18065dab49b37ce8ad91cd17830", func := "fermata/fermatalaw37.InboxTurns", spec := "inboxTurns", unfollowed := true, recurses := true, apart := false, narrowed := true }
def InboxTurnsUptoSaid : Prop := inboxTurnsUptoRow.holds Try.pinned (OpenSpec.upto inboxTurnsSpec)

/-- 'fermatalaw37.InboxApart', WHERE WHAT IT READS IS OF BULK AT MOST 1048576: true; the input reads as it did. -/
def inboxApartUptoRow : OpenClaim := { program := "ytpipnefepnknoaa", sum := "f2b0f822dda607d7fb280e91d3dd2ed81649e18065dab49b37ce8ad91cd17830", func := "fermata/fermatalaw37.InboxApart", spec := "inboxApart", unfollowed := true, recurses := true, apart := false, narrowed := true }
def InboxApartUptoSaid : Prop := inboxApartUptoRow.holds Try.pinned (OpenSpec.upto inboxApartSpec)

/-- 'fermatalaw37.InboxOwn', WHERE WHAT IT READS IS OF BULK AT MOST 1048576: true; the input reads as it did. -/
def inboxOwnUptoRow : OpenClaim := { program := "ytpipnefepnknoaa", sum := "f2b0f822dda607d7fb280e91d3dd2ed81649e18065dab49b37ce8ad91cd17830", func := "fermata/fermatalaw37.InboxOwn", spec := "inboxOwn", unfollowed := true, recurses := true, apart := false, narrowed := true }
def InboxOwnUptoSaid : Prop := inboxOwnUptoRow.holds Try.pinned (OpenSpec.upto inboxOwnSpec)

end Rows
end Go.Proofs.Ytpipnefepnknoaa
