/-
  No cell of these rows narrows 'for every input' (looked for: loops, veiled, ifaces, maps, wideKeys, modest, calm, conditions, laid).
  DERIVED. THE GIVEN ROWS OF THIS SEAT. 9 by the template 'for every input the law returns true; each argument reads behind the call as it read before'; 0 by the template 'total and deterministic' (their statements: YtippgnbmilnjbaaTotals.lean).
  GIVEN WITH THE SEED: the statements are not yours to turn. If you find one false, say at which input.
  Laid BY PROGRAM, IN A SANDBOX (cutbox-rows.mjs): the forced cells as the released guide's own fill.sh prints them over the translation 0f6e4dd8633700ea… (all of the seat's roots in one cut). By AI agents, Wed Nov 11 2026. No macro, syntax, notation, axiom, sorry.
-/
import Derived.Test.YtippgnbmilnjbaaChecked
import GoSem.Claim
import GoSem.ClaimJoined
import GoSem.ClaimMapViews
import Derived.JoinedTies
import Derived.KernelRfl
namespace Go.Proofs.Ytippgnbmilnjbaa
/- THE CELL 'sum', in the pinned program and in every row, IS THE sha256 OF THE DUMP (.gsa) THAT YtippgnbmilnjbaaProg.lean LOADS. Nothing in Lean hashes anything: it is a label: what it is worth is what the hold of that sum in a sandbox is worth. -/
noncomputable def Try.pinned : Pinned := { name := "ytippgnbmilnjbaa", sum := "0f6e4dd8633700ea19c90544eb7dd26a7b01a0beaf4992845eaba0631a685a8b", checked := Try.checked }
namespace Rows
def none {H : Type} : Left H := { results := [], args := [] }

/-- 'fermatalaw03.FrameWrong': WHATEVER THE INPUT: true; the input reads as it did. -/
def frameWrongSpec : ChangeSpec := { name := "frameWrong", fn := fun _ => fun
  | [d1, d2, d3, d4] => { results := [.lit (.bool true)], args := [d1, d2, d3, d4] }
  | _ => none }
def frameWrongRow : OpenClaim := { program := "ytippgnbmilnjbaa", sum := "0f6e4dd8633700ea19c90544eb7dd26a7b01a0beaf4992845eaba0631a685a8b", func := "fermata/fermatalaw03.FrameWrong", spec := "frameWrong", inPlace := ["internal/bytealg.MakeNoZero", "slices.overlaps[[]byte]"], unfollowed := true, recurses := true, apart := false }
def FrameWrongSaid : Prop := frameWrongRow.holds Try.pinned (OpenSpec.ofChange frameWrongSpec)

/-- ITS FALSE NEIGHBOUR: 'it returns false'. Refute it at one input. -/
def frameWrongWrong : ChangeSpec := { name := "frameWrong", fn := fun _ => fun
  | [d1, d2, d3, d4] => { results := [.lit (.bool false)], args := [d1, d2, d3, d4] }
  | _ => none }
def FrameWrongWrongFalsely : Prop := frameWrongRow.holds Try.pinned (OpenSpec.ofChange frameWrongWrong)

/-- 'fermatalaw03.FrameReads': WHATEVER THE INPUT: true; the input reads as it did. -/
def frameReadsSpec : ChangeSpec := { name := "frameReads", fn := fun _ => fun
  | [d] => { results := [.lit (.bool true)], args := [d] }
  | _ => none }
def frameReadsRow : OpenClaim := { program := "ytippgnbmilnjbaa", sum := "0f6e4dd8633700ea19c90544eb7dd26a7b01a0beaf4992845eaba0631a685a8b", func := "fermata/fermatalaw03.FrameReads", spec := "frameReads", unfollowed := true, recurses := true, apart := false }
def FrameReadsSaid : Prop := frameReadsRow.holds Try.pinned (OpenSpec.ofChange frameReadsSpec)

/-- ITS FALSE NEIGHBOUR: 'it returns false'. Refute it at one input. -/
def frameReadsWrong : ChangeSpec := { name := "frameReads", fn := fun _ => fun
  | [d] => { results := [.lit (.bool false)], args := [d] }
  | _ => none }
def FrameReadsWrongFalsely : Prop := frameReadsRow.holds Try.pinned (OpenSpec.ofChange frameReadsWrong)

/-- 'fermatalaw03.FrameCuts': WHATEVER THE INPUT: true; the input reads as it did. -/
def frameCutsSpec : ChangeSpec := { name := "frameCuts", fn := fun _ => fun
  | [d1, d2] => { results := [.lit (.bool true)], args := [d1, d2] }
  | _ => none }
def frameCutsRow : OpenClaim := { program := "ytippgnbmilnjbaa", sum := "0f6e4dd8633700ea19c90544eb7dd26a7b01a0beaf4992845eaba0631a685a8b", func := "fermata/fermatalaw03.FrameCuts", spec := "frameCuts", unfollowed := true, recurses := true, apart := false }
def FrameCutsSaid : Prop := frameCutsRow.holds Try.pinned (OpenSpec.ofChange frameCutsSpec)

/-- ITS FALSE NEIGHBOUR: 'it returns false'. Refute it at one input. -/
def frameCutsWrong : ChangeSpec := { name := "frameCuts", fn := fun _ => fun
  | [d1, d2] => { results := [.lit (.bool false)], args := [d1, d2] }
  | _ => none }
def FrameCutsWrongFalsely : Prop := frameCutsRow.holds Try.pinned (OpenSpec.ofChange frameCutsWrong)

/-- 'fermatalaw03.FrameWrites': WHATEVER THE INPUT: true; the input reads as it did. -/
def frameWritesSpec : ChangeSpec := { name := "frameWrites", fn := fun _ => fun
  | [d] => { results := [.lit (.bool true)], args := [d] }
  | _ => none }
def frameWritesRow : OpenClaim := { program := "ytippgnbmilnjbaa", sum := "0f6e4dd8633700ea19c90544eb7dd26a7b01a0beaf4992845eaba0631a685a8b", func := "fermata/fermatalaw03.FrameWrites", spec := "frameWrites", unfollowed := true, recurses := true, apart := false }
def FrameWritesSaid : Prop := frameWritesRow.holds Try.pinned (OpenSpec.ofChange frameWritesSpec)

/-- ITS FALSE NEIGHBOUR: 'it returns false'. Refute it at one input. -/
def frameWritesWrong : ChangeSpec := { name := "frameWrites", fn := fun _ => fun
  | [d] => { results := [.lit (.bool false)], args := [d] }
  | _ => none }
def FrameWritesWrongFalsely : Prop := frameWritesRow.holds Try.pinned (OpenSpec.ofChange frameWritesWrong)

/-- 'fermatalaw03.FrameFeeds': WHATEVER THE INPUT: true; the input reads as it did. -/
def frameFeedsSpec : ChangeSpec := { name := "frameFeeds", fn := fun _ => fun
  | [d1, d2] => { results := [.lit (.bool true)], args := [d1, d2] }
  | _ => none }
def frameFeedsRow : OpenClaim := { program := "ytippgnbmilnjbaa", sum := "0f6e4dd8633700ea19c90544eb7dd26a7b01a0beaf4992845eaba0631a685a8b", func := "fermata/fermatalaw03.FrameFeeds", spec := "frameFeeds", unfollowed := true, recurses := true, apart := false }
def FrameFeedsSaid : Prop := frameFeedsRow.holds Try.pinned (OpenSpec.ofChange frameFeedsSpec)

/-- ITS FALSE NEIGHBOUR: 'it returns false'. Refute it at one input. -/
def frameFeedsWrong : ChangeSpec := { name := "frameFeeds", fn := fun _ => fun
  | [d1, d2] => { results := [.lit (.bool false)], args := [d1, d2] }
  | _ => none }
def FrameFeedsWrongFalsely : Prop := frameFeedsRow.holds Try.pinned (OpenSpec.ofChange frameFeedsWrong)

/-- 'fermatalaw03.FrameBeginnings': WHATEVER THE INPUT: true; the input reads as it did. -/
def frameBeginningsSpec : ChangeSpec := { name := "frameBeginnings", fn := fun _ => fun
  | [d1, d2, d3] => { results := [.lit (.bool true)], args := [d1, d2, d3] }
  | _ => none }
def frameBeginningsRow : OpenClaim := { program := "ytippgnbmilnjbaa", sum := "0f6e4dd8633700ea19c90544eb7dd26a7b01a0beaf4992845eaba0631a685a8b", func := "fermata/fermatalaw03.FrameBeginnings", spec := "frameBeginnings", inPlace := ["internal/bytealg.MakeNoZero"], unfollowed := true, recurses := true, apart := false }
def FrameBeginningsSaid : Prop := frameBeginningsRow.holds Try.pinned (OpenSpec.ofChange frameBeginningsSpec)

/-- ITS FALSE NEIGHBOUR: 'it returns false'. Refute it at one input. -/
def frameBeginningsWrong : ChangeSpec := { name := "frameBeginnings", fn := fun _ => fun
  | [d1, d2, d3] => { results := [.lit (.bool false)], args := [d1, d2, d3] }
  | _ => none }
def FrameBeginningsWrongFalsely : Prop := frameBeginningsRow.holds Try.pinned (OpenSpec.ofChange frameBeginningsWrong)

/-- 'fermatalaw03.FrameBack': WHATEVER THE INPUT: true; the input reads as it did. -/
def frameBackSpec : ChangeSpec := { name := "frameBack", fn := fun _ => fun
  | [d1, d2, d3] => { results := [.lit (.bool true)], args := [d1, d2, d3] }
  | _ => none }
def frameBackRow : OpenClaim := { program := "ytippgnbmilnjbaa", sum := "0f6e4dd8633700ea19c90544eb7dd26a7b01a0beaf4992845eaba0631a685a8b", func := "fermata/fermatalaw03.FrameBack", spec := "frameBack", inPlace := ["internal/bytealg.MakeNoZero"], unfollowed := true, recurses := true, apart := false }
def FrameBackSaid : Prop := frameBackRow.holds Try.pinned (OpenSpec.ofChange frameBackSpec)

/-- ITS FALSE NEIGHBOUR: 'it returns false'. Refute it at one input. -/
def frameBackWrong : ChangeSpec := { name := "frameBack", fn := fun _ => fun
  | [d1, d2, d3] => { results := [.lit (.bool false)], args := [d1, d2, d3] }
  | _ => none }
def FrameBackWrongFalsely : Prop := frameBackRow.holds Try.pinned (OpenSpec.ofChange frameBackWrong)

/-- 'fermatalaw03.FrameDead': WHATEVER THE INPUT: true; the input reads as it did. -/
def frameDeadSpec : ChangeSpec := { name := "frameDead", fn := fun _ => fun
  | [d1, d2, d3, d4] => { results := [.lit (.bool true)], args := [d1, d2, d3, d4] }
  | _ => none }
def frameDeadRow : OpenClaim := { program := "ytippgnbmilnjbaa", sum := "0f6e4dd8633700ea19c90544eb7dd26a7b01a0beaf4992845eaba0631a685a8b", func := "fermata/fermatalaw03.FrameDead", spec := "frameDead", inPlace := ["internal/bytealg.MakeNoZero"], unfollowed := true, recurses := true, apart := false }
def FrameDeadSaid : Prop := frameDeadRow.holds Try.pinned (OpenSpec.ofChange frameDeadSpec)

/-- ITS FALSE NEIGHBOUR: 'it returns false'. Refute it at one input. -/
def frameDeadWrong : ChangeSpec := { name := "frameDead", fn := fun _ => fun
  | [d1, d2, d3, d4] => { results := [.lit (.bool false)], args := [d1, d2, d3, d4] }
  | _ => none }
def FrameDeadWrongFalsely : Prop := frameDeadRow.holds Try.pinned (OpenSpec.ofChange frameDeadWrong)

/-- 'fermatalaw03.FrameSmall': WHATEVER THE INPUT: true; the input reads as it did. -/
def frameSmallSpec : ChangeSpec := { name := "frameSmall", fn := fun _ => fun
  | [] => { results := [.lit (.bool true)], args := [] }
  | _ => none }
def frameSmallRow : OpenClaim := { program := "ytippgnbmilnjbaa", sum := "0f6e4dd8633700ea19c90544eb7dd26a7b01a0beaf4992845eaba0631a685a8b", func := "fermata/fermatalaw03.FrameSmall", spec := "frameSmall", inPlace := ["internal/bytealg.MakeNoZero"], unfollowed := true, recurses := true, apart := false }
def FrameSmallSaid : Prop := frameSmallRow.holds Try.pinned (OpenSpec.ofChange frameSmallSpec)

/-- ITS FALSE NEIGHBOUR: 'it returns false'. Refute it at one input. -/
def frameSmallWrong : ChangeSpec := { name := "frameSmall", fn := fun _ => fun
  | [] => { results := [.lit (.bool false)], args := [] }
  | _ => none }
def FrameSmallWrongFalsely : Prop := frameSmallRow.holds Try.pinned (OpenSpec.ofChange frameSmallWrong)

/- THE SECOND FORM. 'bulk': how many values and letters a reading holds, each counted each time it is reached (what is shared counts as often as it is met; a slice's spare places count too). A statement '..UptoSaid' is the law's where the arguments, and the package variables that the reading takes, are together of bulk at most 1048576: NARROWER than '..Said'. Prove '..Said' where nothing that the law and all that it calls make is longer than what came in: it says more and counts as full. Else prove '..UptoSaid'. A law counts once. -/
mutual
def uptoBulk {H : Type} : DataW H → Nat
  | .lit (.string bytes) => bytes.length + 1
  | .lit _ => 1
  | .nil => 1
  | .ptr d => uptoBulk d + 1
  | .slice elems spare => uptoBulkAll elems + uptoBulkAll spare + 1
  | .agg parts => uptoBulkAll parts + 1
  | .iface _ d => uptoBulk d + 1
  | .map entries => uptoBulkEntries entries + 1
  | .held _ => 1
def uptoBulkAll {H : Type} : List (DataW H) → Nat
  | [] => 0
  | d :: r => uptoBulk d + uptoBulkAll r
def uptoBulkEntries {H : Type} : List (Lit × DataW H) → Nat
  | [] => 0
  | x :: r => uptoBulkEntry x + uptoBulkEntries r
def uptoBulkEntry {H : Type} : Lit × DataW H → Nat
  | (.string bytes, d) => bytes.length + uptoBulk d + 1
  | (_, d) => uptoBulk d + 1
 end
def uptoSmall : (H : Type) → List (DataW H) → Bool := fun _ ds => decide (uptoBulkAll ds ≤ 1048576)
def OpenSpec.upto (s : _root_.Go.ChangeSpec) : _root_.Go.OpenSpec := { _root_.Go.OpenSpec.ofChange s with cond := some uptoSmall }

/-- 'fermatalaw03.FrameWrong', WHERE WHAT IT READS IS OF BULK AT MOST 1048576: true; the input reads as it did. -/
def frameWrongUptoRow : OpenClaim := { program := "ytippgnbmilnjbaa", sum := "0f6e4dd8633700ea19c90544eb7dd26a7b01a0beaf4992845eaba0631a685a8b", func := "fermata/fermatalaw03.FrameWrong", spec := "frameWrong", inPlace := ["internal/bytealg.MakeNoZero", "slices.overlaps[[]byte]"], unfollowed := true, recurses := true, apart := false, narrowed := true }
def FrameWrongUptoSaid : Prop := frameWrongUptoRow.holds Try.pinned (OpenSpec.upto frameWrongSpec)

/-- 'fermatalaw03.FrameReads', WHERE WHAT IT READS IS OF BULK AT MOST 1048576: true; the input reads as it did. -/
def frameReadsUptoRow : OpenClaim := { program := "ytippgnbmilnjbaa", sum := "0f6e4dd8633700ea19c90544eb7dd26a7b01a0beaf4992845eaba0631a685a8b", func := "fermata/fermatalaw03.FrameReads", spec := "frameReads", unfollowed := true, recurses := true, apart := false, narrowed := true }
def FrameReadsUptoSaid : Prop := frameReadsUptoRow.holds Try.pinned (OpenSpec.upto frameReadsSpec)

/-- 'fermatalaw03.FrameCuts', WHERE WHAT IT READS IS OF BULK AT MOST 1048576: true; the input reads as it did. -/
def frameCutsUptoRow : OpenClaim := { program := "ytippgnbmilnjbaa", sum := "0f6e4dd8633700ea19c90544eb7dd26a7b01a0beaf4992845eaba0631a685a8b", func := "fermata/fermatalaw03.FrameCuts", spec := "frameCuts", unfollowed := true, recurses := true, apart := false, narrowed := true }
def FrameCutsUptoSaid : Prop := frameCutsUptoRow.holds Try.pinned (OpenSpec.upto frameCutsSpec)

/-- 'fermatalaw03.FrameWrites', WHERE WHAT IT READS IS OF BULK AT MOST 1048576: true; the input reads as it did. -/
def frameWritesUptoRow : OpenClaim := { program := "ytippgnbmilnjbaa", sum := "0f6e4dd8633700ea19c90544eb7dd26a7b01a0beaf4992845eaba0631a685a8b", func := "fermata/fermatalaw03.FrameWrites", spec := "frameWrites", unfollowed := true, recurses := true, apart := false, narrowed := true }
def FrameWritesUptoSaid : Prop := frameWritesUptoRow.holds Try.pinned (OpenSpec.upto frameWritesSpec)

/-- 'fermatalaw03.FrameFeeds', WHERE WHAT IT READS IS OF BULK AT MOST 1048576: true; the input reads as it did. -/
def frameFeedsUptoRow : OpenClaim := { program := "ytippgnbmilnjbaa", sum := "0f6e4dd8633700ea19c90544eb7dd26a7b01a0beaf4992845eaba0631a685a8b", func := "fermata/fermatalaw03.FrameFeeds", spec := "frameFeeds", unfollowed := true, recurses := true, apart := false, narrowed := true }
def FrameFeedsUptoSaid : Prop := frameFeedsUptoRow.holds Try.pinned (OpenSpec.upto frameFeedsSpec)

/-- 'fermatalaw03.FrameBeginnings', WHERE WHAT IT READS IS OF BULK AT MOST 1048576: true; the input reads as it did. -/
def frameBeginningsUptoRow : OpenClaim := { program := "ytippgnbmilnjbaa", sum := "0f6e4dd8633700ea19c90544eb7dd26a7b01a0beaf4992845eaba0631a685a8b", func := "fermata/fermatalaw03.FrameBeginnings", spec := "frameBeginnings", inPlace := ["internal/bytealg.MakeNoZero"], unfollowed := true, recurses := true, apart := false, narrowed := true }
def FrameBeginningsUptoSaid : Prop := frameBeginningsUptoRow.holds Try.pinned (OpenSpec.upto frameBeginningsSpec)

/-- 'fermatalaw03.FrameBack', WHERE WHAT IT READS IS OF BULK AT MOST 1048576: true; the input reads as it did. -/
def frameBackUptoRow : OpenClaim := { program := "ytippgnbmilnjbaa", sum := "0f6e4dd8633700ea19c90544eb7dd26a7b01a0beaf4992845eaba0631a685a8b", func := "fermata/fermatalaw03.FrameBack", spec := "frameBack", inPlace := ["internal/bytealg.MakeNoZero"], unfollowed := true, recurses := true, apart := false, narrowed := true }
def FrameBackUptoSaid : Prop := frameBackUptoRow.holds Try.pinned (OpenSpec.upto frameBackSpec)

/-- 'fermatalaw03.FrameDead', WHERE WHAT IT READS IS OF BULK AT MOST 1048576: true; the input reads as it did. -/
def frameDeadUptoRow : OpenClaim := { program := "ytippgnbmilnjbaa", sum := "0f6e4dd8633700ea19c90544eb7dd26a7b01a0beaf4992845eaba0631a685a8b", func := "fermata/fermatalaw03.FrameDead", spec := "frameDead", inPlace := ["internal/bytealg.MakeNoZero"], unfollowed := true, recurses := true, apart := false, narrowed := true }
def FrameDeadUptoSaid : Prop := frameDeadUptoRow.holds Try.pinned (OpenSpec.upto frameDeadSpec)

/-- 'fermatalaw03.FrameSmall', WHERE WHAT IT READS IS OF BULK AT MOST 1048576: true; the input reads as it did. -/
def frameSmallUptoRow : OpenClaim := { program := "ytippgnbmilnjbaa", sum := "0f6e4dd8633700ea19c90544eb7dd26a7b01a0beaf4992845eaba0631a685a8b", func := "fermata/fermatalaw03.FrameSmall", spec := "frameSmall", inPlace := ["internal/bytealg.MakeNoZero"], unfollowed := true, recurses := true, apart := false, narrowed := true }
def FrameSmallUptoSaid : Prop := frameSmallUptoRow.holds Try.pinned (OpenSpec.upto frameSmallSpec)

end Rows
end Go.Proofs.Ytippgnbmilnjbaa
