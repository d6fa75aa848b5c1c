/-
  No cell of these rows narrows 'for every input' (looked for: loops, veiled, ifaces, maps, wideKeys, modest, calm, conditions, laid).
  DERIVED. THE GIVEN ROWS OF THIS SEAT. 7 by the template 'for every input the law returns true; each argument reads behind the call as it read before'; 0 by the template 'total and deterministic' (their statements: YtkllgmhfjibajaaTotals.lean).
  GIVEN WITH THE SEED: the statements are not yours to turn. If you find one false, say at which input.
  Laid BY PROGRAM, IN A SANDBOX (cutbox-rows.mjs): the forced cells as the released guide's own fill.sh prints them over the translation 60a6ea296ed20b41… (all of the seat's roots in one cut). By AI agents, Wed Nov 11 2026. No macro, syntax, notation, axiom, sorry.
-/
import Derived.Test.YtkllgmhfjibajaaChecked
import GoSem.Claim
import GoSem.ClaimJoined
import GoSem.ClaimMapViews
import Derived.JoinedTies
import Derived.KernelRfl
namespace Go.Proofs.Ytkllgmhfjibajaa
/- THE CELL 'sum', in the pinned program and in every row, IS THE sha256 OF THE DUMP (.gsa) THAT YtkllgmhfjibajaaProg.lean LOADS. Nothing in Lean hashes anything: it is a label: what it is worth is what the hold of that sum in a sandbox is worth. -/
noncomputable def Try.pinned : Pinned := { name := "ytkllgmhfjibajaa", sum := "60a6ea296ed20b412ecff9dd1a80e16411cadb9295e974f8984be85ce23cc2e5", checked := Try.checked }
namespace Rows
def none {H : Type} : Left H := { results := [], args := [] }

/-- 'chroniclelaw17.StreamSplits': WHATEVER THE INPUT: true; the input reads as it did. -/
def streamSplitsSpec : ChangeSpec := { name := "streamSplits", fn := fun _ => fun
  | [d1, d2] => { results := [.lit (.bool true)], args := [d1, d2] }
  | _ => none }
def streamSplitsRow : OpenClaim := { program := "ytkllgmhfjibajaa", sum := "60a6ea296ed20b412ecff9dd1a80e16411cadb9295e974f8984be85ce23cc2e5", func := "chronicle/chroniclelaw17.StreamSplits", spec := "streamSplits", unfollowed := true, recurses := true, apart := false }
def StreamSplitsSaid : Prop := streamSplitsRow.holds Try.pinned (OpenSpec.ofChange streamSplitsSpec)

/-- ITS FALSE NEIGHBOUR: 'it returns false'. Refute it at one input. -/
def streamSplitsWrong : ChangeSpec := { name := "streamSplits", fn := fun _ => fun
  | [d1, d2] => { results := [.lit (.bool false)], args := [d1, d2] }
  | _ => none }
def StreamSplitsWrongFalsely : Prop := streamSplitsRow.holds Try.pinned (OpenSpec.ofChange streamSplitsWrong)

/-- 'chroniclelaw17.StreamFeeds': WHATEVER THE INPUT: true; the input reads as it did. -/
def streamFeedsSpec : ChangeSpec := { name := "streamFeeds", fn := fun _ => fun
  | [d1, d2] => { results := [.lit (.bool true)], args := [d1, d2] }
  | _ => none }
def streamFeedsRow : OpenClaim := { program := "ytkllgmhfjibajaa", sum := "60a6ea296ed20b412ecff9dd1a80e16411cadb9295e974f8984be85ce23cc2e5", func := "chronicle/chroniclelaw17.StreamFeeds", spec := "streamFeeds", unfollowed := true, recurses := true, apart := false }
def StreamFeedsSaid : Prop := streamFeedsRow.holds Try.pinned (OpenSpec.ofChange streamFeedsSpec)

/-- ITS FALSE NEIGHBOUR: 'it returns false'. Refute it at one input. -/
def streamFeedsWrong : ChangeSpec := { name := "streamFeeds", fn := fun _ => fun
  | [d1, d2] => { results := [.lit (.bool false)], args := [d1, d2] }
  | _ => none }
def StreamFeedsWrongFalsely : Prop := streamFeedsRow.holds Try.pinned (OpenSpec.ofChange streamFeedsWrong)

/-- 'chroniclelaw17.StreamNone': WHATEVER THE INPUT: true; the input reads as it did. -/
def streamNoneSpec : ChangeSpec := { name := "streamNone", fn := fun _ => fun
  | [] => { results := [.lit (.bool true)], args := [] }
  | _ => none }
def streamNoneRow : OpenClaim := { program := "ytkllgmhfjibajaa", sum := "60a6ea296ed20b412ecff9dd1a80e16411cadb9295e974f8984be85ce23cc2e5", func := "chronicle/chroniclelaw17.StreamNone", spec := "streamNone", unfollowed := true, recurses := true, apart := false }
def StreamNoneSaid : Prop := streamNoneRow.holds Try.pinned (OpenSpec.ofChange streamNoneSpec)

/-- ITS FALSE NEIGHBOUR: 'it returns false'. Refute it at one input. -/
def streamNoneWrong : ChangeSpec := { name := "streamNone", fn := fun _ => fun
  | [] => { results := [.lit (.bool false)], args := [] }
  | _ => none }
def StreamNoneWrongFalsely : Prop := streamNoneRow.holds Try.pinned (OpenSpec.ofChange streamNoneWrong)

/-- 'chroniclelaw17.StreamCuts': WHATEVER THE INPUT: true; the input reads as it did. -/
def streamCutsSpec : ChangeSpec := { name := "streamCuts", fn := fun _ => fun
  | [d1, d2] => { results := [.lit (.bool true)], args := [d1, d2] }
  | _ => none }
def streamCutsRow : OpenClaim := { program := "ytkllgmhfjibajaa", sum := "60a6ea296ed20b412ecff9dd1a80e16411cadb9295e974f8984be85ce23cc2e5", func := "chronicle/chroniclelaw17.StreamCuts", spec := "streamCuts", recurses := true, apart := false }
def StreamCutsSaid : Prop := streamCutsRow.holds Try.pinned (OpenSpec.ofChange streamCutsSpec)

/-- ITS FALSE NEIGHBOUR: 'it returns false'. Refute it at one input. -/
def streamCutsWrong : ChangeSpec := { name := "streamCuts", fn := fun _ => fun
  | [d1, d2] => { results := [.lit (.bool false)], args := [d1, d2] }
  | _ => none }
def StreamCutsWrongFalsely : Prop := streamCutsRow.holds Try.pinned (OpenSpec.ofChange streamCutsWrong)

/-- 'chroniclelaw17.StreamHuge': WHATEVER THE INPUT: true; the input reads as it did. -/
def streamHugeSpec : ChangeSpec := { name := "streamHuge", fn := fun _ => fun
  | [d1, d2, d3, d4] => { results := [.lit (.bool true)], args := [d1, d2, d3, d4] }
  | _ => none }
def streamHugeRow : OpenClaim := { program := "ytkllgmhfjibajaa", sum := "60a6ea296ed20b412ecff9dd1a80e16411cadb9295e974f8984be85ce23cc2e5", func := "chronicle/chroniclelaw17.StreamHuge", spec := "streamHuge", unfollowed := true, recurses := true, apart := false }
def StreamHugeSaid : Prop := streamHugeRow.holds Try.pinned (OpenSpec.ofChange streamHugeSpec)

/-- ITS FALSE NEIGHBOUR: 'it returns false'. Refute it at one input. -/
def streamHugeWrong : ChangeSpec := { name := "streamHuge", fn := fun _ => fun
  | [d1, d2, d3, d4] => { results := [.lit (.bool false)], args := [d1, d2, d3, d4] }
  | _ => none }
def StreamHugeWrongFalsely : Prop := streamHugeRow.holds Try.pinned (OpenSpec.ofChange streamHugeWrong)

/-- 'chroniclelaw17.StreamChunks': WHATEVER THE INPUT: true; the input reads as it did. -/
def streamChunksSpec : ChangeSpec := { name := "streamChunks", fn := fun _ => fun
  | [d1, d2, d3, d4] => { results := [.lit (.bool true)], args := [d1, d2, d3, d4] }
  | _ => none }
def streamChunksRow : OpenClaim := { program := "ytkllgmhfjibajaa", sum := "60a6ea296ed20b412ecff9dd1a80e16411cadb9295e974f8984be85ce23cc2e5", func := "chronicle/chroniclelaw17.StreamChunks", spec := "streamChunks", unfollowed := true, recurses := true, apart := false }
def StreamChunksSaid : Prop := streamChunksRow.holds Try.pinned (OpenSpec.ofChange streamChunksSpec)

/-- ITS FALSE NEIGHBOUR: 'it returns false'. Refute it at one input. -/
def streamChunksWrong : ChangeSpec := { name := "streamChunks", fn := fun _ => fun
  | [d1, d2, d3, d4] => { results := [.lit (.bool false)], args := [d1, d2, d3, d4] }
  | _ => none }
def StreamChunksWrongFalsely : Prop := streamChunksRow.holds Try.pinned (OpenSpec.ofChange streamChunksWrong)

/-- 'chroniclelaw17.StreamSent': WHATEVER THE INPUT: true; the input reads as it did. -/
def streamSentSpec : ChangeSpec := { name := "streamSent", fn := fun _ => fun
  | [d1, d2, d3, d4, d5, d6] => { results := [.lit (.bool true)], args := [d1, d2, d3, d4, d5, d6] }
  | _ => none }
def streamSentRow : OpenClaim := { program := "ytkllgmhfjibajaa", sum := "60a6ea296ed20b412ecff9dd1a80e16411cadb9295e974f8984be85ce23cc2e5", func := "chronicle/chroniclelaw17.StreamSent", spec := "streamSent", unfollowed := true, recurses := true, apart := false }
def StreamSentSaid : Prop := streamSentRow.holds Try.pinned (OpenSpec.ofChange streamSentSpec)

/-- ITS FALSE NEIGHBOUR: 'it returns false'. Refute it at one input. -/
def streamSentWrong : ChangeSpec := { name := "streamSent", fn := fun _ => fun
  | [d1, d2, d3, d4, d5, d6] => { results := [.lit (.bool false)], args := [d1, d2, d3, d4, d5, d6] }
  | _ => none }
def StreamSentWrongFalsely : Prop := streamSentRow.holds Try.pinned (OpenSpec.ofChange streamSentWrong)

/- THE SECOND FORM. 'bulk': how many values and letters a reading holds, each counted each time it is reached (what is shared counts as often as it is met; a slice's spare places count too). A statement '..UptoSaid' is the law's where the arguments, and the package variables that the reading takes, are together of bulk at most 1048576: NARROWER than '..Said'. Prove '..Said' where nothing that the law and all that it calls make is longer than what came in: it says more and counts as full. Else prove '..UptoSaid'. A law counts once. -/
mutual
def uptoBulk {H : Type} : DataW H → Nat
  | .lit (.string bytes) => bytes.length + 1
  | .lit _ => 1
  | .nil => 1
  | .ptr d => uptoBulk d + 1
  | .slice elems spare => uptoBulkAll elems + uptoBulkAll spare + 1
  | .agg parts => uptoBulkAll parts + 1
  | .iface _ d => uptoBulk d + 1
  | .map entries => uptoBulkEntries entries + 1
  | .held _ => 1
def uptoBulkAll {H : Type} : List (DataW H) → Nat
  | [] => 0
  | d :: r => uptoBulk d + uptoBulkAll r
def uptoBulkEntries {H : Type} : List (Lit × DataW H) → Nat
  | [] => 0
  | x :: r => uptoBulkEntry x + uptoBulkEntries r
def uptoBulkEntry {H : Type} : Lit × DataW H → Nat
  | (.string bytes, d) => bytes.length + uptoBulk d + 1
  | (_, d) => uptoBulk d + 1
 end
def uptoSmall : (H : Type) → List (DataW H) → Bool := fun _ ds => decide (uptoBulkAll ds ≤ 1048576)
def OpenSpec.upto (s : _root_.Go.ChangeSpec) : _root_.Go.OpenSpec := { _root_.Go.OpenSpec.ofChange s with cond := some uptoSmall }

/-- 'chroniclelaw17.StreamSplits', WHERE WHAT IT READS IS OF BULK AT MOST 1048576: true; the input reads as it did. -/
def streamSplitsUptoRow : OpenClaim := { program := "ytkllgmhfjibajaa", sum := "60a6ea296ed20b412ecff9dd1a80e16411cadb9295e974f8984be85ce23cc2e5", func := "chronicle/chroniclelaw17.StreamSplits", spec := "streamSplits", unfollowed := true, recurses := true, apart := false, narrowed := true }
def StreamSplitsUptoSaid : Prop := streamSplitsUptoRow.holds Try.pinned (OpenSpec.upto streamSplitsSpec)

/-- 'chroniclelaw17.StreamFeeds', WHERE WHAT IT READS IS OF BULK AT MOST 1048576: true; the input reads as it did. -/
def streamFeedsUptoRow : OpenClaim := { program := "ytkllgmhfjibajaa", sum := "60a6ea296ed20b412ecff9dd1a80e16411cadb9295e974f8984be85ce23cc2e5", func := "chronicle/chroniclelaw17.StreamFeeds", spec := "streamFeeds", unfollowed := true, recurses := true, apart := false, narrowed := true }
def StreamFeedsUptoSaid : Prop := streamFeedsUptoRow.holds Try.pinned (OpenSpec.upto streamFeedsSpec)

/-- 'chroniclelaw17.StreamNone', WHERE WHAT IT READS IS OF BULK AT MOST 1048576: true; the input reads as it did. -/
def streamNoneUptoRow : OpenClaim := { program := "ytkllgmhfjibajaa", sum := "60a6ea296ed20b412ecff9dd1a80e16411cadb9295e974f8984be85ce23cc2e5", func := "chronicle/chroniclelaw17.StreamNone", spec := "streamNone", unfollowed := true, recurses := true, apart := false, narrowed := true }
def StreamNoneUptoSaid : Prop := streamNoneUptoRow.holds Try.pinned (OpenSpec.upto streamNoneSpec)

/-- 'chroniclelaw17.StreamCuts', WHERE WHAT IT READS IS OF BULK AT MOST 1048576: true; the input reads as it did. -/
def streamCutsUptoRow : OpenClaim := { program := "ytkllgmhfjibajaa", sum := "60a6ea296ed20b412ecff9dd1a80e16411cadb9295e974f8984be85ce23cc2e5", func := "chronicle/chroniclelaw17.StreamCuts", spec := "streamCuts", recurses := true, apart := false, narrowed := true }
def StreamCutsUptoSaid : Prop := streamCutsUptoRow.holds Try.pinned (OpenSpec.upto streamCutsSpec)

/-- 'chroniclelaw17.StreamHuge', WHERE WHAT IT READS IS OF BULK AT MOST 1048576: true; the input reads as it did. -/
def streamHugeUptoRow : OpenClaim := { program := "ytkllgmhfjibajaa", sum := "60a6ea296ed20b412ecff9dd1a80e16411cadb9295e974f8984be85ce23cc2e5", func := "chronicle/chroniclelaw17.StreamHuge", spec := "streamHuge", unfollowed := true, recurses := true, apart := false, narrowed := true }
def StreamHugeUptoSaid : Prop := streamHugeUptoRow.holds Try.pinned (OpenSpec.upto streamHugeSpec)

/-- 'chroniclelaw17.StreamChunks', WHERE WHAT IT READS IS OF BULK AT MOST 1048576: true; the input reads as it did. -/
def streamChunksUptoRow : OpenClaim := { program := "ytkllgmhfjibajaa", sum := "60a6ea296ed20b412ecff9dd1a80e16411cadb9295e974f8984be85ce23cc2e5", func := "chronicle/chroniclelaw17.StreamChunks", spec := "streamChunks", unfollowed := true, recurses := true, apart := false, narrowed := true }
def StreamChunksUptoSaid : Prop := streamChunksUptoRow.holds Try.pinned (OpenSpec.upto streamChunksSpec)

/-- 'chroniclelaw17.StreamSent', WHERE WHAT IT READS IS OF BULK AT MOST 1048576: true; the input reads as it did. -/
def streamSentUptoRow : OpenClaim := { program := "ytkllgmhfjibajaa", sum := "60a6ea296ed20b412ecff9dd1a80e16411cadb9295e974f8984be85ce23cc2e5", func := "chronicle/chroniclelaw17.StreamSent", spec := "streamSent", unfollowed := true, recurses := true, apart := false, narrowed := true }
def StreamSentUptoSaid : Prop := streamSentUptoRow.holds Try.pinned (OpenSpec.upto streamSentSpec)

end Rows
end Go.Proofs.Ytkllgmhfjibajaa
