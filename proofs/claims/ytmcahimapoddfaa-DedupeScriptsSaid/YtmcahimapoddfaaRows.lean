/-
  No cell of these rows narrows 'for every input' (looked for: loops, veiled, ifaces, maps, wideKeys, modest, calm, conditions, laid).
  DERIVED. THE GIVEN ROWS OF THIS SEAT. 6 by the template 'for every input the law returns true; each argument reads behind the call as it read before'; 0 by the template 'total and deterministic' (their statements: YtmcahimapoddfaaTotals.lean).
  GIVEN WITH THE SEED: the statements are not yours to turn. If you find one false, say at which input.
  Laid BY PROGRAM, IN A SANDBOX (cutbox-rows.mjs): the forced cells as the released guide's own fill.sh prints them over the translation ae37f9f091481b8b… (all of the seat's roots in one cut). By AI agents, Wed Nov 11 2026. No macro, syntax, notation, axiom, sorry.
-/
import Derived.Test.YtmcahimapoddfaaChecked
import GoSem.Claim
import GoSem.ClaimJoined
import GoSem.ClaimMapViews
import Derived.JoinedTies
import Derived.KernelRfl
namespace Go.Proofs.Ytmcahimapoddfaa
/- THE CELL 'sum', in the pinned program and in every row, IS THE sha256 OF THE DUMP (.gsa) THAT YtmcahimapoddfaaProg.lean LOADS. Nothing in Lean hashes anything: it is a label: what it is worth is what the hold of that sum in a sandbox is worth. -/
noncomputable def Try.pinned : Pinned := { name := "ytmcahimapoddfaa", sum := "ae37f9f091481b8b9d6e4b37e27c3d02aae42a74ec8d183f5648ab443ce7c31e", checked := Try.checked }
namespace Rows
def none {H : Type} : Left H := { results := [], args := [] }

/-- 'chroniclelaw9.DedupeFolds': WHATEVER THE INPUT: true; the input reads as it did. -/
def dedupeFoldsSpec : ChangeSpec := { name := "dedupeFolds", fn := fun _ => fun
  | [d1, d2] => { results := [.lit (.bool true)], args := [d1, d2] }
  | _ => none }
def dedupeFoldsRow : OpenClaim := { program := "ytmcahimapoddfaa", sum := "ae37f9f091481b8b9d6e4b37e27c3d02aae42a74ec8d183f5648ab443ce7c31e", func := "chronicle/chroniclelaw9.DedupeFolds", spec := "dedupeFolds", unfollowed := true, recurses := true, apart := false }
def DedupeFoldsSaid : Prop := dedupeFoldsRow.holds Try.pinned (OpenSpec.ofChange dedupeFoldsSpec)

/-- ITS FALSE NEIGHBOUR: 'it returns false'. Refute it at one input. -/
def dedupeFoldsWrong : ChangeSpec := { name := "dedupeFolds", fn := fun _ => fun
  | [d1, d2] => { results := [.lit (.bool false)], args := [d1, d2] }
  | _ => none }
def DedupeFoldsWrongFalsely : Prop := dedupeFoldsRow.holds Try.pinned (OpenSpec.ofChange dedupeFoldsWrong)

/-- 'chroniclelaw9.DedupeParts': WHATEVER THE INPUT: true; the input reads as it did. -/
def dedupePartsSpec : ChangeSpec := { name := "dedupeParts", fn := fun _ => fun
  | [d1, d2, d3, d4] => { results := [.lit (.bool true)], args := [d1, d2, d3, d4] }
  | _ => none }
def dedupePartsRow : OpenClaim := { program := "ytmcahimapoddfaa", sum := "ae37f9f091481b8b9d6e4b37e27c3d02aae42a74ec8d183f5648ab443ce7c31e", func := "chronicle/chroniclelaw9.DedupeParts", spec := "dedupeParts", unfollowed := true, recurses := true, apart := false }
def DedupePartsSaid : Prop := dedupePartsRow.holds Try.pinned (OpenSpec.ofChange dedupePartsSpec)

/-- ITS FALSE NEIGHBOUR: 'it returns false'. Refute it at one input. -/
def dedupePartsWrong : ChangeSpec := { name := "dedupeParts", fn := fun _ => fun
  | [d1, d2, d3, d4] => { results := [.lit (.bool false)], args := [d1, d2, d3, d4] }
  | _ => none }
def DedupePartsWrongFalsely : Prop := dedupePartsRow.holds Try.pinned (OpenSpec.ofChange dedupePartsWrong)

/-- 'chroniclelaw9.DedupeNil': WHATEVER THE INPUT: true; the input reads as it did. -/
def dedupeNilSpec : ChangeSpec := { name := "dedupeNil", fn := fun _ => fun
  | [d1, d2] => { results := [.lit (.bool true)], args := [d1, d2] }
  | _ => none }
def dedupeNilRow : OpenClaim := { program := "ytmcahimapoddfaa", sum := "ae37f9f091481b8b9d6e4b37e27c3d02aae42a74ec8d183f5648ab443ce7c31e", func := "chronicle/chroniclelaw9.DedupeNil", spec := "dedupeNil", unfollowed := true, recurses := true, apart := false }
def DedupeNilSaid : Prop := dedupeNilRow.holds Try.pinned (OpenSpec.ofChange dedupeNilSpec)

/-- ITS FALSE NEIGHBOUR: 'it returns false'. Refute it at one input. -/
def dedupeNilWrong : ChangeSpec := { name := "dedupeNil", fn := fun _ => fun
  | [d1, d2] => { results := [.lit (.bool false)], args := [d1, d2] }
  | _ => none }
def DedupeNilWrongFalsely : Prop := dedupeNilRow.holds Try.pinned (OpenSpec.ofChange dedupeNilWrong)

/-- 'chroniclelaw9.DedupeScripts': WHATEVER THE INPUT: true; the input reads as it did. -/
def dedupeScriptsSpec : ChangeSpec := { name := "dedupeScripts", fn := fun _ => fun
  | [d1, d2] => { results := [.lit (.bool true)], args := [d1, d2] }
  | _ => none }
def dedupeScriptsRow : OpenClaim := { program := "ytmcahimapoddfaa", sum := "ae37f9f091481b8b9d6e4b37e27c3d02aae42a74ec8d183f5648ab443ce7c31e", func := "chronicle/chroniclelaw9.DedupeScripts", spec := "dedupeScripts", unfollowed := true, recurses := true, apart := false }
def DedupeScriptsSaid : Prop := dedupeScriptsRow.holds Try.pinned (OpenSpec.ofChange dedupeScriptsSpec)

/-- ITS FALSE NEIGHBOUR: 'it returns false'. Refute it at one input. -/
def dedupeScriptsWrong : ChangeSpec := { name := "dedupeScripts", fn := fun _ => fun
  | [d1, d2] => { results := [.lit (.bool false)], args := [d1, d2] }
  | _ => none }
def DedupeScriptsWrongFalsely : Prop := dedupeScriptsRow.holds Try.pinned (OpenSpec.ofChange dedupeScriptsWrong)

/-- 'chroniclelaw9.DedupeApart': WHATEVER THE INPUT: true; the input reads as it did. -/
def dedupeApartSpec : ChangeSpec := { name := "dedupeApart", fn := fun _ => fun
  | [d1, d2, d3] => { results := [.lit (.bool true)], args := [d1, d2, d3] }
  | _ => none }
def dedupeApartRow : OpenClaim := { program := "ytmcahimapoddfaa", sum := "ae37f9f091481b8b9d6e4b37e27c3d02aae42a74ec8d183f5648ab443ce7c31e", func := "chronicle/chroniclelaw9.DedupeApart", spec := "dedupeApart", unfollowed := true, recurses := true, apart := false }
def DedupeApartSaid : Prop := dedupeApartRow.holds Try.pinned (OpenSpec.ofChange dedupeApartSpec)

/-- ITS FALSE NEIGHBOUR: 'it returns false'. Refute it at one input. -/
def dedupeApartWrong : ChangeSpec := { name := "dedupeApart", fn := fun _ => fun
  | [d1, d2, d3] => { results := [.lit (.bool false)], args := [d1, d2, d3] }
  | _ => none }
def DedupeApartWrongFalsely : Prop := dedupeApartRow.holds Try.pinned (OpenSpec.ofChange dedupeApartWrong)

/-- 'chroniclelaw9.DedupeOnce': WHATEVER THE INPUT: true; the input reads as it did. -/
def dedupeOnceSpec : ChangeSpec := { name := "dedupeOnce", fn := fun _ => fun
  | [d1, d2] => { results := [.lit (.bool true)], args := [d1, d2] }
  | _ => none }
def dedupeOnceRow : OpenClaim := { program := "ytmcahimapoddfaa", sum := "ae37f9f091481b8b9d6e4b37e27c3d02aae42a74ec8d183f5648ab443ce7c31e", func := "chronicle/chroniclelaw9.DedupeOnce", spec := "dedupeOnce", unfollowed := true, recurses := true, apart := false }
def DedupeOnceSaid : Prop := dedupeOnceRow.holds Try.pinned (OpenSpec.ofChange dedupeOnceSpec)

/-- ITS FALSE NEIGHBOUR: 'it returns false'. Refute it at one input. -/
def dedupeOnceWrong : ChangeSpec := { name := "dedupeOnce", fn := fun _ => fun
  | [d1, d2] => { results := [.lit (.bool false)], args := [d1, d2] }
  | _ => none }
def DedupeOnceWrongFalsely : Prop := dedupeOnceRow.holds Try.pinned (OpenSpec.ofChange dedupeOnceWrong)

/- THE SECOND FORM. 'bulk': how many values and letters a reading holds, each counted each time it is reached (what is shared counts as often as it is met; a slice's spare places count too). A statement '..UptoSaid' is the law's where the arguments, and the package variables that the reading takes, are together of bulk at most 1048576: NARROWER than '..Said'. Prove '..Said' where nothing that the law and all that it calls make is longer than what came in: it says more and counts as full. Else prove '..UptoSaid'. A law counts once. -/
mutual
def uptoBulk {H : Type} : DataW H → Nat
  | .lit (.string bytes) => bytes.length + 1
  | .lit _ => 1
  | .nil => 1
  | .ptr d => uptoBulk d + 1
  | .slice elems spare => uptoBulkAll elems + uptoBulkAll spare + 1
  | .agg parts => uptoBulkAll parts + 1
  | .iface _ d => uptoBulk d + 1
  | .map entries => uptoBulkEntries entries + 1
  | .held _ => 1
def uptoBulkAll {H : Type} : List (DataW H) → Nat
  | [] => 0
  | d :: r => uptoBulk d + uptoBulkAll r
def uptoBulkEntries {H : Type} : List (Lit × DataW H) → Nat
  | [] => 0
  | x :: r => uptoBulkEntry x + uptoBulkEntries r
def uptoBulkEntry {H : Type} : Lit × DataW H → Nat
  | (.string bytes, d) => bytes.length + uptoBulk d + 1
  | (_, d) => uptoBulk d + 1
 end
def uptoSmall : (H : Type) → List (DataW H) → Bool := fun _ ds => decide (uptoBulkAll ds ≤ 1048576)
def OpenSpec.upto (s : _root_.Go.ChangeSpec) : _root_.Go.OpenSpec := { _root_.Go.OpenSpec.ofChange s with cond := some uptoSmall }

/-- 'chroniclelaw9.DedupeFolds', WHERE WHAT IT READS IS OF BULK AT MOST 1048576: true; the input reads as it did. -/
def dedupeFoldsUptoRow : OpenClaim := { program := "ytmcahimapoddfaa", sum := "ae37f9f091481b8b9d6e4b37e27c3d02aae42a74ec8d183f5648ab443ce7c31e", func := "chronicle/chroniclelaw9.DedupeFolds", spec := "dedupeFolds", unfollowed := true, recurses := true, apart := false, narrowed := true }
def DedupeFoldsUptoSaid : Prop := dedupeFoldsUptoRow.holds Try.pinned (OpenSpec.upto dedupeFoldsSpec)

/-- 'chroniclelaw9.DedupeParts', WHERE WHAT IT READS IS OF BULK AT MOST 1048576: true; the input reads as it did. -/
def dedupePartsUptoRow : OpenClaim := { program := "ytmcahimapoddfaa", sum := "ae37f9f091481b8b9d6e4b37e27c3d02aae42a74ec8d183f5648ab443ce7c31e", func := "chronicle/chroniclelaw9.DedupeParts", spec := "dedupeParts", unfollowed := true, recurses := true, apart := false, narrowed := true }
def DedupePartsUptoSaid : Prop := dedupePartsUptoRow.holds Try.pinned (OpenSpec.upto dedupePartsSpec)

/-- 'chroniclelaw9.DedupeNil', WHERE WHAT IT READS IS OF BULK AT MOST 1048576: true; the input reads as it did. -/
def dedupeNilUptoRow : OpenClaim := { program := "ytmcahimapoddfaa", sum := "ae37f9f091481b8b9d6e4b37e27c3d02aae42a74ec8d183f5648ab443ce7c31e", func := "chronicle/chroniclelaw9.DedupeNil", spec := "dedupeNil", unfollowed := true, recurses := true, apart := false, narrowed := true }
def DedupeNilUptoSaid : Prop := dedupeNilUptoRow.holds Try.pinned (OpenSpec.upto dedupeNilSpec)

/-- 'chroniclelaw9.DedupeScripts', WHERE WHAT IT READS IS OF BULK AT MOST 1048576: true; the input reads as it did. -/
def dedupeScriptsUptoRow : OpenClaim := { program := "ytmcahimapoddfaa", sum := "ae37f9f091481b8b9d6e4b37e27c3d02aae42a74ec8d183f5648ab443ce7c31e", func := "chronicle/chroniclelaw9.DedupeScripts", spec := "dedupeScripts", unfollowed := true, recurses := true, apart := false, narrowed := true }
def DedupeScriptsUptoSaid : Prop := dedupeScriptsUptoRow.holds Try.pinned (OpenSpec.upto dedupeScriptsSpec)

/-- 'chroniclelaw9.DedupeApart', WHERE WHAT IT READS IS OF BULK AT MOST 1048576: true; the input reads as it did. -/
def dedupeApartUptoRow : OpenClaim := { program := "ytmcahimapoddfaa", sum := "ae37f9f091481b8b9d6e4b37e27c3d02aae42a74ec8d183f5648ab443ce7c31e", func := "chronicle/chroniclelaw9.DedupeApart", spec := "dedupeApart", unfollowed := true, recurses := true, apart := false, narrowed := true }
def DedupeApartUptoSaid : Prop := dedupeApartUptoRow.holds Try.pinned (OpenSpec.upto dedupeApartSpec)

/-- 'chroniclelaw9.DedupeOnce', WHERE WHAT IT READS IS OF BULK AT MOST 1048576: true; the input reads as it did. -/
def dedupeOnceUptoRow : OpenClaim := { program := "ytmcahimapoddfaa", sum := "ae37f9f091481b8b9d6e4b37e27c3d02aae42a74ec8d183f5648ab443ce7c31e", func := "chronicle/chroniclelaw9.DedupeOnce", spec := "dedupeOnce", unfollowed := true, recurses := true, apart := false, narrowed := true }
def DedupeOnceUptoSaid : Prop := dedupeOnceUptoRow.holds Try.pinned (OpenSpec.upto dedupeOnceSpec)

end Rows
end Go.Proofs.Ytmcahimapoddfaa
