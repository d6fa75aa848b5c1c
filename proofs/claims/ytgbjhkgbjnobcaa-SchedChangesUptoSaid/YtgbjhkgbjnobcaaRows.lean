/-
  No cell of these rows narrows 'for every input' (looked for: loops, veiled, ifaces, maps, wideKeys, modest, calm, conditions, laid).
  DERIVED. THE GIVEN ROWS OF THIS SEAT. 7 by the template 'for every input the law returns true; each argument reads behind the call as it read before'; 0 by the template 'total and deterministic' (their statements: YtgbjhkgbjnobcaaTotals.lean).
  GIVEN WITH THE SEED: the statements are not yours to turn. If you find one false, say at which input.
  Laid BY PROGRAM, IN A SANDBOX (cutbox-rows.mjs): the forced cells as the released guide's own fill.sh prints them over the translation 4883c5207b6da810… (all of the seat's roots in one cut). By AI agents, Wed Nov 11 2026. No macro, syntax, notation, axiom, sorry.
-/
import Derived.Test.YtgbjhkgbjnobcaaChecked
import GoSem.Claim
import GoSem.ClaimJoined
import GoSem.ClaimMapViews
import Derived.JoinedTies
import Derived.KernelRfl
namespace Go.Proofs.Ytgbjhkgbjnobcaa
/- THE CELL 'sum', in the pinned program and in every row, IS THE sha256 OF THE DUMP (.gsa) THAT YtgbjhkgbjnobcaaProg.lean LOADS. Nothing in Lean hashes anything: it is a label: what it is worth is what the hold of that sum in a sandbox is worth. -/
noncomputable def Try.pinned : Pinned := { name := "ytgbjhkgbjnobcaa", sum := "4883c5207b6da8100ed3b40f52aee0a9a96a54b51402c08d4f2f7bc456bb96a2", checked := Try.checked }
namespace Rows
def none {H : Type} : Left H := { results := [], args := [] }

/-- 'chroniclelaw19.SchedClass': WHATEVER THE INPUT: true; the input reads as it did. -/
def schedClassSpec : ChangeSpec := { name := "schedClass", fn := fun _ => fun
  | [d1, d2, d3] => { results := [.lit (.bool true)], args := [d1, d2, d3] }
  | _ => none }
def schedClassRow : OpenClaim := { program := "ytgbjhkgbjnobcaa", sum := "4883c5207b6da8100ed3b40f52aee0a9a96a54b51402c08d4f2f7bc456bb96a2", func := "chronicle/chroniclelaw19.SchedClass", spec := "schedClass", apart := false }
def SchedClassSaid : Prop := schedClassRow.holds Try.pinned (OpenSpec.ofChange schedClassSpec)

/-- ITS FALSE NEIGHBOUR: 'it returns false'. Refute it at one input. -/
def schedClassWrong : ChangeSpec := { name := "schedClass", fn := fun _ => fun
  | [d1, d2, d3] => { results := [.lit (.bool false)], args := [d1, d2, d3] }
  | _ => none }
def SchedClassWrongFalsely : Prop := schedClassRow.holds Try.pinned (OpenSpec.ofChange schedClassWrong)

/-- 'chroniclelaw19.SchedPatience': WHATEVER THE INPUT: true; the input reads as it did. -/
def schedPatienceSpec : ChangeSpec := { name := "schedPatience", fn := fun _ => fun
  | [d1, d2] => { results := [.lit (.bool true)], args := [d1, d2] }
  | _ => none }
def schedPatienceRow : OpenClaim := { program := "ytgbjhkgbjnobcaa", sum := "4883c5207b6da8100ed3b40f52aee0a9a96a54b51402c08d4f2f7bc456bb96a2", func := "chronicle/chroniclelaw19.SchedPatience", spec := "schedPatience", apart := false }
def SchedPatienceSaid : Prop := schedPatienceRow.holds Try.pinned (OpenSpec.ofChange schedPatienceSpec)

/-- ITS FALSE NEIGHBOUR: 'it returns false'. Refute it at one input. -/
def schedPatienceWrong : ChangeSpec := { name := "schedPatience", fn := fun _ => fun
  | [d1, d2] => { results := [.lit (.bool false)], args := [d1, d2] }
  | _ => none }
def SchedPatienceWrongFalsely : Prop := schedPatienceRow.holds Try.pinned (OpenSpec.ofChange schedPatienceWrong)

/-- 'chroniclelaw19.SchedNext': WHATEVER THE INPUT: true; the input reads as it did. -/
def schedNextSpec : ChangeSpec := { name := "schedNext", fn := fun _ => fun
  | [d] => { results := [.lit (.bool true)], args := [d] }
  | _ => none }
def schedNextRow : OpenClaim := { program := "ytgbjhkgbjnobcaa", sum := "4883c5207b6da8100ed3b40f52aee0a9a96a54b51402c08d4f2f7bc456bb96a2", func := "chronicle/chroniclelaw19.SchedNext", spec := "schedNext", unfollowed := true, recurses := true, apart := false }
def SchedNextSaid : Prop := schedNextRow.holds Try.pinned (OpenSpec.ofChange schedNextSpec)

/-- ITS FALSE NEIGHBOUR: 'it returns false'. Refute it at one input. -/
def schedNextWrong : ChangeSpec := { name := "schedNext", fn := fun _ => fun
  | [d] => { results := [.lit (.bool false)], args := [d] }
  | _ => none }
def SchedNextWrongFalsely : Prop := schedNextRow.holds Try.pinned (OpenSpec.ofChange schedNextWrong)

/-- 'chroniclelaw19.SchedChanges': WHATEVER THE INPUT: true; the input reads as it did. -/
def schedChangesSpec : ChangeSpec := { name := "schedChanges", fn := fun _ => fun
  | [d1, d2, d3] => { results := [.lit (.bool true)], args := [d1, d2, d3] }
  | _ => none }
def schedChangesRow : OpenClaim := { program := "ytgbjhkgbjnobcaa", sum := "4883c5207b6da8100ed3b40f52aee0a9a96a54b51402c08d4f2f7bc456bb96a2", func := "chronicle/chroniclelaw19.SchedChanges", spec := "schedChanges", inPlace := ["slices.overlaps[chronicle/api.Queue]"], unfollowed := true, recurses := true, apart := false }
def SchedChangesSaid : Prop := schedChangesRow.holds Try.pinned (OpenSpec.ofChange schedChangesSpec)

/-- ITS FALSE NEIGHBOUR: 'it returns false'. Refute it at one input. -/
def schedChangesWrong : ChangeSpec := { name := "schedChanges", fn := fun _ => fun
  | [d1, d2, d3] => { results := [.lit (.bool false)], args := [d1, d2, d3] }
  | _ => none }
def SchedChangesWrongFalsely : Prop := schedChangesRow.holds Try.pinned (OpenSpec.ofChange schedChangesWrong)

/-- 'chroniclelaw19.SchedFair': WHATEVER THE INPUT: true; the input reads as it did. -/
def schedFairSpec : ChangeSpec := { name := "schedFair", fn := fun _ => fun
  | [d1, d2, d3, d4] => { results := [.lit (.bool true)], args := [d1, d2, d3, d4] }
  | _ => none }
def schedFairRow : OpenClaim := { program := "ytgbjhkgbjnobcaa", sum := "4883c5207b6da8100ed3b40f52aee0a9a96a54b51402c08d4f2f7bc456bb96a2", func := "chronicle/chroniclelaw19.SchedFair", spec := "schedFair", inPlace := ["slices.overlaps[chronicle/api.Queue]"], unfollowed := true, recurses := true, apart := false }
def SchedFairSaid : Prop := schedFairRow.holds Try.pinned (OpenSpec.ofChange schedFairSpec)

/-- ITS FALSE NEIGHBOUR: 'it returns false'. Refute it at one input. -/
def schedFairWrong : ChangeSpec := { name := "schedFair", fn := fun _ => fun
  | [d1, d2, d3, d4] => { results := [.lit (.bool false)], args := [d1, d2, d3, d4] }
  | _ => none }
def SchedFairWrongFalsely : Prop := schedFairRow.holds Try.pinned (OpenSpec.ofChange schedFairWrong)

/-- 'chroniclelaw19.SchedServes': WHATEVER THE INPUT: true; the input reads as it did. -/
def schedServesSpec : ChangeSpec := { name := "schedServes", fn := fun _ => fun
  | [d1, d2] => { results := [.lit (.bool true)], args := [d1, d2] }
  | _ => none }
def schedServesRow : OpenClaim := { program := "ytgbjhkgbjnobcaa", sum := "4883c5207b6da8100ed3b40f52aee0a9a96a54b51402c08d4f2f7bc456bb96a2", func := "chronicle/chroniclelaw19.SchedServes", spec := "schedServes", inPlace := ["slices.overlaps[chronicle/api.Queue]"], unfollowed := true, recurses := true, apart := false }
def SchedServesSaid : Prop := schedServesRow.holds Try.pinned (OpenSpec.ofChange schedServesSpec)

/-- ITS FALSE NEIGHBOUR: 'it returns false'. Refute it at one input. -/
def schedServesWrong : ChangeSpec := { name := "schedServes", fn := fun _ => fun
  | [d1, d2] => { results := [.lit (.bool false)], args := [d1, d2] }
  | _ => none }
def SchedServesWrongFalsely : Prop := schedServesRow.holds Try.pinned (OpenSpec.ofChange schedServesWrong)

/-- 'chroniclelaw19.SchedTurn': WHATEVER THE INPUT: true; the input reads as it did. -/
def schedTurnSpec : ChangeSpec := { name := "schedTurn", fn := fun _ => fun
  | [d1, d2, d3, d4] => { results := [.lit (.bool true)], args := [d1, d2, d3, d4] }
  | _ => none }
def schedTurnRow : OpenClaim := { program := "ytgbjhkgbjnobcaa", sum := "4883c5207b6da8100ed3b40f52aee0a9a96a54b51402c08d4f2f7bc456bb96a2", func := "chronicle/chroniclelaw19.SchedTurn", spec := "schedTurn", inPlace := ["slices.overlaps[chronicle/api.Queue]"], unfollowed := true, recurses := true, apart := false }
def SchedTurnSaid : Prop := schedTurnRow.holds Try.pinned (OpenSpec.ofChange schedTurnSpec)

/-- ITS FALSE NEIGHBOUR: 'it returns false'. Refute it at one input. -/
def schedTurnWrong : ChangeSpec := { name := "schedTurn", fn := fun _ => fun
  | [d1, d2, d3, d4] => { results := [.lit (.bool false)], args := [d1, d2, d3, d4] }
  | _ => none }
def SchedTurnWrongFalsely : Prop := schedTurnRow.holds Try.pinned (OpenSpec.ofChange schedTurnWrong)

/- THE SECOND FORM. 'bulk': how many values and letters a reading holds, each counted each time it is reached (what is shared counts as often as it is met; a slice's spare places count too). A statement '..UptoSaid' is the law's where the arguments, and the package variables that the reading takes, are together of bulk at most 1048576: NARROWER than '..Said'. Prove '..Said' where nothing that the law and all that it calls make is longer than what came in: it says more and counts as full. Else prove '..UptoSaid'. A law counts once. -/
mutual
def uptoBulk {H : Type} : DataW H → Nat
  | .lit (.string bytes) => bytes.length + 1
  | .lit _ => 1
  | .nil => 1
  | .ptr d => uptoBulk d + 1
  | .slice elems spare => uptoBulkAll elems + uptoBulkAll spare + 1
  | .agg parts => uptoBulkAll parts + 1
  | .iface _ d => uptoBulk d + 1
  | .map entries => uptoBulkEntries entries + 1
  | .held _ => 1
def uptoBulkAll {H : Type} : List (DataW H) → Nat
  | [] => 0
  | d :: r => uptoBulk d + uptoBulkAll r
def uptoBulkEntries {H : Type} : List (Lit × DataW H) → Nat
  | [] => 0
  | x :: r => uptoBulkEntry x + uptoBulkEntries r
def uptoBulkEntry {H : Type} : Lit × DataW H → Nat
  | (.string bytes, d) => bytes.length + uptoBulk d + 1
  | (_, d) => uptoBulk d + 1
 end
def uptoSmall : (H : Type) → List (DataW H) → Bool := fun _ ds => decide (uptoBulkAll ds ≤ 1048576)
def OpenSpec.upto (s : _root_.Go.ChangeSpec) : _root_.Go.OpenSpec := { _root_.Go.OpenSpec.ofChange s with cond := some uptoSmall }

/-- 'chroniclelaw19.SchedClass', WHERE WHAT IT READS IS OF BULK AT MOST 1048576: true; the input reads as it did. -/
def schedClassUptoRow : OpenClaim := { program := "ytgbjhkgbjnobcaa", sum := "4883c5207b6da8100ed3b40f52aee0a9a96a54b51402c08d4f2f7bc456bb96a2", func := "chronicle/chroniclelaw19.SchedClass", spec := "schedClass", apart := false, narrowed := true }
def SchedClassUptoSaid : Prop := schedClassUptoRow.holds Try.pinned (OpenSpec.upto schedClassSpec)

/-- 'chroniclelaw19.SchedPatience', WHERE WHAT IT READS IS OF BULK AT MOST 1048576: true; the input reads as it did. -/
def schedPatienceUptoRow : OpenClaim := { program := "ytgbjhkgbjnobcaa", sum := "4883c5207b6da8100ed3b40f52aee0a9a96a54b51402c08d4f2f7bc456bb96a2", func := "chronicle/chroniclelaw19.SchedPatience", spec := "schedPatience", apart := false, narrowed := true }
def SchedPatienceUptoSaid : Prop := schedPatienceUptoRow.holds Try.pinned (OpenSpec.upto schedPatienceSpec)

/-- 'chroniclelaw19.SchedNext', WHERE WHAT IT READS IS OF BULK AT MOST 1048576: true; the input reads as it did. -/
def schedNextUptoRow : OpenClaim := { program := "ytgbjhkgbjnobcaa", sum := "4883c5207b6da8100ed3b40f52aee0a9a96a54b51402c08d4f2f7bc456bb96a2", func := "chronicle/chroniclelaw19.SchedNext", spec := "schedNext", unfollowed := true, recurses := true, apart := false, narrowed := true }
def SchedNextUptoSaid : Prop := schedNextUptoRow.holds Try.pinned (OpenSpec.upto schedNextSpec)

/-- 'chroniclelaw19.SchedChanges', WHERE WHAT IT READS IS OF BULK AT MOST 1048576: true; the input reads as it did. -/
def schedChangesUptoRow : OpenClaim := { program := "ytgbjhkgbjnobcaa", sum := "4883c5207b6da8100ed3b40f52aee0a9a96a54b51402c08d4f2f7bc456bb96a2", func := "chronicle/chroniclelaw19.SchedChanges", spec := "schedChanges", inPlace := ["slices.overlaps[chronicle/api.Queue]"], unfollowed := true, recurses := true, apart := false, narrowed := true }
def SchedChangesUptoSaid : Prop := schedChangesUptoRow.holds Try.pinned (OpenSpec.upto schedChangesSpec)

/-- 'chroniclelaw19.SchedFair', WHERE WHAT IT READS IS OF BULK AT MOST 1048576: true; the input reads as it did. -/
def schedFairUptoRow : OpenClaim := { program := "ytgbjhkgbjnobcaa", sum := "4883c5207b6da8100ed3b40f52aee0a9a96a54b51402c08d4f2f7bc456bb96a2", func := "chronicle/chroniclelaw19.SchedFair", spec := "schedFair", inPlace := ["slices.overlaps[chronicle/api.Queue]"], unfollowed := true, recurses := true, apart := false, narrowed := true }
def SchedFairUptoSaid : Prop := schedFairUptoRow.holds Try.pinned (OpenSpec.upto schedFairSpec)

/-- 'chroniclelaw19.SchedServes', WHERE WHAT IT READS IS OF BULK AT MOST 1048576: true; the input reads as it did. -/
def schedServesUptoRow : OpenClaim := { program := "ytgbjhkgbjnobcaa", sum := "4883c5207b6da8100ed3b40f52aee0a9a96a54b51402c08d4f2f7bc456bb96a2", func := "chronicle/chroniclelaw19.SchedServes", spec := "schedServes", inPlace := ["slices.overlaps[chronicle/api.Queue]"], unfollowed := true, recurses := true, apart := false, narrowed := true }
def SchedServesUptoSaid : Prop := schedServesUptoRow.holds Try.pinned (OpenSpec.upto schedServesSpec)

/-- 'chroniclelaw19.SchedTurn', WHERE WHAT IT READS IS OF BULK AT MOST 1048576: true; the input reads as it did. -/
def schedTurnUptoRow : OpenClaim := { program := "ytgbjhkgbjnobcaa", sum := "4883c5207b6da8100ed3b40f52aee0a9a96a54b51402c08d4f2f7bc456bb96a2", func := "chronicle/chroniclelaw19.SchedTurn", spec := "schedTurn", inPlace := ["slices.overlaps[chronicle/api.Queue]"], unfollowed := true, recurses := true, apart := false, narrowed := true }
def SchedTurnUptoSaid : Prop := schedTurnUptoRow.holds Try.pinned (OpenSpec.upto schedTurnSpec)

end Rows
end Go.Proofs.Ytgbjhkgbjnobcaa
