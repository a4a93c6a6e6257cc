/-
  No cell of these rows narrows 'for every input' (looked for: loops, veiled, ifaces, maps, wideKeys, modest, calm, conditions, laid).
  DERIVED. THE GIVEN ROWS OF THIS SEAT. 5 by the template 'for every input the law returns true; each argument reads behind the call as it read before'; 0 by the template 'total and deterministic' (their statements: YtcebmbnofejlhaaTotals.lean).
  GIVEN WITH THE SEED: the statements are not yours to turn. If you find one false, say at which input.
  Laid BY PROGRAM, IN A SANDBOX (cutbox-rows.mjs): the forced cells as the released guide's own fill.sh prints them over the translation f3a3318b775ccb58… (all of the seat's roots in one cut). By AI agents, Wed Nov 11 2026. No macro, syntax, notation, axiom, sorry.
-/
import Derived.Test.YtcebmbnofejlhaaChecked
import GoSem.Claim
import GoSem.ClaimJoined
import GoSem.ClaimMapViews
import Derived.JoinedTies
import Derived.KernelRfl
namespace Go.Proofs.Ytcebmbnofejlhaa
/- THE CELL 'sum', in the pinned program and in every row, IS THE sha256 OF THE DUMP (.gsa) THAT YtcebmbnofejlhaaProg.lean LOADS. Nothing in Lean hashes anything: it is a label: what it is worth is what the hold of that sum in a sandbox is worth. -/
noncomputable def Try.pinned : Pinned := { name := "ytcebmbnofejlhaa", sum := "f3a3318b775ccb583b819fea8fc8248e44657b453d686f90604f274aa697a47e", checked := Try.checked }
namespace Rows
def none {H : Type} : Left H := { results := [], args := [] }

/-- 'millracelaw06.GatherCounts': WHATEVER THE INPUT: true; the input reads as it did. -/
def gatherCountsSpec : ChangeSpec := { name := "gatherCounts", fn := fun _ => fun
  | [d1, d2, d3] => { results := [.lit (.bool true)], args := [d1, d2, d3] }
  | _ => none }
def gatherCountsRow : OpenClaim := { program := "ytcebmbnofejlhaa", sum := "f3a3318b775ccb583b819fea8fc8248e44657b453d686f90604f274aa697a47e", func := "millrace/millracelaw06.GatherCounts", spec := "gatherCounts", unfollowed := true, recurses := true, apart := false }
def GatherCountsSaid : Prop := gatherCountsRow.holds Try.pinned (OpenSpec.ofChange gatherCountsSpec)

/-- ITS FALSE NEIGHBOUR: 'it returns false'. Refute it at one input. -/
def gatherCountsWrong : ChangeSpec := { name := "gatherCounts", fn := fun _ => fun
  | [d1, d2, d3] => { results := [.lit (.bool false)], args := [d1, d2, d3] }
  | _ => none }
def GatherCountsWrongFalsely : Prop := gatherCountsRow.holds Try.pinned (OpenSpec.ofChange gatherCountsWrong)

/-- 'millracelaw06.GatherHolds': WHATEVER THE INPUT: true; the input reads as it did. -/
def gatherHoldsSpec : ChangeSpec := { name := "gatherHolds", fn := fun _ => fun
  | [d1, d2] => { results := [.lit (.bool true)], args := [d1, d2] }
  | _ => none }
def gatherHoldsRow : OpenClaim := { program := "ytcebmbnofejlhaa", sum := "f3a3318b775ccb583b819fea8fc8248e44657b453d686f90604f274aa697a47e", func := "millrace/millracelaw06.GatherHolds", spec := "gatherHolds", unfollowed := true, recurses := true, apart := false }
def GatherHoldsSaid : Prop := gatherHoldsRow.holds Try.pinned (OpenSpec.ofChange gatherHoldsSpec)

/-- ITS FALSE NEIGHBOUR: 'it returns false'. Refute it at one input. -/
def gatherHoldsWrong : ChangeSpec := { name := "gatherHolds", fn := fun _ => fun
  | [d1, d2] => { results := [.lit (.bool false)], args := [d1, d2] }
  | _ => none }
def GatherHoldsWrongFalsely : Prop := gatherHoldsRow.holds Try.pinned (OpenSpec.ofChange gatherHoldsWrong)

/-- 'millracelaw06.GatherBatches': WHATEVER THE INPUT: true; the input reads as it did. -/
def gatherBatchesSpec : ChangeSpec := { name := "gatherBatches", fn := fun _ => fun
  | [d] => { results := [.lit (.bool true)], args := [d] }
  | _ => none }
def gatherBatchesRow : OpenClaim := { program := "ytcebmbnofejlhaa", sum := "f3a3318b775ccb583b819fea8fc8248e44657b453d686f90604f274aa697a47e", func := "millrace/millracelaw06.GatherBatches", spec := "gatherBatches", unfollowed := true, recurses := true, apart := false }
def GatherBatchesSaid : Prop := gatherBatchesRow.holds Try.pinned (OpenSpec.ofChange gatherBatchesSpec)

/-- ITS FALSE NEIGHBOUR: 'it returns false'. Refute it at one input. -/
def gatherBatchesWrong : ChangeSpec := { name := "gatherBatches", fn := fun _ => fun
  | [d] => { results := [.lit (.bool false)], args := [d] }
  | _ => none }
def GatherBatchesWrongFalsely : Prop := gatherBatchesRow.holds Try.pinned (OpenSpec.ofChange gatherBatchesWrong)

/-- 'millracelaw06.GatherQueues': WHATEVER THE INPUT: true; the input reads as it did. -/
def gatherQueuesSpec : ChangeSpec := { name := "gatherQueues", fn := fun _ => fun
  | [d1, d2] => { results := [.lit (.bool true)], args := [d1, d2] }
  | _ => none }
def gatherQueuesRow : OpenClaim := { program := "ytcebmbnofejlhaa", sum := "f3a3318b775ccb583b819fea8fc8248e44657b453d686f90604f274aa697a47e", func := "millrace/millracelaw06.GatherQueues", spec := "gatherQueues", unfollowed := true, recurses := true, apart := false }
def GatherQueuesSaid : Prop := gatherQueuesRow.holds Try.pinned (OpenSpec.ofChange gatherQueuesSpec)

/-- ITS FALSE NEIGHBOUR: 'it returns false'. Refute it at one input. -/
def gatherQueuesWrong : ChangeSpec := { name := "gatherQueues", fn := fun _ => fun
  | [d1, d2] => { results := [.lit (.bool false)], args := [d1, d2] }
  | _ => none }
def GatherQueuesWrongFalsely : Prop := gatherQueuesRow.holds Try.pinned (OpenSpec.ofChange gatherQueuesWrong)

/-- 'millracelaw06.GatherTakes': WHATEVER THE INPUT: true; the input reads as it did. -/
def gatherTakesSpec : ChangeSpec := { name := "gatherTakes", fn := fun _ => fun
  | [d1, d2] => { results := [.lit (.bool true)], args := [d1, d2] }
  | _ => none }
def gatherTakesRow : OpenClaim := { program := "ytcebmbnofejlhaa", sum := "f3a3318b775ccb583b819fea8fc8248e44657b453d686f90604f274aa697a47e", func := "millrace/millracelaw06.GatherTakes", spec := "gatherTakes", unfollowed := true, recurses := true, apart := false }
def GatherTakesSaid : Prop := gatherTakesRow.holds Try.pinned (OpenSpec.ofChange gatherTakesSpec)

/-- ITS FALSE NEIGHBOUR: 'it returns false'. Refute it at one input. -/
def gatherTakesWrong : ChangeSpec := { name := "gatherTakes", fn := fun _ => fun
  | [d1, d2] => { results := [.lit (.bool false)], args := [d1, d2] }
  | _ => none }
def GatherTakesWrongFalsely : Prop := gatherTakesRow.holds Try.pinned (OpenSpec.ofChange gatherTakesWrong)

/- THE SECOND FORM. 'bulk': how many values and letters a reading holds, each counted each time it is reached (what is shared counts as often as it is met; a slice's spare places count too). A statement '..UptoSaid' is the law's where the arguments, and the package variables that the reading takes, are together of bulk at most 1048576: NARROWER than '..Said'. Prove '..Said' where nothing that the law and all that it calls make is longer than what came in: it says more and counts as full. Else prove '..UptoSaid'. A law counts once. -/
mutual
def uptoBulk {H : Type} : DataW H → Nat
  | .lit (.string bytes) => bytes.length + 1
  | .lit _ => 1
  | .nil => 1
  | .ptr d => uptoBulk d + 1
  | .slice elems spare => uptoBulkAll elems + uptoBulkAll spare + 1
  | .agg parts => uptoBulkAll parts + 1
  | .iface _ d => uptoBulk d + 1
  | .map entries => uptoBulkEntries entries + 1
  | .held _ => 1
def uptoBulkAll {H : Type} : List (DataW H) → Nat
  | [] => 0
  | d :: r => uptoBulk d + uptoBulkAll r
def uptoBulkEntries {H : Type} : List (Lit × DataW H) → Nat
  | [] => 0
  | x :: r => uptoBulkEntry x + uptoBulkEntries r
def uptoBulkEntry {H : Type} : Lit × DataW H → Nat
  | (.string bytes, d) => bytes.length + uptoBulk d + 1
  | (_, d) => uptoBulk d + 1
 end
def uptoSmall : (H : Type) → List (DataW H) → Bool := fun _ ds => decide (uptoBulkAll ds ≤ 1048576)
def OpenSpec.upto (s : _root_.Go.ChangeSpec) : _root_.Go.OpenSpec := { _root_.Go.OpenSpec.ofChange s with cond := some uptoSmall }

/-- 'millracelaw06.GatherCounts', WHERE WHAT IT READS IS OF BULK AT MOST 1048576: true; the input reads as it did. -/
def gatherCountsUptoRow : OpenClaim := { program := "ytcebmbnofejlhaa", sum := "f3a3318b775ccb583b819fea8fc8248e44657b453d686f90604f274aa697a47e", func := "millrace/millracelaw06.GatherCounts", spec := "gatherCounts", unfollowed := true, recurses := true, apart := false, narrowed := true }
def GatherCountsUptoSaid : Prop := gatherCountsUptoRow.holds Try.pinned (OpenSpec.upto gatherCountsSpec)

/-- 'millracelaw06.GatherHolds', WHERE WHAT IT READS IS OF BULK AT MOST 1048576: true; the input reads as it did. -/
def gatherHoldsUptoRow : OpenClaim := { program := "ytcebmbnofejlhaa", sum := "f3a3318b775ccb583b819fea8fc8248e44657b453d686f90604f274aa697a47e", func := "millrace/millracelaw06.GatherHolds", spec := "gatherHolds", unfollowed := true, recurses := true, apart := false, narrowed := true }
def GatherHoldsUptoSaid : Prop := gatherHoldsUptoRow.holds Try.pinned (OpenSpec.upto gatherHoldsSpec)

/-- 'millracelaw06.GatherBatches', WHERE WHAT IT READS IS OF BULK AT MOST 1048576: true; the input reads as it did. -/
def gatherBatchesUptoRow : OpenClaim := { program := "ytcebmbnofejlhaa", sum := "f3a3318b775ccb583b819fea8fc8248e44657b453d686f90604f274aa697a47e", func := "millrace/millracelaw06.GatherBatches", spec := "gatherBatches", unfollowed := true, recurses := true, apart := false, narrowed := true }
def GatherBatchesUptoSaid : Prop := gatherBatchesUptoRow.holds Try.pinned (OpenSpec.upto gatherBatchesSpec)

/-- 'millracelaw06.GatherQueues', WHERE WHAT IT READS IS OF BULK AT MOST 1048576: true; the input reads as it did. -/
def gatherQueuesUptoRow : OpenClaim := { program := "ytcebmbnofejlhaa", sum := "f3a3318b775ccb583b819fea8fc8248e44657b453d686f90604f274aa697a47e", func := "millrace/millracelaw06.GatherQueues", spec := "gatherQueues", unfollowed := true, recurses := true, apart := false, narrowed := true }
def GatherQueuesUptoSaid : Prop := gatherQueuesUptoRow.holds Try.pinned (OpenSpec.upto gatherQueuesSpec)

/-- 'millracelaw06.GatherTakes', WHERE WHAT IT READS IS OF BULK AT MOST 1048576: true; the input reads as it did. -/
def gatherTakesUptoRow : OpenClaim := { program := "ytcebmbnofejlhaa", sum := "f3a3318b775ccb583b819fea8fc8248e44657b453d686f90604f274aa697a47e", func := "millrace/millracelaw06.GatherTakes", spec := "gatherTakes", unfollowed := true, recurses := true, apart := false, narrowed := true }
def GatherTakesUptoSaid : Prop := gatherTakesUptoRow.holds Try.pinned (OpenSpec.upto gatherTakesSpec)

end Rows
end Go.Proofs.Ytcebmbnofejlhaa
