/-
  No cell of these rows narrows 'for every input' (looked for: loops, veiled, ifaces, maps, wideKeys, modest, calm, conditions, laid).
  DERIVED. THE GIVEN ROWS OF THIS SEAT. 5 by the template 'for every input the law returns true; each argument reads behind the call as it read before'; 0 by the template 'total and deterministic' (their statements: YtojhnclkhiffkaaTotals.lean).
  GIVEN WITH THE SEED: the statements are not yours to turn. If you find one false, say at which input.
  Laid BY PROGRAM, IN A SANDBOX (cutbox-rows.mjs): the forced cells as the released guide's own fill.sh prints them over the translation ac505924b4079baa… (all of the seat's roots in one cut). By AI agents, Wed Nov 11 2026. No macro, syntax, notation, axiom, sorry.
-/
import Derived.Test.YtojhnclkhiffkaaChecked
import GoSem.Claim
import GoSem.ClaimJoined
import GoSem.ClaimMapViews
import Derived.JoinedTies
import Derived.KernelRfl
namespace Go.Proofs.Ytojhnclkhiffkaa
/- THE CELL 'sum', in the pinned program and in every row, IS THE sha256 OF THE DUMP (.gsa) THAT YtojhnclkhiffkaaProg.lean LOADS. Nothing in Lean hashes anything: it is a label: what it is worth is what the hold of that sum in a sandbox is worth. -/
noncomputable def Try.pinned : Pinned := { name := "ytojhnclkhiffkaa", sum := "ac505924b4079baae055f50859ae19f884dfd5e75ff1ed8d758dbadb92cc5f5c", checked := Try.checked }
namespace Rows
def none {H : Type} : Left H := { results := [], args := [] }

/-- 'millracelaw14.MarksRaise': WHATEVER THE INPUT: true; the input reads as it did. -/
def marksRaiseSpec : ChangeSpec := { name := "marksRaise", fn := fun _ => fun
  | [d1, d2] => { results := [.lit (.bool true)], args := [d1, d2] }
  | _ => none }
def marksRaiseRow : OpenClaim := { program := "ytojhnclkhiffkaa", sum := "ac505924b4079baae055f50859ae19f884dfd5e75ff1ed8d758dbadb92cc5f5c", func := "millrace/millracelaw14.MarksRaise", spec := "marksRaise", inPlace := ["sync/atomic.StoreInt64", "sync/atomic.LoadInt64", "sync/atomic.CompareAndSwapInt64", "sync/atomic.LoadPointer", "sync/atomic.CompareAndSwapPointer"], unfollowed := true, recurses := true, leaving := true, apart := false }
def MarksRaiseSaid : Prop := marksRaiseRow.holds Try.pinned (OpenSpec.ofChange marksRaiseSpec)

/-- ITS FALSE NEIGHBOUR: 'it returns false'. Refute it at one input. -/
def marksRaiseWrong : ChangeSpec := { name := "marksRaise", fn := fun _ => fun
  | [d1, d2] => { results := [.lit (.bool false)], args := [d1, d2] }
  | _ => none }
def MarksRaiseWrongFalsely : Prop := marksRaiseRow.holds Try.pinned (OpenSpec.ofChange marksRaiseWrong)

/-- 'millracelaw14.MarksBoard': WHATEVER THE INPUT: true; the input reads as it did. -/
def marksBoardSpec : ChangeSpec := { name := "marksBoard", fn := fun _ => fun
  | [d1, d2] => { results := [.lit (.bool true)], args := [d1, d2] }
  | _ => none }
def marksBoardRow : OpenClaim := { program := "ytojhnclkhiffkaa", sum := "ac505924b4079baae055f50859ae19f884dfd5e75ff1ed8d758dbadb92cc5f5c", func := "millrace/millracelaw14.MarksBoard", spec := "marksBoard", inPlace := ["sync/atomic.StoreInt64", "sync/atomic.LoadInt64", "sync/atomic.CompareAndSwapInt64", "sync/atomic.LoadPointer", "sync/atomic.CompareAndSwapPointer"], unfollowed := true, recurses := true, leaving := true, apart := false }
def MarksBoardSaid : Prop := marksBoardRow.holds Try.pinned (OpenSpec.ofChange marksBoardSpec)

/-- ITS FALSE NEIGHBOUR: 'it returns false'. Refute it at one input. -/
def marksBoardWrong : ChangeSpec := { name := "marksBoard", fn := fun _ => fun
  | [d1, d2] => { results := [.lit (.bool false)], args := [d1, d2] }
  | _ => none }
def MarksBoardWrongFalsely : Prop := marksBoardRow.holds Try.pinned (OpenSpec.ofChange marksBoardWrong)

/-- 'millracelaw14.MarksRun': WHATEVER THE INPUT: true; the input reads as it did. -/
def marksRunSpec : ChangeSpec := { name := "marksRun", fn := fun _ => fun
  | [d1, d2] => { results := [.lit (.bool true)], args := [d1, d2] }
  | _ => none }
def marksRunRow : OpenClaim := { program := "ytojhnclkhiffkaa", sum := "ac505924b4079baae055f50859ae19f884dfd5e75ff1ed8d758dbadb92cc5f5c", func := "millrace/millracelaw14.MarksRun", spec := "marksRun", inPlace := ["sync/atomic.StoreInt64", "sync/atomic.LoadInt64", "sync/atomic.CompareAndSwapInt64", "(*sync.WaitGroup).Add", "internal/race.ReleaseMerge", "internal/race.Disable", "internal/race.Enable", "internal/synctest.IsInBubble", "internal/synctest.Associate[sync.WaitGroup]", "sync.fatal", "sync/atomic.OrUint64", "sync/atomic.AddUint64", "internal/race.Read", "sync/atomic.LoadUint64", "sync/atomic.StoreUint64", "internal/synctest.Disassociate[sync.WaitGroup]", "sync.runtime_Semrelease", "(*sync.WaitGroup).Done", "(*sync.WaitGroup).Wait", "internal/race.Acquire", "internal/synctest.IsAssociated[sync.WaitGroup]", "sync/atomic.CompareAndSwapUint64", "internal/race.Write", "sync.runtime_SemacquireWaitGroup", "sync/atomic.LoadPointer", "sync/atomic.CompareAndSwapPointer"], unfollowed := true, recurses := true, leaving := true, apart := false }
def MarksRunSaid : Prop := marksRunRow.holds Try.pinned (OpenSpec.ofChange marksRunSpec)

/-- ITS FALSE NEIGHBOUR: 'it returns false'. Refute it at one input. -/
def marksRunWrong : ChangeSpec := { name := "marksRun", fn := fun _ => fun
  | [d1, d2] => { results := [.lit (.bool false)], args := [d1, d2] }
  | _ => none }
def MarksRunWrongFalsely : Prop := marksRunRow.holds Try.pinned (OpenSpec.ofChange marksRunWrong)

/-- 'millracelaw14.MarksBoards': WHATEVER THE INPUT: true; the input reads as it did. -/
def marksBoardsSpec : ChangeSpec := { name := "marksBoards", fn := fun _ => fun
  | [d] => { results := [.lit (.bool true)], args := [d] }
  | _ => none }
def marksBoardsRow : OpenClaim := { program := "ytojhnclkhiffkaa", sum := "ac505924b4079baae055f50859ae19f884dfd5e75ff1ed8d758dbadb92cc5f5c", func := "millrace/millracelaw14.MarksBoards", spec := "marksBoards", inPlace := ["sync/atomic.LoadPointer", "sync/atomic.CompareAndSwapPointer", "(*sync.WaitGroup).Add", "internal/race.ReleaseMerge", "internal/race.Disable", "internal/race.Enable", "internal/synctest.IsInBubble", "internal/synctest.Associate[sync.WaitGroup]", "sync.fatal", "sync/atomic.OrUint64", "sync/atomic.AddUint64", "internal/race.Read", "sync/atomic.LoadUint64", "sync/atomic.StoreUint64", "internal/synctest.Disassociate[sync.WaitGroup]", "sync.runtime_Semrelease", "(*sync.WaitGroup).Done", "(*sync.WaitGroup).Wait", "internal/race.Acquire", "internal/synctest.IsAssociated[sync.WaitGroup]", "sync/atomic.CompareAndSwapUint64", "internal/race.Write", "sync.runtime_SemacquireWaitGroup", "sync/atomic.StoreInt64", "sync/atomic.LoadInt64", "sync/atomic.CompareAndSwapInt64"], unfollowed := true, recurses := true, leaving := true, apart := false }
def MarksBoardsSaid : Prop := marksBoardsRow.holds Try.pinned (OpenSpec.ofChange marksBoardsSpec)

/-- ITS FALSE NEIGHBOUR: 'it returns false'. Refute it at one input. -/
def marksBoardsWrong : ChangeSpec := { name := "marksBoards", fn := fun _ => fun
  | [d] => { results := [.lit (.bool false)], args := [d] }
  | _ => none }
def MarksBoardsWrongFalsely : Prop := marksBoardsRow.holds Try.pinned (OpenSpec.ofChange marksBoardsWrong)

/-- 'millracelaw14.MarksArg': WHATEVER THE INPUT: true; the input reads as it did. -/
def marksArgSpec : ChangeSpec := { name := "marksArg", fn := fun _ => fun
  | [d1, d2, d3] => { results := [.lit (.bool true)], args := [d1, d2, d3] }
  | _ => none }
def marksArgRow : OpenClaim := { program := "ytojhnclkhiffkaa", sum := "ac505924b4079baae055f50859ae19f884dfd5e75ff1ed8d758dbadb92cc5f5c", func := "millrace/millracelaw14.MarksArg", spec := "marksArg", inPlace := ["sync/atomic.StoreInt64", "sync/atomic.LoadInt64", "sync/atomic.CompareAndSwapInt64", "sync/atomic.LoadPointer", "sync/atomic.CompareAndSwapPointer", "(*sync.WaitGroup).Add", "internal/race.ReleaseMerge", "internal/race.Disable", "internal/race.Enable", "internal/synctest.IsInBubble", "internal/synctest.Associate[sync.WaitGroup]", "sync.fatal", "sync/atomic.OrUint64", "sync/atomic.AddUint64", "internal/race.Read", "sync/atomic.LoadUint64", "sync/atomic.StoreUint64", "internal/synctest.Disassociate[sync.WaitGroup]", "sync.runtime_Semrelease", "(*sync.WaitGroup).Done", "(*sync.WaitGroup).Wait", "internal/race.Acquire", "internal/synctest.IsAssociated[sync.WaitGroup]", "sync/atomic.CompareAndSwapUint64", "internal/race.Write", "sync.runtime_SemacquireWaitGroup"], unfollowed := true, recurses := true, leaving := true, apart := false }
def MarksArgSaid : Prop := marksArgRow.holds Try.pinned (OpenSpec.ofChange marksArgSpec)

/-- ITS FALSE NEIGHBOUR: 'it returns false'. Refute it at one input. -/
def marksArgWrong : ChangeSpec := { name := "marksArg", fn := fun _ => fun
  | [d1, d2, d3] => { results := [.lit (.bool false)], args := [d1, d2, d3] }
  | _ => none }
def MarksArgWrongFalsely : Prop := marksArgRow.holds Try.pinned (OpenSpec.ofChange marksArgWrong)

/- THE SECOND FORM. 'bulk': how many values and letters a reading holds, each counted each time it is reached (what is shared counts as often as it is met; a slice's spare places count too). A statement '..UptoSaid' is the law's where the arguments, and the package variables that the reading takes, are together of bulk at most 1048576: NARROWER than '..Said'. Prove '..Said' where nothing that the law and all that it calls make is longer than what came in: it says more and counts as full. Else prove '..UptoSaid'. A law counts once. -/
mutual
def uptoBulk {H : Type} : DataW H → Nat
  | .lit (.string bytes) => bytes.length + 1
  | .lit _ => 1
  | .nil => 1
  | .ptr d => uptoBulk d + 1
  | .slice elems spare => uptoBulkAll elems + uptoBulkAll spare + 1
  | .agg parts => uptoBulkAll parts + 1
  | .iface _ d => uptoBulk d + 1
  | .map entries => uptoBulkEntries entries + 1
  | .held _ => 1
def uptoBulkAll {H : Type} : List (DataW H) → Nat
  | [] => 0
  | d :: r => uptoBulk d + uptoBulkAll r
def uptoBulkEntries {H : Type} : List (Lit × DataW H) → Nat
  | [] => 0
  | x :: r => uptoBulkEntry x + uptoBulkEntries r
def uptoBulkEntry {H : Type} : Lit × DataW H → Nat
  | (.string bytes, d) => bytes.length + uptoBulk d + 1
  | (_, d) => uptoBulk d + 1
 end
def uptoSmall : (H : Type) → List (DataW H) → Bool := fun _ ds => decide (uptoBulkAll ds ≤ 1048576)
def OpenSpec.upto (s : _root_.Go.ChangeSpec) : _root_.Go.OpenSpec := { _root_.Go.OpenSpec.ofChange s with cond := some uptoSmall }

/-- 'millracelaw14.MarksRaise', WHERE WHAT IT READS IS OF BULK AT MOST 1048576: true; the input reads as it did. -/
def marksRaiseUptoRow : OpenClaim := { program := "ytojhnclkhiffkaa", sum := "ac505924b4079baae055f50859ae19f884dfd5e75ff1ed8d758dbadb92cc5f5c", func := "millrace/millracelaw14.MarksRaise", spec := "marksRaise", inPlace := ["sync/atomic.StoreInt64", "sync/atomic.LoadInt64", "sync/atomic.CompareAndSwapInt64", "sync/atomic.LoadPointer", "sync/atomic.CompareAndSwapPointer"], unfollowed := true, recurses := true, leaving := true, apart := false, narrowed := true }
def MarksRaiseUptoSaid : Prop := marksRaiseUptoRow.holds Try.pinned (OpenSpec.upto marksRaiseSpec)

/-- 'millracelaw14.MarksBoard', WHERE WHAT IT READS IS OF BULK AT MOST 1048576: true; the input reads as it did. -/
def marksBoardUptoRow : OpenClaim := { program := "ytojhnclkhiffkaa", sum := "ac505924b4079baae055f50859ae19f884dfd5e75ff1ed8d758dbadb92cc5f5c", func := "millrace/millracelaw14.MarksBoard", spec := "marksBoard", inPlace := ["sync/atomic.StoreInt64", "sync/atomic.LoadInt64", "sync/atomic.CompareAndSwapInt64", "sync/atomic.LoadPointer", "sync/atomic.CompareAndSwapPointer"], unfollowed := true, recurses := true, leaving := true, apart := false, narrowed := true }
def MarksBoardUptoSaid : Prop := marksBoardUptoRow.holds Try.pinned (OpenSpec.upto marksBoardSpec)

/-- 'millracelaw14.MarksRun', WHERE WHAT IT READS IS OF BULK AT MOST 1048576: true; the input reads as it did. -/
def marksRunUptoRow : OpenClaim := { program := "ytojhnclkhiffkaa", sum := "ac505924b4079baae055f50859ae19f884dfd5e75ff1ed8d758dbadb92cc5f5c", func := "millrace/millracelaw14.MarksRun", spec := "marksRun", inPlace := ["sync/atomic.StoreInt64", "sync/atomic.LoadInt64", "sync/atomic.CompareAndSwapInt64", "(*sync.WaitGroup).Add", "internal/race.ReleaseMerge", "internal/race.Disable", "internal/race.Enable", "internal/synctest.IsInBubble", "internal/synctest.Associate[sync.WaitGroup]", "sync.fatal", "sync/atomic.OrUint64", "sync/atomic.AddUint64", "internal/race.Read", "sync/atomic.LoadUint64", "sync/atomic.StoreUint64", "internal/synctest.Disassociate[sync.WaitGroup]", "sync.runtime_Semrelease", "(*sync.WaitGroup).Done", "(*sync.WaitGroup).Wait", "internal/race.Acquire", "internal/synctest.IsAssociated[sync.WaitGroup]", "sync/atomic.CompareAndSwapUint64", "internal/race.Write", "sync.runtime_SemacquireWaitGroup", "sync/atomic.LoadPointer", "sync/atomic.CompareAndSwapPointer"], unfollowed := true, recurses := true, leaving := true, apart := false, narrowed := true }
def MarksRunUptoSaid : Prop := marksRunUptoRow.holds Try.pinned (OpenSpec.upto marksRunSpec)

/-- 'millracelaw14.MarksBoards', WHERE WHAT IT READS IS OF BULK AT MOST 1048576: true; the input reads as it did. -/
def marksBoardsUptoRow : OpenClaim := { program := "ytojhnclkhiffkaa", sum := "ac505924b4079baae055f50859ae19f884dfd5e75ff1ed8d758dbadb92cc5f5c", func := "millrace/millracelaw14.MarksBoards", spec := "marksBoards", inPlace := ["sync/atomic.LoadPointer", "sync/atomic.CompareAndSwapPointer", "(*sync.WaitGroup).Add", "internal/race.ReleaseMerge", "internal/race.Disable", "internal/race.Enable", "internal/synctest.IsInBubble", "internal/synctest.Associate[sync.WaitGroup]", "sync.fatal", "sync/atomic.OrUint64", "sync/atomic.AddUint64", "internal/race.Read", "sync/atomic.LoadUint64", "sync/atomic.StoreUint64", "internal/synctest.Disassociate[sync.WaitGroup]", "sync.runtime_Semrelease", "(*sync.WaitGroup).Done", "(*sync.WaitGroup).Wait", "internal/race.Acquire", "internal/synctest.IsAssociated[sync.WaitGroup]", "sync/atomic.CompareAndSwapUint64", "internal/race.Write", "sync.runtime_SemacquireWaitGroup", "sync/atomic.StoreInt64", "sync/atomic.LoadInt64", "sync/atomic.CompareAndSwapInt64"], unfollowed := true, recurses := true, leaving := true, apart := false, narrowed := true }
def MarksBoardsUptoSaid : Prop := marksBoardsUptoRow.holds Try.pinned (OpenSpec.upto marksBoardsSpec)

/-- 'millracelaw14.MarksArg', WHERE WHAT IT READS IS OF BULK AT MOST 1048576: true; the input reads as it did. -/
def marksArgUptoRow : OpenClaim := { program := "ytojhnclkhiffkaa", sum := "ac505924b4079baae055f50859ae19f884dfd5e75ff1ed8d758dbadb92cc5f5c", func := "millrace/millracelaw14.MarksArg", spec := "marksArg", inPlace := ["sync/atomic.StoreInt64", "sync/atomic.LoadInt64", "sync/atomic.CompareAndSwapInt64", "sync/atomic.LoadPointer", "sync/atomic.CompareAndSwapPointer", "(*sync.WaitGroup).Add", "internal/race.ReleaseMerge", "internal/race.Disable", "internal/race.Enable", "internal/synctest.IsInBubble", "internal/synctest.Associate[sync.WaitGroup]", "sync.fatal", "sync/atomic.OrUint64", "sync/atomic.AddUint64", "internal/race.Read", "sync/atomic.LoadUint64", "sync/atomic.StoreUint64", "internal/synctest.Disassociate[sync.WaitGroup]", "sync.runtime_Semrelease", "(*sync.WaitGroup).Done", "(*sync.WaitGroup).Wait", "internal/race.Acquire", "internal/synctest.IsAssociated[sync.WaitGroup]", "sync/atomic.CompareAndSwapUint64", "internal/race.Write", "sync.runtime_SemacquireWaitGroup"], unfollowed := true, recurses := true, leaving := true, apart := false, narrowed := true }
def MarksArgUptoSaid : Prop := marksArgUptoRow.holds Try.pinned (OpenSpec.upto marksArgSpec)

end Rows
end Go.Proofs.Ytojhnclkhiffkaa
