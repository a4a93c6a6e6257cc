/-
  No cell of these rows narrows 'for every input' (looked for: loops, veiled, ifaces, maps, wideKeys, modest, calm, conditions, laid).
  DERIVED. THE GIVEN ROWS OF THIS SEAT. 4 by the template 'for every input the law returns true; each argument reads behind the call as it read before'; 0 by the template 'total and deterministic' (their statements: YtmolhemoiplpfaaTotals.lean).
  GIVEN WITH THE SEED: the statements are not yours to turn. If you find one false, say at which input.
  Laid BY PROGRAM, IN A SANDBOX (cutbox-rows.mjs): the forced cells as the released guide's own fill.sh prints them over the translation 5520f29f255f13bd… (all of the seat's roots in one cut). By AI agents, Wed Nov 11 2026. No macro, syntax, notation, axiom, sorry.
-/
import Derived.Test.YtmolhemoiplpfaaChecked
import GoSem.Claim
import GoSem.ClaimJoined
import GoSem.ClaimMapViews
import Derived.JoinedTies
import Derived.KernelRfl
namespace Go.Proofs.Ytmolhemoiplpfaa
/- THE CELL 'sum', in the pinned program and in every row, IS THE sha256 OF THE DUMP (.gsa) THAT YtmolhemoiplpfaaProg.lean LOADS. Nothing in Lean hashes anything: it is a label: what it is worth is what the hold of that sum in a sandbox is worth. -/
noncomputable def Try.pinned : Pinned := { name := "ytmolhemoiplpfaa", sum := "5520f29f255f13bd7881686058533929e60a63d9b1f3bdfffa91da241b5c9bc6", checked := Try.checked }
namespace Rows
def none {H : Type} : Left H := { results := [], args := [] }

/-- 'millracelaw18.HistoryNil': WHATEVER THE INPUT: true; the input reads as it did. -/
def historyNilSpec : ChangeSpec := { name := "historyNil", fn := fun _ => fun
  | [d1, d2, d3] => { results := [.lit (.bool true)], args := [d1, d2, d3] }
  | _ => none }
def historyNilRow : OpenClaim := { program := "ytmolhemoiplpfaa", sum := "5520f29f255f13bd7881686058533929e60a63d9b1f3bdfffa91da241b5c9bc6", func := "millrace/millracelaw18.HistoryNil", spec := "historyNil", apart := false }
def HistoryNilSaid : Prop := historyNilRow.holds Try.pinned (OpenSpec.ofChange historyNilSpec)

/-- ITS FALSE NEIGHBOUR: 'it returns false'. Refute it at one input. -/
def historyNilWrong : ChangeSpec := { name := "historyNil", fn := fun _ => fun
  | [d1, d2, d3] => { results := [.lit (.bool false)], args := [d1, d2, d3] }
  | _ => none }
def HistoryNilWrongFalsely : Prop := historyNilRow.holds Try.pinned (OpenSpec.ofChange historyNilWrong)

/-- 'millracelaw18.HistoryNames': WHATEVER THE INPUT: true; the input reads as it did. -/
def historyNamesSpec : ChangeSpec := { name := "historyNames", fn := fun _ => fun
  | [d1, d2, d3] => { results := [.lit (.bool true)], args := [d1, d2, d3] }
  | _ => none }
def historyNamesRow : OpenClaim := { program := "ytmolhemoiplpfaa", sum := "5520f29f255f13bd7881686058533929e60a63d9b1f3bdfffa91da241b5c9bc6", func := "millrace/millracelaw18.HistoryNames", spec := "historyNames", apart := false }
def HistoryNamesSaid : Prop := historyNamesRow.holds Try.pinned (OpenSpec.ofChange historyNamesSpec)

/-- ITS FALSE NEIGHBOUR: 'it returns false'. Refute it at one input. -/
def historyNamesWrong : ChangeSpec := { name := "historyNames", fn := fun _ => fun
  | [d1, d2, d3] => { results := [.lit (.bool false)], args := [d1, d2, d3] }
  | _ => none }
def HistoryNamesWrongFalsely : Prop := historyNamesRow.holds Try.pinned (OpenSpec.ofChange historyNamesWrong)

/-- 'millracelaw18.HistoryCheck': WHATEVER THE INPUT: true; the input reads as it did. -/
def historyCheckSpec : ChangeSpec := { name := "historyCheck", fn := fun _ => fun
  | [d] => { results := [.lit (.bool true)], args := [d] }
  | _ => none }
def historyCheckRow : OpenClaim := { program := "ytmolhemoiplpfaa", sum := "5520f29f255f13bd7881686058533929e60a63d9b1f3bdfffa91da241b5c9bc6", func := "millrace/millracelaw18.HistoryCheck", spec := "historyCheck", apart := false }
def HistoryCheckSaid : Prop := historyCheckRow.holds Try.pinned (OpenSpec.ofChange historyCheckSpec)

/-- ITS FALSE NEIGHBOUR: 'it returns false'. Refute it at one input. -/
def historyCheckWrong : ChangeSpec := { name := "historyCheck", fn := fun _ => fun
  | [d] => { results := [.lit (.bool false)], args := [d] }
  | _ => none }
def HistoryCheckWrongFalsely : Prop := historyCheckRow.holds Try.pinned (OpenSpec.ofChange historyCheckWrong)

/-- 'millracelaw18.HistoryOrder': WHATEVER THE INPUT: true; the input reads as it did. -/
def historyOrderSpec : ChangeSpec := { name := "historyOrder", fn := fun _ => fun
  | [d] => { results := [.lit (.bool true)], args := [d] }
  | _ => none }
def historyOrderRow : OpenClaim := { program := "ytmolhemoiplpfaa", sum := "5520f29f255f13bd7881686058533929e60a63d9b1f3bdfffa91da241b5c9bc6", func := "millrace/millracelaw18.HistoryOrder", spec := "historyOrder", unfollowed := true, recurses := true, apart := false }
def HistoryOrderSaid : Prop := historyOrderRow.holds Try.pinned (OpenSpec.ofChange historyOrderSpec)

/-- ITS FALSE NEIGHBOUR: 'it returns false'. Refute it at one input. -/
def historyOrderWrong : ChangeSpec := { name := "historyOrder", fn := fun _ => fun
  | [d] => { results := [.lit (.bool false)], args := [d] }
  | _ => none }
def HistoryOrderWrongFalsely : Prop := historyOrderRow.holds Try.pinned (OpenSpec.ofChange historyOrderWrong)

/- THE SECOND FORM. 'bulk': how many values and letters a reading holds, each counted each time it is reached (what is shared counts as often as it is met; a slice's spare places count too). A statement '..UptoSaid' is the law's where the arguments, and the package variables that the reading takes, are together of bulk at most 1048576: NARROWER than '..Said'. Prove '..Said' where nothing that the law and all that it calls make is longer than what came in: it says more and counts as full. Else prove '..UptoSaid'. A law counts once. -/
mutual
def uptoBulk {H : Type} : DataW H → Nat
  | .lit (.string bytes) => bytes.length + 1
  | .lit _ => 1
  | .nil => 1
  | .ptr d => uptoBulk d + 1
  | .slice elems spare => uptoBulkAll elems + uptoBulkAll spare + 1
  | .agg parts => uptoBulkAll parts + 1
  | .iface _ d => uptoBulk d + 1
  | .map entries => uptoBulkEntries entries + 1
  | .held _ => 1
def uptoBulkAll {H : Type} : List (DataW H) → Nat
  | [] => 0
  | d :: r => uptoBulk d + uptoBulkAll r
def uptoBulkEntries {H : Type} : List (Lit × DataW H) → Nat
  | [] => 0
  | x :: r => uptoBulkEntry x + uptoBulkEntries r
def uptoBulkEntry {H : Type} : Lit × DataW H → Nat
  | (.string bytes, d) => bytes.length + uptoBulk d + 1
  | (_, d) => uptoBulk d + 1
 end
def uptoSmall : (H : Type) → List (DataW H) → Bool := fun _ ds => decide (uptoBulkAll ds ≤ 1048576)
def OpenSpec.upto (s : _root_.Go.ChangeSpec) : _root_.Go.OpenSpec := { _root_.Go.OpenSpec.ofChange s with cond := some uptoSmall }

/-- 'millracelaw18.HistoryNil', WHERE WHAT IT READS IS OF BULK AT MOST 1048576: true; the input reads as it did. -/
def historyNilUptoRow : OpenClaim := { program := "ytmolhemoiplpfaa", sum := "5520f29f255f13bd7881686058533929e60a63d9b1f3bdfffa91da241b5c9bc6", func := "millrace/millracelaw18.HistoryNil", spec := "historyNil", apart := false, narrowed := true }
def HistoryNilUptoSaid : Prop := historyNilUptoRow.holds Try.pinned (OpenSpec.upto historyNilSpec)

/-- 'millracelaw18.HistoryNames', WHERE WHAT IT READS IS OF BULK AT MOST 1048576: true; the input reads as it did. -/
def historyNamesUptoRow : OpenClaim := { program := "ytmolhemoiplpfaa", sum := "5520f29f255f13bd7881686058533929e60a63d9b1f3bdfffa91da241b5c9bc6", func := "millrace/millracelaw18.HistoryNames", spec := "historyNames", apart := false, narrowed := true }
def HistoryNamesUptoSaid : Prop := historyNamesUptoRow.holds Try.pinned (OpenSpec.upto historyNamesSpec)

/-- 'millracelaw18.HistoryCheck', WHERE WHAT IT READS IS OF BULK AT MOST 1048576: true; the input reads as it did. -/
def historyCheckUptoRow : OpenClaim := { program := "ytmolhemoiplpfaa", sum := "5520f29f255f13bd7881686058533929e60a63d9b1f3bdfffa91da241b5c9bc6", func := "millrace/millracelaw18.HistoryCheck", spec := "historyCheck", apart := false, narrowed := true }
def HistoryCheckUptoSaid : Prop := historyCheckUptoRow.holds Try.pinned (OpenSpec.upto historyCheckSpec)

/-- 'millracelaw18.HistoryOrder', WHERE WHAT IT READS IS OF BULK AT MOST 1048576: true; the input reads as it did. -/
def historyOrderUptoRow : OpenClaim := { program := "ytmolhemoiplpfaa", sum := "5520f29f255f13bd7881686058533929e60a63d9b1f3bdfffa91da241b5c9bc6", func := "millrace/millracelaw18.HistoryOrder", spec := "historyOrder", unfollowed := true, recurses := true, apart := false, narrowed := true }
def HistoryOrderUptoSaid : Prop := historyOrderUptoRow.holds Try.pinned (OpenSpec.upto historyOrderSpec)

end Rows
end Go.Proofs.Ytmolhemoiplpfaa
