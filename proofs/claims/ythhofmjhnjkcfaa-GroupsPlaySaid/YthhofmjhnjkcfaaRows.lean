/-
  No cell of these rows narrows 'for every input' (looked for: loops, veiled, ifaces, maps, wideKeys, modest, calm, conditions, laid).
  DERIVED. THE GIVEN ROWS OF THIS SEAT. 5 by the template 'for every input the law returns true; each argument reads behind the call as it read before'; 0 by the template 'total and deterministic' (their statements: YthhofmjhnjkcfaaTotals.lean).
  GIVEN WITH THE SEED: the statements are not yours to turn. If you find one false, say at which input.
  Laid BY PROGRAM, IN A SANDBOX (cutbox-rows.mjs): the forced cells as the released guide's own fill.sh prints them over the translation 548505634828b58a… (all of the seat's roots in one cut). By AI agents, Wed Nov 11 2026. No macro, syntax, notation, axiom, sorry.
-/
import Derived.Test.YthhofmjhnjkcfaaChecked
import GoSem.Claim
import GoSem.ClaimJoined
import GoSem.ClaimMapViews
import Derived.JoinedTies
import Derived.KernelRfl
namespace Go.Proofs.Ythhofmjhnjkcfaa
/- THE CELL 'sum', in the pinned program and in every row, IS THE sha256 OF THE DUMP (.gsa) THAT YthhofmjhnjkcfaaProg.lean LOADS. Nothing in Lean hashes anything: it is a label: what it is worth is what the hold of that sum in a sandbox is worth. -/
noncomputable def Try.pinned : Pinned := { name := "ythhofmjhnjkcfaa", sum := "548505634828b58af39a289c88fc7951cb4fda52a8f2449b2b0361030462488c", checked := Try.checked }
namespace Rows
def none {H : Type} : Left H := { results := [], args := [] }

/-- 'millracelaw26.GroupsRecords': WHATEVER THE INPUT: true; the input reads as it did. -/
def groupsRecordsSpec : ChangeSpec := { name := "groupsRecords", fn := fun _ => fun
  | [d1, d2] => { results := [.lit (.bool true)], args := [d1, d2] }
  | _ => none }
def groupsRecordsRow : OpenClaim := { program := "ythhofmjhnjkcfaa", sum := "548505634828b58af39a289c88fc7951cb4fda52a8f2449b2b0361030462488c", func := "millrace/millracelaw26.GroupsRecords", spec := "groupsRecords", inPlace := ["internal/bytealg.IndexByte"], unfollowed := true, recurses := true, plainKeys := false, apart := false }
def GroupsRecordsSaid : Prop := groupsRecordsRow.holds Try.pinned (OpenSpec.ofChange groupsRecordsSpec)

/-- ITS FALSE NEIGHBOUR: 'it returns false'. Refute it at one input. -/
def groupsRecordsWrong : ChangeSpec := { name := "groupsRecords", fn := fun _ => fun
  | [d1, d2] => { results := [.lit (.bool false)], args := [d1, d2] }
  | _ => none }
def GroupsRecordsWrongFalsely : Prop := groupsRecordsRow.holds Try.pinned (OpenSpec.ofChange groupsRecordsWrong)

/-- 'millracelaw26.GroupsFull': WHATEVER THE INPUT: true; the input reads as it did. -/
def groupsFullSpec : ChangeSpec := { name := "groupsFull", fn := fun _ => fun
  | [] => { results := [.lit (.bool true)], args := [] }
  | _ => none }
def groupsFullRow : OpenClaim := { program := "ythhofmjhnjkcfaa", sum := "548505634828b58af39a289c88fc7951cb4fda52a8f2449b2b0361030462488c", func := "millrace/millracelaw26.GroupsFull", spec := "groupsFull", inPlace := ["internal/bytealg.IndexByte"], unfollowed := true, recurses := true, plainKeys := false, apart := false }
def GroupsFullSaid : Prop := groupsFullRow.holds Try.pinned (OpenSpec.ofChange groupsFullSpec)

/-- ITS FALSE NEIGHBOUR: 'it returns false'. Refute it at one input. -/
def groupsFullWrong : ChangeSpec := { name := "groupsFull", fn := fun _ => fun
  | [] => { results := [.lit (.bool false)], args := [] }
  | _ => none }
def GroupsFullWrongFalsely : Prop := groupsFullRow.holds Try.pinned (OpenSpec.ofChange groupsFullWrong)

/-- 'millracelaw26.GroupsLast': WHATEVER THE INPUT: true; the input reads as it did. -/
def groupsLastSpec : ChangeSpec := { name := "groupsLast", fn := fun _ => fun
  | [d] => { results := [.lit (.bool true)], args := [d] }
  | _ => none }
def groupsLastRow : OpenClaim := { program := "ythhofmjhnjkcfaa", sum := "548505634828b58af39a289c88fc7951cb4fda52a8f2449b2b0361030462488c", func := "millrace/millracelaw26.GroupsLast", spec := "groupsLast", inPlace := ["internal/bytealg.IndexByte"], unfollowed := true, recurses := true, plainKeys := false, apart := false }
def GroupsLastSaid : Prop := groupsLastRow.holds Try.pinned (OpenSpec.ofChange groupsLastSpec)

/-- ITS FALSE NEIGHBOUR: 'it returns false'. Refute it at one input. -/
def groupsLastWrong : ChangeSpec := { name := "groupsLast", fn := fun _ => fun
  | [d] => { results := [.lit (.bool false)], args := [d] }
  | _ => none }
def GroupsLastWrongFalsely : Prop := groupsLastRow.holds Try.pinned (OpenSpec.ofChange groupsLastWrong)

/-- 'millracelaw26.GroupsApart': WHATEVER THE INPUT: true; the input reads as it did. -/
def groupsApartSpec : ChangeSpec := { name := "groupsApart", fn := fun _ => fun
  | [d1, d2, d3] => { results := [.lit (.bool true)], args := [d1, d2, d3] }
  | _ => none }
def groupsApartRow : OpenClaim := { program := "ythhofmjhnjkcfaa", sum := "548505634828b58af39a289c88fc7951cb4fda52a8f2449b2b0361030462488c", func := "millrace/millracelaw26.GroupsApart", spec := "groupsApart", inPlace := ["internal/bytealg.IndexByte"], unfollowed := true, recurses := true, plainKeys := false, apart := false }
def GroupsApartSaid : Prop := groupsApartRow.holds Try.pinned (OpenSpec.ofChange groupsApartSpec)

/-- ITS FALSE NEIGHBOUR: 'it returns false'. Refute it at one input. -/
def groupsApartWrong : ChangeSpec := { name := "groupsApart", fn := fun _ => fun
  | [d1, d2, d3] => { results := [.lit (.bool false)], args := [d1, d2, d3] }
  | _ => none }
def GroupsApartWrongFalsely : Prop := groupsApartRow.holds Try.pinned (OpenSpec.ofChange groupsApartWrong)

/-- 'millracelaw26.GroupsPlay': WHATEVER THE INPUT: true; the input reads as it did. -/
def groupsPlaySpec : ChangeSpec := { name := "groupsPlay", fn := fun _ => fun
  | [d] => { results := [.lit (.bool true)], args := [d] }
  | _ => none }
def groupsPlayRow : OpenClaim := { program := "ythhofmjhnjkcfaa", sum := "548505634828b58af39a289c88fc7951cb4fda52a8f2449b2b0361030462488c", func := "millrace/millracelaw26.GroupsPlay", spec := "groupsPlay", inPlace := ["internal/bytealg.IndexByte"], unfollowed := true, recurses := true, plainKeys := false, apart := false }
def GroupsPlaySaid : Prop := groupsPlayRow.holds Try.pinned (OpenSpec.ofChange groupsPlaySpec)

/-- ITS FALSE NEIGHBOUR: 'it returns false'. Refute it at one input. -/
def groupsPlayWrong : ChangeSpec := { name := "groupsPlay", fn := fun _ => fun
  | [d] => { results := [.lit (.bool false)], args := [d] }
  | _ => none }
def GroupsPlayWrongFalsely : Prop := groupsPlayRow.holds Try.pinned (OpenSpec.ofChange groupsPlayWrong)

/- THE SECOND FORM. 'bulk': how many values and letters a reading holds, each counted each time it is reached (what is shared counts as often as it is met; a slice's spare places count too). A statement '..UptoSaid' is the law's where the arguments, and the package variables that the reading takes, are together of bulk at most 1048576: NARROWER than '..Said'. Prove '..Said' where nothing that the law and all that it calls make is longer than what came in: it says more and counts as full. Else prove '..UptoSaid'. A law counts once. -/
mutual
def uptoBulk {H : Type} : DataW H → Nat
  | .lit (.string bytes) => bytes.length + 1
  | .lit _ => 1
  | .nil => 1
  | .ptr d => uptoBulk d + 1
  | .slice elems spare => uptoBulkAll elems + uptoBulkAll spare + 1
  | .agg parts => uptoBulkAll parts + 1
  | .iface _ d => uptoBulk d + 1
  | .map entries => uptoBulkEntries entries + 1
  | .held _ => 1
def uptoBulkAll {H : Type} : List (DataW H) → Nat
  | [] => 0
  | d :: r => uptoBulk d + uptoBulkAll r
def uptoBulkEntries {H : Type} : List (Lit × DataW H) → Nat
  | [] => 0
  | x :: r => uptoBulkEntry x + uptoBulkEntries r
def uptoBulkEntry {H : Type} : Lit × DataW H → Nat
  | (.string bytes, d) => bytes.length + uptoBulk d + 1
  | (_, d) => uptoBulk d + 1
 end
def uptoSmall : (H : Type) → List (DataW H) → Bool := fun _ ds => decide (uptoBulkAll ds ≤ 1048576)
def OpenSpec.upto (s : _root_.Go.ChangeSpec) : _root_.Go.OpenSpec := { _root_.Go.OpenSpec.ofChange s with cond := some uptoSmall }

/-- 'millracelaw26.GroupsRecords', WHERE WHAT IT READS IS OF BULK AT MOST 1048576: true; the input reads as it did. -/
def groupsRecordsUptoRow : OpenClaim := { program := "ythhofmjhnjkcfaa", sum := "548505634828b58af39a289c88fc7951cb4fda52a8f2449b2b0361030462488c", func := "millrace/millracelaw26.GroupsRecords", spec := "groupsRecords", inPlace := ["internal/bytealg.IndexByte"], unfollowed := true, recurses := true, plainKeys := false, apart := false, narrowed := true }
def GroupsRecordsUptoSaid : Prop := groupsRecordsUptoRow.holds Try.pinned (OpenSpec.upto groupsRecordsSpec)

/-- 'millracelaw26.GroupsFull', WHERE WHAT IT READS IS OF BULK AT MOST 1048576: true; the input reads as it did. -/
def groupsFullUptoRow : OpenClaim := { program := "ythhofmjhnjkcfaa", sum := "548505634828b58af39a289c88fc7951cb4fda52a8f2449b2b0361030462488c", func := "millrace/millracelaw26.GroupsFull", spec := "groupsFull", inPlace := ["internal/bytealg.IndexByte"], unfollowed := true, recurses := true, plainKeys := false, apart := false, narrowed := true }
def GroupsFullUptoSaid : Prop := groupsFullUptoRow.holds Try.pinned (OpenSpec.upto groupsFullSpec)

/-- 'millracelaw26.GroupsLast', WHERE WHAT IT READS IS OF BULK AT MOST 1048576: true; the input reads as it did. -/
def groupsLastUptoRow : OpenClaim := { program := "ythhofmjhnjkcfaa", sum := "548505634828b58af39a289c88fc7951cb4fda52a8f2449b2b0361030462488c", func := "millrace/millracelaw26.GroupsLast", spec := "groupsLast", inPlace := ["internal/bytealg.IndexByte"], unfollowed := true, recurses := true, plainKeys := false, apart := false, narrowed := true }
def GroupsLastUptoSaid : Prop := groupsLastUptoRow.holds Try.pinned (OpenSpec.upto groupsLastSpec)

/-- 'millracelaw26.GroupsApart', WHERE WHAT IT READS IS OF BULK AT MOST 1048576: true; the input reads as it did. -/
def groupsApartUptoRow : OpenClaim := { program := "ythhofmjhnjkcfaa", sum := "548505634828b58af39a289c88fc7951cb4fda52a8f2449b2b0361030462488c", func := "millrace/millracelaw26.GroupsApart", spec := "groupsApart", inPlace := ["internal/bytealg.IndexByte"], unfollowed := true, recurses := true, plainKeys := false, apart := false, narrowed := true }
def GroupsApartUptoSaid : Prop := groupsApartUptoRow.holds Try.pinned (OpenSpec.upto groupsApartSpec)

/-- 'millracelaw26.GroupsPlay', WHERE WHAT IT READS IS OF BULK AT MOST 1048576: true; the input reads as it did. -/
def groupsPlayUptoRow : OpenClaim := { program := "ythhofmjhnjkcfaa", sum := "548505634828b58af39a289c88fc7951cb4fda52a8f2449b2b0361030462488c", func := "millrace/millracelaw26.GroupsPlay", spec := "groupsPlay", inPlace := ["internal/bytealg.IndexByte"], unfollowed := true, recurses := true, plainKeys := false, apart := false, narrowed := true }
def GroupsPlayUptoSaid : Prop := groupsPlayUptoRow.holds Try.pinned (OpenSpec.upto groupsPlaySpec)

end Rows
end Go.Proofs.Ythhofmjhnjkcfaa
