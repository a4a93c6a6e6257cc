/-
  No cell of these rows narrows 'for every input' (looked for: loops, veiled, ifaces, maps, wideKeys, modest, calm, conditions, laid).
  DERIVED. THE GIVEN ROWS OF THIS SEAT. 4 by the template 'for every input the law returns true; each argument reads behind the call as it read before'; 0 by the template 'total and deterministic' (their statements: YtmjbgfflbeibnaaTotals.lean).
  GIVEN WITH THE SEED: the statements are not yours to turn. If you find one false, say at which input.
  Laid BY PROGRAM, IN A SANDBOX (cutbox-rows.mjs): the forced cells as the released guide's own fill.sh prints them over the translation b4ba02a242d11882… (all of the seat's roots in one cut). By AI agents, Wed Nov 11 2026. No macro, syntax, notation, axiom, sorry.
-/
import Derived.Test.YtmjbgfflbeibnaaChecked
import GoSem.Claim
import GoSem.ClaimJoined
import GoSem.ClaimMapViews
import Derived.JoinedTies
import Derived.KernelRfl
namespace Go.Proofs.Ytmjbgfflbeibnaa
/- THE CELL 'sum', in the pinned program and in every row, IS THE sha256 OF THE DUMP (.gsa) THAT YtmjbgfflbeibnaaProg.lean LOADS. Nothing in Lean hashes anything: it is a label: what it is worth is what the hold of that sum in a sandbox is worth. -/
noncomputable def Try.pinned : Pinned := { name := "ytmjbgfflbeibnaa", sum := "b4ba02a242d118823eb64d97d21f0faa2bf92b486bb0b6c790da6d140575837f", checked := Try.checked }
namespace Rows
def none {H : Type} : Left H := { results := [], args := [] }

/-- 'millracelaw12.TimesOpens': WHATEVER THE INPUT: true; the input reads as it did. -/
def timesOpensSpec : ChangeSpec := { name := "timesOpens", fn := fun _ => fun
  | [d] => { results := [.lit (.bool true)], args := [d] }
  | _ => none }
def timesOpensRow : OpenClaim := { program := "ytmjbgfflbeibnaa", sum := "b4ba02a242d118823eb64d97d21f0faa2bf92b486bb0b6c790da6d140575837f", func := "millrace/millracelaw12.TimesOpens", spec := "timesOpens", unfollowed := true, recurses := true, apart := false }
def TimesOpensSaid : Prop := timesOpensRow.holds Try.pinned (OpenSpec.ofChange timesOpensSpec)

/-- ITS FALSE NEIGHBOUR: 'it returns false'. Refute it at one input. -/
def timesOpensWrong : ChangeSpec := { name := "timesOpens", fn := fun _ => fun
  | [d] => { results := [.lit (.bool false)], args := [d] }
  | _ => none }
def TimesOpensWrongFalsely : Prop := timesOpensRow.holds Try.pinned (OpenSpec.ofChange timesOpensWrong)

/-- 'millracelaw12.TimesAgain': WHATEVER THE INPUT: true; the input reads as it did. -/
def timesAgainSpec : ChangeSpec := { name := "timesAgain", fn := fun _ => fun
  | [d] => { results := [.lit (.bool true)], args := [d] }
  | _ => none }
def timesAgainRow : OpenClaim := { program := "ytmjbgfflbeibnaa", sum := "b4ba02a242d118823eb64d97d21f0faa2bf92b486bb0b6c790da6d140575837f", func := "millrace/millracelaw12.TimesAgain", spec := "timesAgain", unfollowed := true, recurses := true, apart := false }
def TimesAgainSaid : Prop := timesAgainRow.holds Try.pinned (OpenSpec.ofChange timesAgainSpec)

/-- ITS FALSE NEIGHBOUR: 'it returns false'. Refute it at one input. -/
def timesAgainWrong : ChangeSpec := { name := "timesAgain", fn := fun _ => fun
  | [d] => { results := [.lit (.bool false)], args := [d] }
  | _ => none }
def TimesAgainWrongFalsely : Prop := timesAgainRow.holds Try.pinned (OpenSpec.ofChange timesAgainWrong)

/-- 'millracelaw12.TimesHold': WHATEVER THE INPUT: true; the input reads as it did. -/
def timesHoldSpec : ChangeSpec := { name := "timesHold", fn := fun _ => fun
  | [d] => { results := [.lit (.bool true)], args := [d] }
  | _ => none }
def timesHoldRow : OpenClaim := { program := "ytmjbgfflbeibnaa", sum := "b4ba02a242d118823eb64d97d21f0faa2bf92b486bb0b6c790da6d140575837f", func := "millrace/millracelaw12.TimesHold", spec := "timesHold", unfollowed := true, recurses := true, apart := false }
def TimesHoldSaid : Prop := timesHoldRow.holds Try.pinned (OpenSpec.ofChange timesHoldSpec)

/-- ITS FALSE NEIGHBOUR: 'it returns false'. Refute it at one input. -/
def timesHoldWrong : ChangeSpec := { name := "timesHold", fn := fun _ => fun
  | [d] => { results := [.lit (.bool false)], args := [d] }
  | _ => none }
def TimesHoldWrongFalsely : Prop := timesHoldRow.holds Try.pinned (OpenSpec.ofChange timesHoldWrong)

/-- 'millracelaw12.TimesPlays': WHATEVER THE INPUT: true; the input reads as it did. -/
def timesPlaysSpec : ChangeSpec := { name := "timesPlays", fn := fun _ => fun
  | [d1, d2] => { results := [.lit (.bool true)], args := [d1, d2] }
  | _ => none }
def timesPlaysRow : OpenClaim := { program := "ytmjbgfflbeibnaa", sum := "b4ba02a242d118823eb64d97d21f0faa2bf92b486bb0b6c790da6d140575837f", func := "millrace/millracelaw12.TimesPlays", spec := "timesPlays", unfollowed := true, recurses := true, apart := false }
def TimesPlaysSaid : Prop := timesPlaysRow.holds Try.pinned (OpenSpec.ofChange timesPlaysSpec)

/-- ITS FALSE NEIGHBOUR: 'it returns false'. Refute it at one input. -/
def timesPlaysWrong : ChangeSpec := { name := "timesPlays", fn := fun _ => fun
  | [d1, d2] => { results := [.lit (.bool false)], args := [d1, d2] }
  | _ => none }
def TimesPlaysWrongFalsely : Prop := timesPlaysRow.holds Try.pinned (OpenSpec.ofChange timesPlaysWrong)

/- THE SECOND FORM. 'bulk': how many values and letters a reading holds, each counted each time it is reached (what is shared counts as often as it is met; a slice's spare places count too). A statement '..UptoSaid' is the law's where the arguments, and the package variables that the reading takes, are together of bulk at most 1048576: NARROWER than '..Said'. Prove '..Said' where nothing that the law and all that it calls make is longer than what came in: it says more and counts as full. Else prove '..UptoSaid'. A law counts once. -/
mutual
def uptoBulk {H : Type} : DataW H → Nat
  | .lit (.string bytes) => bytes.length + 1
  | .lit _ => 1
  | .nil => 1
  | .ptr d => uptoBulk d + 1
  | .slice elems spare => uptoBulkAll elems + uptoBulkAll spare + 1
  | .agg parts => uptoBulkAll parts + 1
  | .iface _ d => uptoBulk d + 1
  | .map entries => uptoBulkEntries entries + 1
  | .held _ => 1
def uptoBulkAll {H : Type} : List (DataW H) → Nat
  | [] => 0
  | d :: r => uptoBulk d + uptoBulkAll r
def uptoBulkEntries {H : Type} : List (Lit × DataW H) → Nat
  | [] => 0
  | x :: r => uptoBulkEntry x + uptoBulkEntries r
def uptoBulkEntry {H : Type} : Lit × DataW H → Nat
  | (.string bytes, d) => bytes.length + uptoBulk d + 1
  | (_, d) => uptoBulk d + 1
 end
def uptoSmall : (H : Type) → List (DataW H) → Bool := fun _ ds => decide (uptoBulkAll ds ≤ 1048576)
def OpenSpec.upto (s : _root_.Go.ChangeSpec) : _root_.Go.OpenSpec := { _root_.Go.OpenSpec.ofChange s with cond := some uptoSmall }

/-- 'millracelaw12.TimesOpens', WHERE WHAT IT READS IS OF BULK AT MOST 1048576: true; the input reads as it did. -/
def timesOpensUptoRow : OpenClaim := { program := "ytmjbgfflbeibnaa", sum := "b4ba02a242d118823eb64d97d21f0faa2bf92b486bb0b6c790da6d140575837f", func := "millrace/millracelaw12.TimesOpens", spec := "timesOpens", unfollowed := true, recurses := true, apart := false, narrowed := true }
def TimesOpensUptoSaid : Prop := timesOpensUptoRow.holds Try.pinned (OpenSpec.upto timesOpensSpec)

/-- 'millracelaw12.TimesAgain', WHERE WHAT IT READS IS OF BULK AT MOST 1048576: true; the input reads as it did. -/
def timesAgainUptoRow : OpenClaim := { program := "ytmjbgfflbeibnaa", sum := "b4ba02a242d118823eb64d97d21f0faa2bf92b486bb0b6c790da6d140575837f", func := "millrace/millracelaw12.TimesAgain", spec := "timesAgain", unfollowed := true, recurses := true, apart := false, narrowed := true }
def TimesAgainUptoSaid : Prop := timesAgainUptoRow.holds Try.pinned (OpenSpec.upto timesAgainSpec)

/-- 'millracelaw12.TimesHold', WHERE WHAT IT READS IS OF BULK AT MOST 1048576: true; the input reads as it did. -/
def timesHoldUptoRow : OpenClaim := { program := "ytmjbgfflbeibnaa", sum := "b4ba02a242d118823eb64d97d21f0faa2bf92b486bb0b6c790da6d140575837f", func := "millrace/millracelaw12.TimesHold", spec := "timesHold", unfollowed := true, recurses := true, apart := false, narrowed := true }
def TimesHoldUptoSaid : Prop := timesHoldUptoRow.holds Try.pinned (OpenSpec.upto timesHoldSpec)

/-- 'millracelaw12.TimesPlays', WHERE WHAT IT READS IS OF BULK AT MOST 1048576: true; the input reads as it did. -/
def timesPlaysUptoRow : OpenClaim := { program := "ytmjbgfflbeibnaa", sum := "b4ba02a242d118823eb64d97d21f0faa2bf92b486bb0b6c790da6d140575837f", func := "millrace/millracelaw12.TimesPlays", spec := "timesPlays", unfollowed := true, recurses := true, apart := false, narrowed := true }
def TimesPlaysUptoSaid : Prop := timesPlaysUptoRow.holds Try.pinned (OpenSpec.upto timesPlaysSpec)

end Rows
end Go.Proofs.Ytmjbgfflbeibnaa
