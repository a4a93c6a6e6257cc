/-
  No cell of these rows narrows 'for every input' (looked for: loops, veiled, ifaces, maps, wideKeys, modest, calm, conditions, laid).
  DERIVED. THE GIVEN ROWS OF THIS SEAT. 4 by the template 'for every input the law returns true; each argument reads behind the call as it read before'; 0 by the template 'total and deterministic' (their statements: YtpgkkpjdajkobaaTotals.lean).
  GIVEN WITH THE SEED: the statements are not yours to turn. If you find one false, say at which input.
  Laid BY PROGRAM, IN A SANDBOX (cutbox-rows.mjs): the forced cells as the released guide's own fill.sh prints them over the translation c6318b58a5fd6c32… (all of the seat's roots in one cut). By AI agents, Wed Nov 11 2026. No macro, syntax, notation, axiom, sorry.
-/
import Derived.Test.YtpgkkpjdajkobaaChecked
import GoSem.Claim
import GoSem.ClaimJoined
import GoSem.ClaimMapViews
import Derived.JoinedTies
import Derived.KernelRfl
namespace Go.Proofs.Ytpgkkpjdajkobaa
/- THE CELL 'sum', in the pinned program and in every row, IS THE sha256 OF THE DUMP (.gsa) THAT YtpgkkpjdajkobaaProg.lean LOADS. Nothing in Lean hashes anything: it is a label: what it is worth is what the hold of that sum in a sandbox is worth. -/
noncomputable def Try.pinned : Pinned := { name := "ytpgkkpjdajkobaa", sum := "c6318b58a5fd6c3227d2744579be2f7f5d8f4494b68885240c218da602eab3b1", checked := Try.checked }
namespace Rows
def none {H : Type} : Left H := { results := [], args := [] }

/-- 'millracelaw17.ModelApart': WHATEVER THE INPUT: true; the input reads as it did. -/
def modelApartSpec : ChangeSpec := { name := "modelApart", fn := fun _ => fun
  | [d] => { results := [.lit (.bool true)], args := [d] }
  | _ => none }
def modelApartRow : OpenClaim := { program := "ytpgkkpjdajkobaa", sum := "c6318b58a5fd6c3227d2744579be2f7f5d8f4494b68885240c218da602eab3b1", func := "millrace/millracelaw17.ModelApart", spec := "modelApart", unfollowed := true, recurses := true, apart := false }
def ModelApartSaid : Prop := modelApartRow.holds Try.pinned (OpenSpec.ofChange modelApartSpec)

/-- ITS FALSE NEIGHBOUR: 'it returns false'. Refute it at one input. -/
def modelApartWrong : ChangeSpec := { name := "modelApart", fn := fun _ => fun
  | [d] => { results := [.lit (.bool false)], args := [d] }
  | _ => none }
def ModelApartWrongFalsely : Prop := modelApartRow.holds Try.pinned (OpenSpec.ofChange modelApartWrong)

/-- 'millracelaw17.ModelStands': WHATEVER THE INPUT: true; the input reads as it did. -/
def modelStandsSpec : ChangeSpec := { name := "modelStands", fn := fun _ => fun
  | [d1, d2] => { results := [.lit (.bool true)], args := [d1, d2] }
  | _ => none }
def modelStandsRow : OpenClaim := { program := "ytpgkkpjdajkobaa", sum := "c6318b58a5fd6c3227d2744579be2f7f5d8f4494b68885240c218da602eab3b1", func := "millrace/millracelaw17.ModelStands", spec := "modelStands", unfollowed := true, recurses := true, apart := false }
def ModelStandsSaid : Prop := modelStandsRow.holds Try.pinned (OpenSpec.ofChange modelStandsSpec)

/-- ITS FALSE NEIGHBOUR: 'it returns false'. Refute it at one input. -/
def modelStandsWrong : ChangeSpec := { name := "modelStands", fn := fun _ => fun
  | [d1, d2] => { results := [.lit (.bool false)], args := [d1, d2] }
  | _ => none }
def ModelStandsWrongFalsely : Prop := modelStandsRow.holds Try.pinned (OpenSpec.ofChange modelStandsWrong)

/-- 'millracelaw17.ModelPlay': WHATEVER THE INPUT: true; the input reads as it did. -/
def modelPlaySpec : ChangeSpec := { name := "modelPlay", fn := fun _ => fun
  | [d1, d2] => { results := [.lit (.bool true)], args := [d1, d2] }
  | _ => none }
def modelPlayRow : OpenClaim := { program := "ytpgkkpjdajkobaa", sum := "c6318b58a5fd6c3227d2744579be2f7f5d8f4494b68885240c218da602eab3b1", func := "millrace/millracelaw17.ModelPlay", spec := "modelPlay", unfollowed := true, recurses := true, apart := false }
def ModelPlaySaid : Prop := modelPlayRow.holds Try.pinned (OpenSpec.ofChange modelPlaySpec)

/-- ITS FALSE NEIGHBOUR: 'it returns false'. Refute it at one input. -/
def modelPlayWrong : ChangeSpec := { name := "modelPlay", fn := fun _ => fun
  | [d1, d2] => { results := [.lit (.bool false)], args := [d1, d2] }
  | _ => none }
def ModelPlayWrongFalsely : Prop := modelPlayRow.holds Try.pinned (OpenSpec.ofChange modelPlayWrong)

/-- 'millracelaw17.ModelNil': WHATEVER THE INPUT: true; the input reads as it did. -/
def modelNilSpec : ChangeSpec := { name := "modelNil", fn := fun _ => fun
  | [d1, d2, d3] => { results := [.lit (.bool true)], args := [d1, d2, d3] }
  | _ => none }
def modelNilRow : OpenClaim := { program := "ytpgkkpjdajkobaa", sum := "c6318b58a5fd6c3227d2744579be2f7f5d8f4494b68885240c218da602eab3b1", func := "millrace/millracelaw17.ModelNil", spec := "modelNil", unfollowed := true, recurses := true, apart := false }
def ModelNilSaid : Prop := modelNilRow.holds Try.pinned (OpenSpec.ofChange modelNilSpec)

/-- ITS FALSE NEIGHBOUR: 'it returns false'. Refute it at one input. -/
def modelNilWrong : ChangeSpec := { name := "modelNil", fn := fun _ => fun
  | [d1, d2, d3] => { results := [.lit (.bool false)], args := [d1, d2, d3] }
  | _ => none }
def ModelNilWrongFalsely : Prop := modelNilRow.holds Try.pinned (OpenSpec.ofChange modelNilWrong)

/- THE SECOND FORM. 'bulk': how many values and letters a reading holds, each counted each time it is reached (what is shared counts as often as it is met; a slice's spare places count too). A statement '..UptoSaid' is the law's where the arguments, and the package variables that the reading takes, are together of bulk at most 1048576: NARROWER than '..Said'. Prove '..Said' where nothing that the law and all that it calls make is longer than what came in: it says more and counts as full. Else prove '..UptoSaid'. A law counts once. -/
mutual
def uptoBulk {H : Type} : DataW H → Nat
  | .lit (.string bytes) => bytes.length + 1
  | .lit _ => 1
  | .nil => 1
  | .ptr d => uptoBulk d + 1
  | .slice elems spare => uptoBulkAll elems + uptoBulkAll spare + 1
  | .agg parts => uptoBulkAll parts + 1
  | .iface _ d => uptoBulk d + 1
  | .map entries => uptoBulkEntries entries + 1
  | .held _ => 1
def uptoBulkAll {H : Type} : List (DataW H) → Nat
  | [] => 0
  | d :: r => uptoBulk d + uptoBulkAll r
def uptoBulkEntries {H : Type} : List (Lit × DataW H) → Nat
  | [] => 0
  | x :: r => uptoBulkEntry x + uptoBulkEntries r
def uptoBulkEntry {H : Type} : Lit × DataW H → Nat
  | (.string bytes, d) => bytes.length + uptoBulk d + 1
  | (_, d) => uptoBulk d + 1
 end
def uptoSmall : (H : Type) → List (DataW H) → Bool := fun _ ds => decide (uptoBulkAll ds ≤ 1048576)
def OpenSpec.upto (s : _root_.Go.ChangeSpec) : _root_.Go.OpenSpec := { _root_.Go.OpenSpec.ofChange s with cond := some uptoSmall }

/-- 'millracelaw17.ModelApart', WHERE WHAT IT READS IS OF BULK AT MOST 1048576: true; the input reads as it did. -/
def modelApartUptoRow : OpenClaim := { program := "ytpgkkpjdajkobaa", sum := "c6318b58a5fd6c3227d2744579be2f7f5d8f4494b68885240c218da602eab3b1", func := "millrace/millracelaw17.ModelApart", spec := "modelApart", unfollowed := true, recurses := true, apart := false, narrowed := true }
def ModelApartUptoSaid : Prop := modelApartUptoRow.holds Try.pinned (OpenSpec.upto modelApartSpec)

/-- 'millracelaw17.ModelStands', WHERE WHAT IT READS IS OF BULK AT MOST 1048576: true; the input reads as it did. -/
def modelStandsUptoRow : OpenClaim := { program := "ytpgkkpjdajkobaa", sum := "c6318b58a5fd6c3227d2744579be2f7f5d8f4494b68885240c218da602eab3b1", func := "millrace/millracelaw17.ModelStands", spec := "modelStands", unfollowed := true, recurses := true, apart := false, narrowed := true }
def ModelStandsUptoSaid : Prop := modelStandsUptoRow.holds Try.pinned (OpenSpec.upto modelStandsSpec)

/-- 'millracelaw17.ModelPlay', WHERE WHAT IT READS IS OF BULK AT MOST 1048576: true; the input reads as it did. -/
def modelPlayUptoRow : OpenClaim := { program := "ytpgkkpjdajkobaa", sum := "c6318b58a5fd6c3227d2744579be2f7f5d8f4494b68885240c218da602eab3b1", func := "millrace/millracelaw17.ModelPlay", spec := "modelPlay", unfollowed := true, recurses := true, apart := false, narrowed := true }
def ModelPlayUptoSaid : Prop := modelPlayUptoRow.holds Try.pinned (OpenSpec.upto modelPlaySpec)

/-- 'millracelaw17.ModelNil', WHERE WHAT IT READS IS OF BULK AT MOST 1048576: true; the input reads as it did. -/
def modelNilUptoRow : OpenClaim := { program := "ytpgkkpjdajkobaa", sum := "c6318b58a5fd6c3227d2744579be2f7f5d8f4494b68885240c218da602eab3b1", func := "millrace/millracelaw17.ModelNil", spec := "modelNil", unfollowed := true, recurses := true, apart := false, narrowed := true }
def ModelNilUptoSaid : Prop := modelNilUptoRow.holds Try.pinned (OpenSpec.upto modelNilSpec)

end Rows
end Go.Proofs.Ytpgkkpjdajkobaa
