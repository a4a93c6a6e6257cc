/-
  No cell of these rows narrows 'for every input' (looked for: loops, veiled, ifaces, maps, wideKeys, modest, calm, conditions, laid).
  DERIVED. THE GIVEN ROWS OF THIS SEAT. 7 by the template 'for every input the law returns true; each argument reads behind the call as it read before'; 0 by the template 'total and deterministic' (their statements: YtbnjhgfpfajnoaaTotals.lean).
  GIVEN WITH THE SEED: the statements are not yours to turn. If you find one false, say at which input.
  Laid BY PROGRAM, IN A SANDBOX (cutbox-rows.mjs): the forced cells as the released guide's own fill.sh prints them over the translation 182043d8c75bbfae… (all of the seat's roots in one cut). By AI agents, Wed Nov 11 2026. No macro, syntax, notation, axiom, sorry.
-/
import Derived.Test.YtbnjhgfpfajnoaaChecked
import GoSem.Claim
import GoSem.ClaimJoined
import GoSem.ClaimMapViews
import Derived.JoinedTies
import Derived.KernelRfl
namespace Go.Proofs.Ytbnjhgfpfajnoaa
/- THE CELL 'sum', in the pinned program and in every row, IS THE sha256 OF THE DUMP (.gsa) THAT YtbnjhgfpfajnoaaProg.lean LOADS. Nothing in Lean hashes anything: it is a label: what it is worth is what the hold of that sum in a sandbox is worth. -/
noncomputable def Try.pinned : Pinned := { name := "ytbnjhgfpfajnoaa", sum := "182043d8c75bbfae1d95a117a225332ee64ca11fa6de50ca663b170f3d3bafd7", checked := Try.checked }
namespace Rows
def none {H : Type} : Left H := { results := [], args := [] }

/-- 'millracelaw05.RecordAll': WHATEVER THE INPUT: true; the input reads as it did. -/
def recordAllSpec : ChangeSpec := { name := "recordAll", fn := fun _ => fun
  | [d1, d2] => { results := [.lit (.bool true)], args := [d1, d2] }
  | _ => none }
def recordAllRow : OpenClaim := { program := "ytbnjhgfpfajnoaa", sum := "182043d8c75bbfae1d95a117a225332ee64ca11fa6de50ca663b170f3d3bafd7", func := "millrace/millracelaw05.RecordAll", spec := "recordAll", unfollowed := true, recurses := true, apart := false }
def RecordAllSaid : Prop := recordAllRow.holds Try.pinned (OpenSpec.ofChange recordAllSpec)

/-- ITS FALSE NEIGHBOUR: 'it returns false'. Refute it at one input. -/
def recordAllWrong : ChangeSpec := { name := "recordAll", fn := fun _ => fun
  | [d1, d2] => { results := [.lit (.bool false)], args := [d1, d2] }
  | _ => none }
def RecordAllWrongFalsely : Prop := recordAllRow.holds Try.pinned (OpenSpec.ofChange recordAllWrong)

/-- 'millracelaw05.RecordSame': WHATEVER THE INPUT: true; the input reads as it did. -/
def recordSameSpec : ChangeSpec := { name := "recordSame", fn := fun _ => fun
  | [d1, d2] => { results := [.lit (.bool true)], args := [d1, d2] }
  | _ => none }
def recordSameRow : OpenClaim := { program := "ytbnjhgfpfajnoaa", sum := "182043d8c75bbfae1d95a117a225332ee64ca11fa6de50ca663b170f3d3bafd7", func := "millrace/millracelaw05.RecordSame", spec := "recordSame", unfollowed := true, recurses := true, apart := false }
def RecordSameSaid : Prop := recordSameRow.holds Try.pinned (OpenSpec.ofChange recordSameSpec)

/-- ITS FALSE NEIGHBOUR: 'it returns false'. Refute it at one input. -/
def recordSameWrong : ChangeSpec := { name := "recordSame", fn := fun _ => fun
  | [d1, d2] => { results := [.lit (.bool false)], args := [d1, d2] }
  | _ => none }
def RecordSameWrongFalsely : Prop := recordSameRow.holds Try.pinned (OpenSpec.ofChange recordSameWrong)

/-- 'millracelaw05.RecordRead': WHATEVER THE INPUT: true; the input reads as it did. -/
def recordReadSpec : ChangeSpec := { name := "recordRead", fn := fun _ => fun
  | [d1, d2] => { results := [.lit (.bool true)], args := [d1, d2] }
  | _ => none }
def recordReadRow : OpenClaim := { program := "ytbnjhgfpfajnoaa", sum := "182043d8c75bbfae1d95a117a225332ee64ca11fa6de50ca663b170f3d3bafd7", func := "millrace/millracelaw05.RecordRead", spec := "recordRead", unfollowed := true, recurses := true, apart := false }
def RecordReadSaid : Prop := recordReadRow.holds Try.pinned (OpenSpec.ofChange recordReadSpec)

/-- ITS FALSE NEIGHBOUR: 'it returns false'. Refute it at one input. -/
def recordReadWrong : ChangeSpec := { name := "recordRead", fn := fun _ => fun
  | [d1, d2] => { results := [.lit (.bool false)], args := [d1, d2] }
  | _ => none }
def RecordReadWrongFalsely : Prop := recordReadRow.holds Try.pinned (OpenSpec.ofChange recordReadWrong)

/-- 'millracelaw05.RecordBack': WHATEVER THE INPUT: true; the input reads as it did. -/
def recordBackSpec : ChangeSpec := { name := "recordBack", fn := fun _ => fun
  | [d] => { results := [.lit (.bool true)], args := [d] }
  | _ => none }
def recordBackRow : OpenClaim := { program := "ytbnjhgfpfajnoaa", sum := "182043d8c75bbfae1d95a117a225332ee64ca11fa6de50ca663b170f3d3bafd7", func := "millrace/millracelaw05.RecordBack", spec := "recordBack", unfollowed := true, recurses := true, apart := false }
def RecordBackSaid : Prop := recordBackRow.holds Try.pinned (OpenSpec.ofChange recordBackSpec)

/-- ITS FALSE NEIGHBOUR: 'it returns false'. Refute it at one input. -/
def recordBackWrong : ChangeSpec := { name := "recordBack", fn := fun _ => fun
  | [d] => { results := [.lit (.bool false)], args := [d] }
  | _ => none }
def RecordBackWrongFalsely : Prop := recordBackRow.holds Try.pinned (OpenSpec.ofChange recordBackWrong)

/-- 'millracelaw05.RecordChanged': WHATEVER THE INPUT: true; the input reads as it did. -/
def recordChangedSpec : ChangeSpec := { name := "recordChanged", fn := fun _ => fun
  | [d] => { results := [.lit (.bool true)], args := [d] }
  | _ => none }
def recordChangedRow : OpenClaim := { program := "ytbnjhgfpfajnoaa", sum := "182043d8c75bbfae1d95a117a225332ee64ca11fa6de50ca663b170f3d3bafd7", func := "millrace/millracelaw05.RecordChanged", spec := "recordChanged", unfollowed := true, recurses := true, apart := false }
def RecordChangedSaid : Prop := recordChangedRow.holds Try.pinned (OpenSpec.ofChange recordChangedSpec)

/-- ITS FALSE NEIGHBOUR: 'it returns false'. Refute it at one input. -/
def recordChangedWrong : ChangeSpec := { name := "recordChanged", fn := fun _ => fun
  | [d] => { results := [.lit (.bool false)], args := [d] }
  | _ => none }
def RecordChangedWrongFalsely : Prop := recordChangedRow.holds Try.pinned (OpenSpec.ofChange recordChangedWrong)

/-- 'millracelaw05.RecordSizes': WHATEVER THE INPUT: true; the input reads as it did. -/
def recordSizesSpec : ChangeSpec := { name := "recordSizes", fn := fun _ => fun
  | [d] => { results := [.lit (.bool true)], args := [d] }
  | _ => none }
def recordSizesRow : OpenClaim := { program := "ytbnjhgfpfajnoaa", sum := "182043d8c75bbfae1d95a117a225332ee64ca11fa6de50ca663b170f3d3bafd7", func := "millrace/millracelaw05.RecordSizes", spec := "recordSizes", unfollowed := true, recurses := true, apart := false }
def RecordSizesSaid : Prop := recordSizesRow.holds Try.pinned (OpenSpec.ofChange recordSizesSpec)

/-- ITS FALSE NEIGHBOUR: 'it returns false'. Refute it at one input. -/
def recordSizesWrong : ChangeSpec := { name := "recordSizes", fn := fun _ => fun
  | [d] => { results := [.lit (.bool false)], args := [d] }
  | _ => none }
def RecordSizesWrongFalsely : Prop := recordSizesRow.holds Try.pinned (OpenSpec.ofChange recordSizesWrong)

/-- 'millracelaw05.RecordPut': WHATEVER THE INPUT: true; the input reads as it did. -/
def recordPutSpec : ChangeSpec := { name := "recordPut", fn := fun _ => fun
  | [d1, d2] => { results := [.lit (.bool true)], args := [d1, d2] }
  | _ => none }
def recordPutRow : OpenClaim := { program := "ytbnjhgfpfajnoaa", sum := "182043d8c75bbfae1d95a117a225332ee64ca11fa6de50ca663b170f3d3bafd7", func := "millrace/millracelaw05.RecordPut", spec := "recordPut", unfollowed := true, recurses := true, apart := false }
def RecordPutSaid : Prop := recordPutRow.holds Try.pinned (OpenSpec.ofChange recordPutSpec)

/-- ITS FALSE NEIGHBOUR: 'it returns false'. Refute it at one input. -/
def recordPutWrong : ChangeSpec := { name := "recordPut", fn := fun _ => fun
  | [d1, d2] => { results := [.lit (.bool false)], args := [d1, d2] }
  | _ => none }
def RecordPutWrongFalsely : Prop := recordPutRow.holds Try.pinned (OpenSpec.ofChange recordPutWrong)

/- THE SECOND FORM. 'bulk': how many values and letters a reading holds, each counted each time it is reached (what is shared counts as often as it is met; a slice's spare places count too). A statement '..UptoSaid' is the law's where the arguments, and the package variables that the reading takes, are together of bulk at most 1048576: NARROWER than '..Said'. Prove '..Said' where nothing that the law and all that it calls make is longer than what came in: it says more and counts as full. Else prove '..UptoSaid'. A law counts once. -/
mutual
def uptoBulk {H : Type} : DataW H → Nat
  | .lit (.string bytes) => bytes.length + 1
  | .lit _ => 1
  | .nil => 1
  | .ptr d => uptoBulk d + 1
  | .slice elems spare => uptoBulkAll elems + uptoBulkAll spare + 1
  | .agg parts => uptoBulkAll parts + 1
  | .iface _ d => uptoBulk d + 1
  | .map entries => uptoBulkEntries entries + 1
  | .held _ => 1
def uptoBulkAll {H : Type} : List (DataW H) → Nat
  | [] => 0
  | d :: r => uptoBulk d + uptoBulkAll r
def uptoBulkEntries {H : Type} : List (Lit × DataW H) → Nat
  | [] => 0
  | x :: r => uptoBulkEntry x + uptoBulkEntries r
def uptoBulkEntry {H : Type} : Lit × DataW H → Nat
  | (.string bytes, d) => bytes.length + uptoBulk d + 1
  | (_, d) => uptoBulk d + 1
 end
def uptoSmall : (H : Type) → List (DataW H) → Bool := fun _ ds => decide (uptoBulkAll ds ≤ 1048576)
def OpenSpec.upto (s : _root_.Go.ChangeSpec) : _root_.Go.OpenSpec := { _root_.Go.OpenSpec.ofChange s with cond := some uptoSmall }

/-- 'millracelaw05.RecordAll', WHERE WHAT IT READS IS OF BULK AT MOST 1048576: true; the input reads as it did. -/
def recordAllUptoRow : OpenClaim := { program := "ytbnjhgfpfajnoaa", sum := "182043d8c75bbfae1d95a117a225332ee64ca11fa6de50ca663b170f3d3bafd7", func := "millrace/millracelaw05.RecordAll", spec := "recordAll", unfollowed := true, recurses := true, apart := false, narrowed := true }
def RecordAllUptoSaid : Prop := recordAllUptoRow.holds Try.pinned (OpenSpec.upto recordAllSpec)

/-- 'millracelaw05.RecordSame', WHERE WHAT IT READS IS OF BULK AT MOST 1048576: true; the input reads as it did. -/
def recordSameUptoRow : OpenClaim := { program := "ytbnjhgfpfajnoaa", sum := "182043d8c75bbfae1d95a117a225332ee64ca11fa6de50ca663b170f3d3bafd7", func := "millrace/millracelaw05.RecordSame", spec := "recordSame", unfollowed := true, recurses := true, apart := false, narrowed := true }
def RecordSameUptoSaid : Prop := recordSameUptoRow.holds Try.pinned (OpenSpec.upto recordSameSpec)

/-- 'millracelaw05.RecordRead', WHERE WHAT IT READS IS OF BULK AT MOST 1048576: true; the input reads as it did. -/
def recordReadUptoRow : OpenClaim := { program := "ytbnjhgfpfajnoaa", sum := "182043d8c75bbfae1d95a117a225332ee64ca11fa6de50ca663b170f3d3bafd7", func := "millrace/millracelaw05.RecordRead", spec := "recordRead", unfollowed := true, recurses := true, apart := false, narrowed := true }
def RecordReadUptoSaid : Prop := recordReadUptoRow.holds Try.pinned (OpenSpec.upto recordReadSpec)

/-- 'millracelaw05.RecordBack', WHERE WHAT IT READS IS OF BULK AT MOST 1048576: true; the input reads as it did. -/
def recordBackUptoRow : OpenClaim := { program := "ytbnjhgfpfajnoaa", sum := "182043d8c75bbfae1d95a117a225332ee64ca11fa6de50ca663b170f3d3bafd7", func := "millrace/millracelaw05.RecordBack", spec := "recordBack", unfollowed := true, recurses := true, apart := false, narrowed := true }
def RecordBackUptoSaid : Prop := recordBackUptoRow.holds Try.pinned (OpenSpec.upto recordBackSpec)

/-- 'millracelaw05.RecordChanged', WHERE WHAT IT READS IS OF BULK AT MOST 1048576: true; the input reads as it did. -/
def recordChangedUptoRow : OpenClaim := { program := "ytbnjhgfpfajnoaa", sum := "182043d8c75bbfae1d95a117a225332ee64ca11fa6de50ca663b170f3d3bafd7", func := "millrace/millracelaw05.RecordChanged", spec := "recordChanged", unfollowed := true, recurses := true, apart := false, narrowed := true }
def RecordChangedUptoSaid : Prop := recordChangedUptoRow.holds Try.pinned (OpenSpec.upto recordChangedSpec)

/-- 'millracelaw05.RecordSizes', WHERE WHAT IT READS IS OF BULK AT MOST 1048576: true; the input reads as it did. -/
def recordSizesUptoRow : OpenClaim := { program := "ytbnjhgfpfajnoaa", sum := "182043d8c75bbfae1d95a117a225332ee64ca11fa6de50ca663b170f3d3bafd7", func := "millrace/millracelaw05.RecordSizes", spec := "recordSizes", unfollowed := true, recurses := true, apart := false, narrowed := true }
def RecordSizesUptoSaid : Prop := recordSizesUptoRow.holds Try.pinned (OpenSpec.upto recordSizesSpec)

/-- 'millracelaw05.RecordPut', WHERE WHAT IT READS IS OF BULK AT MOST 1048576: true; the input reads as it did. -/
def recordPutUptoRow : OpenClaim := { program := "ytbnjhgfpfajnoaa", sum := "182043d8c75bbfae1d95a117a225332ee64ca11fa6de50ca663b170f3d3bafd7", func := "millrace/millracelaw05.RecordPut", spec := "recordPut", unfollowed := true, recurses := true, apart := false, narrowed := true }
def RecordPutUptoSaid : Prop := recordPutUptoRow.holds Try.pinned (OpenSpec.upto recordPutSpec)

end Rows
end Go.Proofs.Ytbnjhgfpfajnoaa
