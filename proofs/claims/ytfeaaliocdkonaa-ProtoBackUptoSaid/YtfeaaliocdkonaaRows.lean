/-
  No cell of these rows narrows 'for every input' (looked for: loops, veiled, ifaces, maps, wideKeys, modest, calm, conditions, laid).
  DERIVED. THE GIVEN ROWS OF THIS SEAT. 6 by the template 'for every input the law returns true; each argument reads behind the call as it read before'; 0 by the template 'total and deterministic' (their statements: YtfeaaliocdkonaaTotals.lean).
  GIVEN WITH THE SEED: the statements are not yours to turn. If you find one false, say at which input.
  Laid BY PROGRAM, IN A SANDBOX (cutbox-rows.mjs): the forced cells as the released guide's own fill.sh prints them over the translation 695565bdaba85a63… (all of the seat's roots in one cut). By AI agents, Wed Nov 11 2026. No macro, syntax, notation, axiom, sorry.
-/
import Derived.Test.YtfeaaliocdkonaaChecked
import GoSem.Claim
import GoSem.ClaimJoined
import GoSem.ClaimMapViews
import Derived.JoinedTies
import Derived.KernelRfl
namespace Go.Proofs.Ytfeaaliocdkonaa
/- THE CELL 'sum', in the pinned program and in every row, IS THE sha256 OF THE DUMP (.gsa) THAT YtfeaaliocdkonaaProg.lean LOADS. Nothing in Lean hashes anything: it is a label: what it is worth is what the hold of that sum in a sandbox is worth. -/
noncomputable def Try.pinned : Pinned := { name := "ytfeaaliocdkonaa", sum := "695565bdaba85a63b9c6f51404e4091b109e5b80a406df601b9685318ccdce90", checked := Try.checked }
namespace Rows
def none {H : Type} : Left H := { results := [], args := [] }

/-- 'millracelaw20.ProtoAsks': WHATEVER THE INPUT: true; the input reads as it did. -/
def protoAsksSpec : ChangeSpec := { name := "protoAsks", fn := fun _ => fun
  | [d1, d2] => { results := [.lit (.bool true)], args := [d1, d2] }
  | _ => none }
def protoAsksRow : OpenClaim := { program := "ytfeaaliocdkonaa", sum := "695565bdaba85a63b9c6f51404e4091b109e5b80a406df601b9685318ccdce90", func := "millrace/millracelaw20.ProtoAsks", spec := "protoAsks", unfollowed := true, recurses := true, apart := false }
def ProtoAsksSaid : Prop := protoAsksRow.holds Try.pinned (OpenSpec.ofChange protoAsksSpec)

/-- ITS FALSE NEIGHBOUR: 'it returns false'. Refute it at one input. -/
def protoAsksWrong : ChangeSpec := { name := "protoAsks", fn := fun _ => fun
  | [d1, d2] => { results := [.lit (.bool false)], args := [d1, d2] }
  | _ => none }
def ProtoAsksWrongFalsely : Prop := protoAsksRow.holds Try.pinned (OpenSpec.ofChange protoAsksWrong)

/-- 'millracelaw20.ProtoStream': WHATEVER THE INPUT: true; the input reads as it did. -/
def protoStreamSpec : ChangeSpec := { name := "protoStream", fn := fun _ => fun
  | [d] => { results := [.lit (.bool true)], args := [d] }
  | _ => none }
def protoStreamRow : OpenClaim := { program := "ytfeaaliocdkonaa", sum := "695565bdaba85a63b9c6f51404e4091b109e5b80a406df601b9685318ccdce90", func := "millrace/millracelaw20.ProtoStream", spec := "protoStream", unfollowed := true, recurses := true, apart := false }
def ProtoStreamSaid : Prop := protoStreamRow.holds Try.pinned (OpenSpec.ofChange protoStreamSpec)

/-- ITS FALSE NEIGHBOUR: 'it returns false'. Refute it at one input. -/
def protoStreamWrong : ChangeSpec := { name := "protoStream", fn := fun _ => fun
  | [d] => { results := [.lit (.bool false)], args := [d] }
  | _ => none }
def ProtoStreamWrongFalsely : Prop := protoStreamRow.holds Try.pinned (OpenSpec.ofChange protoStreamWrong)

/-- 'millracelaw20.ProtoCuts': WHATEVER THE INPUT: true; the input reads as it did. -/
def protoCutsSpec : ChangeSpec := { name := "protoCuts", fn := fun _ => fun
  | [d] => { results := [.lit (.bool true)], args := [d] }
  | _ => none }
def protoCutsRow : OpenClaim := { program := "ytfeaaliocdkonaa", sum := "695565bdaba85a63b9c6f51404e4091b109e5b80a406df601b9685318ccdce90", func := "millrace/millracelaw20.ProtoCuts", spec := "protoCuts", unfollowed := true, recurses := true, apart := false }
def ProtoCutsSaid : Prop := protoCutsRow.holds Try.pinned (OpenSpec.ofChange protoCutsSpec)

/-- ITS FALSE NEIGHBOUR: 'it returns false'. Refute it at one input. -/
def protoCutsWrong : ChangeSpec := { name := "protoCuts", fn := fun _ => fun
  | [d] => { results := [.lit (.bool false)], args := [d] }
  | _ => none }
def ProtoCutsWrongFalsely : Prop := protoCutsRow.holds Try.pinned (OpenSpec.ofChange protoCutsWrong)

/-- 'millracelaw20.ProtoLong': WHATEVER THE INPUT: true; the input reads as it did. -/
def protoLongSpec : ChangeSpec := { name := "protoLong", fn := fun _ => fun
  | [] => { results := [.lit (.bool true)], args := [] }
  | _ => none }
def protoLongRow : OpenClaim := { program := "ytfeaaliocdkonaa", sum := "695565bdaba85a63b9c6f51404e4091b109e5b80a406df601b9685318ccdce90", func := "millrace/millracelaw20.ProtoLong", spec := "protoLong", unfollowed := true, recurses := true, apart := false }
def ProtoLongSaid : Prop := protoLongRow.holds Try.pinned (OpenSpec.ofChange protoLongSpec)

/-- ITS FALSE NEIGHBOUR: 'it returns false'. Refute it at one input. -/
def protoLongWrong : ChangeSpec := { name := "protoLong", fn := fun _ => fun
  | [] => { results := [.lit (.bool false)], args := [] }
  | _ => none }
def ProtoLongWrongFalsely : Prop := protoLongRow.holds Try.pinned (OpenSpec.ofChange protoLongWrong)

/-- 'millracelaw20.ProtoTells': WHATEVER THE INPUT: true; the input reads as it did. -/
def protoTellsSpec : ChangeSpec := { name := "protoTells", fn := fun _ => fun
  | [d1, d2] => { results := [.lit (.bool true)], args := [d1, d2] }
  | _ => none }
def protoTellsRow : OpenClaim := { program := "ytfeaaliocdkonaa", sum := "695565bdaba85a63b9c6f51404e4091b109e5b80a406df601b9685318ccdce90", func := "millrace/millracelaw20.ProtoTells", spec := "protoTells", unfollowed := true, recurses := true, apart := false }
def ProtoTellsSaid : Prop := protoTellsRow.holds Try.pinned (OpenSpec.ofChange protoTellsSpec)

/-- ITS FALSE NEIGHBOUR: 'it returns false'. Refute it at one input. -/
def protoTellsWrong : ChangeSpec := { name := "protoTells", fn := fun _ => fun
  | [d1, d2] => { results := [.lit (.bool false)], args := [d1, d2] }
  | _ => none }
def ProtoTellsWrongFalsely : Prop := protoTellsRow.holds Try.pinned (OpenSpec.ofChange protoTellsWrong)

/-- 'millracelaw20.ProtoBack': WHATEVER THE INPUT: true; the input reads as it did. -/
def protoBackSpec : ChangeSpec := { name := "protoBack", fn := fun _ => fun
  | [d] => { results := [.lit (.bool true)], args := [d] }
  | _ => none }
def protoBackRow : OpenClaim := { program := "ytfeaaliocdkonaa", sum := "695565bdaba85a63b9c6f51404e4091b109e5b80a406df601b9685318ccdce90", func := "millrace/millracelaw20.ProtoBack", spec := "protoBack", unfollowed := true, recurses := true, apart := false }
def ProtoBackSaid : Prop := protoBackRow.holds Try.pinned (OpenSpec.ofChange protoBackSpec)

/-- ITS FALSE NEIGHBOUR: 'it returns false'. Refute it at one input. -/
def protoBackWrong : ChangeSpec := { name := "protoBack", fn := fun _ => fun
  | [d] => { results := [.lit (.bool false)], args := [d] }
  | _ => none }
def ProtoBackWrongFalsely : Prop := protoBackRow.holds Try.pinned (OpenSpec.ofChange protoBackWrong)

/- THE SECOND FORM. 'bulk': how many values and letters a reading holds, each counted each time it is reached (what is shared counts as often as it is met; a slice's spare places count too). A statement '..UptoSaid' is the law's where the arguments, and the package variables that the reading takes, are together of bulk at most 1048576: NARROWER than '..Said'. Prove '..Said' where nothing that the law and all that it calls make is longer than what came in: it says more and counts as full. Else prove '..UptoSaid'. A law counts once. -/
mutual
def uptoBulk {H : Type} : DataW H → Nat
  | .lit (.string bytes) => bytes.length + 1
  | .lit _ => 1
  | .nil => 1
  | .ptr d => uptoBulk d + 1
  | .slice elems spare => uptoBulkAll elems + uptoBulkAll spare + 1
  | .agg parts => uptoBulkAll parts + 1
  | .iface _ d => uptoBulk d + 1
  | .map entries => uptoBulkEntries entries + 1
  | .held _ => 1
def uptoBulkAll {H : Type} : List (DataW H) → Nat
  | [] => 0
  | d :: r => uptoBulk d + uptoBulkAll r
def uptoBulkEntries {H : Type} : List (Lit × DataW H) → Nat
  | [] => 0
  | x :: r => uptoBulkEntry x + uptoBulkEntries r
def uptoBulkEntry {H : Type} : Lit × DataW H → Nat
  | (.string bytes, d) => bytes.length + uptoBulk d + 1
  | (_, d) => uptoBulk d + 1
 end
def uptoSmall : (H : Type) → List (DataW H) → Bool := fun _ ds => decide (uptoBulkAll ds ≤ 1048576)
def OpenSpec.upto (s : _root_.Go.ChangeSpec) : _root_.Go.OpenSpec := { _root_.Go.OpenSpec.ofChange s with cond := some uptoSmall }

/-- 'millracelaw20.ProtoAsks', WHERE WHAT IT READS IS OF BULK AT MOST 1048576: true; the input reads as it did. -/
def protoAsksUptoRow : OpenClaim := { program := "ytfeaaliocdkonaa", sum := "695565bdaba85a63b9c6f51404e4091b109e5b80a406df601b9685318ccdce90", func := "millrace/millracelaw20.ProtoAsks", spec := "protoAsks", unfollowed := true, recurses := true, apart := false, narrowed := true }
def ProtoAsksUptoSaid : Prop := protoAsksUptoRow.holds Try.pinned (OpenSpec.upto protoAsksSpec)

/-- 'millracelaw20.ProtoStream', WHERE WHAT IT READS IS OF BULK AT MOST 1048576: true; the input reads as it did. -/
def protoStreamUptoRow : OpenClaim := { program := "ytfeaaliocdkonaa", sum := "695565bdaba85a63b9c6f51404e4091b109e5b80a406df601b9685318ccdce90", func := "millrace/millracelaw20.ProtoStream", spec := "protoStream", unfollowed := true, recurses := true, apart := false, narrowed := true }
def ProtoStreamUptoSaid : Prop := protoStreamUptoRow.holds Try.pinned (OpenSpec.upto protoStreamSpec)

/-- 'millracelaw20.ProtoCuts', WHERE WHAT IT READS IS OF BULK AT MOST 1048576: true; the input reads as it did. -/
def protoCutsUptoRow : OpenClaim := { program := "ytfeaaliocdkonaa", sum := "695565bdaba85a63b9c6f51404e4091b109e5b80a406df601b9685318ccdce90", func := "millrace/millracelaw20.ProtoCuts", spec := "protoCuts", unfollowed := true, recurses := true, apart := false, narrowed := true }
def ProtoCutsUptoSaid : Prop := protoCutsUptoRow.holds Try.pinned (OpenSpec.upto protoCutsSpec)

/-- 'millracelaw20.ProtoLong', WHERE WHAT IT READS IS OF BULK AT MOST 1048576: true; the input reads as it did. -/
def protoLongUptoRow : OpenClaim := { program := "ytfeaaliocdkonaa", sum := "695565bdaba85a63b9c6f51404e4091b109e5b80a406df601b9685318ccdce90", func := "millrace/millracelaw20.ProtoLong", spec := "protoLong", unfollowed := true, recurses := true, apart := false, narrowed := true }
def ProtoLongUptoSaid : Prop := protoLongUptoRow.holds Try.pinned (OpenSpec.upto protoLongSpec)

/-- 'millracelaw20.ProtoTells', WHERE WHAT IT READS IS OF BULK AT MOST 1048576: true; the input reads as it did. -/
def protoTellsUptoRow : OpenClaim := { program := "ytfeaaliocdkonaa", sum := "695565bdaba85a63b9c6f51404e4091b109e5b80a406df601b9685318ccdce90", func := "millrace/millracelaw20.ProtoTells", spec := "protoTells", unfollowed := true, recurses := true, apart := false, narrowed := true }
def ProtoTellsUptoSaid : Prop := protoTellsUptoRow.holds Try.pinned (OpenSpec.upto protoTellsSpec)

/-- 'millracelaw20.ProtoBack', WHERE WHAT IT READS IS OF BULK AT MOST 1048576: true; the input reads as it did. -/
def protoBackUptoRow : OpenClaim := { program := "ytfeaaliocdkonaa", sum := "695565bdaba85a63b9c6f51404e4091b109e5b80a406df601b9685318ccdce90", func := "millrace/millracelaw20.ProtoBack", spec := "protoBack", unfollowed := true, recurses := true, apart := false, narrowed := true }
def ProtoBackUptoSaid : Prop := protoBackUptoRow.holds Try.pinned (OpenSpec.upto protoBackSpec)

end Rows
end Go.Proofs.Ytfeaaliocdkonaa
