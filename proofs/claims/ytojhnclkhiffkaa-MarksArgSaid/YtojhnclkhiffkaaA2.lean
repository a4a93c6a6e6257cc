/-
  MarksArg answers true whatever the numbers are: a run that may not be is refused, with no result; no condition.
-/
import Derived.Test.YtojhnclkhiffkaaA1
import Derived.Test.YtojhnclkhiffkaaRows
import Derived.Test.YtojhnclkhiffkaaK16
import Derived.Conc.Holds
namespace Go.Proofs.Ytojhnclkhiffkaa.marksArg
open Go.ChangeShapes Go.WideShapes Go.ChangeAt Go.RowKit Go.Proofs.Ytojhnclkhiffkaa mk
set_option linter.unusedVariables false

theorem leave {a : Assume} {C : Checked} {os : Os} {f : FuncId} {r : Reach} {Pre : World → Array Value → Prop} {Post : World → Array Value → Value → World → Prop} (h : ReturnsInHanded a C os f r Pre Post) : ReturnsInLeavingWide a C os f r Pre Post :=
  fun enter => ReturnsInOpen.mono (fun last w t x => ⟨x.2.1, ⟨fun g hg => ⟨0, by
    have h1 := x.1.1
    simp only [Machine.othersDone, List.all_eq_true] at h1
    exact beq_iff_eq.1 (h1 g hg)⟩, x.1.2⟩, x.2.2⟩) (fun _ x => x) (h enter)

theorem own : ownKnob Try.prog.godebug = none := by kernel_rfl

set_option maxRecDepth 100000 in
theorem contract (H : Type) (enc : TypeId × Value → H) (W : World) (base : Nat) (args : Array Value) (ds gs : List (DataW H)) (before : List MemPlace)
    (hval : ∀ (j : Nat) t v, Try.f7.params[j]? = some t → args[j]? = some v → Value.okWide Try.prog W .any base t v)
    (hW : DataW.Whole enc Try.prog Try.f7.params.toList Rows.marksArgSpec.vars false W args.toList ds gs before)
    (hwt : (DataW.weightsEach Try.prog (Try.f7.params.toList ++ Rows.marksArgSpec.plain.varTypes Try.prog) (ds ++ gs)).all (· ≤ reachBytes) = true) :
    Calls Try.prog 7 args W fun e W' => ∃ v, e = .returned v ∧ Rows.marksArgSpec.post enc Try.prog Try.f7 false true false false W args v W' := by
  have hW' := hW
  obtain ⟨p, q, hA0, hV, rfl, hfz, hnd⟩ := hW
  have hA : DataW.TrodAll enc Try.prog W 0 (fun _ => true) true Try.f7.params.toList args.toList ds p := hA0
  rw [Try.params7] at hA hval hwt
  obtain ⟨v0, vs0, d0, ds0, p0, q0, hargs, rfl, rfl, h0, r0⟩ := trodAll_cons hA
  obtain ⟨v1, vs1, d1, ds1, p1, q1, rfl, rfl, rfl, h1, r1⟩ := trodAll_cons r0
  obtain ⟨v2, vs2, d2, ds2, p2, q2, rfl, rfl, rfl, h2, r2⟩ := trodAll_cons r1
  obtain ⟨rfl, rfl, rfl⟩ := trodAll_nil r2
  obtain rfl : args = #[v0, v1, v2] := by cases args; simp_all
  obtain ⟨rfl, rfl⟩ := trodVars_none hV
  obtain ⟨x0, rfl, r0_⟩ := arg_int (-9223372036854775808) 9223372036854775807 rfl rfl Try.underlying3 (hval 0 3 v0 rfl rfl) h0
  obtain ⟨x1, rfl, r1_⟩ := arg_int (-9223372036854775808) 9223372036854775807 rfl rfl Try.underlying3 (hval 1 3 v1 rfl rfl) h1
  obtain ⟨x2, rfl, r2_⟩ := arg_int (-9223372036854775808) 9223372036854775807 rfl rfl Try.underlying3 (hval 2 3 v2 rfl rfl) h2
  refine (MA_ok x0 x1 x2 W rfl).mono fun e W' ⟨hk, v, he, hv, hx⟩ => ?_
  subst he hv
  exact ⟨_, rfl, law_post (by kernel_rfl) (by kernel_rfl) rfl Try.underlying4 rfl hW' rfl rfl rfl hk hx⟩


set_option maxRecDepth 100000 in
theorem lifted (os : Os) (started : os.Started) (H : Type) (enc : TypeId × Value → H) :
    ReturnsInHanded {} Try.checked os 7 .any (Rows.marksArgSpec.pre6 enc Try.prog Try.f7 Rows.marksArgRow.domain false) (Rows.marksArgSpec.post enc Try.prog Try.f7 false true false false) := by
  refine returnsInHanded_sized (C := Try.checked) (s := Rows.marksArgSpec) own started (by kernel_rfl) Try.func7
    (ChangeSpec.witness6 (enc := enc) (C := Try.checked) (s := Rows.marksArgSpec) false ⟨#[], #[.int .i64 0, .int .i64 0, .int .i64 0], []⟩ 8 (by kernel_rfl) (by kernel_rfl) (by kernel_rfl) (by kernel_rfl)) ?_
  intro W base args ds gs before hval hW hwt
  exact contract H enc W base args ds gs before hval hW hwt

theorem over : Rows.marksArgRow.holds Try.pinned (OpenSpec.ofChange Rows.marksArgSpec) :=
  OpenClaim.holds_of_wide_leaving 7 Try.f7 rfl rfl rfl rfl rfl rfl rfl ⟨rfl, rfl, rfl, rfl, rfl⟩ rfl rfl rfl rfl rfl (by kernel_rfl) Try.func7 (by kernel_rfl)
    (of_decide_eq_true (by kernel_rfl)) (by unfold Func.isWrapper; first | (rw [if_pos (by decide +kernel)]; kernel_rfl) | (rw [if_neg (by decide +kernel)]; exact ⟨rfl, rfl⟩))
    (fun os started H enc _ => leave (lifted os started H enc))

theorem proved : Rows.MarksArgSaid :=
  over
end Go.Proofs.Ytojhnclkhiffkaa.marksArg
