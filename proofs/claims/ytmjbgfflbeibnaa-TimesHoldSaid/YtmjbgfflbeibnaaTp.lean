/-
  TimesHold answers true whatever the base, the records, the place and the time are, and its argument reads behind the call as before; no condition.
-/
import Derived.Test.YtmjbgfflbeibnaaTo
import Derived.Test.YtmjbgfflbeibnaaRows
import Derived.Test.YtmjbgfflbeibnaaK16
namespace Go.Proofs.Ytmjbgfflbeibnaa.timesHold
open Go.ChangeShapes Go.WideShapes Go.ChangeAt Go.RowKit Go.Proofs.Ytmjbgfflbeibnaa ti
set_option linter.unusedVariables false

theorem own : ownKnob Try.prog.godebug = none := by kernel_rfl

set_option maxRecDepth 100000 in
theorem contract (H : Type) (enc : TypeId × Value → H) (W : World) (base : Nat) (args : Array Value) (ds gs : List (DataW H)) (before : List MemPlace)
    (hval : ∀ (j : Nat) t v, Try.f5.params[j]? = some t → args[j]? = some v → Value.okWide Try.prog W .any base t v)
    (hW : DataW.Whole enc Try.prog Try.f5.params.toList Rows.timesHoldSpec.vars false W args.toList ds gs before)
    (hwt : (DataW.weightsEach Try.prog (Try.f5.params.toList ++ Rows.timesHoldSpec.plain.varTypes Try.prog) (ds ++ gs)).all (· ≤ reachBytes) = true) :
    Calls Try.prog 5 args W fun e W' => ∃ v, e = .returned v ∧ Rows.timesHoldSpec.post enc Try.prog Try.f5 false true false false W args v W' := by
  have hW' := hW
  obtain ⟨p, q, hA0, hV, rfl, hfz, hnd⟩ := hW
  have hA : DataW.TrodAll enc Try.prog W 0 (fun _ => true) true Try.f5.params.toList args.toList ds p := hA0
  rw [Try.params5] at hA hval hwt
  obtain ⟨v0, vs0, d0, ds0, p0, q0, hargs, rfl, rfl, h0, r0⟩ := trodAll_cons hA
  obtain ⟨rfl, rfl, rfl⟩ := trodAll_nil r0
  obtain rfl : args = #[v0] := by cases args; simp_all
  obtain ⟨rfl, rfl⟩ := trodVars_none hV
  obtain ⟨w0, hwt0⟩ := weights_cons hwt
  obtain ⟨cs0, x0, rfl, g0, l0⟩ := arg_st3 (n := 30) ti.fourT Try.underlying37 (by kernel_rfl) (by kernel_rfl) (hval 0 37 v0 rfl rfl) h0 w0
  obtain ⟨v, rfl, b1, b3, b4, hr⟩ := rep_four g0
  obtain ⟨-, ⟨f1, -⟩, -⟩ := l0
  have hby : Ty.by rc = 56 := rfl
  rw [hby] at f1
  refine (TH_ok b1 b3 hr (by omega) W rfl).mono fun e W' ⟨hk, v, he, hv, hx⟩ => ?_
  subst he hv
  exact ⟨_, rfl, law_post (by kernel_rfl) (by kernel_rfl) rfl Try.underlying4 rfl hW' rfl rfl rfl hk hx⟩


set_option maxRecDepth 100000 in
theorem lifted (os : Os) (started : os.Started) (H : Type) (enc : TypeId × Value → H) :
    ReturnsInHanded {} Try.checked os 5 .any (Rows.timesHoldSpec.pre6 enc Try.prog Try.f5 Rows.timesHoldRow.domain false) (Rows.timesHoldSpec.post enc Try.prog Try.f5 false true false false) := by
  refine returnsInHanded_sized (C := Try.checked) (s := Rows.timesHoldSpec) own started (by kernel_rfl) Try.func5
    (ChangeSpec.witness6 (enc := enc) (C := Try.checked) (s := Rows.timesHoldSpec) false ⟨#[], #[.agg #[.int .i64 0, .slice none 0 0, .int .i64 0, .int .i64 0]], []⟩ 8 (by kernel_rfl) (by kernel_rfl) (by kernel_rfl) (by kernel_rfl)) ?_
  intro W base args ds gs before hval hW hwt
  exact contract H enc W base args ds gs before hval hW hwt

theorem over : Rows.timesHoldRow.holds Try.pinned (OpenSpec.ofChange Rows.timesHoldSpec) :=
  OpenClaim.holds_of_wide 5 Try.f5 rfl rfl rfl rfl rfl rfl rfl ⟨rfl, rfl, rfl, rfl, rfl⟩ rfl rfl rfl rfl rfl (by kernel_rfl) Try.func5 (by kernel_rfl)
    (of_decide_eq_true (by kernel_rfl)) (by unfold Func.isWrapper; first | (rw [if_pos (by decide +kernel)]; kernel_rfl) | (rw [if_neg (by decide +kernel)]; exact ⟨rfl, rfl⟩))
    (fun os started H enc _ => lifted os started H enc)

theorem proved : Rows.TimesHoldSaid :=
  over
end Go.Proofs.Ytmjbgfflbeibnaa.timesHold
