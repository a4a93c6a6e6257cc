/-
  TimesPlays answers true whatever the base and the calls are, and its arguments read behind the call as before; no condition.
-/
import Derived.Test.YtmjbgfflbeibnaaUi
import Derived.Test.YtmjbgfflbeibnaaRows
import Derived.Test.YtmjbgfflbeibnaaK16
namespace Go.Proofs.Ytmjbgfflbeibnaa.timesPlays
open Go.ChangeShapes Go.WideShapes Go.ChangeAt Go.RowKit Go.Proofs.Ytmjbgfflbeibnaa ti
set_option linter.unusedVariables false

theorem own : ownKnob Try.prog.godebug = none := by kernel_rfl

set_option maxRecDepth 100000 in
theorem contract (H : Type) (enc : TypeId × Value → H) (W : World) (base : Nat) (args : Array Value) (ds gs : List (DataW H)) (before : List MemPlace)
    (hval : ∀ (j : Nat) t v, Try.f6.params[j]? = some t → args[j]? = some v → Value.okWide Try.prog W .any base t v)
    (hW : DataW.Whole enc Try.prog Try.f6.params.toList Rows.timesPlaysSpec.vars false W args.toList ds gs before)
    (hwt : (DataW.weightsEach Try.prog (Try.f6.params.toList ++ Rows.timesPlaysSpec.plain.varTypes Try.prog) (ds ++ gs)).all (· ≤ reachBytes) = true) :
    Calls Try.prog 6 args W fun e W' => ∃ v, e = .returned v ∧ Rows.timesPlaysSpec.post enc Try.prog Try.f6 false true false false W args v W' := by
  have hW' := hW
  obtain ⟨p, q, hA0, hV, rfl, hfz, hnd⟩ := hW
  have hA : DataW.TrodAll enc Try.prog W 0 (fun _ => true) true Try.f6.params.toList args.toList ds p := hA0
  rw [Try.params6] at hA hval hwt
  obtain ⟨v0, vs0, d0, ds0, p0, q0, hargs, rfl, rfl, h0, r0⟩ := trodAll_cons hA
  obtain ⟨v1, vs1, d1, ds1, p1, q1, rfl, rfl, rfl, h1, r1⟩ := trodAll_cons r0
  obtain ⟨rfl, rfl, rfl⟩ := trodAll_nil r1
  obtain rfl : args = #[v0, v1] := by cases args; simp_all
  obtain ⟨rfl, rfl⟩ := trodVars_none hV
  obtain ⟨w0, hwt0⟩ := weights_cons hwt
  obtain ⟨w1, hwt1⟩ := weights_cons hwt0
  obtain ⟨x0, rfl, r0_⟩ := arg_int (-9223372036854775808) 9223372036854775807 rfl rfl Try.underlying2 (hval 0 2 v0 rfl rfl) h0
  obtain ⟨x1, g1, l1⟩ := arg_sl3 (n := 30) ti.askT Try.underlying55 (by kernel_rfl) (by kernel_rfl) (hval 1 55 v1 rfl rfl) h1 w1
  obtain ⟨f1, f2⟩ := l1
  have hby : Ty.by ti.askT = 48 := rfl
  rw [hby] at f1
  refine (TP_ok r0_ g1 (by omega) (fun c hc y hy => by obtain ⟨-, -, ⟨-, f3⟩, -⟩ := f2 c hc; obtain ⟨-, ⟨f4, -⟩, ⟨f5, -⟩⟩ := f3 y hy; simp only [Ty.by] at f4 f5; omega) (fun c hc => by obtain ⟨-, -, ⟨f3, -⟩, -⟩ := f2 c hc; have hb2 : Ty.by rc = 56 := rfl; rw [hb2] at f3; omega) W rfl).mono fun e W' ⟨hk, v, he, hv, hx⟩ => ?_
  subst he hv
  exact ⟨_, rfl, law_post (by kernel_rfl) (by kernel_rfl) rfl Try.underlying4 rfl hW' rfl rfl rfl hk hx⟩


set_option maxRecDepth 100000 in
theorem lifted (os : Os) (started : os.Started) (H : Type) (enc : TypeId × Value → H) :
    ReturnsInHanded {} Try.checked os 6 .any (Rows.timesPlaysSpec.pre6 enc Try.prog Try.f6 Rows.timesPlaysRow.domain false) (Rows.timesPlaysSpec.post enc Try.prog Try.f6 false true false false) := by
  refine returnsInHanded_sized (C := Try.checked) (s := Rows.timesPlaysSpec) own started (by kernel_rfl) Try.func6
    (ChangeSpec.witness6 (enc := enc) (C := Try.checked) (s := Rows.timesPlaysSpec) false ⟨#[], #[.int .i64 0, .slice none 0 0], []⟩ 8 (by kernel_rfl) (by kernel_rfl) (by kernel_rfl) (by kernel_rfl)) ?_
  intro W base args ds gs before hval hW hwt
  exact contract H enc W base args ds gs before hval hW hwt

theorem over : Rows.timesPlaysRow.holds Try.pinned (OpenSpec.ofChange Rows.timesPlaysSpec) :=
  OpenClaim.holds_of_wide 6 Try.f6 rfl rfl rfl rfl rfl rfl rfl ⟨rfl, rfl, rfl, rfl, rfl⟩ rfl rfl rfl rfl rfl (by kernel_rfl) Try.func6 (by kernel_rfl)
    (of_decide_eq_true (by kernel_rfl)) (by unfold Func.isWrapper; first | (rw [if_pos (by decide +kernel)]; kernel_rfl) | (rw [if_neg (by decide +kernel)]; exact ⟨rfl, rfl⟩))
    (fun os started H enc _ => lifted os started H enc)

theorem proved : Rows.TimesPlaysSaid :=
  over
end Go.Proofs.Ytmjbgfflbeibnaa.timesPlays
