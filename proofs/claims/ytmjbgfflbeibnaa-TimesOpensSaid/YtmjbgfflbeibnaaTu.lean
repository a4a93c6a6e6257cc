/-
  TimesOpens answers true whatever the bytes are, and its argument reads behind the call as before; no condition.
-/
import Derived.Test.YtmjbgfflbeibnaaTt
import Derived.Test.YtmjbgfflbeibnaaRows
import Derived.Test.YtmjbgfflbeibnaaK16
namespace Go.Proofs.Ytmjbgfflbeibnaa.timesOpens
open Go.ChangeShapes Go.WideShapes Go.ChangeAt Go.RowKit Go.Proofs.Ytmjbgfflbeibnaa ti
set_option linter.unusedVariables false

theorem own : ownKnob Try.prog.godebug = none := by kernel_rfl

set_option maxRecDepth 100000 in
theorem contract (H : Type) (enc : TypeId × Value → H) (W : World) (base : Nat) (args : Array Value) (ds gs : List (DataW H)) (before : List MemPlace)
    (hval : ∀ (j : Nat) t v, Try.f3.params[j]? = some t → args[j]? = some v → Value.okWide Try.prog W .any base t v)
    (hW : DataW.Whole enc Try.prog Try.f3.params.toList Rows.timesOpensSpec.vars false W args.toList ds gs before)
    (hwt : (DataW.weightsEach Try.prog (Try.f3.params.toList ++ Rows.timesOpensSpec.plain.varTypes Try.prog) (ds ++ gs)).all (· ≤ reachBytes) = true) :
    Calls Try.prog 3 args W fun e W' => ∃ v, e = .returned v ∧ Rows.timesOpensSpec.post enc Try.prog Try.f3 false true false false W args v W' := by
  have hW' := hW
  obtain ⟨p, q, hA0, hV, rfl, hfz, hnd⟩ := hW
  have hA : DataW.TrodAll enc Try.prog W 0 (fun _ => true) true Try.f3.params.toList args.toList ds p := hA0
  rw [Try.params3] at hA hval hwt
  obtain ⟨v0, vs0, d0, ds0, p0, q0, hargs, rfl, rfl, h0, r0⟩ := trodAll_cons hA
  obtain ⟨rfl, rfl, rfl⟩ := trodAll_nil r0
  obtain rfl : args = #[v0] := by cases args; simp_all
  obtain ⟨rfl, rfl⟩ := trodVars_none hV
  obtain ⟨w0, hwt0⟩ := weights_cons hwt
  obtain ⟨x0, g0⟩ := arg_sl (n := 30) .byte Try.underlying22 (by kernel_rfl) (hval 0 22 v0 rfl rfl) h0
  obtain ⟨a0, c0, hsl0⟩ := RepL.len g0
  have hf0 := slice_fit Try.underlying22 h0 w0 hsl0
  rw [show Try.prog.bytesOf 5 = 1 from by kernel_rfl] at hf0
  have hb0 := repB.1 g0
  have hlen : x0.length ≤ 4611686018427387904 := by have := RepL.len g0; rw [hsl0] at this; obtain ⟨_, _, h⟩ := this; simp only [Value.slice.injEq] at h; omega
  refine (TO_ok hb0 hlen W rfl).mono fun e W' ⟨hk, v, he, hv, hx⟩ => ?_
  subst he hv
  exact ⟨_, rfl, law_post (by kernel_rfl) (by kernel_rfl) rfl Try.underlying4 rfl hW' rfl rfl rfl hk hx⟩


set_option maxRecDepth 100000 in
theorem lifted (os : Os) (started : os.Started) (H : Type) (enc : TypeId × Value → H) :
    ReturnsInHanded {} Try.checked os 3 .any (Rows.timesOpensSpec.pre6 enc Try.prog Try.f3 Rows.timesOpensRow.domain false) (Rows.timesOpensSpec.post enc Try.prog Try.f3 false true false false) := by
  refine returnsInHanded_sized (C := Try.checked) (s := Rows.timesOpensSpec) own started (by kernel_rfl) Try.func3
    (ChangeSpec.witness6 (enc := enc) (C := Try.checked) (s := Rows.timesOpensSpec) false ⟨#[], #[.slice none 0 0], []⟩ 8 (by kernel_rfl) (by kernel_rfl) (by kernel_rfl) (by kernel_rfl)) ?_
  intro W base args ds gs before hval hW hwt
  exact contract H enc W base args ds gs before hval hW hwt

theorem over : Rows.timesOpensRow.holds Try.pinned (OpenSpec.ofChange Rows.timesOpensSpec) :=
  OpenClaim.holds_of_wide 3 Try.f3 rfl rfl rfl rfl rfl rfl rfl ⟨rfl, rfl, rfl, rfl, rfl⟩ rfl rfl rfl rfl rfl (by kernel_rfl) Try.func3 (by kernel_rfl)
    (of_decide_eq_true (by kernel_rfl)) (by unfold Func.isWrapper; first | (rw [if_pos (by decide +kernel)]; kernel_rfl) | (rw [if_neg (by decide +kernel)]; exact ⟨rfl, rfl⟩))
    (fun os started H enc _ => lifted os started H enc)

theorem proved : Rows.TimesOpensSaid :=
  over
end Go.Proofs.Ytmjbgfflbeibnaa.timesOpens
