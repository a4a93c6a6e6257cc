/-
  GroupsApart answers true whatever the records, the place and the marks are, and its arguments read behind the call as before; no condition.
-/
import Derived.Test.YthhofmjhnjkcfaaGx
import Derived.Test.YthhofmjhnjkcfaaRows
import Derived.Test.YthhofmjhnjkcfaaK16
namespace Go.Proofs.Ythhofmjhnjkcfaa.groupsApart
open Go.ChangeShapes Go.WideShapes Go.ChangeAt Go.RowKit Go.Proofs.Ythhofmjhnjkcfaa gr
set_option linter.unusedVariables false

theorem own : ownKnob Try.prog.godebug = none := by kernel_rfl

set_option maxRecDepth 100000 in
theorem contract (H : Type) (enc : TypeId × Value → H) (W : World) (base : Nat) (args : Array Value) (ds gs : List (DataW H)) (before : List MemPlace)
    (hval : ∀ (j : Nat) t v, Try.f6.params[j]? = some t → args[j]? = some v → Value.okWide Try.prog W .any base t v)
    (hW : DataW.Whole enc Try.prog Try.f6.params.toList Rows.groupsApartSpec.vars false W args.toList ds gs before)
    (hwt : (DataW.weightsEach Try.prog (Try.f6.params.toList ++ Rows.groupsApartSpec.plain.varTypes Try.prog) (ds ++ gs)).all (· ≤ reachBytes) = true) :
    Calls Try.prog 6 args W fun e W' => ∃ v, e = .returned v ∧ Rows.groupsApartSpec.post enc Try.prog Try.f6 false true false false W args v W' := by
  have hW' := hW
  obtain ⟨p, q, hA0, hV, rfl, hfz, hnd⟩ := hW
  have hA : DataW.TrodAll enc Try.prog W 0 (fun _ => true) true Try.f6.params.toList args.toList ds p := hA0
  rw [Try.params6] at hA hval hwt
  obtain ⟨v0, vs0, d0, ds0, p0, q0, hargs, rfl, rfl, h0, r0⟩ := trodAll_cons hA
  obtain ⟨v1, vs1, d1, ds1, p1, q1, rfl, rfl, rfl, h1, r1⟩ := trodAll_cons r0
  obtain ⟨v2, vs2, d2, ds2, p2, q2, rfl, rfl, rfl, h2, r2⟩ := trodAll_cons r1
  obtain ⟨rfl, rfl, rfl⟩ := trodAll_nil r2
  obtain rfl : args = #[v0, v1, v2] := by cases args; simp_all
  obtain ⟨rfl, rfl⟩ := trodVars_none hV
  obtain ⟨w0, hwt0⟩ := weights_cons hwt
  obtain ⟨w1, hwt1⟩ := weights_cons hwt0
  obtain ⟨w2, hwt2⟩ := weights_cons hwt1
  obtain ⟨x0, g0, l0⟩ := arg_sl3 (n := 30) rc Try.underlying31 (by kernel_rfl) (by kernel_rfl) (hval 0 31 v0 rfl rfl) h0 w0
  obtain ⟨x1, rfl, r1_⟩ := arg_int (-9223372036854775808) 9223372036854775807 rfl rfl Try.underlying3 (hval 1 3 v1 rfl rfl) h1
  obtain ⟨x2, g2⟩ := arg_sl (n := 30) (.int .i64) Try.underlying55 (by kernel_rfl) (hval 2 55 v2 rfl rfl) h2
  refine (GA_ok g0 (fits' l0) (repI g2).1 (repI g2).2 W rfl).mono fun e W' ⟨hk, v, he, hv, hx⟩ => ?_
  subst he hv
  exact ⟨_, rfl, law_post (by kernel_rfl) (by kernel_rfl) rfl Try.underlying4 rfl hW' rfl rfl rfl hk hx⟩


set_option maxRecDepth 100000 in
theorem lifted (os : Os) (started : os.Started) (H : Type) (enc : TypeId × Value → H) :
    ReturnsInHanded {} Try.checked os 6 .any (Rows.groupsApartSpec.pre6 enc Try.prog Try.f6 Rows.groupsApartRow.domain false) (Rows.groupsApartSpec.post enc Try.prog Try.f6 false true false false) := by
  refine returnsInHanded_sized (C := Try.checked) (s := Rows.groupsApartSpec) own started (by kernel_rfl) Try.func6
    (ChangeSpec.witness6 (enc := enc) (C := Try.checked) (s := Rows.groupsApartSpec) false ⟨#[], #[.slice none 0 0, .int .i64 0, .slice none 0 0], []⟩ 8 (by kernel_rfl) (by kernel_rfl) (by kernel_rfl) (by kernel_rfl)) ?_
  intro W base args ds gs before hval hW hwt
  exact contract H enc W base args ds gs before hval hW hwt

theorem over : Rows.groupsApartRow.holds Try.pinned (OpenSpec.ofChange Rows.groupsApartSpec) :=
  OpenClaim.holds_of_wide 6 Try.f6 rfl rfl rfl rfl rfl rfl rfl ⟨rfl, rfl, rfl, rfl, rfl⟩ rfl rfl rfl rfl rfl (by kernel_rfl) Try.func6 (by kernel_rfl)
    (of_decide_eq_true (by kernel_rfl)) (by unfold Func.isWrapper; first | (rw [if_pos (by decide +kernel)]; kernel_rfl) | (rw [if_neg (by decide +kernel)]; exact ⟨rfl, rfl⟩))
    (fun os started H enc _ => lifted os started H enc)

theorem proved : Rows.GroupsApartSaid :=
  over
end Go.Proofs.Ythhofmjhnjkcfaa.groupsApart
