/-
  MarksRun answers true whatever the run is, however the goroutines take turns: what a reader sees never falls, and the mark ends at the greatest of all; no condition.
-/
import Derived.Test.YtojhnclkhiffkaaM24
import Derived.Test.YtojhnclkhiffkaaRows
import Derived.Test.YtojhnclkhiffkaaK16
import Derived.Conc.Holds
namespace Go.Proofs.Ytojhnclkhiffkaa.marksRun
open Go.ChangeShapes Go.WideShapes Go.ChangeAt Go.RowKit Go.Proofs.Ytojhnclkhiffkaa mk Go.Conc
set_option linter.unusedVariables false

theorem own : ownKnob Try.prog.godebug = none := by kernel_rfl
theorem noinit : Try.prog.inits.idxOf? 5 = none := by kernel_rfl

set_option maxRecDepth 100000 in
theorem lifted (os : Os) (started : os.Started) (H : Type) (enc : TypeId × Value → H) :
    ReturnsInLeavingWide {} Try.checked os 5 .any (Rows.marksRunSpec.pre6 enc Try.prog Try.f5 Rows.marksRunRow.domain false) (Rows.marksRunSpec.post enc Try.prog Try.f5 false true false false) := by
  refine returnsInLeavingWide_of_change_sized (C := Try.checked) (s := Rows.marksRunSpec) own started Try.func5
    (ChangeSpec.witness6 (enc := enc) (C := Try.checked) (s := Rows.marksRunSpec) false ⟨#[], #[.int .i64 0, .agg #[.slice none 0 0, .int .i64 0, .int .i64 0]], []⟩ 8 (by kernel_rfl) (by kernel_rfl) (by kernel_rfl) (by kernel_rfl)) ?_
  intro W base args ds gs before hval0 hW _ hwt0 _
  have hwt : (DataW.weightsEach Try.prog (Try.f5.params.toList ++ Rows.marksRunSpec.plain.varTypes Try.prog) (ds ++ gs)).all (· ≤ reachBytes) = true := hwt0
  clear hwt0
  have hval : ∀ (j : Nat) t v, Try.f5.params[j]? = some t → args[j]? = some v → Value.okWide Try.prog W .any base t v := hval0
  clear hval0
  have hW' := hW
  obtain ⟨p, q, hA0, hV, rfl, hfz, hnd⟩ := hW
  have hA : DataW.TrodAll enc Try.prog W 0 (fun _ => true) true Try.f5.params.toList args.toList ds p := hA0
  rw [Try.params5] at hA hval hwt
  obtain ⟨v0, vs0, d0, ds0, p0, q0, hargs, rfl, rfl, h0, r0⟩ := trodAll_cons hA
  obtain ⟨v1, vs1, d1, ds1, p1, q1, rfl, rfl, rfl, h1, r1⟩ := trodAll_cons r0
  obtain ⟨rfl, rfl, rfl⟩ := trodAll_nil r1
  obtain rfl : args = #[v0, v1] := by cases args; simp_all
  obtain ⟨rfl, rfl⟩ := trodVars_none hV
  obtain ⟨w0, hwt0⟩ := weights_cons hwt
  obtain ⟨w1, hwt1⟩ := weights_cons hwt0
  obtain ⟨x0, rfl, r0_⟩ := arg_int (-9223372036854775808) 9223372036854775807 rfl rfl Try.underlying2 (hval 0 2 v0 rfl rfl) h0
  obtain ⟨cs1, x1, rfl, g1, l1⟩ := arg_st3 (n := 30) mrT Try.underlying56 (by kernel_rfl) (by kernel_rfl) (hval 1 56 v1 rfl rfl) h1 w1
  obtain ⟨a, n, c, ws, xss, rd, lk, rfl, k1, k2, k3, k4⟩ := rep_run g1 l1
  have hv := law_any (h0 := hp W) (allP_hp W) (fun b o hb => let ⟨c, E, fr, _, h⟩ := hp_some hb; ⟨c, E, h⟩) k1 k2 k3 k4 x0 rd lk
  exact law_runs (pr := mpr kpost finT) (R := fun v h' => v = .bool true ∧ Shut h') Try.func5 rfl rfl rfl noinit c5_low (args := [_, _]) (by simp) hv (fun v h' h => ⟨h.2, h.1⟩) (fun v h' w' hf _ hb => by
    cases hf
    exact law_post (by kernel_rfl) (by kernel_rfl) rfl Try.underlying4 rfl hW' rfl rfl rfl hb)

theorem over : Rows.marksRunRow.holds Try.pinned (OpenSpec.ofChange Rows.marksRunSpec) :=
  OpenClaim.holds_of_wide_leaving 5 Try.f5 rfl rfl rfl rfl rfl rfl rfl ⟨rfl, rfl, rfl, rfl, rfl⟩ rfl rfl rfl rfl rfl (by kernel_rfl) Try.func5 (by kernel_rfl)
    (of_decide_eq_true (by kernel_rfl)) (by unfold Func.isWrapper; first | (rw [if_pos (by decide +kernel)]; kernel_rfl) | (rw [if_neg (by decide +kernel)]; exact ⟨rfl, rfl⟩))
    (fun os started H enc _ => lifted os started H enc)

theorem proved : Rows.MarksRunSaid :=
  over
#print axioms proved
end Go.Proofs.Ytojhnclkhiffkaa.marksRun
