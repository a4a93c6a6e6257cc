/-
  ScriptTexts answers true whatever the steps, the kind and the client are, and its arguments read behind the call as before; the row's list of library variables is the one condition.
-/
import Derived.Test.YtooimdgoibdhlaaDoorQw
import Derived.Test.YtooimdgoibdhlaaDoorRows
import Derived.Test.YtooimdgoibdhlaaDoorK16
import Derived.Test.YtooimdgoibdhlaaDoorPx
import Derived.SevenTiedAt
namespace Go.Proofs.YtooimdgoibdhlaaDoor.scriptTexts
open Go.ChangeShapes Go.WideShapes Go.ChangeAt Go.RowKit Go.Proofs.YtooimdgoibdhlaaDoor sc
set_option linter.unusedVariables false

theorem own : ownKnob Tryd.prog.godebug = none := by kernel_rfl

set_option maxRecDepth 100000 in
theorem contract (H : Type) (enc : TypeId × Value → H) (W : World) (base : Nat) (args : Array Value) (ds gs : List (DataW H)) (before : List MemPlace)
    (hval : ∀ (j : Nat) t v, Tryd.f6.params[j]? = some t → args[j]? = some v → Value.okWide Tryd.prog W .any base t v)
    (hW : DataW.Whole enc Tryd.prog Tryd.f6.params.toList Rows.scriptTextsSpec.vars false W args.toList ds gs before)
    (hwt : (DataW.weightsEach Tryd.prog (Tryd.f6.params.toList ++ (OpenSpec.ofChange Rows.scriptTextsSpec).bare.plain.varTypes Tryd.prog) (ds ++ gs)).all (· ≤ reachBytes) = true) (hL : laidMetH Tryd.prog Rows.scriptTextsRow.laid W) (hs : W.ShapedOpen Tryd.prog) :
    Calls Tryd.prog 6 args W fun e W' => ∃ v, e = .returned v ∧ Rows.scriptTextsSpec.post enc Tryd.prog Tryd.f6 false true false false W args v W' := by
  have GG : sc.GL (hp W) := sc.gl_of hL hs
  have hW' := hW
  obtain ⟨p, q, hA0, hV, rfl, hfz, hnd⟩ := hW
  have hA : DataW.TrodAll enc Tryd.prog W 0 (fun _ => true) true Tryd.f6.params.toList args.toList ds p := hA0
  rw [Tryd.params6] at hA hval hwt
  obtain ⟨v0, vs0, d0, ds0, p0, q0, hargs, rfl, rfl, h0, r0⟩ := trodAll_cons hA
  obtain ⟨v1, vs1, d1, ds1, p1, q1, rfl, rfl, rfl, h1, r1⟩ := trodAll_cons r0
  obtain ⟨v2, vs2, d2, ds2, p2, q2, rfl, rfl, rfl, h2, r2⟩ := trodAll_cons r1
  obtain ⟨rfl, rfl, rfl⟩ := trodAll_nil r2
  obtain rfl : args = #[v0, v1, v2] := by cases args; simp_all
  obtain ⟨rfl, rfl⟩ := trodVars_none hV
  obtain ⟨w0, hwt0⟩ := weights_cons hwt
  obtain ⟨w1, hwt1⟩ := weights_cons hwt0
  obtain ⟨w2, hwt2⟩ := weights_cons hwt1
  obtain ⟨x0, g0⟩ := arg_sl (n := 30) sc.stT Tryd.underlying48 (by kernel_rfl) (hval 0 48 v0 rfl rfl) h0
  obtain ⟨a0, c0, hsl0⟩ := RepL.len g0
  have hf0 := slice_fit Tryd.underlying48 h0 w0 hsl0
  rw [show Tryd.prog.bytesOf 31 = 88 from by kernel_rfl] at hf0
  obtain ⟨x1, rfl, r1_⟩ := arg_int (-9223372036854775808) 9223372036854775807 rfl rfl Tryd.underlying3 (hval 1 3 v1 rfl rfl) h1
  obtain ⟨x2, rfl, r2_⟩ := arg_int (-9223372036854775808) 9223372036854775807 rfl rfl Tryd.underlying3 (hval 2 3 v2 rfl rfl) h2
  refine (sc.ST_ok GG g0 (by omega) x1 r1_ x2 r2_ W rfl).mono fun e W' ⟨hk, v, he, hv, hx⟩ => ?_
  subst he hv
  exact ⟨_, rfl, law_post (by kernel_rfl) (by kernel_rfl) rfl Tryd.underlying4 rfl hW' rfl rfl rfl hk hx⟩


set_option maxRecDepth 100000 in
theorem lifted (os : Os) (started : os.Started) (H : Type) (enc : TypeId × Value → H) (F : Stop.Interp) :
    ReturnsInHanded {} Tryd.checked os 6 .any ((OpenSpec.ofChange Rows.scriptTextsSpec).preRow enc Tryd.prog Tryd.f6 Rows.scriptTextsRow.domain false Rows.scriptTextsRow.laid) (((OpenSpec.ofChange Rows.scriptTextsSpec).at F).post enc Tryd.prog Tryd.f6 false true false false) := by
  refine returnsInHanded_of_row (C := Tryd.checked) (s := OpenSpec.ofChange Rows.scriptTextsSpec) own started (by kernel_rfl) Tryd.func6
    (sc.lw_wit (enc := enc) os #[.slice none 0 0, .int .i64 0, .int .i64 0] (by kernel_rfl)
      (OpenSpec.preRow_of_cond (x := ([.nil, .lit (.int .i64 0), .lit (.int .i64 0)], [], [])) 8 (by kernel_rfl) (by kernel_rfl) (fun k hk => by cases hk) (by kernel_rfl) (sc.lw_met os _))) ?_
  intro W base args ds gs before hval hW _ _ hwt hL hs _
  exact contract H enc W base args ds gs before hval hW hwt hL hs

theorem said : Rows.ScriptTextsSaid :=
  OpenClaim.holds_of_cond 6 Tryd.f6 rfl rfl rfl rfl rfl rfl rfl ⟨rfl, rfl, rfl, rfl, rfl⟩ rfl rfl rfl rfl rfl (by kernel_rfl) Tryd.func6 (by kernel_rfl)
    (of_decide_eq_true (by kernel_rfl)) (by unfold Func.isWrapper; first | (rw [if_pos (by decide +kernel)]; kernel_rfl) | (rw [if_neg (by decide +kernel)]; exact ⟨rfl, rfl⟩))
    (fun os started H enc _ F => by rw [OpenClaim.pre_eq_preRow]; exact lifted os started H enc F)

theorem plain (f : FuncId) (fn : Func) (hf : Tryd.pinned.checked.prog.funcNamed "millrace/millracelaw29.ScriptTexts" = some f) (hfn : Tryd.pinned.checked.prog.funcs[f]? = some fn) :
    true = Tryd.pinned.checked.prog.looks [] ∧ ∀ (j : Nat) t, fn.params[j]? = some t → Tryd.pinned.checked.prog.wantsStandIn t = false := by
  obtain rfl : f = 6 := Option.some.inj ((show Tryd.prog.funcNamed "millrace/millracelaw29.ScriptTexts" = some 6 by kernel_rfl).symm.trans hf) |>.symm
  obtain rfl : fn = Tryd.f6 := (Option.some.inj (Tryd.func6.symm.trans hfn)).symm
  refine ⟨by kernel_rfl, fun j t ht => ?_⟩
  rw [Tryd.params6] at ht
  have h : t ∈ [48, 3, 3] := by simpa using Array.mem_of_getElem? ht
  exact (List.all_eq_true.1 (show ([48, 3, 3].all fun t => Tryd.prog.wantsStandIn t == false) = true by kernel_rfl) t h |> beq_iff_eq.1)

theorem card : Rows.ScriptTextsCardSaid :=
  Claim7.holds_tied_plain_at .later [] _ _ _ _ said (fun _ h => by cases h) (by kernel_rfl) (fun _ h => by cases h) scriptTexts_row_tie rfl ⟨rfl, rfl⟩ (by kernel_rfl) rfl plain (by kernel_rfl)
end Go.Proofs.YtooimdgoibdhlaaDoor.scriptTexts
