/-
  GatherCounts answers true whatever the take, the base and the lists are, if what it reads is of bulk at most 1048576, and its arguments read behind the call as before.
-/
import Derived.Test.YtcebmbnofejlhaaGa
import Derived.Test.YtcebmbnofejlhaaK18
import Derived.Test.YtcebmbnofejlhaaRows
import Derived.Test.YtcebmbnofejlhaaK16
import Derived.OpenShut
import Derived.JoinedCond
import Derived.Deep.CondSized
namespace Go.Proofs.Ytcebmbnofejlhaa.gatherCounts
open Go.ChangeShapes Go.WideShapes Go.ChangeAt Go.RowKit Go.Proofs.Ytcebmbnofejlhaa ga gf
set_option linter.unusedVariables false

theorem part_le {H : Type} {d : DataW H} {l : List (DataW H)} (h : d ∈ l) : Rows.uptoBulk d ≤ Rows.uptoBulkAll l := by
  induction l with
  | nil => cases h
  | cons x r ih =>
    simp only [Rows.uptoBulkAll]
    rcases List.mem_cons.1 h with rfl | e
    · omega
    · have := ih e; omega
theorem one_le {H : Type} (d : DataW H) : 1 ≤ Rows.uptoBulk d := by
  cases d with
  | lit l => cases l <;> simp [Rows.uptoBulk]
  | _ => simp [Rows.uptoBulk]
theorem len_le {H : Type} (l : List (DataW H)) : l.length ≤ Rows.uptoBulkAll l := by
  induction l with
  | nil => simp [Rows.uptoBulkAll]
  | cons x r ih => have := one_le x; simp only [Rows.uptoBulkAll, List.length_cons]; omega
theorem bulk_sl {H : Type} (es rs : List (DataW H)) : es.length ≤ Rows.uptoBulk (.slice es rs) ∧ ∀ e ∈ es ++ rs, Rows.uptoBulk e ≤ Rows.uptoBulk (.slice es rs) := by
  simp only [Rows.uptoBulk]
  refine ⟨by have := len_le es; omega, fun e he => ?_⟩
  rcases List.mem_append.1 he with he | he
  · have := part_le he; omega
  · have := part_le he; omega
theorem bulk_agg {H : Type} (ps : List (DataW H)) : ∀ e ∈ ps, Rows.uptoBulk e ≤ Rows.uptoBulk (.agg ps) := by
  intro e he
  simp only [Rows.uptoBulk]
  have := part_le he; omega

theorem own : ownKnob Try.prog.godebug = none := by kernel_rfl

theorem contract (H : Type) (enc : TypeId × Value → H) (W : World) (base : Nat) (args : Array Value) (ds gs : List (DataW H)) (before : List MemPlace)
    (hval : ∀ (j : Nat) t v, Try.f3.params[j]? = some t → args[j]? = some v → Value.okWide Try.prog W .any base t v)
    (hW : DataW.Whole enc Try.prog Try.f3.params.toList Rows.gatherCountsSpec.vars false W args.toList ds gs before)
    (hwt : (DataW.weightsEach Try.prog (Try.f3.params.toList ++ Rows.gatherCountsSpec.plain.varTypes Try.prog) (ds ++ gs)).all (· ≤ reachBytes) = true) (hk : Rows.uptoSmall H (ds ++ gs) = true) :
    Calls Try.prog 3 args W fun e W' => ∃ v, e = .returned v ∧ Rows.gatherCountsSpec.post enc Try.prog Try.f3 false true false false W args v W' := by
  have hW' := hW
  obtain ⟨p, q, hA0, hV, rfl, hfz, hnd⟩ := hW
  have hA : DataW.TrodAll enc Try.prog W 0 (fun _ => true) true Try.f3.params.toList args.toList ds p := hA0
  rw [Try.params3] at hA hval hwt
  obtain ⟨v0, vs0, d0, ds0, p0, q0, hargs, rfl, rfl, h0, r0⟩ := trodAll_cons hA
  obtain ⟨v1, vs1, d1, ds1, p1, q1, rfl, rfl, rfl, h1, r1⟩ := trodAll_cons r0
  obtain ⟨v2, vs2, d2, ds2, p2, q2, rfl, rfl, rfl, h2, r2⟩ := trodAll_cons r1
  obtain ⟨rfl, rfl, rfl⟩ := trodAll_nil r2
  obtain rfl : args = #[v0, v1, v2] := by cases args; simp_all
  obtain ⟨rfl, rfl⟩ := trodVars_none hV
  have hk2 := of_decide_eq_true hk
  simp only [List.append_nil, Rows.uptoBulkAll] at hk2
  obtain ⟨x0, rfl, r0_⟩ := arg_int (-9223372036854775808) 9223372036854775807 rfl rfl Try.underlying3 (hval 0 3 v0 rfl rfl) h0
  obtain ⟨x1, rfl, r1_⟩ := arg_int (-9223372036854775808) 9223372036854775807 rfl rfl Try.underlying2 (hval 1 2 v1 rfl rfl) h1
  obtain ⟨x2, g2, l2⟩ := arg_sl2 (n := 30) (.sl rc) 1048576 Rows.uptoBulk bulk_sl bulk_agg Try.underlying22 (by kernel_rfl) (hval 2 22 v2 rfl rfl) h2 (by omega)
  obtain ⟨a2, c2, hsl2⟩ := RepL.len g2
  have hlen : x2.length ≤ 1048576 := l2.1
  refine (GatherCounts_ok x0 x1 r0_ r1_ g2 (by omega) (fun l hl x hx => ⟨Nat.le_trans ((l2.2 l hl).2 x hx).2.1.1 (by decide), Nat.le_trans ((l2.2 l hl).2 x hx).2.2.1 (by decide)⟩) W rfl).mono fun e W' ⟨hk, v, he, hv, hx⟩ => ?_
  subst he hv
  exact ⟨_, rfl, law_post (by kernel_rfl) (by kernel_rfl) rfl Try.underlying4 rfl hW' rfl rfl rfl hk hx⟩


set_option maxRecDepth 100000 in
theorem lifted (os : Os) (started : os.Started) (H : Type) (enc : TypeId × Value → H) (F : Stop.Interp) :
    ReturnsInHanded {} Try.checked os 3 .any ((Rows.OpenSpec.upto Rows.gatherCountsSpec).pre6 enc Try.prog Try.f3 Rows.gatherCountsUptoRow.domain false) (((Rows.OpenSpec.upto Rows.gatherCountsSpec).at F).post enc Try.prog Try.f3 false true false false) := by
  refine returnsInHanded_of_cond_sized (C := Try.checked) (s := Rows.OpenSpec.upto Rows.gatherCountsSpec) (k := Rows.uptoSmall) rfl own started (by kernel_rfl) Try.func3
    (OpenSpec.witness (enc := enc) (C := Try.checked) (s := Rows.OpenSpec.upto Rows.gatherCountsSpec) (k := Rows.uptoSmall) rfl false ⟨#[], #[.int .i64 0, .int .i64 0, .slice none 0 0], []⟩ 8 (by kernel_rfl) (by kernel_rfl) (by kernel_rfl)
      (x := ([.lit (.int .i64 0), .lit (.int .i64 0), .nil], [], [])) (by kernel_rfl) rfl (by kernel_rfl)) ?_
  intro W base args ds gs before hval hW _ hk hwt _
  exact contract H enc W base args ds gs before hval hW hwt hk

theorem over : Rows.gatherCountsUptoRow.holds Try.pinned (Rows.OpenSpec.upto Rows.gatherCountsSpec) :=
  OpenClaim.holds_of_cond 3 Try.f3 rfl rfl rfl rfl rfl rfl rfl ⟨rfl, rfl, rfl, rfl, rfl⟩ rfl rfl rfl rfl rfl (by kernel_rfl) Try.func3 (by kernel_rfl)
    (of_decide_eq_true (by kernel_rfl)) (by unfold Func.isWrapper; first | (rw [if_pos (by decide +kernel)]; kernel_rfl) | (rw [if_neg (by decide +kernel)]; exact ⟨rfl, rfl⟩))
    (fun os started H enc _ F => lifted os started H enc F)

theorem proved : Rows.GatherCountsUptoSaid :=
  over
end Go.Proofs.Ytcebmbnofejlhaa.gatherCounts
