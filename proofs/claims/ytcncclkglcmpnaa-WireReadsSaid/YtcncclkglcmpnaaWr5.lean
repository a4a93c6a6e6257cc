/-
  wire: the statement WireReads walked.
-/
import Derived.Test.YtcncclkglcmpnaaWr4
namespace Go.Proofs.Ytcncclkglcmpnaa.wr
open Go.Proofs.Ytcncclkglcmpnaa wi wl
set_option linter.unusedVariables false
set_option linter.unusedSimpArgs false

theorem New2_ok {S : Nat → Prop} {h : H} {v : Value} {l : List UInt8} (hv : By S h v l) (hl : l.length ≤ 140737488355328) :
    Ok Try.prog 26 #[v] h fun v h' => ∃ c s, v = pv c ∧ h c = none ∧ h' c = some (.cells #[s, .int .i64 0, .bool true] 86) ∧ By (fun y => y = c ∨ h y ≠ none) h' s l ∧ Ext h h' := by
  refine c26_ok (args := [_]) (by simp) ?_
  simp (disch := omega) only [dm_t, wA, wB, wL, wW, wY, Int.fdiv_eq_ediv_of_nonneg, Int.tdiv_eq_ediv_of_nonneg, Int.tmod_eq_emod_of_nonneg, chk_pos, decT, decF, br_pos, br_neg, wX, ↓reduceIte, Nat.reduceEqDiff, Nat.reduceAdd, Nat.reduceSub, Nat.reduceMul, Nat.reduceLeDiff, Nat.reduceLT, Nat.reduceMod, Nat.reduceDiv, Int.reduceToNat, Nat.min_eq_left, IntKind.bits, Int.reducePow, Int.reduceLT, Int.reduceLE, Int.reduceEq, Int.reduceNe, Int.reduceAdd, Int.reduceSub, and_self, reduceCtorEq, decide_eq_true_eq, decide_eq_false_iff_not, eq_self, implies_true, exists_const, Option.isNone_some, Option.isNone_none, Option.isSome_some, Option.isSome_none, Option.getD_some]
  refine (clone_ok hv.nos hl).k ?_
  rintro w h1 ⟨ho, e⟩
  obtain ⟨sa, sc, rfl⟩ := ho.s0.len
  simp (disch := omega) only [dm_t, wA, wB, wL, wW, wY, Int.fdiv_eq_ediv_of_nonneg, Int.tdiv_eq_ediv_of_nonneg, Int.tmod_eq_emod_of_nonneg, chk_pos, decT, decF, br_pos, br_neg, wX, ↓reduceIte, Nat.reduceEqDiff, Nat.reduceAdd, Nat.reduceSub, Nat.reduceMul, Nat.reduceLeDiff, Nat.reduceLT, Nat.reduceMod, Nat.reduceDiv, Int.reduceToNat, Nat.min_eq_left, IntKind.bits, Int.reducePow, Int.reduceLT, Int.reduceLE, Int.reduceEq, Int.reduceNe, Int.reduceAdd, Int.reduceSub, and_self, reduceCtorEq, decide_eq_true_eq, decide_eq_false_iff_not, eq_self, implies_true, exists_const, Option.isNone_some, Option.isNone_none, Option.isSome_some, Option.isSome_none, Option.getD_some]
  intro c hc
  have hs : By (fun y => y = c ∨ h y ≠ none) h1 (.slice sa (one (bvs l)).length sc) l := OwK.sl (ho.mono (O' := fun y => h y = none ∧ y ≠ c) fun x o hx hn => ⟨hn, by rintro rfl; rw [hc] at hx; cases hx⟩) fun x hx hy => hy.elim hx.2 fun hy => hy hx.1
  exact ⟨c, _, rfl, e.bk hc, hupd_same _ _ _, SlK.fr hs (Fr.upd (S := fun y => y = c) rfl _) fun x hx => .inl hx, e.trans (Ext.new hc _)⟩
theorem nothing_ok (h : H) : Ok Try.prog 33 #[] h fun v h' => v = .bool true ∧ Ext h h' := by
  refine c33_ok (args := []) (by simp) ?_
  simp (disch := omega) only [dm_t, wA, wB, wL, wW, wY, Int.fdiv_eq_ediv_of_nonneg, Int.tdiv_eq_ediv_of_nonneg, Int.tmod_eq_emod_of_nonneg, chk_pos, decT, decF, br_pos, br_neg, wX, ↓reduceIte, Nat.reduceEqDiff, Nat.reduceAdd, Nat.reduceSub, Nat.reduceMul, Nat.reduceLeDiff, Nat.reduceLT, Nat.reduceMod, Nat.reduceDiv, Int.reduceToNat, Nat.min_eq_left, IntKind.bits, Int.reducePow, Int.reduceLT, Int.reduceLE, Int.reduceEq, Int.reduceNe, Int.reduceAdd, Int.reduceSub, and_self, reduceCtorEq, decide_eq_true_eq, decide_eq_false_iff_not, eq_self, implies_true, exists_const, Option.isNone_some, Option.isNone_none, Option.isSome_some, Option.isSome_none, Option.getD_some]
  intro z hz
  have e1 := Ext.new hz (.cells #[.slice none 0 0, .int .i64 0, .bool false] 86)
  simp (disch := omega) only [dm_t, wA, wB, wL, wW, wY, Int.fdiv_eq_ediv_of_nonneg, Int.tdiv_eq_ediv_of_nonneg, Int.tmod_eq_emod_of_nonneg, chk_pos, decT, decF, br_pos, br_neg, wX, ↓reduceIte, Nat.reduceEqDiff, Nat.reduceAdd, Nat.reduceSub, Nat.reduceMul, Nat.reduceLeDiff, Nat.reduceLT, Nat.reduceMod, Nat.reduceDiv, Int.reduceToNat, Nat.min_eq_left, IntKind.bits, Int.reducePow, Int.reduceLT, Int.reduceLE, Int.reduceEq, Int.reduceNe, Int.reduceAdd, Int.reduceSub, and_self, reduceCtorEq, decide_eq_true_eq, decide_eq_false_iff_not, eq_self, implies_true, exists_const, Option.isNone_some, Option.isNone_none, Option.isSome_some, Option.isSome_none, Option.getD_some]
  intro a ha
  have e2 := Ext.new ha (.cells #[.pointer none, pv z] 54)
  have sl : S1 nos (hupd (hupd h z (.cells #[.slice none 0 0, .int .i64 0, .bool false] 86)) a (.cells #[.pointer none, pv z] 54)) (.slice (some ⟨a, 0, none⟩) 2 2) [.pointer none, pv z] := slit1 [.pointer none, pv z] rfl
  have nz : NoRd (hupd (hupd h z (.cells #[.slice none 0 0, .int .i64 0, .bool false] 86)) a (.cells #[.pointer none, pv z] 54)) (pv z) := .inr ⟨z, _, _, rfl, e2.at (hupd_same _ _ _)⟩
  have e := e1.trans e2
  generalize hupd (hupd h z (.cells #[.slice none 0 0, .int .i64 0, .bool false] 86)) a (.cells #[.pointer none, pv z] 54) = g at *
  have hF : (FloatKind.f64.format.order 0 0 != some .eq) = false := by decide +kernel
  simp (disch := omega) only [dm_t, wA, wB, wL, wW, wY, Int.fdiv_eq_ediv_of_nonneg, Int.tdiv_eq_ediv_of_nonneg, Int.tmod_eq_emod_of_nonneg, chk_pos, decT, decF, br_pos, br_neg, wX, ↓reduceIte, Nat.reduceEqDiff, Nat.reduceAdd, Nat.reduceSub, Nat.reduceMul, Nat.reduceLeDiff, Nat.reduceLT, Nat.reduceMod, Nat.reduceDiv, Int.reduceToNat, Nat.min_eq_left, IntKind.bits, Int.reducePow, Int.reduceLT, Int.reduceLE, Int.reduceEq, Int.reduceNe, Int.reduceAdd, Int.reduceSub, and_self, reduceCtorEq, decide_eq_true_eq, decide_eq_false_iff_not, eq_self, implies_true, exists_const, Option.isNone_some, Option.isNone_none, Option.isSome_some, Option.isSome_none, Option.getD_some]
  refine vc_loop1 (fun vi h' => ∃ i : Nat, vi = .int .i64 (i : Int) ∧ i ≤ 2 ∧ h' = g) (fun vi _ => 2 - m1 vi) ?_ ?_
  · simp (disch := omega) only [dm_t, wA, wB, wL, wW, wY, Int.fdiv_eq_ediv_of_nonneg, Int.tdiv_eq_ediv_of_nonneg, Int.tmod_eq_emod_of_nonneg, chk_pos, decT, decF, br_pos, br_neg, wX, ↓reduceIte, Nat.reduceEqDiff, Nat.reduceAdd, Nat.reduceSub, Nat.reduceMul, Nat.reduceLeDiff, Nat.reduceLT, Nat.reduceMod, Nat.reduceDiv, Int.reduceToNat, Nat.min_eq_left, IntKind.bits, Int.reducePow, Int.reduceLT, Int.reduceLE, Int.reduceEq, Int.reduceNe, Int.reduceAdd, Int.reduceSub, and_self, reduceCtorEq, decide_eq_true_eq, decide_eq_false_iff_not, eq_self, implies_true, exists_const, Option.isNone_some, Option.isNone_none, Option.isSome_some, Option.isSome_none, Option.getD_some]
    exact ⟨0, rfl, by omega⟩
  rintro _ h' ⟨i, rfl, hi, rfl⟩
  by_cases hi2 : i < 2
  · obtain ⟨b1, o1, ix, gx⟩ := S1.load sl (i := i) (by simpa using hi2) .i64
    have hno : NoRd h' ([Value.pointer none, pv z][i]'(by simpa using hi2)) := by
      match i, hi2 with
      | 0, _ => exact .inl rfl
      | 1, _ => exact nz
    generalize [Value.pointer none, pv z][i]'(by simpa using hi2) = r at *
    simp (disch := omega) only [dm_t, wA, wB, wL, wW, wY, Int.fdiv_eq_ediv_of_nonneg, Int.tdiv_eq_ediv_of_nonneg, Int.tmod_eq_emod_of_nonneg, chk_pos, decT, decF, br_pos, br_neg, wX, ↓reduceIte, Nat.reduceEqDiff, Nat.reduceAdd, Nat.reduceSub, Nat.reduceMul, Nat.reduceLeDiff, Nat.reduceLT, Nat.reduceMod, Nat.reduceDiv, Int.reduceToNat, Nat.min_eq_left, IntKind.bits, Int.reducePow, Int.reduceLT, Int.reduceLE, Int.reduceEq, Int.reduceNe, Int.reduceAdd, Int.reduceSub, and_self, reduceCtorEq, decide_eq_true_eq, decide_eq_false_iff_not, eq_self, implies_true, exists_const, Option.isNone_some, Option.isNone_none, Option.isSome_some, Option.isSome_none, Option.getD_some, ix, gx]
    refine (U8_no hno).k ?_
    rintro _ _ ⟨rfl, rfl⟩
    simp (disch := omega) only [dm_t, wA, wB, wL, wW, wY, Int.fdiv_eq_ediv_of_nonneg, Int.tdiv_eq_ediv_of_nonneg, Int.tmod_eq_emod_of_nonneg, chk_pos, decT, decF, br_pos, br_neg, wX, ↓reduceIte, Nat.reduceEqDiff, Nat.reduceAdd, Nat.reduceSub, Nat.reduceMul, Nat.reduceLeDiff, Nat.reduceLT, Nat.reduceMod, Nat.reduceDiv, Int.reduceToNat, Nat.min_eq_left, IntKind.bits, Int.reducePow, Int.reduceLT, Int.reduceLE, Int.reduceEq, Int.reduceNe, Int.reduceAdd, Int.reduceSub, and_self, reduceCtorEq, decide_eq_true_eq, decide_eq_false_iff_not, eq_self, implies_true, exists_const, Option.isNone_some, Option.isNone_none, Option.isSome_some, Option.isSome_none, Option.getD_some]
    refine (U64_no hno).k ?_
    rintro _ _ ⟨rfl, rfl⟩
    simp (disch := omega) only [dm_t, wA, wB, wL, wW, wY, Int.fdiv_eq_ediv_of_nonneg, Int.tdiv_eq_ediv_of_nonneg, Int.tmod_eq_emod_of_nonneg, chk_pos, decT, decF, br_pos, br_neg, wX, ↓reduceIte, Nat.reduceEqDiff, Nat.reduceAdd, Nat.reduceSub, Nat.reduceMul, Nat.reduceLeDiff, Nat.reduceLT, Nat.reduceMod, Nat.reduceDiv, Int.reduceToNat, Nat.min_eq_left, IntKind.bits, Int.reducePow, Int.reduceLT, Int.reduceLE, Int.reduceEq, Int.reduceNe, Int.reduceAdd, Int.reduceSub, and_self, reduceCtorEq, decide_eq_true_eq, decide_eq_false_iff_not, eq_self, implies_true, exists_const, Option.isNone_some, Option.isNone_none, Option.isSome_some, Option.isSome_none, Option.getD_some]
    refine (F64_no hno).k ?_
    rintro _ _ ⟨rfl, rfl⟩
    simp (disch := omega) only [dm_t, wA, wB, wL, wW, wY, Int.fdiv_eq_ediv_of_nonneg, Int.tdiv_eq_ediv_of_nonneg, Int.tmod_eq_emod_of_nonneg, chk_pos, decT, decF, br_pos, br_neg, wX, ↓reduceIte, Nat.reduceEqDiff, Nat.reduceAdd, Nat.reduceSub, Nat.reduceMul, Nat.reduceLeDiff, Nat.reduceLT, Nat.reduceMod, Nat.reduceDiv, Int.reduceToNat, Nat.min_eq_left, IntKind.bits, Int.reducePow, Int.reduceLT, Int.reduceLE, Int.reduceEq, Int.reduceNe, Int.reduceAdd, Int.reduceSub, and_self, reduceCtorEq, decide_eq_true_eq, decide_eq_false_iff_not, eq_self, implies_true, exists_const, Option.isNone_some, Option.isNone_none, Option.isSome_some, Option.isSome_none, Option.getD_some]
    refine (String_no hno _).k ?_
    rintro _ _ ⟨rfl, rfl⟩
    simp (disch := omega) only [dm_t, wA, wB, wL, wW, wY, Int.fdiv_eq_ediv_of_nonneg, Int.tdiv_eq_ediv_of_nonneg, Int.tmod_eq_emod_of_nonneg, chk_pos, decT, decF, br_pos, br_neg, wX, ↓reduceIte, Nat.reduceEqDiff, Nat.reduceAdd, Nat.reduceSub, Nat.reduceMul, Nat.reduceLeDiff, Nat.reduceLT, Nat.reduceMod, Nat.reduceDiv, Int.reduceToNat, Nat.min_eq_left, IntKind.bits, Int.reducePow, Int.reduceLT, Int.reduceLE, Int.reduceEq, Int.reduceNe, Int.reduceAdd, Int.reduceSub, and_self, reduceCtorEq, decide_eq_true_eq, decide_eq_false_iff_not, eq_self, implies_true, exists_const, Option.isNone_some, Option.isNone_none, Option.isSome_some, Option.isSome_none, Option.getD_some]
    refine (List_no hno _ _).k ?_
    rintro _ _ ⟨rfl, rfl⟩
    simp (disch := omega) only [dm_t, wA, wB, wL, wW, wY, Int.fdiv_eq_ediv_of_nonneg, Int.tdiv_eq_ediv_of_nonneg, Int.tmod_eq_emod_of_nonneg, chk_pos, decT, decF, br_pos, br_neg, wX, ↓reduceIte, Nat.reduceEqDiff, Nat.reduceAdd, Nat.reduceSub, Nat.reduceMul, Nat.reduceLeDiff, Nat.reduceLT, Nat.reduceMod, Nat.reduceDiv, Int.reduceToNat, Nat.min_eq_left, IntKind.bits, Int.reducePow, Int.reduceLT, Int.reduceLE, Int.reduceEq, Int.reduceNe, Int.reduceAdd, Int.reduceSub, and_self, reduceCtorEq, decide_eq_true_eq, decide_eq_false_iff_not, eq_self, implies_true, exists_const, Option.isNone_some, Option.isNone_none, Option.isSome_some, Option.isSome_none, Option.getD_some]
    refine (num_ok _ _).k ?_
    rintro _ _ ⟨rfl, rfl⟩
    simp (disch := omega) only [dm_t, wA, wB, wL, wW, wY, Int.fdiv_eq_ediv_of_nonneg, Int.tdiv_eq_ediv_of_nonneg, Int.tmod_eq_emod_of_nonneg, chk_pos, decT, decF, br_pos, br_neg, wX, ↓reduceIte, Nat.reduceEqDiff, Nat.reduceAdd, Nat.reduceSub, Nat.reduceMul, Nat.reduceLeDiff, Nat.reduceLT, Nat.reduceMod, Nat.reduceDiv, Int.reduceToNat, Nat.min_eq_left, IntKind.bits, Int.reducePow, Int.reduceLT, Int.reduceLE, Int.reduceEq, Int.reduceNe, Int.reduceAdd, Int.reduceSub, and_self, reduceCtorEq, decide_eq_true_eq, decide_eq_false_iff_not, eq_self, implies_true, exists_const, Option.isNone_some, Option.isNone_none, Option.isSome_some, Option.isSome_none, Option.getD_some]
    refine (num_ok _ _).k ?_
    rintro _ _ ⟨rfl, rfl⟩
    simp (disch := omega) only [dm_t, wA, wB, wL, wW, wY, Int.fdiv_eq_ediv_of_nonneg, Int.tdiv_eq_ediv_of_nonneg, Int.tmod_eq_emod_of_nonneg, chk_pos, decT, decF, br_pos, br_neg, wX, ↓reduceIte, Nat.reduceEqDiff, Nat.reduceAdd, Nat.reduceSub, Nat.reduceMul, Nat.reduceLeDiff, Nat.reduceLT, Nat.reduceMod, Nat.reduceDiv, Int.reduceToNat, Nat.min_eq_left, IntKind.bits, Int.reducePow, Int.reduceLT, Int.reduceLE, Int.reduceEq, Int.reduceNe, Int.reduceAdd, Int.reduceSub, and_self, reduceCtorEq, decide_eq_true_eq, decide_eq_false_iff_not, eq_self, implies_true, exists_const, Option.isNone_some, Option.isNone_none, Option.isSome_some, Option.isSome_none, Option.getD_some, hF]
    refine (num_ok _ _).k ?_
    rintro _ _ ⟨rfl, rfl⟩
    simp (disch := omega) only [dm_t, wA, wB, wL, wW, wY, Int.fdiv_eq_ediv_of_nonneg, Int.tdiv_eq_ediv_of_nonneg, Int.tmod_eq_emod_of_nonneg, chk_pos, decT, decF, br_pos, br_neg, wX, ↓reduceIte, Nat.reduceEqDiff, Nat.reduceAdd, Nat.reduceSub, Nat.reduceMul, Nat.reduceLeDiff, Nat.reduceLT, Nat.reduceMod, Nat.reduceDiv, Int.reduceToNat, Nat.min_eq_left, IntKind.bits, Int.reducePow, Int.reduceLT, Int.reduceLE, Int.reduceEq, Int.reduceNe, Int.reduceAdd, Int.reduceSub, and_self, reduceCtorEq, decide_eq_true_eq, decide_eq_false_iff_not, eq_self, implies_true, exists_const, Option.isNone_some, Option.isNone_none, Option.isSome_some, Option.isSome_none, Option.getD_some]
    refine (num_ok _ _).k ?_
    rintro _ _ ⟨rfl, rfl⟩
    simp (disch := omega) only [dm_t, wA, wB, wL, wW, wY, Int.fdiv_eq_ediv_of_nonneg, Int.tdiv_eq_ediv_of_nonneg, Int.tmod_eq_emod_of_nonneg, chk_pos, decT, decF, br_pos, br_neg, wX, ↓reduceIte, Nat.reduceEqDiff, Nat.reduceAdd, Nat.reduceSub, Nat.reduceMul, Nat.reduceLeDiff, Nat.reduceLT, Nat.reduceMod, Nat.reduceDiv, Int.reduceToNat, Nat.min_eq_left, IntKind.bits, Int.reducePow, Int.reduceLT, Int.reduceLE, Int.reduceEq, Int.reduceNe, Int.reduceAdd, Int.reduceSub, and_self, reduceCtorEq, decide_eq_true_eq, decide_eq_false_iff_not, eq_self, implies_true, exists_const, Option.isNone_some, Option.isNone_none, Option.isSome_some, Option.isSome_none, Option.getD_some]
    refine (num_ok _ _).k ?_
    rintro _ _ ⟨rfl, rfl⟩
    simp (disch := omega) only [dm_t, wA, wB, wL, wW, wY, Int.fdiv_eq_ediv_of_nonneg, Int.tdiv_eq_ediv_of_nonneg, Int.tmod_eq_emod_of_nonneg, chk_pos, decT, decF, br_pos, br_neg, wX, ↓reduceIte, Nat.reduceEqDiff, Nat.reduceAdd, Nat.reduceSub, Nat.reduceMul, Nat.reduceLeDiff, Nat.reduceLT, Nat.reduceMod, Nat.reduceDiv, Int.reduceToNat, Nat.min_eq_left, IntKind.bits, Int.reducePow, Int.reduceLT, Int.reduceLE, Int.reduceEq, Int.reduceNe, Int.reduceAdd, Int.reduceSub, and_self, reduceCtorEq, decide_eq_true_eq, decide_eq_false_iff_not, eq_self, implies_true, exists_const, Option.isNone_some, Option.isNone_none, Option.isSome_some, Option.isSome_none, Option.getD_some]
    refine (Skip_no hno _).k ?_
    rintro _ _ ⟨rfl, rfl⟩
    simp (disch := omega) only [dm_t, wA, wB, wL, wW, wY, Int.fdiv_eq_ediv_of_nonneg, Int.tdiv_eq_ediv_of_nonneg, Int.tmod_eq_emod_of_nonneg, chk_pos, decT, decF, br_pos, br_neg, wX, ↓reduceIte, Nat.reduceEqDiff, Nat.reduceAdd, Nat.reduceSub, Nat.reduceMul, Nat.reduceLeDiff, Nat.reduceLT, Nat.reduceMod, Nat.reduceDiv, Int.reduceToNat, Nat.min_eq_left, IntKind.bits, Int.reducePow, Int.reduceLT, Int.reduceLE, Int.reduceEq, Int.reduceNe, Int.reduceAdd, Int.reduceSub, and_self, reduceCtorEq, decide_eq_true_eq, decide_eq_false_iff_not, eq_self, implies_true, exists_const, Option.isNone_some, Option.isNone_none, Option.isSome_some, Option.isSome_none, Option.getD_some]
    refine (num_ok _ _).k ?_
    rintro _ _ ⟨rfl, rfl⟩
    simp (disch := omega) only [dm_t, wA, wB, wL, wW, wY, Int.fdiv_eq_ediv_of_nonneg, Int.tdiv_eq_ediv_of_nonneg, Int.tmod_eq_emod_of_nonneg, chk_pos, decT, decF, br_pos, br_neg, wX, ↓reduceIte, Nat.reduceEqDiff, Nat.reduceAdd, Nat.reduceSub, Nat.reduceMul, Nat.reduceLeDiff, Nat.reduceLT, Nat.reduceMod, Nat.reduceDiv, Int.reduceToNat, Nat.min_eq_left, IntKind.bits, Int.reducePow, Int.reduceLT, Int.reduceLE, Int.reduceEq, Int.reduceNe, Int.reduceAdd, Int.reduceSub, and_self, reduceCtorEq, decide_eq_true_eq, decide_eq_false_iff_not, eq_self, implies_true, exists_const, Option.isNone_some, Option.isNone_none, Option.isSome_some, Option.isSome_none, Option.getD_some]
    refine (End_no hno).k ?_
    rintro _ _ ⟨rfl, rfl⟩
    simp (disch := omega) only [dm_t, wA, wB, wL, wW, wY, Int.fdiv_eq_ediv_of_nonneg, Int.tdiv_eq_ediv_of_nonneg, Int.tmod_eq_emod_of_nonneg, chk_pos, decT, decF, br_pos, br_neg, wX, ↓reduceIte, Nat.reduceEqDiff, Nat.reduceAdd, Nat.reduceSub, Nat.reduceMul, Nat.reduceLeDiff, Nat.reduceLT, Nat.reduceMod, Nat.reduceDiv, Int.reduceToNat, Nat.min_eq_left, IntKind.bits, Int.reducePow, Int.reduceLT, Int.reduceLE, Int.reduceEq, Int.reduceNe, Int.reduceAdd, Int.reduceSub, and_self, reduceCtorEq, decide_eq_true_eq, decide_eq_false_iff_not, eq_self, implies_true, exists_const, Option.isNone_some, Option.isNone_none, Option.isSome_some, Option.isSome_none, Option.getD_some]
    refine (num_ok _ _).k ?_
    rintro _ _ ⟨rfl, rfl⟩
    simp (disch := omega) only [dm_t, wA, wB, wL, wW, wY, Int.fdiv_eq_ediv_of_nonneg, Int.tdiv_eq_ediv_of_nonneg, Int.tmod_eq_emod_of_nonneg, chk_pos, decT, decF, br_pos, br_neg, wX, ↓reduceIte, Nat.reduceEqDiff, Nat.reduceAdd, Nat.reduceSub, Nat.reduceMul, Nat.reduceLeDiff, Nat.reduceLT, Nat.reduceMod, Nat.reduceDiv, Int.reduceToNat, Nat.min_eq_left, IntKind.bits, Int.reducePow, Int.reduceLT, Int.reduceLE, Int.reduceEq, Int.reduceNe, Int.reduceAdd, Int.reduceSub, and_self, reduceCtorEq, decide_eq_true_eq, decide_eq_false_iff_not, eq_self, implies_true, exists_const, Option.isNone_some, Option.isNone_none, Option.isSome_some, Option.isSome_none, Option.getD_some]
    refine (At_no hno).k ?_
    rintro _ _ ⟨rfl, rfl⟩
    simp (disch := omega) only [dm_t, wA, wB, wL, wW, wY, Int.fdiv_eq_ediv_of_nonneg, Int.tdiv_eq_ediv_of_nonneg, Int.tmod_eq_emod_of_nonneg, chk_pos, decT, decF, br_pos, br_neg, wX, ↓reduceIte, Nat.reduceEqDiff, Nat.reduceAdd, Nat.reduceSub, Nat.reduceMul, Nat.reduceLeDiff, Nat.reduceLT, Nat.reduceMod, Nat.reduceDiv, Int.reduceToNat, Nat.min_eq_left, IntKind.bits, Int.reducePow, Int.reduceLT, Int.reduceLE, Int.reduceEq, Int.reduceNe, Int.reduceAdd, Int.reduceSub, and_self, reduceCtorEq, decide_eq_true_eq, decide_eq_false_iff_not, eq_self, implies_true, exists_const, Option.isNone_some, Option.isNone_none, Option.isSome_some, Option.isSome_none, Option.getD_some]
    refine (Left_no hno).k ?_
    rintro _ _ ⟨rfl, rfl⟩
    simp (disch := omega) only [dm_t, wA, wB, wL, wW, wY, Int.fdiv_eq_ediv_of_nonneg, Int.tdiv_eq_ediv_of_nonneg, Int.tmod_eq_emod_of_nonneg, chk_pos, decT, decF, br_pos, br_neg, wX, ↓reduceIte, Nat.reduceEqDiff, Nat.reduceAdd, Nat.reduceSub, Nat.reduceMul, Nat.reduceLeDiff, Nat.reduceLT, Nat.reduceMod, Nat.reduceDiv, Int.reduceToNat, Nat.min_eq_left, IntKind.bits, Int.reducePow, Int.reduceLT, Int.reduceLE, Int.reduceEq, Int.reduceNe, Int.reduceAdd, Int.reduceSub, and_self, reduceCtorEq, decide_eq_true_eq, decide_eq_false_iff_not, eq_self, implies_true, exists_const, Option.isNone_some, Option.isNone_none, Option.isSome_some, Option.isSome_none, Option.getD_some]
    refine (Rest_no hno).k ?_
    rintro _ _ ⟨rfl, rfl⟩
    simp (disch := omega) only [dm_t, wA, wB, wL, wW, wY, Int.fdiv_eq_ediv_of_nonneg, Int.tdiv_eq_ediv_of_nonneg, Int.tmod_eq_emod_of_nonneg, chk_pos, decT, decF, br_pos, br_neg, wX, ↓reduceIte, Nat.reduceEqDiff, Nat.reduceAdd, Nat.reduceSub, Nat.reduceMul, Nat.reduceLeDiff, Nat.reduceLT, Nat.reduceMod, Nat.reduceDiv, Int.reduceToNat, Nat.min_eq_left, IntKind.bits, Int.reducePow, Int.reduceLT, Int.reduceLE, Int.reduceEq, Int.reduceNe, Int.reduceAdd, Int.reduceSub, and_self, reduceCtorEq, decide_eq_true_eq, decide_eq_false_iff_not, eq_self, implies_true, exists_const, Option.isNone_some, Option.isNone_none, Option.isSome_some, Option.isSome_none, Option.getD_some]
    refine (Copy_no hno).k ?_
    rintro _ _ ⟨rfl, rfl⟩
    simp (disch := omega) only [dm_t, wA, wB, wL, wW, wY, Int.fdiv_eq_ediv_of_nonneg, Int.tdiv_eq_ediv_of_nonneg, Int.tmod_eq_emod_of_nonneg, chk_pos, decT, decF, br_pos, br_neg, wX, ↓reduceIte, Nat.reduceEqDiff, Nat.reduceAdd, Nat.reduceSub, Nat.reduceMul, Nat.reduceLeDiff, Nat.reduceLT, Nat.reduceMod, Nat.reduceDiv, Int.reduceToNat, Nat.min_eq_left, IntKind.bits, Int.reducePow, Int.reduceLT, Int.reduceLE, Int.reduceEq, Int.reduceNe, Int.reduceAdd, Int.reduceSub, and_self, reduceCtorEq, decide_eq_true_eq, decide_eq_false_iff_not, eq_self, implies_true, exists_const, Option.isNone_some, Option.isNone_none, Option.isSome_some, Option.isSome_none, Option.getD_some]
    exact ⟨⟨i + 1, by simp, by omega⟩, by simp [m1]; omega⟩
  · simp (disch := omega) only [dm_t, wA, wB, wL, wW, wY, Int.fdiv_eq_ediv_of_nonneg, Int.tdiv_eq_ediv_of_nonneg, Int.tmod_eq_emod_of_nonneg, chk_pos, decT, decF, br_pos, br_neg, wX, ↓reduceIte, Nat.reduceEqDiff, Nat.reduceAdd, Nat.reduceSub, Nat.reduceMul, Nat.reduceLeDiff, Nat.reduceLT, Nat.reduceMod, Nat.reduceDiv, Int.reduceToNat, Nat.min_eq_left, IntKind.bits, Int.reducePow, Int.reduceLT, Int.reduceLE, Int.reduceEq, Int.reduceNe, Int.reduceAdd, Int.reduceSub, and_self, reduceCtorEq, decide_eq_true_eq, decide_eq_false_iff_not, eq_self, implies_true, exists_const, Option.isNone_some, Option.isNone_none, Option.isSome_some, Option.isSome_none, Option.getD_some]
    exact e
abbrev askT : Ty := .pair (.int .i64) (.pair (.int .i64) (.int .i64))
/-- What stands through the rounds, from the heap G on, where the first reader (c0) and the document's (w) were made: slot by slot. -/
structure WI (G h : H) (c0 w bc : Nat) (s bv : Value) (l : List UInt8) (k : Nat) (os : List (Nat × Nat)) (old was : Value) : Prop where
  f : Fr (fun y => (y = c0 ∨ y = w) ∨ G y = none) G h
  r : RW h bc s w bv l k k
  c : bc = c0 ∨ G bc = none
  z : h c0 ≠ none
  o : ∀ o ∈ os, h o.1 = some (.cells #[s, .int .i64 (o.2 : Nat), .bool true] 86) ∧ o.1 ≠ bc ∧ (o.1 = c0 ∨ G o.1 = none) ∧ o.2 ≤ l.length
  old : O1 (fun y => G y = none) h 54 old (os.map fun o => pv o.1)
  was : O1 (fun y => G y = none) h 3 was (os.map fun o => .int .i64 (o.2 : Nat))
section
variable {G h h' : H} {c0 w bc k : Nat} {s bv old was : Value} {l : List UInt8} {os : List (Nat × Nat)}
theorem WI.ty (I : WI G h c0 w bc s bv l k os old was) {y : Nat} {c : Array Value} {T : TypeId} (hy : h y = some (.cells c T)) (h1 : T ≠ 54) (h2 : T ≠ 3) : ¬ isAt old y ∧ ¬ isAt was y := ⟨OwK.tyno I.old hy h1, OwK.tyno I.was hy h2⟩
theorem WI.ask (I : WI G h c0 w bc s bv l k os old was) (g : Go1 h bc s w bv l h') : ∃ k', WI G h' c0 w bc s bv l k' os old was := by
  obtain ⟨⟨k', r'⟩, f⟩ := g
  have hT : ∀ y, (y = bc ∨ y = w) → ¬ isAt old y ∧ ¬ isAt was y := by
    rintro y (rfl | rfl)
    · exact I.ty I.r.o1 (by decide) (by decide)
    · exact I.ty I.r.o2 (by decide) (by decide)
  refine ⟨k', I.f.trans (f.mono ?_), r', I.c, ?_, fun o ho => ?_, OwK.fr I.old f fun x hx _ => (hT x hx).1, OwK.fr I.was f fun x hx _ => (hT x hx).2⟩
  · rintro y (rfl | rfl)
    · exact I.c.elim (fun h => .inl (.inl h)) .inr
    · exact .inl (.inr rfl)
  · by_cases h1 : c0 = bc
    · rw [h1, r'.o1]; simp
    by_cases h2 : c0 = w
    · rw [h2, r'.o2]; simp
    obtain ⟨o, ho⟩ : ∃ o, h c0 = some o := by cases hh : h c0 with | none => exact absurd hh I.z | some o => exact ⟨o, rfl⟩
    rw [f _ _ ho (by omega)]; simp
  · obtain ⟨o1, o2, o3, o4⟩ := I.o o ho
    refine ⟨f _ _ o1 ?_, o2, o3, o4⟩
    rintro (h | h)
    · exact o2 h
    · rw [h, I.r.o2] at o1; simp at o1
theorem WI.bk (I : WI G h c0 w bc s bv l k os old was) {y : Nat} (hy : h y = none) : G y = none := by
  cases hc : G y with
  | none => rfl
  | some o =>
    exfalso
    by_cases h1 : y = c0
    · exact I.z (h1 ▸ hy)
    by_cases h2 : y = w
    · have := I.r.o2; rw [← h2, hy] at this; cases this
    have := I.f _ _ hc (by rintro ((h | h) | h); exact h1 h; exact h2 h; rw [hc] at h; cases h)
    rw [hy] at this; cases this
theorem mkRW (sG : By (fun y => (y = c0 ∨ y = w) ∨ G y = none) G s l) (bG : By (fun y => (y = c0 ∨ y = w) ∨ G y = none) G bv l) (f : Fr (fun y => (y = c0 ∨ y = w) ∨ G y = none) G h) (o1 : h bc = some (.cells #[s, .int .i64 (k : Nat), .bool true] 86)) (o2 : h w = some (.cells #[bv, .int .i64 (k : Nat)] 58)) (hc : bc = c0 ∨ G bc = none) (hk : k ≤ l.length) (hl : l.length ≤ 140737488355328) : RW h bc s w bv l k k := by
  have hT : ∀ y, (y = bc ∨ y = w) → ((y = c0 ∨ y = w) ∨ G y = none) := by
    rintro y (rfl | rfl)
    · exact hc.elim (fun h => .inl (.inl h)) .inr
    · exact .inl (.inr rfl)
  exact ⟨o1, o2, (SlK.fr sG f fun _ h => h).mono fun x _ _ hx => hT x hx, (SlK.fr bG f fun _ h => h).mono fun x _ _ hx => hT x hx, hk, hk, hl⟩
end
theorem reads_ok {h : H} {bv sv : Value} {l : List UInt8} {ks : List askT.D} (hb : By nos h bv l) (hl : l.length ≤ 140737488351232) (hs : RepL nos askT h sv ks) : Ok Try.prog 6 #[bv, sv] h fun v h' => v = .bool true ∧ Ext h h' := by
  obtain ⟨ba, bc0, rfl⟩ := hb.len
  obtain ⟨sa, sc, rfl⟩ := hs.len
  refine c6_ok (args := [_, _]) (by simp) ?_
  by_cases h60 : 60 < ks.length
  · simp (disch := omega) only [dm_t, wA, wB, wL, wW, wY, Int.fdiv_eq_ediv_of_nonneg, Int.tdiv_eq_ediv_of_nonneg, Int.tmod_eq_emod_of_nonneg, chk_pos, decT, decF, br_pos, br_neg, wX, ↓reduceIte, Nat.reduceEqDiff, Nat.reduceAdd, Nat.reduceSub, Nat.reduceMul, Nat.reduceLeDiff, Nat.reduceLT, Nat.reduceMod, Nat.reduceDiv, Int.reduceToNat, Nat.min_eq_left, IntKind.bits, Int.reducePow, Int.reduceLT, Int.reduceLE, Int.reduceEq, Int.reduceNe, Int.reduceAdd, Int.reduceSub, and_self, reduceCtorEq, decide_eq_true_eq, decide_eq_false_iff_not, eq_self, implies_true, exists_const, Option.isNone_some, Option.isNone_none, Option.isSome_some, Option.isSome_none, Option.getD_some]
    refine works_k fun h' e' => ?_
    simp (disch := omega) only [dm_t, wA, wB, wL, wW, wY, Int.fdiv_eq_ediv_of_nonneg, Int.tdiv_eq_ediv_of_nonneg, Int.tmod_eq_emod_of_nonneg, chk_pos, decT, decF, br_pos, br_neg, wX, ↓reduceIte, Nat.reduceEqDiff, Nat.reduceAdd, Nat.reduceSub, Nat.reduceMul, Nat.reduceLeDiff, Nat.reduceLT, Nat.reduceMod, Nat.reduceDiv, Int.reduceToNat, Nat.min_eq_left, IntKind.bits, Int.reducePow, Int.reduceLT, Int.reduceLE, Int.reduceEq, Int.reduceNe, Int.reduceAdd, Int.reduceSub, and_self, reduceCtorEq, decide_eq_true_eq, decide_eq_false_iff_not, eq_self, implies_true, exists_const, Option.isNone_some, Option.isNone_none, Option.isSome_some, Option.isSome_none, Option.getD_some]
    exact e'
  simp (disch := omega) only [dm_t, wA, wB, wL, wW, wY, Int.fdiv_eq_ediv_of_nonneg, Int.tdiv_eq_ediv_of_nonneg, Int.tmod_eq_emod_of_nonneg, chk_pos, decT, decF, br_pos, br_neg, wX, ↓reduceIte, Nat.reduceEqDiff, Nat.reduceAdd, Nat.reduceSub, Nat.reduceMul, Nat.reduceLeDiff, Nat.reduceLT, Nat.reduceMod, Nat.reduceDiv, Int.reduceToNat, Nat.min_eq_left, IntKind.bits, Int.reducePow, Int.reduceLT, Int.reduceLE, Int.reduceEq, Int.reduceNe, Int.reduceAdd, Int.reduceSub, and_self, reduceCtorEq, decide_eq_true_eq, decide_eq_false_iff_not, eq_self, implies_true, exists_const, Option.isNone_some, Option.isNone_none, Option.isSome_some, Option.isSome_none, Option.getD_some]
  refine (lent_ok hb (by omega)).k ?_
  rintro m h1 ⟨lm, e1⟩
  have lmL := lm.lent (S := fun y => h y ≠ none) fun x hx hy => hy hx
  have om := lm.ow
  obtain ⟨ma, mc, rfl⟩ := By.len om.s0
  simp (disch := omega) only [dm_t, wA, wB, wL, wW, wY, Int.fdiv_eq_ediv_of_nonneg, Int.tdiv_eq_ediv_of_nonneg, Int.tmod_eq_emod_of_nonneg, chk_pos, decT, decF, br_pos, br_neg, wX, ↓reduceIte, Nat.reduceEqDiff, Nat.reduceAdd, Nat.reduceSub, Nat.reduceMul, Nat.reduceLeDiff, Nat.reduceLT, Nat.reduceMod, Nat.reduceDiv, Int.reduceToNat, Nat.min_eq_left, IntKind.bits, Int.reducePow, Int.reduceLT, Int.reduceLE, Int.reduceEq, Int.reduceNe, Int.reduceAdd, Int.reduceSub, and_self, reduceCtorEq, decide_eq_true_eq, decide_eq_false_iff_not, eq_self, implies_true, exists_const, Option.isNone_some, Option.isNone_none, Option.isSome_some, Option.isSome_none, Option.getD_some]
  refine (New2_ok om.s0 (by omega)).k ?_
  rintro _ h2 ⟨c0, s, rfl, hc0, q0, bs0, e2⟩
  simp (disch := omega) only [dm_t, wA, wB, wL, wW, wY, Int.fdiv_eq_ediv_of_nonneg, Int.tdiv_eq_ediv_of_nonneg, Int.tmod_eq_emod_of_nonneg, chk_pos, decT, decF, br_pos, br_neg, wX, ↓reduceIte, Nat.reduceEqDiff, Nat.reduceAdd, Nat.reduceSub, Nat.reduceMul, Nat.reduceLeDiff, Nat.reduceLT, Nat.reduceMod, Nat.reduceDiv, Int.reduceToNat, Nat.min_eq_left, IntKind.bits, Int.reducePow, Int.reduceLT, Int.reduceLE, Int.reduceEq, Int.reduceNe, Int.reduceAdd, Int.reduceSub, and_self, reduceCtorEq, decide_eq_true_eq, decide_eq_false_iff_not, eq_self, implies_true, exists_const, Option.isNone_some, Option.isNone_none, Option.isSome_some, Option.isSome_none, Option.getD_some]
  refine (kept_ok (lmL.ext e2) (SlK.ext (SlK.ext hb e1) e2) (by omega)).k ?_
  rintro _ _ ⟨rfl, rfl⟩
  simp (disch := omega) only [dm_t, wA, wB, wL, wW, wY, Int.fdiv_eq_ediv_of_nonneg, Int.tdiv_eq_ediv_of_nonneg, Int.tmod_eq_emod_of_nonneg, chk_pos, decT, decF, br_pos, br_neg, wX, ↓reduceIte, Nat.reduceEqDiff, Nat.reduceAdd, Nat.reduceSub, Nat.reduceMul, Nat.reduceLeDiff, Nat.reduceLT, Nat.reduceMod, Nat.reduceDiv, Int.reduceToNat, Nat.min_eq_left, IntKind.bits, Int.reducePow, Int.reduceLT, Int.reduceLE, Int.reduceEq, Int.reduceNe, Int.reduceAdd, Int.reduceSub, and_self, reduceCtorEq, decide_eq_true_eq, decide_eq_false_iff_not, eq_self, implies_true, exists_const, Option.isNone_some, Option.isNone_none, Option.isSome_some, Option.isSome_none, Option.getD_some]
  have om2 := OwK.ext om e2
  have hat1 : ∀ y, isAt (.slice ma l.length mc) y → h1 y ≠ none := fun y hy => OwK.there om hy
  refine vc_loop1 (fun vk h' => ∃ (j : Nat) (zs : List UInt8), vk = .int .i64 (j : Int) ∧ j ≤ l.length ∧ zs.length = l.length ∧ OwB (fun y => h y = none) h' 5 (.slice ma l.length mc) zs ∧ Fr (isAt (.slice ma l.length mc)) h2 h') (fun vk _ => l.length - m1 vk) ?_ ?_
  · simp (disch := omega) only [dm_t, wA, wB, wL, wW, wY, Int.fdiv_eq_ediv_of_nonneg, Int.tdiv_eq_ediv_of_nonneg, Int.tmod_eq_emod_of_nonneg, chk_pos, decT, decF, br_pos, br_neg, wX, ↓reduceIte, Nat.reduceEqDiff, Nat.reduceAdd, Nat.reduceSub, Nat.reduceMul, Nat.reduceLeDiff, Nat.reduceLT, Nat.reduceMod, Nat.reduceDiv, Int.reduceToNat, Nat.min_eq_left, IntKind.bits, Int.reducePow, Int.reduceLT, Int.reduceLE, Int.reduceEq, Int.reduceNe, Int.reduceAdd, Int.reduceSub, and_self, reduceCtorEq, decide_eq_true_eq, decide_eq_false_iff_not, eq_self, implies_true, exists_const, Option.isNone_some, Option.isNone_none, Option.isSome_some, Option.isSome_none, Option.getD_some]
    exact ⟨0, l, rfl, by omega, rfl, om2, Fr.refl _ _⟩
  rintro _ h3 ⟨j, zs, rfl, hj, hz, o3, f3⟩
  by_cases hjl : j < l.length
  · obtain ⟨b1, o1, ix, _, hO, hat, hst⟩ := OwB.set o3 j rfl (by omega) (kk := .i64) (e := (j : Int))
    simp (disch := omega) only [dm_t, wA, wB, wL, wW, wY, Int.fdiv_eq_ediv_of_nonneg, Int.tdiv_eq_ediv_of_nonneg, Int.tmod_eq_emod_of_nonneg, chk_pos, decT, decF, br_pos, br_neg, wX, ↓reduceIte, Nat.reduceEqDiff, Nat.reduceAdd, Nat.reduceSub, Nat.reduceMul, Nat.reduceLeDiff, Nat.reduceLT, Nat.reduceMod, Nat.reduceDiv, Int.reduceToNat, Nat.min_eq_left, IntKind.bits, Int.reducePow, Int.reduceLT, Int.reduceLE, Int.reduceEq, Int.reduceNe, Int.reduceAdd, Int.reduceSub, and_self, reduceCtorEq, decide_eq_true_eq, decide_eq_false_iff_not, eq_self, implies_true, exists_const, Option.isNone_some, Option.isNone_none, Option.isSome_some, Option.isSome_none, Option.getD_some, ix]
    refine hst 90 _ _ rfl ?_
    intro h4 o4 f4
    simp (disch := omega) only [dm_t, wA, wB, wL, wW, wY, Int.fdiv_eq_ediv_of_nonneg, Int.tdiv_eq_ediv_of_nonneg, Int.tmod_eq_emod_of_nonneg, chk_pos, decT, decF, br_pos, br_neg, wX, ↓reduceIte, Nat.reduceEqDiff, Nat.reduceAdd, Nat.reduceSub, Nat.reduceMul, Nat.reduceLeDiff, Nat.reduceLT, Nat.reduceMod, Nat.reduceDiv, Int.reduceToNat, Nat.min_eq_left, IntKind.bits, Int.reducePow, Int.reduceLT, Int.reduceLE, Int.reduceEq, Int.reduceNe, Int.reduceAdd, Int.reduceSub, and_self, reduceCtorEq, decide_eq_true_eq, decide_eq_false_iff_not, eq_self, implies_true, exists_const, Option.isNone_some, Option.isNone_none, Option.isSome_some, Option.isSome_none, Option.getD_some]
    exact ⟨⟨j + 1, _, by simp, by omega, by simpa using hz, o4, f3.trans (f4.mono fun x hx => by rw [hx]; exact hat)⟩, by simp [m1]; omega⟩
  obtain rfl : j = l.length := by omega
  have ne0 : ¬ isAt (.slice ma l.length mc) c0 := fun hat => hat1 _ hat hc0
  have q3 := f3 _ _ q0 ne0
  have s3 : By (fun y => y = c0 ∨ h1 y ≠ none) h3 s l := SlK.fr bs0 f3 fun x hx => .inr (hat1 x hx)
  have E3 : Ext h h3 := Ext.step' (e1.trans e2) f3 fun x hx => OwK.own om hx
  clear lm lmL om om2 q0 bs0 e2 f3 o3 hat1 ne0 hz zs
  simp (disch := omega) only [dm_t, wA, wB, wL, wW, wY, Int.fdiv_eq_ediv_of_nonneg, Int.tdiv_eq_ediv_of_nonneg, Int.tmod_eq_emod_of_nonneg, chk_pos, decT, decF, br_pos, br_neg, wX, ↓reduceIte, Nat.reduceEqDiff, Nat.reduceAdd, Nat.reduceSub, Nat.reduceMul, Nat.reduceLeDiff, Nat.reduceLT, Nat.reduceMod, Nat.reduceDiv, Int.reduceToNat, Nat.min_eq_left, IntKind.bits, Int.reducePow, Int.reduceLT, Int.reduceLE, Int.reduceEq, Int.reduceNe, Int.reduceAdd, Int.reduceSub, and_self, reduceCtorEq, decide_eq_true_eq, decide_eq_false_iff_not, eq_self, implies_true, exists_const, Option.isNone_some, Option.isNone_none, Option.isSome_some, Option.isSome_none, Option.getD_some]
  intro w hw
  generalize hG : hupd _ w _ = G
  obtain ⟨e4, qw⟩ := new_ext hG hw
  clear hG
  have hwh := E3.bk hw
  have hch := e1.bk hc0
  have nw : c0 ≠ w := ne_of q3 hw
  have EG := E3.trans e4
  have bG : By (fun y => (y = c0 ∨ y = w) ∨ G y = none) G (.slice ba l.length bc0) l := (SlK.ext (hb.mono (T := fun y => (y = c0 ∨ y = w) ∨ G y = none) fun x o hx hy => by
    rcases hy with (rfl | rfl) | hy
    · rw [hch] at hx; cases hx
    · rw [hwh] at hx; cases hx
    · rw [EG.at hx] at hy; cases hy) EG)
  have sG : By (fun y => (y = c0 ∨ y = w) ∨ G y = none) G s l := SlK.mono (SlK.ext (SlK.mono s3 (T := fun y => y = c0 ∨ y = w) fun x o hx hy => hy.elim .inl fun hy => by rw [hy] at hx; rw [hw] at hx; cases hx) e4) fun x o hx hy => hy.elim id fun hy => by rw [hx] at hy; cases hy
  have hGc : G c0 ≠ none := by rw [e4.at q3]; simp
  have I0 : WI G G c0 w c0 s (.slice ba l.length bc0) l 0 [] (.slice none 0 0) (.slice none 0 0) :=
    ⟨Fr.refl _ _, ⟨e4.at q3, qw, sG.mono fun _ _ _ h => .inl h, bG.mono fun _ _ _ h => .inl h, by omega, by omega, by omega⟩, .inl rfl, by rw [e4.at q3]; simp, fun o ho => by simp at ho, OwK.nil, OwK.nil⟩
  clear s3 q3 e4 qw E3 e1 hw hc0
  clear h1 h2 h3
  have hb140 : l.length ≤ 140737488355328 := by omega
  simp (disch := omega) only [dm_t, wA, wB, wL, wW, wY, Int.fdiv_eq_ediv_of_nonneg, Int.tdiv_eq_ediv_of_nonneg, Int.tmod_eq_emod_of_nonneg, chk_pos, decT, decF, br_pos, br_neg, wX, ↓reduceIte, Nat.reduceEqDiff, Nat.reduceAdd, Nat.reduceSub, Nat.reduceMul, Nat.reduceLeDiff, Nat.reduceLT, Nat.reduceMod, Nat.reduceDiv, Int.reduceToNat, Nat.min_eq_left, IntKind.bits, Int.reducePow, Int.reduceLT, Int.reduceLE, Int.reduceEq, Int.reduceNe, Int.reduceAdd, Int.reduceSub, and_self, reduceCtorEq, decide_eq_true_eq, decide_eq_false_iff_not, eq_self, implies_true, exists_const, Option.isNone_some, Option.isNone_none, Option.isSome_some, Option.isSome_none, Option.getD_some]
  refine vc_loop4 (fun v6 v9 v10 v11 h' => ∃ (bc k i : Nat) (os : List (Nat × Nat)), v6 = pv bc ∧ v11 = .int .i64 (i : Int) ∧ i ≤ ks.length ∧ os.length ≤ i ∧ WI G h' c0 w bc s (.slice ba l.length bc0) l k os v9 v10) (fun _ _ _ v11 _ => ks.length - m1 v11) ?_ ?_
  · simp (disch := omega) only [dm_t, wA, wB, wL, wW, wY, Int.fdiv_eq_ediv_of_nonneg, Int.tdiv_eq_ediv_of_nonneg, Int.tmod_eq_emod_of_nonneg, chk_pos, decT, decF, br_pos, br_neg, wX, ↓reduceIte, Nat.reduceEqDiff, Nat.reduceAdd, Nat.reduceSub, Nat.reduceMul, Nat.reduceLeDiff, Nat.reduceLT, Nat.reduceMod, Nat.reduceDiv, Int.reduceToNat, Nat.min_eq_left, IntKind.bits, Int.reducePow, Int.reduceLT, Int.reduceLE, Int.reduceEq, Int.reduceNe, Int.reduceAdd, Int.reduceSub, and_self, reduceCtorEq, decide_eq_true_eq, decide_eq_false_iff_not, eq_self, implies_true, exists_const, Option.isNone_some, Option.isNone_none, Option.isSome_some, Option.isSome_none, Option.getD_some]
    exact ⟨c0, 0, 0, [], rfl, rfl, by omega, by simp, I0⟩
  clear I0
  rintro _ vold vwas _ h1 ⟨bc, k, i, os, rfl, rfl, hi, hos, I⟩
  have EX : ∀ {h'}, Fr (fun y => (y = c0 ∨ y = w) ∨ G y = none) G h' → Ext h h' := fun f => Ext.step' EG f (by
    rintro x ((rfl | rfl) | hx)
    · exact hch
    · exact hwh
    · exact EG.bk hx)
  obtain ⟨oa, oc, rfl⟩ := S1.len I.old.s0
  obtain ⟨wa, wc, rfl⟩ := S1.len I.was.s0
  simp only [List.length_map] at I ⊢
  by_cases hil : i < ks.length
  · obtain ⟨kb, ko, cs, ik, gc, gk, rk⟩ := hs.load hil .i64 3 (by rfl)
    obtain ⟨c1, d1, rfl, ⟨rfl, rb1⟩, c2, d2, rfl, ⟨rfl, rb2⟩, rfl, rb3⟩ := rk
    generalize ks[i] = kk at *
    have gk0 : ∀ {h'}, Ext h h' → cellAt h' ⟨kb, ko, none⟩ = some (.int .i64 kk.1) := fun e => cellAt_ext e (gk 0 (by omega))
    have gkA : ∀ {h'}, Ext h h' → cellsAt h' ⟨kb, ko, none⟩ 3 = some #[.int .i64 kk.1, .int .i64 kk.2.1, .int .i64 kk.2.2] := fun e => cellsAt_ext e gc
    generalize hQ0 : lq4 _ _ _ _ _ _ _ _ _ _ = Q0
    -- behind a copy's being made, or not
    have key : ∀ (h2 : H) (bc k : Nat) (os : List (Nat × Nat)) (old was : Value), os.length ≤ i + 1 → WI G h2 c0 w bc s (.slice ba l.length bc0) l k os old was →
        vc Try.prog c6_s17 (blockQ 3 (seqQ Try.prog [0, 1, 6, 8, 9, 10, 11] c6_s18 Q0)) [(0, .slice ba l.length bc0), (1, .slice sa ks.length sc), (6, pv bc), (8, pv w), (9, old), (10, was), (11, .int .i64 (i : Int))] h2 := by
      intro h2 bc k os old was hos I
      have e2 := EX I.f
      simp (disch := omega) only [dm_t, wA, wB, wL, wW, wY, Int.fdiv_eq_ediv_of_nonneg, Int.tdiv_eq_ediv_of_nonneg, Int.tmod_eq_emod_of_nonneg, chk_pos, decT, decF, br_pos, br_neg, wX, ↓reduceIte, Nat.reduceEqDiff, Nat.reduceAdd, Nat.reduceSub, Nat.reduceMul, Nat.reduceLeDiff, Nat.reduceLT, Nat.reduceMod, Nat.reduceDiv, Int.reduceToNat, Nat.min_eq_left, IntKind.bits, Int.reducePow, Int.reduceLT, Int.reduceLE, Int.reduceEq, Int.reduceNe, Int.reduceAdd, Int.reduceSub, and_self, reduceCtorEq, decide_eq_true_eq, decide_eq_false_iff_not, eq_self, implies_true, exists_const, Option.isNone_some, Option.isNone_none, Option.isSome_some, Option.isSome_none, Option.getD_some, ik, gkA e2]
      refine (ask_ok I.r kk.1 kk.2.1 kk.2.2 rb2 rb3).k ?_
      rintro _ h3 ⟨rfl, g3⟩
      obtain ⟨k', I3⟩ := I.ask g3
      have e3 := EX I3.f
      have ow := I3.r.o2
      have hle := I3.r.l1
      simp (disch := omega) only [dm_t, wA, wB, wL, wW, wY, Int.fdiv_eq_ediv_of_nonneg, Int.tdiv_eq_ediv_of_nonneg, Int.tmod_eq_emod_of_nonneg, chk_pos, decT, decF, br_pos, br_neg, wX, ↓reduceIte, Nat.reduceEqDiff, Nat.reduceAdd, Nat.reduceSub, Nat.reduceMul, Nat.reduceLeDiff, Nat.reduceLT, Nat.reduceMod, Nat.reduceDiv, Int.reduceToNat, Nat.min_eq_left, IntKind.bits, Int.reducePow, Int.reduceLT, Int.reduceLE, Int.reduceEq, Int.reduceNe, Int.reduceAdd, Int.reduceSub, and_self, reduceCtorEq, decide_eq_true_eq, decide_eq_false_iff_not, eq_self, implies_true, exists_const, Option.isNone_some, Option.isNone_none, Option.isSome_some, Option.isSome_none, Option.getD_some, cellAt_of ow]
      refine (At_ok I3.r.rd).k ?_
      rintro _ _ ⟨rfl, rfl⟩
      simp (disch := omega) only [dm_t, wA, wB, wL, wW, wY, Int.fdiv_eq_ediv_of_nonneg, Int.tdiv_eq_ediv_of_nonneg, Int.tmod_eq_emod_of_nonneg, chk_pos, decT, decF, br_pos, br_neg, wX, ↓reduceIte, Nat.reduceEqDiff, Nat.reduceAdd, Nat.reduceSub, Nat.reduceMul, Nat.reduceLeDiff, Nat.reduceLT, Nat.reduceMod, Nat.reduceDiv, Int.reduceToNat, Nat.min_eq_left, IntKind.bits, Int.reducePow, Int.reduceLT, Int.reduceLE, Int.reduceEq, Int.reduceNe, Int.reduceAdd, Int.reduceSub, and_self, reduceCtorEq, decide_eq_true_eq, decide_eq_false_iff_not, eq_self, implies_true, exists_const, Option.isNone_some, Option.isNone_none, Option.isSome_some, Option.isSome_none, Option.getD_some, cellAt_of ow]
      refine (Left_ok I3.r.rd).k ?_
      rintro _ _ ⟨rfl, rfl⟩
      simp (disch := omega) only [dm_t, wA, wB, wL, wW, wY, Int.fdiv_eq_ediv_of_nonneg, Int.tdiv_eq_ediv_of_nonneg, Int.tmod_eq_emod_of_nonneg, chk_pos, decT, decF, br_pos, br_neg, wX, ↓reduceIte, Nat.reduceEqDiff, Nat.reduceAdd, Nat.reduceSub, Nat.reduceMul, Nat.reduceLeDiff, Nat.reduceLT, Nat.reduceMod, Nat.reduceDiv, Int.reduceToNat, Nat.min_eq_left, IntKind.bits, Int.reducePow, Int.reduceLT, Int.reduceLE, Int.reduceEq, Int.reduceNe, Int.reduceAdd, Int.reduceSub, and_self, reduceCtorEq, decide_eq_true_eq, decide_eq_false_iff_not, eq_self, implies_true, exists_const, Option.isNone_some, Option.isNone_none, Option.isSome_some, Option.isSome_none, Option.getD_some, cellAt_of ow]
      refine (End_ok I3.r.rd).k ?_
      rintro _ _ ⟨rfl, rfl⟩
      simp (disch := omega) only [dm_t, wA, wB, wL, wW, wY, Int.fdiv_eq_ediv_of_nonneg, Int.tdiv_eq_ediv_of_nonneg, Int.tmod_eq_emod_of_nonneg, chk_pos, decT, decF, br_pos, br_neg, wX, ↓reduceIte, Nat.reduceEqDiff, Nat.reduceAdd, Nat.reduceSub, Nat.reduceMul, Nat.reduceLeDiff, Nat.reduceLT, Nat.reduceMod, Nat.reduceDiv, Int.reduceToNat, Nat.min_eq_left, IntKind.bits, Int.reducePow, Int.reduceLT, Int.reduceLE, Int.reduceEq, Int.reduceNe, Int.reduceAdd, Int.reduceSub, and_self, reduceCtorEq, decide_eq_true_eq, decide_eq_false_iff_not, eq_self, implies_true, exists_const, Option.isNone_some, Option.isNone_none, Option.isSome_some, Option.isSome_none, Option.getD_some, cellAt_of ow]
      refine (num_ok _ _).k ?_
      rintro _ _ ⟨rfl, rfl⟩
      by_cases hkl : k' = l.length
      · rw [if_pos hkl]
        simp (disch := omega) only [dm_t, wA, wB, wL, wW, wY, Int.fdiv_eq_ediv_of_nonneg, Int.tdiv_eq_ediv_of_nonneg, Int.tmod_eq_emod_of_nonneg, chk_pos, decT, decF, br_pos, br_neg, wX, ↓reduceIte, Nat.reduceEqDiff, Nat.reduceAdd, Nat.reduceSub, Nat.reduceMul, Nat.reduceLeDiff, Nat.reduceLT, Nat.reduceMod, Nat.reduceDiv, Int.reduceToNat, Nat.min_eq_left, IntKind.bits, Int.reducePow, Int.reduceLT, Int.reduceLE, Int.reduceEq, Int.reduceNe, Int.reduceAdd, Int.reduceSub, and_self, reduceCtorEq, decide_eq_true_eq, decide_eq_false_iff_not, eq_self, implies_true, exists_const, Option.isNone_some, Option.isNone_none, Option.isSome_some, Option.isSome_none, Option.getD_some, cellAt_of ow]
        refine (End_ok I3.r.rd).k ?_
        rintro _ _ ⟨rfl, rfl⟩
        rw [if_pos hkl]
        simp (disch := omega) only [dm_t, wA, wB, wL, wW, wY, Int.fdiv_eq_ediv_of_nonneg, Int.tdiv_eq_ediv_of_nonneg, Int.tmod_eq_emod_of_nonneg, chk_pos, decT, decF, br_pos, br_neg, wX, ↓reduceIte, Nat.reduceEqDiff, Nat.reduceAdd, Nat.reduceSub, Nat.reduceMul, Nat.reduceLeDiff, Nat.reduceLT, Nat.reduceMod, Nat.reduceDiv, Int.reduceToNat, Nat.min_eq_left, IntKind.bits, Int.reducePow, Int.reduceLT, Int.reduceLE, Int.reduceEq, Int.reduceNe, Int.reduceAdd, Int.reduceSub, and_self, reduceCtorEq, decide_eq_true_eq, decide_eq_false_iff_not, eq_self, implies_true, exists_const, Option.isNone_some, Option.isNone_none, Option.isSome_some, Option.isSome_none, Option.getD_some, cellAt_of ow]
        refine (num_ok _ _).k ?_
        rintro _ _ ⟨rfl, rfl⟩
        simp (disch := omega) only [dm_t, wA, wB, wL, wW, wY, Int.fdiv_eq_ediv_of_nonneg, Int.tdiv_eq_ediv_of_nonneg, Int.tmod_eq_emod_of_nonneg, chk_pos, decT, decF, br_pos, br_neg, wX, ↓reduceIte, Nat.reduceEqDiff, Nat.reduceAdd, Nat.reduceSub, Nat.reduceMul, Nat.reduceLeDiff, Nat.reduceLT, Nat.reduceMod, Nat.reduceDiv, Int.reduceToNat, Nat.min_eq_left, IntKind.bits, Int.reducePow, Int.reduceLT, Int.reduceLE, Int.reduceEq, Int.reduceNe, Int.reduceAdd, Int.reduceSub, and_self, reduceCtorEq, decide_eq_true_eq, decide_eq_false_iff_not, eq_self, implies_true, exists_const, Option.isNone_some, Option.isNone_none, Option.isSome_some, Option.isSome_none, Option.getD_some, cellAt_of ow]
        subst hQ0
        simp (disch := omega) only [dm_t, wA, wB, wL, wW, wY, Int.fdiv_eq_ediv_of_nonneg, Int.tdiv_eq_ediv_of_nonneg, Int.tmod_eq_emod_of_nonneg, chk_pos, decT, decF, br_pos, br_neg, wX, ↓reduceIte, Nat.reduceEqDiff, Nat.reduceAdd, Nat.reduceSub, Nat.reduceMul, Nat.reduceLeDiff, Nat.reduceLT, Nat.reduceMod, Nat.reduceDiv, Int.reduceToNat, Nat.min_eq_left, IntKind.bits, Int.reducePow, Int.reduceLT, Int.reduceLE, Int.reduceEq, Int.reduceNe, Int.reduceAdd, Int.reduceSub, and_self, reduceCtorEq, decide_eq_true_eq, decide_eq_false_iff_not, eq_self, implies_true, exists_const, Option.isNone_some, Option.isNone_none, Option.isSome_some, Option.isSome_none, Option.getD_some]
        exact ⟨⟨bc, k', i + 1, os, rfl, by simp, by omega, by omega, I3⟩, by simp [m1]; omega⟩
      · rw [if_neg hkl]
        simp (disch := omega) only [dm_t, wA, wB, wL, wW, wY, Int.fdiv_eq_ediv_of_nonneg, Int.tdiv_eq_ediv_of_nonneg, Int.tmod_eq_emod_of_nonneg, chk_pos, decT, decF, br_pos, br_neg, wX, ↓reduceIte, Nat.reduceEqDiff, Nat.reduceAdd, Nat.reduceSub, Nat.reduceMul, Nat.reduceLeDiff, Nat.reduceLT, Nat.reduceMod, Nat.reduceDiv, Int.reduceToNat, Nat.min_eq_left, IntKind.bits, Int.reducePow, Int.reduceLT, Int.reduceLE, Int.reduceEq, Int.reduceNe, Int.reduceAdd, Int.reduceSub, and_self, reduceCtorEq, decide_eq_true_eq, decide_eq_false_iff_not, eq_self, implies_true, exists_const, Option.isNone_some, Option.isNone_none, Option.isSome_some, Option.isSome_none, Option.getD_some, cellAt_of ow]
        refine (End_ok I3.r.rd).k ?_
        rintro _ _ ⟨rfl, rfl⟩
        rw [if_neg hkl]
        simp (disch := omega) only [dm_t, wA, wB, wL, wW, wY, Int.fdiv_eq_ediv_of_nonneg, Int.tdiv_eq_ediv_of_nonneg, Int.tmod_eq_emod_of_nonneg, chk_pos, decT, decF, br_pos, br_neg, wX, ↓reduceIte, Nat.reduceEqDiff, Nat.reduceAdd, Nat.reduceSub, Nat.reduceMul, Nat.reduceLeDiff, Nat.reduceLT, Nat.reduceMod, Nat.reduceDiv, Int.reduceToNat, Nat.min_eq_left, IntKind.bits, Int.reducePow, Int.reduceLT, Int.reduceLE, Int.reduceEq, Int.reduceNe, Int.reduceAdd, Int.reduceSub, and_self, reduceCtorEq, decide_eq_true_eq, decide_eq_false_iff_not, eq_self, implies_true, exists_const, Option.isNone_some, Option.isNone_none, Option.isSome_some, Option.isSome_none, Option.getD_some, cellAt_of ow]
        refine (num_ok _ _).k ?_
        rintro _ _ ⟨rfl, rfl⟩
        simp (disch := omega) only [dm_t, wA, wB, wL, wW, wY, Int.fdiv_eq_ediv_of_nonneg, Int.tdiv_eq_ediv_of_nonneg, Int.tmod_eq_emod_of_nonneg, chk_pos, decT, decF, br_pos, br_neg, wX, ↓reduceIte, Nat.reduceEqDiff, Nat.reduceAdd, Nat.reduceSub, Nat.reduceMul, Nat.reduceLeDiff, Nat.reduceLT, Nat.reduceMod, Nat.reduceDiv, Int.reduceToNat, Nat.min_eq_left, IntKind.bits, Int.reducePow, Int.reduceLT, Int.reduceLE, Int.reduceEq, Int.reduceNe, Int.reduceAdd, Int.reduceSub, and_self, reduceCtorEq, decide_eq_true_eq, decide_eq_false_iff_not, eq_self, implies_true, exists_const, Option.isNone_some, Option.isNone_none, Option.isSome_some, Option.isSome_none, Option.getD_some, cellAt_of ow]
        refine (End_ok I3.r.rd).k ?_
        rintro _ _ ⟨rfl, rfl⟩
        rw [if_neg hkl]
        simp (disch := omega) only [dm_t, wA, wB, wL, wW, wY, Int.fdiv_eq_ediv_of_nonneg, Int.tdiv_eq_ediv_of_nonneg, Int.tmod_eq_emod_of_nonneg, chk_pos, decT, decF, br_pos, br_neg, wX, ↓reduceIte, Nat.reduceEqDiff, Nat.reduceAdd, Nat.reduceSub, Nat.reduceMul, Nat.reduceLeDiff, Nat.reduceLT, Nat.reduceMod, Nat.reduceDiv, Int.reduceToNat, Nat.min_eq_left, IntKind.bits, Int.reducePow, Int.reduceLT, Int.reduceLE, Int.reduceEq, Int.reduceNe, Int.reduceAdd, Int.reduceSub, and_self, reduceCtorEq, decide_eq_true_eq, decide_eq_false_iff_not, eq_self, implies_true, exists_const, Option.isNone_some, Option.isNone_none, Option.isSome_some, Option.isSome_none, Option.getD_some, cellAt_of ow]
        refine (num_ok _ _).k ?_
        rintro _ _ ⟨rfl, rfl⟩
        simp (disch := omega) only [dm_t, wA, wB, wL, wW, wY, Int.fdiv_eq_ediv_of_nonneg, Int.tdiv_eq_ediv_of_nonneg, Int.tmod_eq_emod_of_nonneg, chk_pos, decT, decF, br_pos, br_neg, wX, ↓reduceIte, Nat.reduceEqDiff, Nat.reduceAdd, Nat.reduceSub, Nat.reduceMul, Nat.reduceLeDiff, Nat.reduceLT, Nat.reduceMod, Nat.reduceDiv, Int.reduceToNat, Nat.min_eq_left, IntKind.bits, Int.reducePow, Int.reduceLT, Int.reduceLE, Int.reduceEq, Int.reduceNe, Int.reduceAdd, Int.reduceSub, and_self, reduceCtorEq, decide_eq_true_eq, decide_eq_false_iff_not, eq_self, implies_true, exists_const, Option.isNone_some, Option.isNone_none, Option.isSome_some, Option.isSome_none, Option.getD_some, cellAt_of ow]
        subst hQ0
        simp (disch := omega) only [dm_t, wA, wB, wL, wW, wY, Int.fdiv_eq_ediv_of_nonneg, Int.tdiv_eq_ediv_of_nonneg, Int.tmod_eq_emod_of_nonneg, chk_pos, decT, decF, br_pos, br_neg, wX, ↓reduceIte, Nat.reduceEqDiff, Nat.reduceAdd, Nat.reduceSub, Nat.reduceMul, Nat.reduceLeDiff, Nat.reduceLT, Nat.reduceMod, Nat.reduceDiv, Int.reduceToNat, Nat.min_eq_left, IntKind.bits, Int.reducePow, Int.reduceLT, Int.reduceLE, Int.reduceEq, Int.reduceNe, Int.reduceAdd, Int.reduceSub, and_self, reduceCtorEq, decide_eq_true_eq, decide_eq_false_iff_not, eq_self, implies_true, exists_const, Option.isNone_some, Option.isNone_none, Option.isSome_some, Option.isSome_none, Option.getD_some]
        exact ⟨⟨bc, k', i + 1, os, rfl, by simp, by omega, by omega, I3⟩, by simp [m1]; omega⟩
    have e1 := EX I.f
    by_cases hk10 : kk.1 = 10
    · have ow := I.r.o2
      simp (disch := omega) only [dm_t, wA, wB, wL, wW, wY, Int.fdiv_eq_ediv_of_nonneg, Int.tdiv_eq_ediv_of_nonneg, Int.tmod_eq_emod_of_nonneg, chk_pos, decT, decF, br_pos, br_neg, wX, ↓reduceIte, Nat.reduceEqDiff, Nat.reduceAdd, Nat.reduceSub, Nat.reduceMul, Nat.reduceLeDiff, Nat.reduceLT, Nat.reduceMod, Nat.reduceDiv, Int.reduceToNat, Nat.min_eq_left, IntKind.bits, Int.reducePow, Int.reduceLT, Int.reduceLE, Int.reduceEq, Int.reduceNe, Int.reduceAdd, Int.reduceSub, and_self, reduceCtorEq, decide_eq_true_eq, decide_eq_false_iff_not, eq_self, implies_true, exists_const, Option.isNone_some, Option.isNone_none, Option.isSome_some, Option.isSome_none, Option.getD_some, ik, gk0 e1]
      refine push1 (bytes := 8) (v := pv bc) I.old (fun y hy => I.bk hy) (by rfl) (by simp; omega) (by simp; omega) ?_
      intro _ old2 h2 _ o2 f2
      have tb := I.ty I.r.o1 (by decide) (by decide)
      have tw := I.ty ow (by decide) (by decide)
      have hb2 := f2 _ _ I.r.o1 fun hx => tb.1 hx.2
      have hw2 := f2 _ _ ow fun hx => tw.1 hx.2
      have was2 := OwK.fr I.was f2 fun x hx _ hat => OwK.unlike I.old I.was (by decide) hx.2 hat
      have F2 := I.f.trans (f2.mono fun x hx => .inr hx.1)
      simp (disch := omega) only [dm_t, wA, wB, wL, wW, wY, Int.fdiv_eq_ediv_of_nonneg, Int.tdiv_eq_ediv_of_nonneg, Int.tmod_eq_emod_of_nonneg, chk_pos, decT, decF, br_pos, br_neg, wX, ↓reduceIte, Nat.reduceEqDiff, Nat.reduceAdd, Nat.reduceSub, Nat.reduceMul, Nat.reduceLeDiff, Nat.reduceLT, Nat.reduceMod, Nat.reduceDiv, Int.reduceToNat, Nat.min_eq_left, IntKind.bits, Int.reducePow, Int.reduceLT, Int.reduceLE, Int.reduceEq, Int.reduceNe, Int.reduceAdd, Int.reduceSub, and_self, reduceCtorEq, decide_eq_true_eq, decide_eq_false_iff_not, eq_self, implies_true, exists_const, Option.isNone_some, Option.isNone_none, Option.isSome_some, Option.isSome_none, Option.getD_some, cellAt_of hw2]
      have bk2 : ∀ y, h2 y = none → G y = none := fun y hy => by
        cases hc : h1 y with
        | none => exact I.bk hc
        | some o =>
          by_cases hx : G y = none ∧ isAt (.slice oa os.length oc) y
          · exact hx.1
          · rw [f2 _ _ hc hx] at hy; cases hy
      refine push1 (bytes := 8) (v := .int .i64 (k : Int)) was2 bk2 (by rfl) (by simp; omega) (by simp; omega) ?_
      intro _ was3 h3 _ o3 f3
      have tb3 : ¬ isAt (.slice wa os.length wc) bc := tb.2
      have hb3 := f3 _ _ hb2 fun hx => tb.2 hx.2
      have hw3 := f3 _ _ hw2 fun hx => tw.2 hx.2
      have F3 := F2.trans (f3.mono fun x hx => .inr hx.1)
      have old3 := OwK.fr o2 f3 fun x hx _ hat => OwK.unlike o2 was2 (by decide) hat hx.2
      have rw3 := mkRW sG bG F3 hb3 hw3 I.c I.r.l1 (by omega)
      simp (disch := omega) only [dm_t, wA, wB, wL, wW, wY, Int.fdiv_eq_ediv_of_nonneg, Int.tdiv_eq_ediv_of_nonneg, Int.tmod_eq_emod_of_nonneg, chk_pos, decT, decF, br_pos, br_neg, wX, ↓reduceIte, Nat.reduceEqDiff, Nat.reduceAdd, Nat.reduceSub, Nat.reduceMul, Nat.reduceLeDiff, Nat.reduceLT, Nat.reduceMod, Nat.reduceDiv, Int.reduceToNat, Nat.min_eq_left, IntKind.bits, Int.reducePow, Int.reduceLT, Int.reduceLE, Int.reduceEq, Int.reduceNe, Int.reduceAdd, Int.reduceSub, and_self, reduceCtorEq, decide_eq_true_eq, decide_eq_false_iff_not, eq_self, implies_true, exists_const, Option.isNone_some, Option.isNone_none, Option.isSome_some, Option.isSome_none, Option.getD_some]
      refine (Copy_ok rw3.rd).k ?_
      rintro _ h4 ⟨c, rfl, hc, q4, e4⟩
      have nbc : bc ≠ c := ne_of hb3 hc
      have bk3 : ∀ y, h3 y = none → G y = none := fun y hy => by
        cases hc : h2 y with
        | none => exact bk2 y hc
        | some o =>
          by_cases hx : G y = none ∧ isAt (.slice wa os.length wc) y
          · exact hx.1
          · rw [f3 _ _ hc hx] at hy; cases hy
      have F4 := F3.trans (e4.mono fun _ h => h.elim)
      have z4 : h4 c0 ≠ none := by
        obtain ⟨o, ho⟩ : ∃ o, h1 c0 = some o := by cases hh : h1 c0 with | none => exact absurd hh I.z | some o => exact ⟨o, rfl⟩
        have hG0 : G c0 ≠ none := hGc
        rw [e4.at (f3 _ _ (f2 _ _ ho fun hx => hG0 hx.1) fun hx => hG0 hx.1)]; simp
      have I4 : WI G h4 c0 w c s (.slice ba l.length bc0) l k (os ++ [(bc, k)]) old2 was3 := by
        refine ⟨F4, mkRW sG bG F4 q4.obj (e4.at hw3) (.inr (bk3 c hc)) I.r.l1 (by omega), .inr (bk3 c hc), z4, fun o ho => ?_, by simpa using OwK.ext old3 e4, by simpa using OwK.ext o3 e4⟩
        rcases List.mem_append.1 ho with ho | ho
        · obtain ⟨o1, q2, q3, q5⟩ := I.o o ho
          have t1 := I.ty o1 (by decide) (by decide)
          have o1' := f3 _ _ (f2 _ _ o1 fun hx => t1.1 hx.2) fun hx => t1.2 hx.2
          exact ⟨e4.at o1', ne_of o1' hc, q3, q5⟩
        · simp only [List.mem_singleton] at ho
          subst ho
          exact ⟨e4.at hb3, nbc, I.c, I.r.l1⟩
      have k17 := key h4 c k _ _ _ (by simp; omega) I4
      simp (disch := omega) only [dm_t, wA, wB, wL, wW, wY, Int.fdiv_eq_ediv_of_nonneg, Int.tdiv_eq_ediv_of_nonneg, Int.tmod_eq_emod_of_nonneg, chk_pos, decT, decF, br_pos, br_neg, wX, ↓reduceIte, Nat.reduceEqDiff, Nat.reduceAdd, Nat.reduceSub, Nat.reduceMul, Nat.reduceLeDiff, Nat.reduceLT, Nat.reduceMod, Nat.reduceDiv, Int.reduceToNat, Nat.min_eq_left, IntKind.bits, Int.reducePow, Int.reduceLT, Int.reduceLE, Int.reduceEq, Int.reduceNe, Int.reduceAdd, Int.reduceSub, and_self, reduceCtorEq, decide_eq_true_eq, decide_eq_false_iff_not, eq_self, implies_true, exists_const, Option.isNone_some, Option.isNone_none, Option.isSome_some, Option.isSome_none, Option.getD_some, k17]
    · have k17 := key h1 bc k os _ _ (by omega) I
      simp (disch := omega) only [dm_t, wA, wB, wL, wW, wY, Int.fdiv_eq_ediv_of_nonneg, Int.tdiv_eq_ediv_of_nonneg, Int.tmod_eq_emod_of_nonneg, chk_pos, decT, decF, br_pos, br_neg, wX, ↓reduceIte, Nat.reduceEqDiff, Nat.reduceAdd, Nat.reduceSub, Nat.reduceMul, Nat.reduceLeDiff, Nat.reduceLT, Nat.reduceMod, Nat.reduceDiv, Int.reduceToNat, Nat.min_eq_left, IntKind.bits, Int.reducePow, Int.reduceLT, Int.reduceLE, Int.reduceEq, Int.reduceNe, Int.reduceAdd, Int.reduceSub, and_self, reduceCtorEq, decide_eq_true_eq, decide_eq_false_iff_not, eq_self, implies_true, exists_const, Option.isNone_some, Option.isNone_none, Option.isSome_some, Option.isSome_none, Option.getD_some, ik, gk0 e1, k17]
  · obtain rfl : i = ks.length := by omega
    simp (disch := omega) only [dm_t, wA, wB, wL, wW, wY, Int.fdiv_eq_ediv_of_nonneg, Int.tdiv_eq_ediv_of_nonneg, Int.tmod_eq_emod_of_nonneg, chk_pos, decT, decF, br_pos, br_neg, wX, ↓reduceIte, Nat.reduceEqDiff, Nat.reduceAdd, Nat.reduceSub, Nat.reduceMul, Nat.reduceLeDiff, Nat.reduceLT, Nat.reduceMod, Nat.reduceDiv, Int.reduceToNat, Nat.min_eq_left, IntKind.bits, Int.reducePow, Int.reduceLT, Int.reduceLE, Int.reduceEq, Int.reduceNe, Int.reduceAdd, Int.reduceSub, and_self, reduceCtorEq, decide_eq_true_eq, decide_eq_false_iff_not, eq_self, implies_true, exists_const, Option.isNone_some, Option.isNone_none, Option.isSome_some, Option.isSome_none, Option.getD_some]
    refine vc_loop1 (fun vk h' => ∃ j : Nat, vk = .int .i64 (j : Int) ∧ j ≤ os.length ∧ Ext h1 h') (fun vk _ => os.length - m1 vk) ?_ ?_
    · simp (disch := omega) only [dm_t, wA, wB, wL, wW, wY, Int.fdiv_eq_ediv_of_nonneg, Int.tdiv_eq_ediv_of_nonneg, Int.tmod_eq_emod_of_nonneg, chk_pos, decT, decF, br_pos, br_neg, wX, ↓reduceIte, Nat.reduceEqDiff, Nat.reduceAdd, Nat.reduceSub, Nat.reduceMul, Nat.reduceLeDiff, Nat.reduceLT, Nat.reduceMod, Nat.reduceDiv, Int.reduceToNat, Nat.min_eq_left, IntKind.bits, Int.reducePow, Int.reduceLT, Int.reduceLE, Int.reduceEq, Int.reduceNe, Int.reduceAdd, Int.reduceSub, and_self, reduceCtorEq, decide_eq_true_eq, decide_eq_false_iff_not, eq_self, implies_true, exists_const, Option.isNone_some, Option.isNone_none, Option.isSome_some, Option.isSome_none, Option.getD_some]
      exact ⟨0, rfl, by omega, Ext.refl _⟩
    rintro _ h2 ⟨j, rfl, hj, e2⟩
    by_cases hjo : j < os.length
    · obtain ⟨b1, o1, i1, g1⟩ := S1.load (OwK.ext I.old e2).s0 (i := j) (by simpa using hjo) .i64
      obtain ⟨b2, o2, i2, g2⟩ := S1.load (OwK.ext I.was e2).s0 (i := j) (by simpa using hjo) .i64
      simp only [List.length_map, List.getElem_map] at i1 g1 i2 g2
      obtain ⟨c1, c2, c3, c4⟩ := I.o os[j] (List.getElem_mem hjo)
      generalize os[j] = o at *
      have F2 := I.f.trans (e2.mono fun _ h => h.elim)
      have rd : Rd h2 o.1 s l o.2 := ⟨e2.at c1, (SlK.fr sG F2 fun _ h => h).mono fun x _ _ hx => by rw [hx]; exact c3.elim (fun h => .inl (.inl h)) .inr, c4, by omega⟩
      have bG2 := (SlK.fr bG F2 fun _ h => h).nos
      obtain ⟨_, _, hcap⟩ := bG2.cap
      simp (disch := omega) only [dm_t, wA, wB, wL, wW, wY, Int.fdiv_eq_ediv_of_nonneg, Int.tdiv_eq_ediv_of_nonneg, Int.tmod_eq_emod_of_nonneg, chk_pos, decT, decF, br_pos, br_neg, wX, ↓reduceIte, Nat.reduceEqDiff, Nat.reduceAdd, Nat.reduceSub, Nat.reduceMul, Nat.reduceLeDiff, Nat.reduceLT, Nat.reduceMod, Nat.reduceDiv, Int.reduceToNat, Nat.min_eq_left, IntKind.bits, Int.reducePow, Int.reduceLT, Int.reduceLE, Int.reduceEq, Int.reduceNe, Int.reduceAdd, Int.reduceSub, and_self, reduceCtorEq, decide_eq_true_eq, decide_eq_false_iff_not, eq_self, implies_true, exists_const, Option.isNone_some, Option.isNone_none, Option.isSome_some, Option.isSome_none, Option.getD_some, i1, g1, i2, g2]
      refine (At_ok rd).k ?_
      rintro _ _ ⟨rfl, rfl⟩
      simp (disch := omega) only [dm_t, wA, wB, wL, wW, wY, Int.fdiv_eq_ediv_of_nonneg, Int.tdiv_eq_ediv_of_nonneg, Int.tmod_eq_emod_of_nonneg, chk_pos, decT, decF, br_pos, br_neg, wX, ↓reduceIte, Nat.reduceEqDiff, Nat.reduceAdd, Nat.reduceSub, Nat.reduceMul, Nat.reduceLeDiff, Nat.reduceLT, Nat.reduceMod, Nat.reduceDiv, Int.reduceToNat, Nat.min_eq_left, IntKind.bits, Int.reducePow, Int.reduceLT, Int.reduceLE, Int.reduceEq, Int.reduceNe, Int.reduceAdd, Int.reduceSub, and_self, reduceCtorEq, decide_eq_true_eq, decide_eq_false_iff_not, eq_self, implies_true, exists_const, Option.isNone_some, Option.isNone_none, Option.isSome_some, Option.isSome_none, Option.getD_some, i1, g1, i2, g2]
      refine By.cutK bG2 o.2 l.length bc0 rfl rfl rfl (by omega) (.inr rfl) ?_
      intro wv hwv
      rw [List.take_of_length_le (by rw [List.length_drop]; omega)] at hwv
      simp (disch := omega) only [dm_t, wA, wB, wL, wW, wY, Int.fdiv_eq_ediv_of_nonneg, Int.tdiv_eq_ediv_of_nonneg, Int.tmod_eq_emod_of_nonneg, chk_pos, decT, decF, br_pos, br_neg, wX, ↓reduceIte, Nat.reduceEqDiff, Nat.reduceAdd, Nat.reduceSub, Nat.reduceMul, Nat.reduceLeDiff, Nat.reduceLT, Nat.reduceMod, Nat.reduceDiv, Int.reduceToNat, Nat.min_eq_left, IntKind.bits, Int.reducePow, Int.reduceLT, Int.reduceLE, Int.reduceEq, Int.reduceNe, Int.reduceAdd, Int.reduceSub, and_self, reduceCtorEq, decide_eq_true_eq, decide_eq_false_iff_not, eq_self, implies_true, exists_const, Option.isNone_some, Option.isNone_none, Option.isSome_some, Option.isSome_none, Option.getD_some, i1, g1, i2, g2]
      refine (Rest_ok rd).k ?_
      rintro v3 h3 ⟨o3, e3⟩
      simp (disch := omega) only [dm_t, wA, wB, wL, wW, wY, Int.fdiv_eq_ediv_of_nonneg, Int.tdiv_eq_ediv_of_nonneg, Int.tmod_eq_emod_of_nonneg, chk_pos, decT, decF, br_pos, br_neg, wX, ↓reduceIte, Nat.reduceEqDiff, Nat.reduceAdd, Nat.reduceSub, Nat.reduceMul, Nat.reduceLeDiff, Nat.reduceLT, Nat.reduceMod, Nat.reduceDiv, Int.reduceToNat, Nat.min_eq_left, IntKind.bits, Int.reducePow, Int.reduceLT, Int.reduceLE, Int.reduceEq, Int.reduceNe, Int.reduceAdd, Int.reduceSub, and_self, reduceCtorEq, decide_eq_true_eq, decide_eq_false_iff_not, eq_self, implies_true, exists_const, Option.isNone_some, Option.isNone_none, Option.isSome_some, Option.isSome_none, Option.getD_some, i1, cellAt_ext e3 g1, i2, cellAt_ext e3 g2]
      refine (same_ok o3.s0 (SlK.ext hwv e3)).k ?_
      rintro _ _ ⟨rfl, rfl⟩
      simp (disch := omega) only [dm_t, wA, wB, wL, wW, wY, Int.fdiv_eq_ediv_of_nonneg, Int.tdiv_eq_ediv_of_nonneg, Int.tmod_eq_emod_of_nonneg, chk_pos, decT, decF, br_pos, br_neg, wX, ↓reduceIte, Nat.reduceEqDiff, Nat.reduceAdd, Nat.reduceSub, Nat.reduceMul, Nat.reduceLeDiff, Nat.reduceLT, Nat.reduceMod, Nat.reduceDiv, Int.reduceToNat, Nat.min_eq_left, IntKind.bits, Int.reducePow, Int.reduceLT, Int.reduceLE, Int.reduceEq, Int.reduceNe, Int.reduceAdd, Int.reduceSub, and_self, reduceCtorEq, decide_eq_true_eq, decide_eq_false_iff_not, eq_self, implies_true, exists_const, Option.isNone_some, Option.isNone_none, Option.isSome_some, Option.isSome_none, Option.getD_some]
      exact ⟨⟨j + 1, by simp, by omega, e2.trans e3⟩, by simp [m1]; omega⟩
    · obtain rfl : j = os.length := by omega
      simp (disch := omega) only [dm_t, wA, wB, wL, wW, wY, Int.fdiv_eq_ediv_of_nonneg, Int.tdiv_eq_ediv_of_nonneg, Int.tmod_eq_emod_of_nonneg, chk_pos, decT, decF, br_pos, br_neg, wX, ↓reduceIte, Nat.reduceEqDiff, Nat.reduceAdd, Nat.reduceSub, Nat.reduceMul, Nat.reduceLeDiff, Nat.reduceLT, Nat.reduceMod, Nat.reduceDiv, Int.reduceToNat, Nat.min_eq_left, IntKind.bits, Int.reducePow, Int.reduceLT, Int.reduceLE, Int.reduceEq, Int.reduceNe, Int.reduceAdd, Int.reduceSub, and_self, reduceCtorEq, decide_eq_true_eq, decide_eq_false_iff_not, eq_self, implies_true, exists_const, Option.isNone_some, Option.isNone_none, Option.isSome_some, Option.isSome_none, Option.getD_some]
      refine (nothing_ok h2).k ?_
      rintro _ h3 ⟨rfl, e3⟩
      simp (disch := omega) only [dm_t, wA, wB, wL, wW, wY, Int.fdiv_eq_ediv_of_nonneg, Int.tdiv_eq_ediv_of_nonneg, Int.tmod_eq_emod_of_nonneg, chk_pos, decT, decF, br_pos, br_neg, wX, ↓reduceIte, Nat.reduceEqDiff, Nat.reduceAdd, Nat.reduceSub, Nat.reduceMul, Nat.reduceLeDiff, Nat.reduceLT, Nat.reduceMod, Nat.reduceDiv, Int.reduceToNat, Nat.min_eq_left, IntKind.bits, Int.reducePow, Int.reduceLT, Int.reduceLE, Int.reduceEq, Int.reduceNe, Int.reduceAdd, Int.reduceSub, and_self, reduceCtorEq, decide_eq_true_eq, decide_eq_false_iff_not, eq_self, implies_true, exists_const, Option.isNone_some, Option.isNone_none, Option.isSome_some, Option.isSome_none, Option.getD_some]
      refine works_k fun h4 e4 => ?_
      simp (disch := omega) only [dm_t, wA, wB, wL, wW, wY, Int.fdiv_eq_ediv_of_nonneg, Int.tdiv_eq_ediv_of_nonneg, Int.tmod_eq_emod_of_nonneg, chk_pos, decT, decF, br_pos, br_neg, wX, ↓reduceIte, Nat.reduceEqDiff, Nat.reduceAdd, Nat.reduceSub, Nat.reduceMul, Nat.reduceLeDiff, Nat.reduceLT, Nat.reduceMod, Nat.reduceDiv, Int.reduceToNat, Nat.min_eq_left, IntKind.bits, Int.reducePow, Int.reduceLT, Int.reduceLE, Int.reduceEq, Int.reduceNe, Int.reduceAdd, Int.reduceSub, and_self, reduceCtorEq, decide_eq_true_eq, decide_eq_false_iff_not, eq_self, implies_true, exists_const, Option.isNone_some, Option.isNone_none, Option.isSome_some, Option.isSome_none, Option.getD_some]
      exact (((EX I.f).trans e2).trans e3).trans e4
end Go.Proofs.Ytcncclkglcmpnaa.wr
