/-
  model: the document's Fits, Same.
-/
import Derived.Test.YtpgkkpjdajkobaaMv
import Derived.Test.YtpgkkpjdajkobaaPz
namespace Go.Proofs.Ytpgkkpjdajkobaa.mo
open Go.Proofs.Ytpgkkpjdajkobaa rr
set_option linter.unusedVariables false
set_option linter.unusedSimpArgs false
section
variable {S T : Nat → Prop} {g g' : H} {p q : Nat} {pv qv : Value} {vs ws : List Value} {ps qs : List (List rc.D)}
theorem tryP_len' {ps : List (List rc.D)} {x : callT.D} (h : ∀ l ∈ ps, lims l) : (tryP ps x).2.2.length ≤ 4611686018427387904 := Nat.le_trans (tryP_len fun l hl => (h l hl).1) (by omega)
theorem RFits_ok {cs ds : List Value} {x : callT.D} {y : replyT.D} (X : RY S g p pv vs ps) (hx : Rep nos callT g cs x) (hy : Rep T replyT g ds y) (hl : x.2.2.1.length ≤ 1000000) (hk : ∀ r ∈ x.2.2.1, r.2.1.length ≤ 9000 ∧ r.2.2.length ≤ 9000) (hps : ∀ l ∈ ps, lims l) :
    Ok Try.prog 25 #[.pointer (some ⟨p, 0, none⟩), .agg cs.toArray, .agg ds.toArray] g fun v h' => (∃ b, v = .bool b ∧ (b = true ↔ fitsP ps x y)) ∧ Ext g h' := by
  obtain ⟨r, rfl, hb, hr⟩ := rep_call.1 hx
  obtain ⟨q, rfl, hqb, hq⟩ := rep_reply.1 hy
  obtain ⟨qa, qc, rfl⟩ := hq.len
  refine c25_ok (args := [_, _, _]) (by simp) ?_
  simp (disch := omega) only [dm_t, wA, wB, wL, wW, wY, Int.fdiv_eq_ediv_of_nonneg, Int.tdiv_eq_ediv_of_nonneg, Int.tmod_eq_emod_of_nonneg, chk_pos, decT, decF, br_pos, br_neg, wX, ↓reduceIte, Nat.reduceEqDiff, Nat.reduceAdd, Nat.reduceSub, Nat.reduceMul, Nat.reduceLeDiff, Nat.reduceLT, Nat.reduceMod, Nat.reduceDiv, Int.reduceToNat, Nat.min_eq_left, IntKind.bits, Int.reducePow, Int.reduceLT, Int.reduceLE, Int.reduceEq, Int.reduceNe, Int.reduceAdd, Int.reduceSub, and_self, reduceCtorEq, decide_eq_true_eq, decide_eq_false_iff_not, eq_self, implies_true, exists_const, Option.isNone_some, Option.isNone_none, Option.isSome_some, Option.isSome_none, Option.getD_some]
  intro b hbn d hd
  generalize hG : hupd g b _ = g1 at hd ⊢
  obtain ⟨e1, qb⟩ := new_ext hG hbn
  clear hG
  generalize hG : hupd g1 d _ = g2
  obtain ⟨e2, qd⟩ := new_ext hG hd
  clear hG
  have E2 := e1.trans e2
  have k := caC (e2.at qb)
  have X2 := X.ext E2
  have d0 : cellAt g2 ⟨d, 0, none⟩ = some (.int .i64 y.1) := by rw [cellAt_of qd]; rfl
  have d1 : cellAt g2 ⟨d, 1, none⟩ = some (.int .i64 y.2.1) := by rw [cellAt_of qd]; rfl
  have d2 : cellAt g2 ⟨d, 2, none⟩ = some (.slice qa y.2.2.length qc) := by rw [cellAt_of qd]; rfl
  have da := cellsAt_all qd 3 rfl
  have two : ¬ ((@Eq Int y.1 6 ∨ @Eq Int y.1 9) ∧ @Eq Int x.1 1) → vc Try.prog c25_s2 (retQ [6] (okR fun v h' => (∃ b, v = .bool b ∧ (b = true ↔ fitsP ps x y)) ∧ Ext g h')) [(0, .pointer (some ⟨p, 0, none⟩)), (4, .pointer (some ⟨b, 0, none⟩)), (5, .pointer (some ⟨d, 0, none⟩))] g2 := by
    intro hne
    have hf : fitsP ps x y = (y = tryP ps x) := by rw [fitsP, if_neg hne]
    rw [hf]
    simp (disch := omega) only [dm_t, wA, wB, wL, wW, wY, Int.fdiv_eq_ediv_of_nonneg, Int.tdiv_eq_ediv_of_nonneg, Int.tmod_eq_emod_of_nonneg, chk_pos, decT, decF, br_pos, br_neg, wX, ↓reduceIte, Nat.reduceEqDiff, Nat.reduceAdd, Nat.reduceSub, Nat.reduceMul, Nat.reduceLeDiff, Nat.reduceLT, Nat.reduceMod, Nat.reduceDiv, Int.reduceToNat, Nat.min_eq_left, IntKind.bits, Int.reducePow, Int.reduceLT, Int.reduceLE, Int.reduceEq, Int.reduceNe, Int.reduceAdd, Int.reduceSub, and_self, reduceCtorEq, decide_eq_true_eq, decide_eq_false_iff_not, eq_self, implies_true, exists_const, Option.isNone_some, Option.isNone_none, Option.isSome_some, Option.isSome_none, Option.getD_some, k.ca, da]
    refine (RTry_ok X2 (hx.ext E2) hl hk hps).k ?_
    rintro _ g3 ⟨w, rfl, hyb, hw, e3⟩
    simp (disch := omega) only [dm_t, wA, wB, wL, wW, wY, Int.fdiv_eq_ediv_of_nonneg, Int.tdiv_eq_ediv_of_nonneg, Int.tmod_eq_emod_of_nonneg, chk_pos, decT, decF, br_pos, br_neg, wX, ↓reduceIte, Nat.reduceEqDiff, Nat.reduceAdd, Nat.reduceSub, Nat.reduceMul, Nat.reduceLeDiff, Nat.reduceLT, Nat.reduceMod, Nat.reduceDiv, Int.reduceToNat, Nat.min_eq_left, IntKind.bits, Int.reducePow, Int.reduceLT, Int.reduceLE, Int.reduceEq, Int.reduceNe, Int.reduceAdd, Int.reduceSub, and_self, reduceCtorEq, decide_eq_true_eq, decide_eq_false_iff_not, eq_self, implies_true, exists_const, Option.isNone_some, Option.isNone_none, Option.isSome_some, Option.isSome_none, Option.getD_some, cellsAt_ext e3 k.ca, cellsAt_ext e3 da]
    refine (SameReply_ok (rep_reply.2 ⟨w, rfl, hyb, hw⟩) (hy.ext (E2.trans e3)) (tryP_len' hps)).k ?_
    rintro _ g4 ⟨rfl, e4⟩
    simp (disch := omega) only [dm_t, wA, wB, wL, wW, wY, Int.fdiv_eq_ediv_of_nonneg, Int.tdiv_eq_ediv_of_nonneg, Int.tmod_eq_emod_of_nonneg, chk_pos, decT, decF, br_pos, br_neg, wX, ↓reduceIte, Nat.reduceEqDiff, Nat.reduceAdd, Nat.reduceSub, Nat.reduceMul, Nat.reduceLeDiff, Nat.reduceLT, Nat.reduceMod, Nat.reduceDiv, Int.reduceToNat, Nat.min_eq_left, IntKind.bits, Int.reducePow, Int.reduceLT, Int.reduceLE, Int.reduceEq, Int.reduceNe, Int.reduceAdd, Int.reduceSub, and_self, reduceCtorEq, decide_eq_true_eq, decide_eq_false_iff_not, eq_self, implies_true, exists_const, Option.isNone_some, Option.isNone_none, Option.isSome_some, Option.isSome_none, Option.getD_some]
    exact ⟨⟨_, rfl, by simp [eq_comm]⟩, E2.trans (e3.trans e4)⟩
  by_cases h1 : @Eq Int x.1 1
  · have c0 := k.c0
    rw [h1] at c0
    by_cases h6 : @Eq Int y.1 6 ∨ @Eq Int y.1 9
    · have hf : fitsP ps x y = (@Eq Int y.2.1 0 ∧ y.2.2.length = 0) := by rw [fitsP, if_pos ⟨h6, h1⟩]
      rw [hf]
      by_cases ho : @Eq Int y.2.1 0
      · rw [ho] at d1
        rcases h6 with h6 | h6
        · rw [h6] at d0
          simp (disch := omega) only [dm_t, wA, wB, wL, wW, wY, Int.fdiv_eq_ediv_of_nonneg, Int.tdiv_eq_ediv_of_nonneg, Int.tmod_eq_emod_of_nonneg, chk_pos, decT, decF, br_pos, br_neg, wX, ↓reduceIte, Nat.reduceEqDiff, Nat.reduceAdd, Nat.reduceSub, Nat.reduceMul, Nat.reduceLeDiff, Nat.reduceLT, Nat.reduceMod, Nat.reduceDiv, Int.reduceToNat, Nat.min_eq_left, IntKind.bits, Int.reducePow, Int.reduceLT, Int.reduceLE, Int.reduceEq, Int.reduceNe, Int.reduceAdd, Int.reduceSub, and_self, reduceCtorEq, decide_eq_true_eq, decide_eq_false_iff_not, eq_self, implies_true, exists_const, Option.isNone_some, Option.isNone_none, Option.isSome_some, Option.isSome_none, Option.getD_some, c0, d0, d1, d2]
          exact ⟨⟨_, rfl, by simp [ho]⟩, E2⟩
        · rw [h6] at d0
          simp (disch := omega) only [dm_t, wA, wB, wL, wW, wY, Int.fdiv_eq_ediv_of_nonneg, Int.tdiv_eq_ediv_of_nonneg, Int.tmod_eq_emod_of_nonneg, chk_pos, decT, decF, br_pos, br_neg, wX, ↓reduceIte, Nat.reduceEqDiff, Nat.reduceAdd, Nat.reduceSub, Nat.reduceMul, Nat.reduceLeDiff, Nat.reduceLT, Nat.reduceMod, Nat.reduceDiv, Int.reduceToNat, Nat.min_eq_left, IntKind.bits, Int.reducePow, Int.reduceLT, Int.reduceLE, Int.reduceEq, Int.reduceNe, Int.reduceAdd, Int.reduceSub, and_self, reduceCtorEq, decide_eq_true_eq, decide_eq_false_iff_not, eq_self, implies_true, exists_const, Option.isNone_some, Option.isNone_none, Option.isSome_some, Option.isSome_none, Option.getD_some, c0, d0, d1, d2]
          exact ⟨⟨_, rfl, by simp [ho]⟩, E2⟩
      · rcases h6 with h6 | h6
        · rw [h6] at d0
          simp (disch := omega) only [dm_t, wA, wB, wL, wW, wY, Int.fdiv_eq_ediv_of_nonneg, Int.tdiv_eq_ediv_of_nonneg, Int.tmod_eq_emod_of_nonneg, chk_pos, decT, decF, br_pos, br_neg, wX, ↓reduceIte, Nat.reduceEqDiff, Nat.reduceAdd, Nat.reduceSub, Nat.reduceMul, Nat.reduceLeDiff, Nat.reduceLT, Nat.reduceMod, Nat.reduceDiv, Int.reduceToNat, Nat.min_eq_left, IntKind.bits, Int.reducePow, Int.reduceLT, Int.reduceLE, Int.reduceEq, Int.reduceNe, Int.reduceAdd, Int.reduceSub, and_self, reduceCtorEq, decide_eq_true_eq, decide_eq_false_iff_not, eq_self, implies_true, exists_const, Option.isNone_some, Option.isNone_none, Option.isSome_some, Option.isSome_none, Option.getD_some, c0, d0, d1, d2]
          exact ⟨⟨_, rfl, by simp [ho]⟩, E2⟩
        · rw [h6] at d0
          simp (disch := omega) only [dm_t, wA, wB, wL, wW, wY, Int.fdiv_eq_ediv_of_nonneg, Int.tdiv_eq_ediv_of_nonneg, Int.tmod_eq_emod_of_nonneg, chk_pos, decT, decF, br_pos, br_neg, wX, ↓reduceIte, Nat.reduceEqDiff, Nat.reduceAdd, Nat.reduceSub, Nat.reduceMul, Nat.reduceLeDiff, Nat.reduceLT, Nat.reduceMod, Nat.reduceDiv, Int.reduceToNat, Nat.min_eq_left, IntKind.bits, Int.reducePow, Int.reduceLT, Int.reduceLE, Int.reduceEq, Int.reduceNe, Int.reduceAdd, Int.reduceSub, and_self, reduceCtorEq, decide_eq_true_eq, decide_eq_false_iff_not, eq_self, implies_true, exists_const, Option.isNone_some, Option.isNone_none, Option.isSome_some, Option.isSome_none, Option.getD_some, c0, d0, d1, d2]
          exact ⟨⟨_, rfl, by simp [ho]⟩, E2⟩
    · have k2 := two fun h => h6 h.1
      have n6 : ¬ @Eq Int y.1 6 := fun h => h6 (.inl h)
      have n9 : ¬ @Eq Int y.1 9 := fun h => h6 (.inr h)
      simp (disch := omega) only [dm_t, wA, wB, wL, wW, wY, Int.fdiv_eq_ediv_of_nonneg, Int.tdiv_eq_ediv_of_nonneg, Int.tmod_eq_emod_of_nonneg, chk_pos, decT, decF, br_pos, br_neg, wX, ↓reduceIte, Nat.reduceEqDiff, Nat.reduceAdd, Nat.reduceSub, Nat.reduceMul, Nat.reduceLeDiff, Nat.reduceLT, Nat.reduceMod, Nat.reduceDiv, Int.reduceToNat, Nat.min_eq_left, IntKind.bits, Int.reducePow, Int.reduceLT, Int.reduceLE, Int.reduceEq, Int.reduceNe, Int.reduceAdd, Int.reduceSub, and_self, reduceCtorEq, decide_eq_true_eq, decide_eq_false_iff_not, eq_self, implies_true, exists_const, Option.isNone_some, Option.isNone_none, Option.isSome_some, Option.isSome_none, Option.getD_some, c0, d0, k2]
  · have k2 := two fun h => h1 h.2
    simp (disch := omega) only [dm_t, wA, wB, wL, wW, wY, Int.fdiv_eq_ediv_of_nonneg, Int.tdiv_eq_ediv_of_nonneg, Int.tmod_eq_emod_of_nonneg, chk_pos, decT, decF, br_pos, br_neg, wX, ↓reduceIte, Nat.reduceEqDiff, Nat.reduceAdd, Nat.reduceSub, Nat.reduceMul, Nat.reduceLeDiff, Nat.reduceLT, Nat.reduceMod, Nat.reduceDiv, Int.reduceToNat, Nat.min_eq_left, IntKind.bits, Int.reducePow, Int.reduceLT, Int.reduceLE, Int.reduceEq, Int.reduceNe, Int.reduceAdd, Int.reduceSub, and_self, reduceCtorEq, decide_eq_true_eq, decide_eq_false_iff_not, eq_self, implies_true, exists_const, Option.isNone_some, Option.isNone_none, Option.isSome_some, Option.isSome_none, Option.getD_some, k.c0, d0, k2]
theorem RSame_ok (X : RY S g p pv vs ps) (Y : RY T g q qv ws qs) (hn : ps.length ≤ 1000) (hps : ∀ l ∈ ps, lims l) : Ok Try.prog 26 #[.pointer (some ⟨p, 0, none⟩), .pointer (some ⟨q, 0, none⟩)] g fun v h' => v = .bool (decide (ps = qs)) ∧ Ext g h' := by
  obtain ⟨pa, pn, rfl⟩ := X.slen
  obtain ⟨qa, qn, rfl⟩ := Y.slen
  refine c26_ok (args := [_, _]) (by simp) ?_
  by_cases hlm : ps.length = qs.length
  · simp (disch := omega) only [dm_t, wA, wB, wL, wW, wY, Int.fdiv_eq_ediv_of_nonneg, Int.tdiv_eq_ediv_of_nonneg, Int.tmod_eq_emod_of_nonneg, chk_pos, decT, decF, br_pos, br_neg, wX, ↓reduceIte, Nat.reduceEqDiff, Nat.reduceAdd, Nat.reduceSub, Nat.reduceMul, Nat.reduceLeDiff, Nat.reduceLT, Nat.reduceMod, Nat.reduceDiv, Int.reduceToNat, Nat.min_eq_left, IntKind.bits, Int.reducePow, Int.reduceLT, Int.reduceLE, Int.reduceEq, Int.reduceNe, Int.reduceAdd, Int.reduceSub, and_self, reduceCtorEq, decide_eq_true_eq, decide_eq_false_iff_not, eq_self, implies_true, exists_const, Option.isNone_some, Option.isNone_none, Option.isSome_some, Option.isSome_none, Option.getD_some, X.cell, Y.cell]
    refine vc_loop1 (fun vi h' => ∃ i : Nat, vi = .int .i64 (i : Int) ∧ i ≤ ps.length ∧ ps.take i = qs.take i ∧ Ext g h') (fun vi _ => ps.length - m1 vi) ?_ ?_
    · simp (disch := omega) only [dm_t, wA, wB, wL, wW, wY, Int.fdiv_eq_ediv_of_nonneg, Int.tdiv_eq_ediv_of_nonneg, Int.tmod_eq_emod_of_nonneg, chk_pos, decT, decF, br_pos, br_neg, wX, ↓reduceIte, Nat.reduceEqDiff, Nat.reduceAdd, Nat.reduceSub, Nat.reduceMul, Nat.reduceLeDiff, Nat.reduceLT, Nat.reduceMod, Nat.reduceDiv, Int.reduceToNat, Nat.min_eq_left, IntKind.bits, Int.reducePow, Int.reduceLT, Int.reduceLE, Int.reduceEq, Int.reduceNe, Int.reduceAdd, Int.reduceSub, and_self, reduceCtorEq, decide_eq_true_eq, decide_eq_false_iff_not, eq_self, implies_true, exists_const, Option.isNone_some, Option.isNone_none, Option.isSome_some, Option.isSome_none, Option.getD_some]
      exact ⟨0, rfl, by omega, by simp, Ext.refl g⟩
    rintro _ g1 ⟨i, rfl, hi, heq, e1⟩
    have X1 := X.ext e1
    have Y1 := Y.ext e1
    by_cases hil : i < ps.length
    · have him : i < qs.length := by omega
      obtain ⟨p1, o1, a1, c1, i1, t1, -, r1⟩ := X1.row hil .i64
      obtain ⟨p2, o2, a2, c2, i2, t2, -, r2⟩ := Y1.row him .i64
      simp (disch := omega) only [dm_t, wA, wB, wL, wW, wY, Int.fdiv_eq_ediv_of_nonneg, Int.tdiv_eq_ediv_of_nonneg, Int.tmod_eq_emod_of_nonneg, chk_pos, decT, decF, br_pos, br_neg, wX, ↓reduceIte, Nat.reduceEqDiff, Nat.reduceAdd, Nat.reduceSub, Nat.reduceMul, Nat.reduceLeDiff, Nat.reduceLT, Nat.reduceMod, Nat.reduceDiv, Int.reduceToNat, Nat.min_eq_left, IntKind.bits, Int.reducePow, Int.reduceLT, Int.reduceLE, Int.reduceEq, Int.reduceNe, Int.reduceAdd, Int.reduceSub, and_self, reduceCtorEq, decide_eq_true_eq, decide_eq_false_iff_not, eq_self, implies_true, exists_const, Option.isNone_some, Option.isNone_none, Option.isSome_some, Option.isSome_none, Option.getD_some, X1.cell, Y1.cell, i1, t1, i2, t2]
      refine (DSameAll_ok r1 r2 (by have := (hps _ (List.getElem_mem hil)).1; omega)).k ?_
      rintro _ g3 ⟨rfl, e3⟩
      have X3 := X1.ext e3
      have Y3 := Y1.ext e3
      by_cases hx : ps[i] = qs[i]
      · simp (disch := omega) only [dm_t, wA, wB, wL, wW, wY, Int.fdiv_eq_ediv_of_nonneg, Int.tdiv_eq_ediv_of_nonneg, Int.tmod_eq_emod_of_nonneg, chk_pos, decT, decF, br_pos, br_neg, wX, ↓reduceIte, Nat.reduceEqDiff, Nat.reduceAdd, Nat.reduceSub, Nat.reduceMul, Nat.reduceLeDiff, Nat.reduceLT, Nat.reduceMod, Nat.reduceDiv, Int.reduceToNat, Nat.min_eq_left, IntKind.bits, Int.reducePow, Int.reduceLT, Int.reduceLE, Int.reduceEq, Int.reduceNe, Int.reduceAdd, Int.reduceSub, and_self, reduceCtorEq, decide_eq_true_eq, decide_eq_false_iff_not, eq_self, implies_true, exists_const, Option.isNone_some, Option.isNone_none, Option.isSome_some, Option.isSome_none, Option.getD_some, X3.cell, Y3.cell, i1, cellAt_ext e3 t1, i2, cellAt_ext e3 t2, hx]
        exact ⟨⟨i + 1, by simp, by omega, take_step hil him heq hx, e1.trans e3⟩, by simp [m1]; omega⟩
      · simp (disch := omega) only [dm_t, wA, wB, wL, wW, wY, Int.fdiv_eq_ediv_of_nonneg, Int.tdiv_eq_ediv_of_nonneg, Int.tmod_eq_emod_of_nonneg, chk_pos, decT, decF, br_pos, br_neg, wX, ↓reduceIte, Nat.reduceEqDiff, Nat.reduceAdd, Nat.reduceSub, Nat.reduceMul, Nat.reduceLeDiff, Nat.reduceLT, Nat.reduceMod, Nat.reduceDiv, Int.reduceToNat, Nat.min_eq_left, IntKind.bits, Int.reducePow, Int.reduceLT, Int.reduceLE, Int.reduceEq, Int.reduceNe, Int.reduceAdd, Int.reduceSub, and_self, reduceCtorEq, decide_eq_true_eq, decide_eq_false_iff_not, eq_self, implies_true, exists_const, Option.isNone_some, Option.isNone_none, Option.isSome_some, Option.isSome_none, Option.getD_some, X3.cell, Y3.cell, i1, cellAt_ext e3 t1, i2, cellAt_ext e3 t2, hx]
        exact ⟨by simp [take_ne hil him hx], e1.trans e3⟩
    · obtain rfl : i = ps.length := by omega
      rw [List.take_length, List.take_of_length_le (by omega)] at heq
      simp (disch := omega) only [dm_t, wA, wB, wL, wW, wY, Int.fdiv_eq_ediv_of_nonneg, Int.tdiv_eq_ediv_of_nonneg, Int.tmod_eq_emod_of_nonneg, chk_pos, decT, decF, br_pos, br_neg, wX, ↓reduceIte, Nat.reduceEqDiff, Nat.reduceAdd, Nat.reduceSub, Nat.reduceMul, Nat.reduceLeDiff, Nat.reduceLT, Nat.reduceMod, Nat.reduceDiv, Int.reduceToNat, Nat.min_eq_left, IntKind.bits, Int.reducePow, Int.reduceLT, Int.reduceLE, Int.reduceEq, Int.reduceNe, Int.reduceAdd, Int.reduceSub, and_self, reduceCtorEq, decide_eq_true_eq, decide_eq_false_iff_not, eq_self, implies_true, exists_const, Option.isNone_some, Option.isNone_none, Option.isSome_some, Option.isSome_none, Option.getD_some, X1.cell, heq]
      exact e1
  · simp (disch := omega) only [dm_t, wA, wB, wL, wW, wY, Int.fdiv_eq_ediv_of_nonneg, Int.tdiv_eq_ediv_of_nonneg, Int.tmod_eq_emod_of_nonneg, chk_pos, decT, decF, br_pos, br_neg, wX, ↓reduceIte, Nat.reduceEqDiff, Nat.reduceAdd, Nat.reduceSub, Nat.reduceMul, Nat.reduceLeDiff, Nat.reduceLT, Nat.reduceMod, Nat.reduceDiv, Int.reduceToNat, Nat.min_eq_left, IntKind.bits, Int.reducePow, Int.reduceLT, Int.reduceLE, Int.reduceEq, Int.reduceNe, Int.reduceAdd, Int.reduceSub, and_self, reduceCtorEq, decide_eq_true_eq, decide_eq_false_iff_not, eq_self, implies_true, exists_const, Option.isNone_some, Option.isNone_none, Option.isSome_some, Option.isSome_none, Option.getD_some, X.cell, Y.cell]
    have : ¬ ps = qs := fun h0 => hlm (by rw [h0])
    exact ⟨by simp [this], Ext.refl g⟩
end
end Go.Proofs.Ytpgkkpjdajkobaa.mo
