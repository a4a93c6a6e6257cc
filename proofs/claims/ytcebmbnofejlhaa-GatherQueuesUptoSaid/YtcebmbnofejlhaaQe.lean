/-
  gather: the law's call, queue.
-/
import Derived.Test.YtcebmbnofejlhaaQd
import Derived.Test.YtcebmbnofejlhaaG7
namespace Go.Proofs.Ytcebmbnofejlhaa.gq
open Go.Proofs.Ytcebmbnofejlhaa rr ga
set_option linter.unusedVariables false
set_option linter.unusedSimpArgs false
theorem call_ext {x y : callT.D} (h1 : @Eq Int x.1 y.1) (h2 : @Eq Int x.2.1 y.2.1) (h3 : x.2.2.1 = y.2.2.1) (h4 : @Eq Int x.2.2.2.1 y.2.2.2.1) (h5 : @Eq Int x.2.2.2.2 y.2.2.2.2) : x = y :=
  Prod.ext h1 (Prod.ext h2 (Prod.ext h3 (Prod.ext h4 h5)))
theorem call_ok {S T : Nat → Prop} {g : H} {cs ds : List Value} {x : callT.D} (hx : Rep S callT g cs x) (hy : Rep T callT g ds x) (hl : x.2.2.1.length ≤ 4611686018427387904) : Ok Try.prog 32 #[.agg cs.toArray, .agg ds.toArray] g fun v h' => v = .bool true ∧ Ext g h' := by
  obtain ⟨r, rfl, -, hr⟩ := rep_call.1 hx
  obtain ⟨s, rfl, -, hs⟩ := rep_call.1 hy
  refine c32_ok (args := [_, _]) (by simp) ?_
  simp (disch := omega) only [dm_t, wA, wB, wL, wW, wY, Int.fdiv_eq_ediv_of_nonneg, Int.tdiv_eq_ediv_of_nonneg, Int.tmod_eq_emod_of_nonneg, chk_pos, decT, decF, br_pos, br_neg, wX, ↓reduceIte, Nat.reduceEqDiff, Nat.reduceAdd, Nat.reduceSub, Nat.reduceMul, Nat.reduceLeDiff, Nat.reduceLT, Nat.reduceMod, Nat.reduceDiv, Int.reduceToNat, Nat.min_eq_left, IntKind.bits, Int.reducePow, Int.reduceLT, Int.reduceLE, Int.reduceEq, Int.reduceNe, Int.reduceAdd, Int.reduceSub, and_self, reduceCtorEq, decide_eq_true_eq, decide_eq_false_iff_not, eq_self, implies_true, exists_const, Option.isNone_some, Option.isNone_none, Option.isSome_some, Option.isSome_none, Option.getD_some]
  intro b hb d hd
  generalize hG : hupd g b _ = g1 at hd ⊢
  obtain ⟨e1, qb⟩ := new_ext hG hb
  clear hG
  generalize hG : hupd g1 d _ = g2
  obtain ⟨e2, qd⟩ := new_ext hG hd
  clear hG
  have E := e1.trans e2
  replace qb := e2.at qb
  have b0 : cellAt g2 ⟨b, 0, none⟩ = some (.int .i64 x.1) := by rw [cellAt_of qb]; rfl
  have b1 : cellAt g2 ⟨b, 1, none⟩ = some (.int .i64 x.2.1) := by rw [cellAt_of qb]; rfl
  have b2 : cellAt g2 ⟨b, 2, none⟩ = some r := by rw [cellAt_of qb]; rfl
  have b3 : cellAt g2 ⟨b, 3, none⟩ = some (.int .i64 x.2.2.2.1) := by rw [cellAt_of qb]; rfl
  have b4 : cellAt g2 ⟨b, 4, none⟩ = some (.int .i64 x.2.2.2.2) := by rw [cellAt_of qb]; rfl
  have d0 : cellAt g2 ⟨d, 0, none⟩ = some (.int .i64 x.1) := by rw [cellAt_of qd]; rfl
  have d1 : cellAt g2 ⟨d, 1, none⟩ = some (.int .i64 x.2.1) := by rw [cellAt_of qd]; rfl
  have d2 : cellAt g2 ⟨d, 2, none⟩ = some s := by rw [cellAt_of qd]; rfl
  have d3 : cellAt g2 ⟨d, 3, none⟩ = some (.int .i64 x.2.2.2.1) := by rw [cellAt_of qd]; rfl
  have d4 : cellAt g2 ⟨d, 4, none⟩ = some (.int .i64 x.2.2.2.2) := by rw [cellAt_of qd]; rfl
  simp (disch := omega) only [dm_t, wA, wB, wL, wW, wY, Int.fdiv_eq_ediv_of_nonneg, Int.tdiv_eq_ediv_of_nonneg, Int.tmod_eq_emod_of_nonneg, chk_pos, decT, decF, br_pos, br_neg, wX, ↓reduceIte, Nat.reduceEqDiff, Nat.reduceAdd, Nat.reduceSub, Nat.reduceMul, Nat.reduceLeDiff, Nat.reduceLT, Nat.reduceMod, Nat.reduceDiv, Int.reduceToNat, Nat.min_eq_left, IntKind.bits, Int.reducePow, Int.reduceLT, Int.reduceLE, Int.reduceEq, Int.reduceNe, Int.reduceAdd, Int.reduceSub, and_self, reduceCtorEq, decide_eq_true_eq, decide_eq_false_iff_not, eq_self, implies_true, exists_const, Option.isNone_some, Option.isNone_none, Option.isSome_some, Option.isSome_none, Option.getD_some, b0, b1, b2, b3, b4, d0, d1, d2, d3, d4]
  refine (gf.Same_ok (hr.ext E) (hs.ext E) hl).k ?_
  rintro _ _ ⟨rfl, rfl⟩
  simp (disch := omega) only [dm_t, wA, wB, wL, wW, wY, Int.fdiv_eq_ediv_of_nonneg, Int.tdiv_eq_ediv_of_nonneg, Int.tmod_eq_emod_of_nonneg, chk_pos, decT, decF, br_pos, br_neg, wX, ↓reduceIte, Nat.reduceEqDiff, Nat.reduceAdd, Nat.reduceSub, Nat.reduceMul, Nat.reduceLeDiff, Nat.reduceLT, Nat.reduceMod, Nat.reduceDiv, Int.reduceToNat, Nat.min_eq_left, IntKind.bits, Int.reducePow, Int.reduceLT, Int.reduceLE, Int.reduceEq, Int.reduceNe, Int.reduceAdd, Int.reduceSub, and_self, reduceCtorEq, decide_eq_true_eq, decide_eq_false_iff_not, eq_self, implies_true, exists_const, Option.isNone_some, Option.isNone_none, Option.isSome_some, Option.isSome_none, Option.getD_some]
  exact E
/-- A call, by its place. -/
theorem call_at {S : Nat → Prop} {g : H} {w : Value} {cs : List callT.D} (h : RepL S callT g w cs) {i : Nat} (hi : i < cs.length) : ∃ b o a n, idxV1 5 w (.int .i64 (i : Int)) = some (.pointer (some ⟨b, o, none⟩)) ∧ cellsAt g ⟨b, o, none⟩ 5 = some (cCs cs[i] (.slice a cs[i].2.2.1.length n)).toArray ∧ cellAt g ⟨b, o, none⟩ = some (.int .i64 cs[i].1) ∧
    cellAt g ⟨b, o + 2, none⟩ = some (.slice a cs[i].2.2.1.length n) ∧ Rep S callT g (cCs cs[i] (.slice a cs[i].2.2.1.length n)) cs[i] ∧ RepL S rc g (.slice a cs[i].2.2.1.length n) cs[i].2.2.1 := by
  obtain ⟨b, o, row, i1, t1, hc, r1⟩ := h.load hi .i64 5 rfl
  obtain ⟨r, hrow, -, hrr⟩ := rep_call.1 r1
  obtain ⟨a, n, rfl⟩ := hrr.len
  subst hrow
  exact ⟨b, o, a, n, i1, t1, hc 0 (by omega), hc 2 (by omega), r1, hrr⟩
theorem queue_ok {S : Nat → Prop} {h : H} {w : Value} {cs : List callT.D} (hw : RepL S callT h w cs) (hl : cs.length ≤ 256) (hx : ∀ c ∈ cs, c.2.2.1.length ≤ 1000000) (hk : ∀ c ∈ cs, ∀ x ∈ c.2.2.1, x.2.1.length ≤ 140737488355328 ∧ x.2.2.length ≤ 140737488355328) :
    Ok Try.prog 34 #[w] h fun v h' => ∃ p lv rows, v = .pointer (some ⟨p, 0, none⟩) ∧ RO (fun y => h y ≠ none) h h' p lv 256 0 cs rows ∧ Ext h h' := by
  obtain ⟨wa, wc, rfl⟩ := hw.len
  refine c34_ok (args := [_]) (by simp) ?_
  simp (disch := omega) only [dm_t, wA, wB, wL, wW, wY, Int.fdiv_eq_ediv_of_nonneg, Int.tdiv_eq_ediv_of_nonneg, Int.tmod_eq_emod_of_nonneg, chk_pos, decT, decF, br_pos, br_neg, wX, ↓reduceIte, Nat.reduceEqDiff, Nat.reduceAdd, Nat.reduceSub, Nat.reduceMul, Nat.reduceLeDiff, Nat.reduceLT, Nat.reduceMod, Nat.reduceDiv, Int.reduceToNat, Nat.min_eq_left, IntKind.bits, Int.reducePow, Int.reduceLT, Int.reduceLE, Int.reduceEq, Int.reduceNe, Int.reduceAdd, Int.reduceSub, and_self, reduceCtorEq, decide_eq_true_eq, decide_eq_false_iff_not, eq_self, implies_true, exists_const, Option.isNone_some, Option.isNone_none, Option.isSome_some, Option.isSome_none, Option.getD_some]
  refine New_ok.k ?_
  rintro _ g1 ⟨p, lv, rows, rfl, X0, e1⟩
  simp (disch := omega) only [dm_t, wA, wB, wL, wW, wY, Int.fdiv_eq_ediv_of_nonneg, Int.tdiv_eq_ediv_of_nonneg, Int.tmod_eq_emod_of_nonneg, chk_pos, decT, decF, br_pos, br_neg, wX, ↓reduceIte, Nat.reduceEqDiff, Nat.reduceAdd, Nat.reduceSub, Nat.reduceMul, Nat.reduceLeDiff, Nat.reduceLT, Nat.reduceMod, Nat.reduceDiv, Int.reduceToNat, Nat.min_eq_left, IntKind.bits, Int.reducePow, Int.reduceLT, Int.reduceLE, Int.reduceEq, Int.reduceNe, Int.reduceAdd, Int.reduceSub, and_self, reduceCtorEq, decide_eq_true_eq, decide_eq_false_iff_not, eq_self, implies_true, exists_const, Option.isNone_some, Option.isNone_none, Option.isSome_some, Option.isSome_none, Option.getD_some]
  refine (num_ok _ _).k ?_
  rintro _ _ ⟨rfl, rfl⟩
  simp (disch := omega) only [dm_t, wA, wB, wL, wW, wY, Int.fdiv_eq_ediv_of_nonneg, Int.tdiv_eq_ediv_of_nonneg, Int.tmod_eq_emod_of_nonneg, chk_pos, decT, decF, br_pos, br_neg, wX, ↓reduceIte, Nat.reduceEqDiff, Nat.reduceAdd, Nat.reduceSub, Nat.reduceMul, Nat.reduceLeDiff, Nat.reduceLT, Nat.reduceMod, Nat.reduceDiv, Int.reduceToNat, Nat.min_eq_left, IntKind.bits, Int.reducePow, Int.reduceLT, Int.reduceLE, Int.reduceEq, Int.reduceNe, Int.reduceAdd, Int.reduceSub, and_self, reduceCtorEq, decide_eq_true_eq, decide_eq_false_iff_not, eq_self, implies_true, exists_const, Option.isNone_some, Option.isNone_none, Option.isSome_some, Option.isSome_none, Option.getD_some]
  refine vc_loop1 (fun vi G => ∃ (i : Nat) (rows : List (List Value)), vi = .int .i64 (i : Int) ∧ i ≤ cs.length ∧ RO (fun y => h y ≠ none) h G p lv 256 0 (cs.take i) rows ∧ Ext h G) (fun vi _ => cs.length - m1 vi) ?_ ?_
  · simp (disch := omega) only [dm_t, wA, wB, wL, wW, wY, Int.fdiv_eq_ediv_of_nonneg, Int.tdiv_eq_ediv_of_nonneg, Int.tmod_eq_emod_of_nonneg, chk_pos, decT, decF, br_pos, br_neg, wX, ↓reduceIte, Nat.reduceEqDiff, Nat.reduceAdd, Nat.reduceSub, Nat.reduceMul, Nat.reduceLeDiff, Nat.reduceLT, Nat.reduceMod, Nat.reduceDiv, Int.reduceToNat, Nat.min_eq_left, IntKind.bits, Int.reducePow, Int.reduceLT, Int.reduceLE, Int.reduceEq, Int.reduceNe, Int.reduceAdd, Int.reduceSub, and_self, reduceCtorEq, decide_eq_true_eq, decide_eq_false_iff_not, eq_self, implies_true, exists_const, Option.isNone_some, Option.isNone_none, Option.isSome_some, Option.isSome_none, Option.getD_some]
    exact ⟨0, rows, rfl, by omega, by simpa using X0 _, e1⟩
  rintro _ G ⟨i, rows, rfl, hi, X, E⟩
  by_cases hil : i < cs.length
  · obtain ⟨b1, o1, ra, rn, i1, t1, -, -, r1, rr1⟩ := call_at (hw.ext E) hil
    obtain ⟨r', hrow, hcb, -⟩ := rep_call.1 r1
    simp (disch := omega) only [dm_t, wA, wB, wL, wW, wY, Int.fdiv_eq_ediv_of_nonneg, Int.tdiv_eq_ediv_of_nonneg, Int.tmod_eq_emod_of_nonneg, chk_pos, decT, decF, br_pos, br_neg, wX, ↓reduceIte, Nat.reduceEqDiff, Nat.reduceAdd, Nat.reduceSub, Nat.reduceMul, Nat.reduceLeDiff, Nat.reduceLT, Nat.reduceMod, Nat.reduceDiv, Int.reduceToNat, Nat.min_eq_left, IntKind.bits, Int.reducePow, Int.reduceLT, Int.reduceLE, Int.reduceEq, Int.reduceNe, Int.reduceAdd, Int.reduceSub, and_self, reduceCtorEq, decide_eq_true_eq, decide_eq_false_iff_not, eq_self, implies_true, exists_const, Option.isNone_some, Option.isNone_none, Option.isSome_some, Option.isSome_none, Option.getD_some, i1, t1]
    intro cb hcb2
    refine storeH_all (vs := [_, _, _, _, _]) (hupd_same _ _ _) rfl rfl ?_
    rw [hupd_hupd]
    generalize hG : hupd G cb _ = G1
    obtain ⟨f1, qc⟩ := new_ext hG hcb2
    clear hG
    have c2 : cellAt G1 ⟨cb, 2, none⟩ = some (.slice ra cs[i].2.2.1.length rn) := by rw [cellAt_of qc]; rfl
    simp (disch := omega) only [dm_t, wA, wB, wL, wW, wY, Int.fdiv_eq_ediv_of_nonneg, Int.tdiv_eq_ediv_of_nonneg, Int.tmod_eq_emod_of_nonneg, chk_pos, decT, decF, br_pos, br_neg, wX, ↓reduceIte, Nat.reduceEqDiff, Nat.reduceAdd, Nat.reduceSub, Nat.reduceMul, Nat.reduceLeDiff, Nat.reduceLT, Nat.reduceMod, Nat.reduceDiv, Int.reduceToNat, Nat.min_eq_left, IntKind.bits, Int.reducePow, Int.reduceLT, Int.reduceLE, Int.reduceEq, Int.reduceNe, Int.reduceAdd, Int.reduceSub, and_self, reduceCtorEq, decide_eq_true_eq, decide_eq_false_iff_not, eq_self, implies_true, exists_const, Option.isNone_some, Option.isNone_none, Option.isSome_some, Option.isSome_none, Option.getD_some, c2]
    refine (gf.Copy_ok (rr1.ext f1) (hx _ (List.getElem_mem hil)) (hk _ (List.getElem_mem hil))).k ?_
    rintro u G2 ⟨ou, f2⟩
    obtain ⟨ua, uc, rfl⟩ := ou.l.len
    have qc2 := f2.at qc
    simp (disch := omega) only [dm_t, wA, wB, wL, wW, wY, Int.fdiv_eq_ediv_of_nonneg, Int.tdiv_eq_ediv_of_nonneg, Int.tmod_eq_emod_of_nonneg, chk_pos, decT, decF, br_pos, br_neg, wX, ↓reduceIte, Nat.reduceEqDiff, Nat.reduceAdd, Nat.reduceSub, Nat.reduceMul, Nat.reduceLeDiff, Nat.reduceLT, Nat.reduceMod, Nat.reduceDiv, Int.reduceToNat, Nat.min_eq_left, IntKind.bits, Int.reducePow, Int.reduceLT, Int.reduceLE, Int.reduceEq, Int.reduceNe, Int.reduceAdd, Int.reduceSub, and_self, reduceCtorEq, decide_eq_true_eq, decide_eq_false_iff_not, eq_self, implies_true, exists_const, Option.isNone_some, Option.isNone_none, Option.isSome_some, Option.isSome_none, Option.getD_some]
    rw [storeH_0 qc2]
    refine ⟨by simp, rfl, ?_⟩
    generalize hG : hupd G2 cb _ = G3
    have f3 : Fr (fun y => y = cb) G2 G3 := hG ▸ Fr.upd (S := fun y => y = cb) rfl _
    have q3 : G3 cb = some (.cells (cCs cs[i] (.slice ua cs[i].2.2.1.length uc)).toArray 64) := by rw [← hG, hupd_same]; rfl
    clear hG
    have E2 := E.trans (f1.trans f2)
    have hch : h cb = none := E.bk hcb2
    have E3 : Ext h G3 := Ext.step' E2 f3 fun y hy => by rw [hy]; exact hch
    have hnp : ∀ y, RF p lv y → y ≠ cb := fun y hy hh => X.there hy (hh ▸ hcb2)
    have X3 : RO (fun y => h y ≠ none) h G3 p lv 256 0 (cs.take i) rows := by
      have X2 : RO (fun y => h y ≠ none ∨ y = cb) h G2 p lv 256 0 (cs.take i) rows := (X.avoid fun y hy => hy.imp id fun h => by rw [h]; exact hcb2).ext (f1.trans f2)
      exact (X2.fr f3 (fun y hy => .inr hy) fun y hy hr => hnp y hr hy).avoid fun y hy => .inl (.inl hy)
    have hg1cb : G1 cb ≠ none := by rw [qc]; simp
    have hu : RepL (fun y => y = p ∨ isAt lv y ∨ h y ≠ none) rc G3 (.slice ua cs[i].2.2.1.length uc) cs[i].2.2.1 := by
      refine RepL.mono ((ou.l.repS fun y hy hn => hn hy).fr f3 fun y hy => by rw [hy]; exact hg1cb) fun y _ _ hy hn => ?_
      rcases hy with h1 | h1 | h1
      · exact X.there (.inl h1) (f1.bk hn)
      · exact X.there (.inr h1) (f1.bk hn)
      · exact h1 (E.bk (f1.bk hn))
    simp (disch := omega) only [dm_t, wA, wB, wL, wW, wY, Int.fdiv_eq_ediv_of_nonneg, Int.tdiv_eq_ediv_of_nonneg, Int.tmod_eq_emod_of_nonneg, chk_pos, decT, decF, br_pos, br_neg, wX, ↓reduceIte, Nat.reduceEqDiff, Nat.reduceAdd, Nat.reduceSub, Nat.reduceMul, Nat.reduceLeDiff, Nat.reduceLT, Nat.reduceMod, Nat.reduceDiv, Int.reduceToNat, Nat.min_eq_left, IntKind.bits, Int.reducePow, Int.reduceLT, Int.reduceLE, Int.reduceEq, Int.reduceNe, Int.reduceAdd, Int.reduceSub, and_self, reduceCtorEq, decide_eq_true_eq, decide_eq_false_iff_not, eq_self, implies_true, exists_const, Option.isNone_some, Option.isNone_none, Option.isSome_some, Option.isSome_none, Option.getD_some, cellsAt_all q3 5 rfl]
    intro lb hlb
    generalize hG : hupd G3 lb _ = G4
    obtain ⟨f4, ql⟩ := new_ext hG hlb
    clear hG
    have hnl : lb ≠ p ∧ ¬ isAt lv lb ∧ h lb = none := ⟨fun hh => X3.there (.inl rfl) (hh ▸ hlb), fun hh => X3.there (.inr hh) hlb, E3.bk hlb⟩
    have hone : RepL (fun y => y = p ∨ isAt lv y ∨ h y ≠ none) callT G4 (.slice (some ⟨lb, 0, none⟩) 1 1) [cs[i]] := by
      refine repL_iff.2 ⟨[cCs cs[i] (.slice ua cs[i].2.2.1.length uc)], ⟨fun r hr => ?_, .inr ⟨lb, 0, 1, _, _, (0, 0), rfl, ql, by show 0 + 1 * 5 ≤ 5; omega, by simp, ?_, ?_⟩⟩, rfl, ?_⟩
      · simp only [List.mem_singleton] at hr; rw [hr]; rfl
      · intro m hm
        have : flat [cCs cs[i] (.slice ua cs[i].2.2.1.length uc)] = cCs cs[i] (.slice ua cs[i].2.2.1.length uc) := by simp [flat]
        simp [this]
      · rintro (h1 | h1 | h1)
        · exact hnl.1 h1
        · exact hnl.2.1 h1
        · exact h1 hnl.2.2
      · intro j r x hr hx
        cases j with
        | zero =>
          simp only [List.getElem?_cons_zero, Option.some.injEq] at hr hx
          subst hr hx
          exact rep_call.2 ⟨_, rfl, hcb, hu.ext f4⟩
        | succ j => simp at hr
    have hlt : (cs.take i).length = i := by rw [List.length_take]; omega
    simp (disch := omega) only [dm_t, wA, wB, wL, wW, wY, Int.fdiv_eq_ediv_of_nonneg, Int.tdiv_eq_ediv_of_nonneg, Int.tmod_eq_emod_of_nonneg, chk_pos, decT, decF, br_pos, br_neg, wX, ↓reduceIte, Nat.reduceEqDiff, Nat.reduceAdd, Nat.reduceSub, Nat.reduceMul, Nat.reduceLeDiff, Nat.reduceLT, Nat.reduceMod, Nat.reduceDiv, Int.reduceToNat, Nat.min_eq_left, IntKind.bits, Int.reducePow, Int.reduceLT, Int.reduceLE, Int.reduceEq, Int.reduceNe, Int.reduceAdd, Int.reduceSub, and_self, reduceCtorEq, decide_eq_true_eq, decide_eq_false_iff_not, eq_self, implies_true, exists_const, Option.isNone_some, Option.isNone_none, Option.isSome_some, Option.isSome_none, Option.getD_some]
    refine (Put_ok (X3.ext f4) (E3.trans f4) hone (by rw [hlt]; simp; omega)).k ?_
    rintro _ G5 ⟨rfl, ⟨rows5, X5⟩, f5⟩
    rw [← List.take_succ_eq_append_getElem hil] at X5
    simp (disch := omega) only [dm_t, wA, wB, wL, wW, wY, Int.fdiv_eq_ediv_of_nonneg, Int.tdiv_eq_ediv_of_nonneg, Int.tmod_eq_emod_of_nonneg, chk_pos, decT, decF, br_pos, br_neg, wX, ↓reduceIte, Nat.reduceEqDiff, Nat.reduceAdd, Nat.reduceSub, Nat.reduceMul, Nat.reduceLeDiff, Nat.reduceLT, Nat.reduceMod, Nat.reduceDiv, Int.reduceToNat, Nat.min_eq_left, IntKind.bits, Int.reducePow, Int.reduceLT, Int.reduceLE, Int.reduceEq, Int.reduceNe, Int.reduceAdd, Int.reduceSub, and_self, reduceCtorEq, decide_eq_true_eq, decide_eq_false_iff_not, eq_self, implies_true, exists_const, Option.isNone_some, Option.isNone_none, Option.isSome_some, Option.isSome_none, Option.getD_some]
    refine (num_ok _ _).k ?_
    rintro _ _ ⟨rfl, rfl⟩
    simp (disch := omega) only [dm_t, wA, wB, wL, wW, wY, Int.fdiv_eq_ediv_of_nonneg, Int.tdiv_eq_ediv_of_nonneg, Int.tmod_eq_emod_of_nonneg, chk_pos, decT, decF, br_pos, br_neg, wX, ↓reduceIte, Nat.reduceEqDiff, Nat.reduceAdd, Nat.reduceSub, Nat.reduceMul, Nat.reduceLeDiff, Nat.reduceLT, Nat.reduceMod, Nat.reduceDiv, Int.reduceToNat, Nat.min_eq_left, IntKind.bits, Int.reducePow, Int.reduceLT, Int.reduceLE, Int.reduceEq, Int.reduceNe, Int.reduceAdd, Int.reduceSub, and_self, reduceCtorEq, decide_eq_true_eq, decide_eq_false_iff_not, eq_self, implies_true, exists_const, Option.isNone_some, Option.isNone_none, Option.isSome_some, Option.isSome_none, Option.getD_some]
    exact ⟨⟨i + 1, rows5, by simp, by omega, X5, Ext.step' (E3.trans f4) f5 fun y hy => X3.own' hy⟩, by simp [m1]; omega⟩
  · obtain rfl : i = cs.length := by omega
    rw [List.take_length] at X
    simp (disch := omega) only [dm_t, wA, wB, wL, wW, wY, Int.fdiv_eq_ediv_of_nonneg, Int.tdiv_eq_ediv_of_nonneg, Int.tmod_eq_emod_of_nonneg, chk_pos, decT, decF, br_pos, br_neg, wX, ↓reduceIte, Nat.reduceEqDiff, Nat.reduceAdd, Nat.reduceSub, Nat.reduceMul, Nat.reduceLeDiff, Nat.reduceLT, Nat.reduceMod, Nat.reduceDiv, Int.reduceToNat, Nat.min_eq_left, IntKind.bits, Int.reducePow, Int.reduceLT, Int.reduceLE, Int.reduceEq, Int.reduceNe, Int.reduceAdd, Int.reduceSub, and_self, reduceCtorEq, decide_eq_true_eq, decide_eq_false_iff_not, eq_self, implies_true, exists_const, Option.isNone_some, Option.isNone_none, Option.isSome_some, Option.isSome_none, Option.getD_some]
    exact ⟨p, lv, rows, rfl, X, E⟩
end Go.Proofs.Ytcebmbnofejlhaa.gq
