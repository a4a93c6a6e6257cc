/-
  model: ModelNil, walked whole.
-/
import Derived.Test.YtpgkkpjdajkobaaMg
namespace Go.Proofs.Ytpgkkpjdajkobaa.mo
open Go.Proofs.Ytpgkkpjdajkobaa rr
set_option linter.unusedVariables false
set_option linter.unusedSimpArgs false
theorem noneL_ok {g : H} {v : Value} {m : Int} {cs ds : List Value} {x : callT.D} {y : replyT.D} (n : NoM g v) (hm : inI m) (hx : Rep nos callT g cs x) (hy : Rep nos replyT g ds y) :
    Ok Try.prog 28 #[v, .agg cs.toArray, .agg ds.toArray, .int .i64 m] g fun v h' => v = .bool true ∧ Ext g h' := by
  obtain ⟨r, rfl, hb, hr⟩ := rep_call.1 hx
  obtain ⟨q, rfl, hyb, hq⟩ := rep_reply.1 hy
  refine c28_ok (args := [_, _, _, _]) (by simp) ?_
  simp (disch := omega) only [dm_t, wA, wB, wL, wW, wY, Int.fdiv_eq_ediv_of_nonneg, Int.tdiv_eq_ediv_of_nonneg, Int.tmod_eq_emod_of_nonneg, chk_pos, decT, decF, br_pos, br_neg, wX, ↓reduceIte, Nat.reduceEqDiff, Nat.reduceAdd, Nat.reduceSub, Nat.reduceMul, Nat.reduceLeDiff, Nat.reduceLT, Nat.reduceMod, Nat.reduceDiv, Int.reduceToNat, Nat.min_eq_left, IntKind.bits, Int.reducePow, Int.reduceLT, Int.reduceLE, Int.reduceEq, Int.reduceNe, Int.reduceAdd, Int.reduceSub, and_self, reduceCtorEq, decide_eq_true_eq, decide_eq_false_iff_not, eq_self, implies_true, exists_const, Option.isNone_some, Option.isNone_none, Option.isSome_some, Option.isSome_none, Option.getD_some]
  intro cb hcb rb hrb res hres
  generalize hG : hupd g cb _ = g1 at hrb hres ⊢
  obtain ⟨e1, qc⟩ := new_ext hG hcb
  clear hG
  generalize hG : hupd g1 rb _ = g2 at hres ⊢
  obtain ⟨e2, qr⟩ := new_ext hG hrb
  clear hG
  generalize hG : hupd g2 res _ = g3
  obtain ⟨e3, qs⟩ := new_ext hG hres
  clear hG
  have E : Ext g g3 := (e1.trans e2).trans e3
  have hrn := (e1.trans e2).bk hres
  replace qc := (e2.trans e3).at qc
  replace qr := e3.at qr
  clear e1 e2 e3 hcb hrb hres
  simp (disch := omega) only [dm_t, wA, wB, wL, wW, wY, Int.fdiv_eq_ediv_of_nonneg, Int.tdiv_eq_ediv_of_nonneg, Int.tmod_eq_emod_of_nonneg, chk_pos, decT, decF, br_pos, br_neg, wX, ↓reduceIte, Nat.reduceEqDiff, Nat.reduceAdd, Nat.reduceSub, Nat.reduceMul, Nat.reduceLeDiff, Nat.reduceLT, Nat.reduceMod, Nat.reduceDiv, Int.reduceToNat, Nat.min_eq_left, IntKind.bits, Int.reducePow, Int.reduceLT, Int.reduceLE, Int.reduceEq, Int.reduceNe, Int.reduceAdd, Int.reduceSub, and_self, reduceCtorEq, decide_eq_true_eq, decide_eq_false_iff_not, eq_self, implies_true, exists_const, Option.isNone_some, Option.isNone_none, Option.isSome_some, Option.isSome_none, Option.getD_some, (caC qc).ca]
  repeat' (first
    | refine ⟨?_, ?_⟩
    | (refine (Do_none (n.ext E) (hx.ext E)).k ?_
       rintro _ H1 ⟨rfl, e'⟩
       replace E := E.trans e'
       replace qc := e'.at qc
       replace qr := e'.at qr
       replace qs := e'.at qs
       (try replace qn1 := e'.at qn1)
       (try replace qn2 := e'.at qn2)
       simp (disch := omega) only [dm_t, wV, wB, wL, wW, wU, Int.fdiv_eq_ediv_of_nonneg, Int.tdiv_eq_ediv_of_nonneg, Int.tmod_eq_emod_of_nonneg, chk_pos, decT, decF, br_pos, br_neg, wX, ↓reduceIte, Nat.reduceEqDiff, Nat.reduceAdd, Nat.reduceSub, Nat.reduceMul, Nat.reduceLeDiff, Nat.reduceLT, Nat.reduceMod, Nat.reduceDiv, Int.reduceToNat, Nat.min_eq_left, IntKind.bits, Int.reducePow, Int.reduceLT, Int.reduceLE, Int.reduceEq, Int.reduceNe, Int.reduceAdd, Int.reduceSub, and_self, reduceCtorEq, decide_eq_true_eq, decide_eq_false_iff_not, eq_self, implies_true, exists_const, Option.isNone_some, Option.isNone_none, Option.isSome_some, Option.isSome_none, Option.getD_some, (caC qc).ca])
    | (refine (Try_none (n.ext E) (hx.ext E)).k ?_
       rintro _ H1 ⟨rfl, e'⟩
       replace E := E.trans e'
       replace qc := e'.at qc
       replace qr := e'.at qr
       replace qs := e'.at qs
       (try replace qn1 := e'.at qn1)
       (try replace qn2 := e'.at qn2)
       simp (disch := omega) only [dm_t, wV, wB, wL, wW, wU, Int.fdiv_eq_ediv_of_nonneg, Int.tdiv_eq_ediv_of_nonneg, Int.tmod_eq_emod_of_nonneg, chk_pos, decT, decF, br_pos, br_neg, wX, ↓reduceIte, Nat.reduceEqDiff, Nat.reduceAdd, Nat.reduceSub, Nat.reduceMul, Nat.reduceLeDiff, Nat.reduceLT, Nat.reduceMod, Nat.reduceDiv, Int.reduceToNat, Nat.min_eq_left, IntKind.bits, Int.reducePow, Int.reduceLT, Int.reduceLE, Int.reduceEq, Int.reduceNe, Int.reduceAdd, Int.reduceSub, and_self, reduceCtorEq, decide_eq_true_eq, decide_eq_false_iff_not, eq_self, implies_true, exists_const, Option.isNone_some, Option.isNone_none, Option.isSome_some, Option.isSome_none, Option.getD_some, (caC qc).ca])
    | (intro a ha
       have hnone := E.bk ha
       (try have mm := ne_of qn1 ha)
       have mm := ne_of qc ha
       have mm := ne_of qr ha
       have mm := ne_of qs ha
       generalize hG : hupd _ a _ = G
       obtain ⟨e', qa⟩ := new_ext hG ha
       clear hG ha
       replace E := E.trans e'
       replace qc := e'.at qc
       replace qr := e'.at qr
       replace qs := e'.at qs
       (try replace qn1 := e'.at qn1)
       first
         | (have t := qn1; clear t; have qn2 := qa; have hn2 := hnone)
         | (have qn1 := qa; have hn1 := hnone)
       clear qa hnone
       simp (disch := omega) only [dm_t, wV, wB, wL, wW, wU, Int.fdiv_eq_ediv_of_nonneg, Int.tdiv_eq_ediv_of_nonneg, Int.tmod_eq_emod_of_nonneg, chk_pos, decT, decF, br_pos, br_neg, wX, ↓reduceIte, Nat.reduceEqDiff, Nat.reduceAdd, Nat.reduceSub, Nat.reduceMul, Nat.reduceLeDiff, Nat.reduceLT, Nat.reduceMod, Nat.reduceDiv, Int.reduceToNat, Nat.min_eq_left, IntKind.bits, Int.reducePow, Int.reduceLT, Int.reduceLE, Int.reduceEq, Int.reduceNe, Int.reduceAdd, Int.reduceSub, and_self, reduceCtorEq, decide_eq_true_eq, decide_eq_false_iff_not, eq_self, implies_true, exists_const, Option.isNone_some, Option.isNone_none, Option.isSome_some, Option.isSome_none, Option.getD_some, (caC qc).ca]))
  all_goals first
    | (refine res3 (err 1) (.slice none 0 0) qn1 rfl rfl ?_
       intro G1 _ qa1 f1
       have qb1 := f1 _ _ qn2 (by show ¬ (_ = _); omega)
       have qc1 := f1 _ _ qc (by show ¬ (_ = _); omega)
       have qr1 := f1 _ _ qr (by show ¬ (_ = _); omega)
       have qs1 := f1 _ _ qs (by show ¬ (_ = _); omega)
       have E1 := Ext.step' E f1 fun y hy => by rw [hy]; assumption
       simp (disch := omega) only [dm_t, wV, wB, wL, wW, wU, Int.fdiv_eq_ediv_of_nonneg, Int.tdiv_eq_ediv_of_nonneg, Int.tmod_eq_emod_of_nonneg, chk_pos, decT, decF, br_pos, br_neg, wX, ↓reduceIte, Nat.reduceEqDiff, Nat.reduceAdd, Nat.reduceSub, Nat.reduceMul, Nat.reduceLeDiff, Nat.reduceLT, Nat.reduceMod, Nat.reduceDiv, Int.reduceToNat, Nat.min_eq_left, IntKind.bits, Int.reducePow, Int.reduceLT, Int.reduceLE, Int.reduceEq, Int.reduceNe, Int.reduceAdd, Int.reduceSub, and_self, reduceCtorEq, decide_eq_true_eq, decide_eq_false_iff_not, eq_self, implies_true, exists_const, Option.isNone_some, Option.isNone_none, Option.isSome_some, Option.isSome_none, Option.getD_some, (caC qc1).ca]
       refine res3 (err 1) (.slice none 0 0) qb1 rfl rfl ?_
       intro G2 _ qb2 f2
       have qa2 := f2 _ _ qa1 (by show ¬ (_ = _); omega)
       have qc2 := f2 _ _ qc1 (by show ¬ (_ = _); omega)
       have qr2 := f2 _ _ qr1 (by show ¬ (_ = _); omega)
       have qs2 := f2 _ _ qs1 (by show ¬ (_ = _); omega)
       have E2 := Ext.step' E1 f2 fun y hy => by rw [hy]; assumption
       simp (disch := omega) only [dm_t, wV, wB, wL, wW, wU, Int.fdiv_eq_ediv_of_nonneg, Int.tdiv_eq_ediv_of_nonneg, Int.tmod_eq_emod_of_nonneg, chk_pos, decT, decF, br_pos, br_neg, wX, ↓reduceIte, Nat.reduceEqDiff, Nat.reduceAdd, Nat.reduceSub, Nat.reduceMul, Nat.reduceLeDiff, Nat.reduceLT, Nat.reduceMod, Nat.reduceDiv, Int.reduceToNat, Nat.min_eq_left, IntKind.bits, Int.reducePow, Int.reduceLT, Int.reduceLE, Int.reduceEq, Int.reduceNe, Int.reduceAdd, Int.reduceSub, and_self, reduceCtorEq, decide_eq_true_eq, decide_eq_false_iff_not, eq_self, implies_true, exists_const, Option.isNone_some, Option.isNone_none, Option.isSome_some, Option.isSome_none, Option.getD_some, (caC qc2).ca]
       exact noneL_s1 (n.ext E2) E2 hm (hx.ext E2) (hy.ext E2) qc2 qr2 ⟨_, qs2⟩ hrn qa2 qb2)
    | (refine res3 (err 1) (.slice none 0 0) qn2 rfl rfl ?_
       intro G1 _ qa1 f1
       have qb1 := f1 _ _ qn1 (by show ¬ (_ = _); omega)
       have qc1 := f1 _ _ qc (by show ¬ (_ = _); omega)
       have qr1 := f1 _ _ qr (by show ¬ (_ = _); omega)
       have qs1 := f1 _ _ qs (by show ¬ (_ = _); omega)
       have E1 := Ext.step' E f1 fun y hy => by rw [hy]; assumption
       simp (disch := omega) only [dm_t, wV, wB, wL, wW, wU, Int.fdiv_eq_ediv_of_nonneg, Int.tdiv_eq_ediv_of_nonneg, Int.tmod_eq_emod_of_nonneg, chk_pos, decT, decF, br_pos, br_neg, wX, ↓reduceIte, Nat.reduceEqDiff, Nat.reduceAdd, Nat.reduceSub, Nat.reduceMul, Nat.reduceLeDiff, Nat.reduceLT, Nat.reduceMod, Nat.reduceDiv, Int.reduceToNat, Nat.min_eq_left, IntKind.bits, Int.reducePow, Int.reduceLT, Int.reduceLE, Int.reduceEq, Int.reduceNe, Int.reduceAdd, Int.reduceSub, and_self, reduceCtorEq, decide_eq_true_eq, decide_eq_false_iff_not, eq_self, implies_true, exists_const, Option.isNone_some, Option.isNone_none, Option.isSome_some, Option.isSome_none, Option.getD_some, (caC qc1).ca]
       refine res3 (err 1) (.slice none 0 0) qb1 rfl rfl ?_
       intro G2 _ qb2 f2
       have qa2 := f2 _ _ qa1 (by show ¬ (_ = _); omega)
       have qc2 := f2 _ _ qc1 (by show ¬ (_ = _); omega)
       have qr2 := f2 _ _ qr1 (by show ¬ (_ = _); omega)
       have qs2 := f2 _ _ qs1 (by show ¬ (_ = _); omega)
       have E2 := Ext.step' E1 f2 fun y hy => by rw [hy]; assumption
       simp (disch := omega) only [dm_t, wV, wB, wL, wW, wU, Int.fdiv_eq_ediv_of_nonneg, Int.tdiv_eq_ediv_of_nonneg, Int.tmod_eq_emod_of_nonneg, chk_pos, decT, decF, br_pos, br_neg, wX, ↓reduceIte, Nat.reduceEqDiff, Nat.reduceAdd, Nat.reduceSub, Nat.reduceMul, Nat.reduceLeDiff, Nat.reduceLT, Nat.reduceMod, Nat.reduceDiv, Int.reduceToNat, Nat.min_eq_left, IntKind.bits, Int.reducePow, Int.reduceLT, Int.reduceLE, Int.reduceEq, Int.reduceNe, Int.reduceAdd, Int.reduceSub, and_self, reduceCtorEq, decide_eq_true_eq, decide_eq_false_iff_not, eq_self, implies_true, exists_const, Option.isNone_some, Option.isNone_none, Option.isSome_some, Option.isSome_none, Option.getD_some, (caC qc2).ca]
       exact noneL_s1 (n.ext E2) E2 hm (hx.ext E2) (hy.ext E2) qc2 qr2 ⟨_, qs2⟩ hrn qa2 qb2)
theorem MNil_ok {g : H} {m : Int} {cs ds : List Value} {x : callT.D} {y : replyT.D} (hm : inI m) (hx : Rep nos callT g cs x) (hy : Rep nos replyT g ds y) :
    Ok Try.prog 6 #[.agg cs.toArray, .agg ds.toArray, .int .i64 m] g fun v h' => v = .bool true ∧ Ext g h' := by
  obtain ⟨r, rfl, hb, hr⟩ := rep_call.1 hx
  obtain ⟨q, rfl, hyb, hq⟩ := rep_reply.1 hy
  refine c6_ok (args := [_, _, _]) (by simp) ?_
  simp (disch := omega) only [dm_t, wA, wB, wL, wW, wY, Int.fdiv_eq_ediv_of_nonneg, Int.tdiv_eq_ediv_of_nonneg, Int.tmod_eq_emod_of_nonneg, chk_pos, decT, decF, br_pos, br_neg, wX, ↓reduceIte, Nat.reduceEqDiff, Nat.reduceAdd, Nat.reduceSub, Nat.reduceMul, Nat.reduceLeDiff, Nat.reduceLT, Nat.reduceMod, Nat.reduceDiv, Int.reduceToNat, Nat.min_eq_left, IntKind.bits, Int.reducePow, Int.reduceLT, Int.reduceLE, Int.reduceEq, Int.reduceNe, Int.reduceAdd, Int.reduceSub, and_self, reduceCtorEq, decide_eq_true_eq, decide_eq_false_iff_not, eq_self, implies_true, exists_const, Option.isNone_some, Option.isNone_none, Option.isSome_some, Option.isSome_none, Option.getD_some]
  intro cb hcb rb hrb
  generalize hG : hupd g cb _ = g1 at hrb ⊢
  obtain ⟨e1, qc⟩ := new_ext hG hcb
  clear hG
  generalize hG : hupd g1 rb _ = g2
  obtain ⟨e2, qr⟩ := new_ext hG hrb
  clear hG
  have E := e1.trans e2
  have qc2 := e2.at qc
  have kr : cellsAt g2 ⟨rb, 0, none⟩ 3 = some (yCs y q).toArray := cellsAt_all qr 3 rfl
  simp (disch := omega) only [dm_t, wA, wB, wL, wW, wY, Int.fdiv_eq_ediv_of_nonneg, Int.tdiv_eq_ediv_of_nonneg, Int.tmod_eq_emod_of_nonneg, chk_pos, decT, decF, br_pos, br_neg, wX, ↓reduceIte, Nat.reduceEqDiff, Nat.reduceAdd, Nat.reduceSub, Nat.reduceMul, Nat.reduceLeDiff, Nat.reduceLT, Nat.reduceMod, Nat.reduceDiv, Int.reduceToNat, Nat.min_eq_left, IntKind.bits, Int.reducePow, Int.reduceLT, Int.reduceLE, Int.reduceEq, Int.reduceNe, Int.reduceAdd, Int.reduceSub, and_self, reduceCtorEq, decide_eq_true_eq, decide_eq_false_iff_not, eq_self, implies_true, exists_const, Option.isNone_some, Option.isNone_none, Option.isSome_some, Option.isSome_none, Option.getD_some, (caC qc2).ca, kr]
  refine (noneL_ok (.inl rfl) hm (hx.ext E) (hy.ext E)).k ?_
  rintro _ g3 ⟨rfl, e3⟩
  simp (disch := omega) only [dm_t, wA, wB, wL, wW, wY, Int.fdiv_eq_ediv_of_nonneg, Int.tdiv_eq_ediv_of_nonneg, Int.tmod_eq_emod_of_nonneg, chk_pos, decT, decF, br_pos, br_neg, wX, ↓reduceIte, Nat.reduceEqDiff, Nat.reduceAdd, Nat.reduceSub, Nat.reduceMul, Nat.reduceLeDiff, Nat.reduceLT, Nat.reduceMod, Nat.reduceDiv, Int.reduceToNat, Nat.min_eq_left, IntKind.bits, Int.reducePow, Int.reduceLT, Int.reduceLE, Int.reduceEq, Int.reduceNe, Int.reduceAdd, Int.reduceSub, and_self, reduceCtorEq, decide_eq_true_eq, decide_eq_false_iff_not, eq_self, implies_true, exists_const, Option.isNone_some, Option.isNone_none, Option.isSome_some, Option.isSome_none, Option.getD_some]
  intro p hp
  have E4 : ∀ o, Ext g (hupd g3 p o) := fun o => (E.trans e3).trans (Ext.new hp o)
  have kr : ∀ o, cellsAt (hupd g3 p o) ⟨rb, 0, none⟩ 3 = some (yCs y q).toArray := fun o => cellsAt_all ((Ext.new hp o).at (e3.at qr)) 3 rfl
  have kc : ∀ o, cellsAt (hupd g3 p o) ⟨cb, 0, none⟩ 5 = some (cCs x r).toArray := fun o => cellsAt_all ((Ext.new hp o).at (e3.at qc2)) 5 rfl
  simp (disch := omega) only [dm_t, wA, wB, wL, wW, wY, Int.fdiv_eq_ediv_of_nonneg, Int.tdiv_eq_ediv_of_nonneg, Int.tmod_eq_emod_of_nonneg, chk_pos, decT, decF, br_pos, br_neg, wX, ↓reduceIte, Nat.reduceEqDiff, Nat.reduceAdd, Nat.reduceSub, Nat.reduceMul, Nat.reduceLeDiff, Nat.reduceLT, Nat.reduceMod, Nat.reduceDiv, Int.reduceToNat, Nat.min_eq_left, IntKind.bits, Int.reducePow, Int.reduceLT, Int.reduceLE, Int.reduceEq, Int.reduceNe, Int.reduceAdd, Int.reduceSub, and_self, reduceCtorEq, decide_eq_true_eq, decide_eq_false_iff_not, eq_self, implies_true, exists_const, Option.isNone_some, Option.isNone_none, Option.isSome_some, Option.isSome_none, Option.getD_some, kc, kr]
  refine (noneL_ok (.inr ⟨p, rfl, hupd_same _ _ _⟩) hm (hx.ext (E4 _)) (hy.ext (E4 _))).k ?_
  rintro _ g5 ⟨rfl, e5⟩
  simp (disch := omega) only [dm_t, wA, wB, wL, wW, wY, Int.fdiv_eq_ediv_of_nonneg, Int.tdiv_eq_ediv_of_nonneg, Int.tmod_eq_emod_of_nonneg, chk_pos, decT, decF, br_pos, br_neg, wX, ↓reduceIte, Nat.reduceEqDiff, Nat.reduceAdd, Nat.reduceSub, Nat.reduceMul, Nat.reduceLeDiff, Nat.reduceLT, Nat.reduceMod, Nat.reduceDiv, Int.reduceToNat, Nat.min_eq_left, IntKind.bits, Int.reducePow, Int.reduceLT, Int.reduceLE, Int.reduceEq, Int.reduceNe, Int.reduceAdd, Int.reduceSub, and_self, reduceCtorEq, decide_eq_true_eq, decide_eq_false_iff_not, eq_self, implies_true, exists_const, Option.isNone_some, Option.isNone_none, Option.isSome_some, Option.isSome_none, Option.getD_some]
  intro p2 hp2
  simp (disch := omega) only [dm_t, wA, wB, wL, wW, wY, Int.fdiv_eq_ediv_of_nonneg, Int.tdiv_eq_ediv_of_nonneg, Int.tmod_eq_emod_of_nonneg, chk_pos, decT, decF, br_pos, br_neg, wX, ↓reduceIte, Nat.reduceEqDiff, Nat.reduceAdd, Nat.reduceSub, Nat.reduceMul, Nat.reduceLeDiff, Nat.reduceLT, Nat.reduceMod, Nat.reduceDiv, Int.reduceToNat, Nat.min_eq_left, IntKind.bits, Int.reducePow, Int.reduceLT, Int.reduceLE, Int.reduceEq, Int.reduceNe, Int.reduceAdd, Int.reduceSub, and_self, reduceCtorEq, decide_eq_true_eq, decide_eq_false_iff_not, eq_self, implies_true, exists_const, Option.isNone_some, Option.isNone_none, Option.isSome_some, Option.isSome_none, Option.getD_some]
  refine (Same_nn (.inl rfl) (.inr ⟨p2, rfl, hupd_same _ _ _⟩)).k ?_
  rintro _ g6 ⟨rfl, rfl⟩
  simp (disch := omega) only [dm_t, wA, wB, wL, wW, wY, Int.fdiv_eq_ediv_of_nonneg, Int.tdiv_eq_ediv_of_nonneg, Int.tmod_eq_emod_of_nonneg, chk_pos, decT, decF, br_pos, br_neg, wX, ↓reduceIte, Nat.reduceEqDiff, Nat.reduceAdd, Nat.reduceSub, Nat.reduceMul, Nat.reduceLeDiff, Nat.reduceLT, Nat.reduceMod, Nat.reduceDiv, Int.reduceToNat, Nat.min_eq_left, IntKind.bits, Int.reducePow, Int.reduceLT, Int.reduceLE, Int.reduceEq, Int.reduceNe, Int.reduceAdd, Int.reduceSub, and_self, reduceCtorEq, decide_eq_true_eq, decide_eq_false_iff_not, eq_self, implies_true, exists_const, Option.isNone_some, Option.isNone_none, Option.isSome_some, Option.isSome_none, Option.getD_some]
  refine (known_ok _).k ?_
  rintro _ g7 ⟨rfl, e7⟩
  simp (disch := omega) only [dm_t, wA, wB, wL, wW, wY, Int.fdiv_eq_ediv_of_nonneg, Int.tdiv_eq_ediv_of_nonneg, Int.tmod_eq_emod_of_nonneg, chk_pos, decT, decF, br_pos, br_neg, wX, ↓reduceIte, Nat.reduceEqDiff, Nat.reduceAdd, Nat.reduceSub, Nat.reduceMul, Nat.reduceLeDiff, Nat.reduceLT, Nat.reduceMod, Nat.reduceDiv, Int.reduceToNat, Nat.min_eq_left, IntKind.bits, Int.reducePow, Int.reduceLT, Int.reduceLE, Int.reduceEq, Int.reduceNe, Int.reduceAdd, Int.reduceSub, and_self, reduceCtorEq, decide_eq_true_eq, decide_eq_false_iff_not, eq_self, implies_true, exists_const, Option.isNone_some, Option.isNone_none, Option.isSome_some, Option.isSome_none, Option.getD_some]
  exact (((E4 _).trans e5).trans (Ext.new hp2 _)).trans e7
end Go.Proofs.Ytpgkkpjdajkobaa.mo
