/-
  The document's Walk.
-/
import Derived.Test.YtbnjhgfpfajnoaaRv
namespace Go.Proofs.Ytbnjhgfpfajnoaa.rr
open Go.Proofs.Ytbnjhgfpfajnoaa
set_option linter.unusedVariables false
set_option linter.unusedSimpArgs false
theorem DWalk_ok {h : H} {v : Value} {l : List UInt8} (hb : By nos h v l) (hl : l.length ≤ 140737488355328) (p : Int) (hp : -9223372036854775808 ≤ p ∧ p ≤ 9223372036854775807) :
    Ok Try.prog 23 #[v, .int .i64 p] h fun r h' => r = walkV l p ∧ Ext h h' := by
  obtain ⟨va, vc', rfl⟩ := hb.len
  refine c23_ok (args := [_, _]) (by simp) ?_
  simp (disch := omega) only [dm_t, wA, wB, wL, wW, wY, Int.fdiv_eq_ediv_of_nonneg, Int.tdiv_eq_ediv_of_nonneg, Int.tmod_eq_emod_of_nonneg, chk_pos, decT, decF, br_pos, br_neg, wX, ↓reduceIte, Nat.reduceEqDiff, Nat.reduceAdd, Nat.reduceSub, Nat.reduceMul, Nat.reduceLeDiff, Nat.reduceLT, Nat.reduceMod, Nat.reduceDiv, Int.reduceToNat, Nat.min_eq_left, IntKind.bits, Int.reducePow, Int.reduceLT, Int.reduceLE, Int.reduceEq, Int.reduceNe, Int.reduceAdd, Int.reduceSub, and_self, reduceCtorEq, decide_eq_true_eq, decide_eq_false_iff_not, eq_self, implies_true, exists_const, Option.isNone_some, Option.isNone_none, Option.isSome_some, Option.isSome_none, Option.getD_some]
  intro xb hxb
  generalize hG : hupd h xb _ = g1
  obtain ⟨e1, qx⟩ := new_ext hG hxb
  clear hG
  have st : ∀ {G : H} {K : H → Prop} {cs : Array Value} (a b c d : Value), G xb = some (.cells cs 49) → cs.size = 4 → isCell a = true → isCell b = true → isCell c = true → isCell d = true → (∀ G', G' xb = some (.cells #[a, b, c, d] 49) → Fr (fun y => y = xb) G G' → K G') → storeH G ⟨xb, 0, none⟩ [a, b, c, d] K := by
    intro G K cs a b c d q hs ha hb hc hd hK
    exact storeH_all q (by rw [hs]; rfl) (by simp [ha, hb, hc, hd]) (hK _ (hupd_same _ _ _) (Fr.upd (S := fun y => y = xb) rfl _))
  by_cases c1 : p < 0
  · simp (disch := omega) only [dm_t, wA, wB, wL, wW, wY, Int.fdiv_eq_ediv_of_nonneg, Int.tdiv_eq_ediv_of_nonneg, Int.tmod_eq_emod_of_nonneg, chk_pos, decT, decF, br_pos, br_neg, wX, ↓reduceIte, Nat.reduceEqDiff, Nat.reduceAdd, Nat.reduceSub, Nat.reduceMul, Nat.reduceLeDiff, Nat.reduceLT, Nat.reduceMod, Nat.reduceDiv, Int.reduceToNat, Nat.min_eq_left, IntKind.bits, Int.reducePow, Int.reduceLT, Int.reduceLE, Int.reduceEq, Int.reduceNe, Int.reduceAdd, Int.reduceSub, and_self, reduceCtorEq, decide_eq_true_eq, decide_eq_false_iff_not, eq_self, implies_true, exists_const, Option.isNone_some, Option.isNone_none, Option.isSome_some, Option.isSome_none, Option.getD_some]
    refine st _ _ _ _ qx rfl rfl rfl rfl rfl fun G q f => ?_
    simp (disch := omega) only [dm_t, wA, wB, wL, wW, wY, Int.fdiv_eq_ediv_of_nonneg, Int.tdiv_eq_ediv_of_nonneg, Int.tmod_eq_emod_of_nonneg, chk_pos, decT, decF, br_pos, br_neg, wX, ↓reduceIte, Nat.reduceEqDiff, Nat.reduceAdd, Nat.reduceSub, Nat.reduceMul, Nat.reduceLeDiff, Nat.reduceLT, Nat.reduceMod, Nat.reduceDiv, Int.reduceToNat, Nat.min_eq_left, IntKind.bits, Int.reducePow, Int.reduceLT, Int.reduceLE, Int.reduceEq, Int.reduceNe, Int.reduceAdd, Int.reduceSub, and_self, reduceCtorEq, decide_eq_true_eq, decide_eq_false_iff_not, eq_self, implies_true, exists_const, Option.isNone_some, Option.isNone_none, Option.isSome_some, Option.isSome_none, Option.getD_some, cellsAt_all q 4 rfl]
    exact ⟨by rw [walkV, if_pos (.inl c1)], Ext.step' e1 f fun y hy => by rw [hy]; exact hxb⟩
  by_cases c2 : (l.length : Int) < p
  · simp (disch := omega) only [dm_t, wA, wB, wL, wW, wY, Int.fdiv_eq_ediv_of_nonneg, Int.tdiv_eq_ediv_of_nonneg, Int.tmod_eq_emod_of_nonneg, chk_pos, decT, decF, br_pos, br_neg, wX, ↓reduceIte, Nat.reduceEqDiff, Nat.reduceAdd, Nat.reduceSub, Nat.reduceMul, Nat.reduceLeDiff, Nat.reduceLT, Nat.reduceMod, Nat.reduceDiv, Int.reduceToNat, Nat.min_eq_left, IntKind.bits, Int.reducePow, Int.reduceLT, Int.reduceLE, Int.reduceEq, Int.reduceNe, Int.reduceAdd, Int.reduceSub, and_self, reduceCtorEq, decide_eq_true_eq, decide_eq_false_iff_not, eq_self, implies_true, exists_const, Option.isNone_some, Option.isNone_none, Option.isSome_some, Option.isSome_none, Option.getD_some]
    refine st _ _ _ _ qx rfl rfl rfl rfl rfl fun G q f => ?_
    simp (disch := omega) only [dm_t, wA, wB, wL, wW, wY, Int.fdiv_eq_ediv_of_nonneg, Int.tdiv_eq_ediv_of_nonneg, Int.tmod_eq_emod_of_nonneg, chk_pos, decT, decF, br_pos, br_neg, wX, ↓reduceIte, Nat.reduceEqDiff, Nat.reduceAdd, Nat.reduceSub, Nat.reduceMul, Nat.reduceLeDiff, Nat.reduceLT, Nat.reduceMod, Nat.reduceDiv, Int.reduceToNat, Nat.min_eq_left, IntKind.bits, Int.reducePow, Int.reduceLT, Int.reduceLE, Int.reduceEq, Int.reduceNe, Int.reduceAdd, Int.reduceSub, and_self, reduceCtorEq, decide_eq_true_eq, decide_eq_false_iff_not, eq_self, implies_true, exists_const, Option.isNone_some, Option.isNone_none, Option.isSome_some, Option.isSome_none, Option.getD_some, cellsAt_all q 4 rfl]
    exact ⟨by rw [walkV, if_pos (.inr c2)], Ext.step' e1 f fun y hy => by rw [hy]; exact hxb⟩
  obtain ⟨n, rfl⟩ : ∃ n : Nat, p = (n : Int) := ⟨p.toNat, by omega⟩
  have hn : n ≤ l.length := by omega
  have hV : walkV l (n : Int) = .tuple #[.agg #[.int .i64 ((allB l n).length : Int), .int .i64 (cnt (allB l n) : Int), .int .i64 (szs (allB l n) : Int), .int .i64 (walkE l n)], .int .i64 0] := by
    rw [walkV, if_neg (by omega), Int.toNat_natCast]
  simp (disch := omega) only [dm_t, wA, wB, wL, wW, wY, Int.fdiv_eq_ediv_of_nonneg, Int.tdiv_eq_ediv_of_nonneg, Int.tmod_eq_emod_of_nonneg, chk_pos, decT, decF, br_pos, br_neg, wX, ↓reduceIte, Nat.reduceEqDiff, Nat.reduceAdd, Nat.reduceSub, Nat.reduceMul, Nat.reduceLeDiff, Nat.reduceLT, Nat.reduceMod, Nat.reduceDiv, Int.reduceToNat, Nat.min_eq_left, IntKind.bits, Int.reducePow, Int.reduceLT, Int.reduceLE, Int.reduceEq, Int.reduceNe, Int.reduceAdd, Int.reduceSub, and_self, reduceCtorEq, decide_eq_true_eq, decide_eq_false_iff_not, eq_self, implies_true, exists_const, Option.isNone_some, Option.isNone_none, Option.isSome_some, Option.isSome_none, Option.getD_some]
  intro sb hsb
  refine storeH_all (vs := [_, _, _, _]) (hupd_same _ _ _) rfl rfl ?_
  rw [hupd_hupd]
  generalize hG : hupd g1 sb _ = g2
  obtain ⟨e2, qs⟩ := new_ext hG hsb
  clear hG
  have hxs := ne_of qx hsb
  replace qx := e2.at qx
  have E2 := e1.trans e2
  have hsn : h sb = none := e1.bk hsb
  simp (disch := omega) only [dm_t, wA, wB, wL, wW, wY, Int.fdiv_eq_ediv_of_nonneg, Int.tdiv_eq_ediv_of_nonneg, Int.tmod_eq_emod_of_nonneg, chk_pos, decT, decF, br_pos, br_neg, wX, ↓reduceIte, Nat.reduceEqDiff, Nat.reduceAdd, Nat.reduceSub, Nat.reduceMul, Nat.reduceLeDiff, Nat.reduceLT, Nat.reduceMod, Nat.reduceDiv, Int.reduceToNat, Nat.min_eq_left, IntKind.bits, Int.reducePow, Int.reduceLT, Int.reduceLE, Int.reduceEq, Int.reduceNe, Int.reduceAdd, Int.reduceSub, and_self, reduceCtorEq, decide_eq_true_eq, decide_eq_false_iff_not, eq_self, implies_true, exists_const, Option.isNone_some, Option.isNone_none, Option.isSome_some, Option.isSome_none, Option.getD_some]
  refine vc_loop0 (fun g => ∃ rs f, WkI l n rs f ∧ g xb = some (.cells #[.int .i64 0, .int .i64 0, .int .i64 0, .int .i64 0] 49) ∧ g sb = some (.cells #[.int .i64 (rs.length : Int), .int .i64 (cnt rs : Int), .int .i64 (szs rs : Int), .int .i64 0] 49) ∧ Ext h g) (fun g => l.length - (match g sb with | some (.cells c _ _) => m1 (c.getD 2 undef) | _ => 0)) ?_ ?_
  · exact ⟨[], _, wk0 hn, qx, qs, E2⟩
  rintro g ⟨rs, f, W, qx, qs, E⟩
  have hW1 := W.le
  have hW2 := W.cn
  have hW3 := W.ln
  have s2 : cellAt g ⟨sb, 2, none⟩ = some (.int .i64 (szs rs : Int)) := by rw [cellAt_of qs]; rfl
  have hra := readAt_nat l W.le
  have hP : (n : Int) + (szs rs : Int) = ((n + szs rs : Nat) : Int) := (Int.natCast_add _ _).symm
  simp (disch := omega) only [dm_t, wA, wB, wL, wW, wY, Int.fdiv_eq_ediv_of_nonneg, Int.tdiv_eq_ediv_of_nonneg, Int.tmod_eq_emod_of_nonneg, chk_pos, decT, decF, br_pos, br_neg, wX, ↓reduceIte, Nat.reduceEqDiff, Nat.reduceAdd, Nat.reduceSub, Nat.reduceMul, Nat.reduceLeDiff, Nat.reduceLT, Nat.reduceMod, Nat.reduceDiv, Int.reduceToNat, Nat.min_eq_left, IntKind.bits, Int.reducePow, Int.reduceLT, Int.reduceLE, Int.reduceEq, Int.reduceNe, Int.reduceAdd, Int.reduceSub, and_self, reduceCtorEq, decide_eq_true_eq, decide_eq_false_iff_not, eq_self, implies_true, exists_const, Option.isNone_some, Option.isNone_none, Option.isSome_some, Option.isSome_none, Option.getD_some, s2]
  rw [hP]
  refine (DRead_ok (SlK.ext hb E) hl _ (by omega)).k ?_
  rw [hra]
  rintro _ g2' ⟨w, rfl, ow, e2'⟩
  simp (disch := omega) only [dm_t, wA, wB, wL, wW, wY, Int.fdiv_eq_ediv_of_nonneg, Int.tdiv_eq_ediv_of_nonneg, Int.tmod_eq_emod_of_nonneg, chk_pos, decT, decF, br_pos, br_neg, wX, ↓reduceIte, Nat.reduceEqDiff, Nat.reduceAdd, Nat.reduceSub, Nat.reduceMul, Nat.reduceLeDiff, Nat.reduceLT, Nat.reduceMod, Nat.reduceDiv, Int.reduceToNat, Nat.min_eq_left, IntKind.bits, Int.reducePow, Int.reduceLT, Int.reduceLE, Int.reduceEq, Int.reduceNe, Int.reduceAdd, Int.reduceSub, and_self, reduceCtorEq, decide_eq_true_eq, decide_eq_false_iff_not, eq_self, implies_true, exists_const, Option.isNone_some, Option.isNone_none, Option.isSome_some, Option.isSome_none, Option.getD_some]
  intro yb hyb
  obtain ⟨wa, wc, rfl⟩ := ow.len
  simp (disch := omega) only [dm_t, wA, wB, wL, wW, wY, Int.fdiv_eq_ediv_of_nonneg, Int.tdiv_eq_ediv_of_nonneg, Int.tmod_eq_emod_of_nonneg, chk_pos, decT, decF, br_pos, br_neg, wX, ↓reduceIte, Nat.reduceEqDiff, Nat.reduceAdd, Nat.reduceSub, Nat.reduceMul, Nat.reduceLeDiff, Nat.reduceLT, Nat.reduceMod, Nat.reduceDiv, Int.reduceToNat, Nat.min_eq_left, IntKind.bits, Int.reducePow, Int.reduceLT, Int.reduceLE, Int.reduceEq, Int.reduceNe, Int.reduceAdd, Int.reduceSub, and_self, reduceCtorEq, decide_eq_true_eq, decide_eq_false_iff_not, eq_self, implies_true, exists_const, Option.isNone_some, Option.isNone_none, Option.isSome_some, Option.isSome_none, Option.getD_some]
  refine storeH_all (vs := [_, _]) (hupd_same _ _ _) rfl rfl ?_
  rw [hupd_hupd]
  generalize hG : hupd g2' yb _ = g3
  obtain ⟨e3', qy⟩ := new_ext hG hyb
  clear hG
  have e3 := e2'.trans e3'
  have qx3 := e3.at qx
  have qs3 := e3.at qs
  have E3 := E.trans e3
  have hys : sb ≠ yb := fun hh => by rw [← hh] at hyb; rw [e2'.at qs] at hyb; cases hyb
  have y1 : cellAt g3 ⟨yb, 1, none⟩ = some (.slice wa (readP (l.drop (n + szs rs))).recs.length wc) := by rw [cellAt_of qy]; rfl
  have y2 : ∀ o, cellAt (hupd g3 sb o) ⟨yb, 1, none⟩ = some (.slice wa (readP (l.drop (n + szs rs))).recs.length wc) := fun o => by rw [cellAt_look, hupd_ne _ _ hys.symm, qy]; rfl
  by_cases he : (readP (l.drop (n + szs rs))).e = 0
  · obtain ⟨k, W'⟩ := wk_step W he
    obtain ⟨z1, z2, z3, z4⟩ := wk_size W.le he
    have hz := szs_snoc rs (readP (l.drop (n + szs rs)))
    have hc := cnt_snoc rs (readP (l.drop (n + szs rs)))
    have hz' : szs rs + (readP (l.drop (n + szs rs))).size.toNat ≤ l.length := by omega
    rw [he, z3]
    generalize (readP (l.drop (n + szs rs))).size.toNat = sz at *
    clear hra
    generalize readP (l.drop (n + szs rs)) = r at *
    have qy' := qy
    simp (disch := omega) only [dm_t, wA, wB, wL, wW, wY, Int.fdiv_eq_ediv_of_nonneg, Int.tdiv_eq_ediv_of_nonneg, Int.tmod_eq_emod_of_nonneg, chk_pos, decT, decF, br_pos, br_neg, wX, ↓reduceIte, Nat.reduceEqDiff, Nat.reduceAdd, Nat.reduceSub, Nat.reduceMul, Nat.reduceLeDiff, Nat.reduceLT, Nat.reduceMod, Nat.reduceDiv, Int.reduceToNat, Nat.min_eq_left, IntKind.bits, Int.reducePow, Int.reduceLT, Int.reduceLE, Int.reduceEq, Int.reduceNe, Int.reduceAdd, Int.reduceSub, and_self, reduceCtorEq, decide_eq_true_eq, decide_eq_false_iff_not, eq_self, implies_true, exists_const, Option.isNone_some, Option.isNone_none, Option.isSome_some, Option.isSome_none, Option.getD_some, storeH_look, cellAt_look, qs3, stO_0, cellO_0, hupd_same, qy, hupd_ne, hys.symm]
    simp only [hupd_hupd]
    generalize hG : hupd g3 sb _ = G
    have q' : G sb = some (.cells #[.int .i64 ((rs.length : Int) + 1), .int .i64 ((cnt rs : Int) + (r.recs.length : Int)), .int .i64 ((szs rs : Int) + (sz : Int)), .int .i64 0] 49) := by rw [← hG]; exact hupd_same _ _ _
    have f : Fr (fun y => y = sb) g3 G := by rw [← hG]; exact Fr.upd (S := fun y => y = sb) rfl _
    clear hG
    refine ⟨⟨rs ++ [r], k, W', (by first | exact qx3 | exact f _ _ qx3 hxs), ?_, Ext.step' E3 f fun y hy => by rw [hy]; exact hsn⟩, ?_⟩
    · rw [hz, hc, List.length_append, List.length_singleton]
      simp
    · rw [qs]
      show l.length - Int.toNat ((szs rs : Int) + (sz : Int)) < l.length - Int.toNat (szs rs : Int)
      rw [← Int.natCast_add, Int.toNat_natCast, Int.toNat_natCast]
      omega
  · have hall := wk_end W he
    simp (disch := omega) only [dm_t, wA, wB, wL, wW, wY, Int.fdiv_eq_ediv_of_nonneg, Int.tdiv_eq_ediv_of_nonneg, Int.tmod_eq_emod_of_nonneg, chk_pos, decT, decF, br_pos, br_neg, wX, ↓reduceIte, Nat.reduceEqDiff, Nat.reduceAdd, Nat.reduceSub, Nat.reduceMul, Nat.reduceLeDiff, Nat.reduceLT, Nat.reduceMod, Nat.reduceDiv, Int.reduceToNat, Nat.min_eq_left, IntKind.bits, Int.reducePow, Int.reduceLT, Int.reduceLE, Int.reduceEq, Int.reduceNe, Int.reduceAdd, Int.reduceSub, and_self, reduceCtorEq, decide_eq_true_eq, decide_eq_false_iff_not, eq_self, implies_true, exists_const, Option.isNone_some, Option.isNone_none, Option.isSome_some, Option.isSome_none, Option.getD_some, he, storeH_look, cellAt_look, qs3, stO_0, cellO_0, hupd_same]
    rw [cellsAt_all (hupd_same _ _ _) 4 rfl]
    have f : ∀ o, Fr (fun y => y = sb) g3 (hupd g3 sb o) := fun o => Fr.upd (S := fun y => y = sb) rfl _
    simp (disch := omega) only [dm_t, wA, wB, wL, wW, wY, Int.fdiv_eq_ediv_of_nonneg, Int.tdiv_eq_ediv_of_nonneg, Int.tmod_eq_emod_of_nonneg, chk_pos, decT, decF, br_pos, br_neg, wX, ↓reduceIte, Nat.reduceEqDiff, Nat.reduceAdd, Nat.reduceSub, Nat.reduceMul, Nat.reduceLeDiff, Nat.reduceLT, Nat.reduceMod, Nat.reduceDiv, Int.reduceToNat, Nat.min_eq_left, IntKind.bits, Int.reducePow, Int.reduceLT, Int.reduceLE, Int.reduceEq, Int.reduceNe, Int.reduceAdd, Int.reduceSub, and_self, reduceCtorEq, decide_eq_true_eq, decide_eq_false_iff_not, eq_self, implies_true, exists_const, Option.isNone_some, Option.isNone_none, Option.isSome_some, Option.isSome_none, Option.getD_some]
    refine st _ _ _ _ (f _ _ _ qx3 hxs) rfl rfl rfl rfl rfl fun G q f2 => ?_
    simp (disch := omega) only [dm_t, wA, wB, wL, wW, wY, Int.fdiv_eq_ediv_of_nonneg, Int.tdiv_eq_ediv_of_nonneg, Int.tmod_eq_emod_of_nonneg, chk_pos, decT, decF, br_pos, br_neg, wX, ↓reduceIte, Nat.reduceEqDiff, Nat.reduceAdd, Nat.reduceSub, Nat.reduceMul, Nat.reduceLeDiff, Nat.reduceLT, Nat.reduceMod, Nat.reduceDiv, Int.reduceToNat, Nat.min_eq_left, IntKind.bits, Int.reducePow, Int.reduceLT, Int.reduceLE, Int.reduceEq, Int.reduceNe, Int.reduceAdd, Int.reduceSub, and_self, reduceCtorEq, decide_eq_true_eq, decide_eq_false_iff_not, eq_self, implies_true, exists_const, Option.isNone_some, Option.isNone_none, Option.isSome_some, Option.isSome_none, Option.getD_some, cellsAt_all q 4 rfl]
    refine ⟨?_, Ext.step' (Ext.step' E3 (f _) fun y hy => by rw [hy]; exact hsn) f2 fun y hy => by rw [hy]; exact hxb⟩
    rw [hV, walkE, hall]
end Go.Proofs.Ytbnjhgfpfajnoaa.rr
