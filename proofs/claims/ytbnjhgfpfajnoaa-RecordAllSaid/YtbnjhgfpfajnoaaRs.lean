/-
  All: batches, one by one.
-/
import Derived.Test.YtbnjhgfpfajnoaaRo
namespace Go.Proofs.Ytbnjhgfpfajnoaa.rr
open Go.Proofs.Ytbnjhgfpfajnoaa
set_option linter.unusedVariables false
set_option linter.unusedSimpArgs false
theorem All_ok {h : H} {v : Value} {l : List UInt8} (hb : By nos h v l) (hl : l.length ≤ 140737488355328) :
    Ok Try.prog 12 #[v] h fun r h' => ∃ b w, r = .func (.func 37) #[] #[.pointer (some ⟨b, 0, none⟩)] ∧ h b = none ∧ h' b = some (.cells #[w] 22) ∧ OwB (fun y => h y = none ∧ y ≠ b) h' 5 w l ∧ Ext h h' := by
  obtain ⟨sa, sc, rfl⟩ := hb.len
  refine c12_ok (args := [_]) (by simp) ?_
  simp (disch := omega) only [dm_t, wA, wB, wL, wW, wY, Int.fdiv_eq_ediv_of_nonneg, Int.tdiv_eq_ediv_of_nonneg, Int.tmod_eq_emod_of_nonneg, chk_pos, decT, decF, br_pos, br_neg, wX, ↓reduceIte, Nat.reduceEqDiff, Nat.reduceAdd, Nat.reduceSub, Nat.reduceMul, Nat.reduceLeDiff, Nat.reduceLT, Nat.reduceMod, Nat.reduceDiv, Int.reduceToNat, Nat.min_eq_left, IntKind.bits, Int.reducePow, Int.reduceLT, Int.reduceLE, Int.reduceEq, Int.reduceNe, Int.reduceAdd, Int.reduceSub, and_self, reduceCtorEq, decide_eq_true_eq, decide_eq_false_iff_not, eq_self, implies_true, exists_const, Option.isNone_some, Option.isNone_none, Option.isSome_some, Option.isSome_none, Option.getD_some]
  intro b hbn
  generalize hG : hupd h b _ = g1
  obtain ⟨e1, qb⟩ := new_ext hG hbn
  clear hG
  have b0 : cellAt g1 ⟨b, 0, none⟩ = some (.slice sa l.length sc) := by rw [cellAt_of qb]; rfl
  simp (disch := omega) only [dm_t, wA, wB, wL, wW, wY, Int.fdiv_eq_ediv_of_nonneg, Int.tdiv_eq_ediv_of_nonneg, Int.tmod_eq_emod_of_nonneg, chk_pos, decT, decF, br_pos, br_neg, wX, ↓reduceIte, Nat.reduceEqDiff, Nat.reduceAdd, Nat.reduceSub, Nat.reduceMul, Nat.reduceLeDiff, Nat.reduceLT, Nat.reduceMod, Nat.reduceDiv, Int.reduceToNat, Nat.min_eq_left, IntKind.bits, Int.reducePow, Int.reduceLT, Int.reduceLE, Int.reduceEq, Int.reduceNe, Int.reduceAdd, Int.reduceSub, and_self, reduceCtorEq, decide_eq_true_eq, decide_eq_false_iff_not, eq_self, implies_true, exists_const, Option.isNone_some, Option.isNone_none, Option.isSome_some, Option.isSome_none, Option.getD_some, b0]
  refine (Clone_ok (SlK.ext hb e1) hl).k ?_
  rintro w g2 ⟨ow, e2⟩
  obtain ⟨wa, wc, rfl⟩ := By.len (OwK.s0 ow)
  simp (disch := omega) only [dm_t, wA, wB, wL, wW, wY, Int.fdiv_eq_ediv_of_nonneg, Int.tdiv_eq_ediv_of_nonneg, Int.tmod_eq_emod_of_nonneg, chk_pos, decT, decF, br_pos, br_neg, wX, ↓reduceIte, Nat.reduceEqDiff, Nat.reduceAdd, Nat.reduceSub, Nat.reduceMul, Nat.reduceLeDiff, Nat.reduceLT, Nat.reduceMod, Nat.reduceDiv, Int.reduceToNat, Nat.min_eq_left, IntKind.bits, Int.reducePow, Int.reduceLT, Int.reduceLE, Int.reduceEq, Int.reduceNe, Int.reduceAdd, Int.reduceSub, and_self, reduceCtorEq, decide_eq_true_eq, decide_eq_false_iff_not, eq_self, implies_true, exists_const, Option.isNone_some, Option.isNone_none, Option.isSome_some, Option.isSome_none, Option.getD_some]
  refine storeH_all (vs := [.slice wa l.length wc]) (e2.at qb) rfl rfl ?_
  generalize hG : hupd g2 b _ = g3
  have q3 : g3 b = some (.cells #[.slice wa l.length wc] 22) := by rw [← hG]; exact hupd_same _ _ _
  have f : Fr (fun y => y = b) g2 g3 := by rw [← hG]; exact Fr.upd (S := fun y => y = b) rfl _
  clear hG
  simp (disch := omega) only [dm_t, wA, wB, wL, wW, wY, Int.fdiv_eq_ediv_of_nonneg, Int.tdiv_eq_ediv_of_nonneg, Int.tmod_eq_emod_of_nonneg, chk_pos, decT, decF, br_pos, br_neg, wX, ↓reduceIte, Nat.reduceEqDiff, Nat.reduceAdd, Nat.reduceSub, Nat.reduceMul, Nat.reduceLeDiff, Nat.reduceLT, Nat.reduceMod, Nat.reduceDiv, Int.reduceToNat, Nat.min_eq_left, IntKind.bits, Int.reducePow, Int.reduceLT, Int.reduceLE, Int.reduceEq, Int.reduceNe, Int.reduceAdd, Int.reduceSub, and_self, reduceCtorEq, decide_eq_true_eq, decide_eq_false_iff_not, eq_self, implies_true, exists_const, Option.isNone_some, Option.isNone_none, Option.isSome_some, Option.isSome_none, Option.getD_some]
  refine ⟨b, _, rfl, hbn, q3, ?_, Ext.step' (e1.trans e2) f fun y hy => by rw [hy]; exact hbn⟩
  have o2 : OwB (fun y => h y = none ∧ y ≠ b) g2 5 (.slice wa l.length wc) l := OwK.mono ow fun x o _ hx => ⟨e1.bk hx, fun hxb => by rw [hxb, qb] at hx; cases hx⟩
  exact OwK.fr o2 f fun y hy ho _ => ho.2 hy
/-- What All tells in round i. -/
def allA (l : List UInt8) (i : Nat) (h0 h : H) (args : List Value) : Prop :=
  ∃ w, args = [.int .i64 (szs ((allB l 0).take i) : Int), .agg #[.int .i64 ((allB l 0).getD i (badR 0)).base, w]] ∧
    OwQ (WRow 5 fun y => h0 y = none) (fun y => h0 y ≠ none) rc (fun y => h0 y = none) h 39 w ((allB l 0).getD i (badR 0)).recs
theorem All_it {b : Nat} {w : Value} {l : List UInt8} (hl : l.length ≤ 140737488355328) :
    RngA Try.prog 37 #[.pointer (some ⟨b, 0, none⟩)] (allB l 0).length (allA l) (fun h => h b = some (.cells #[w] 22) ∧ By nos h w l) := by
  intro L J Jx h X hJ hE hy h0
  have key : Ok Try.prog 37 #[.func (.yield L) #[] #[], .pointer (some ⟨b, 0, none⟩)] h fun _ h' => J (allB l 0).length h' ∨ ∃ i, i < (allB l 0).length ∧ Jx (i + 1) h' := by
    refine c37_ok (args := [_, _]) (by simp) ?_
    simp (disch := omega) only [dm_t, wA, wB, wL, wW, wY, Int.fdiv_eq_ediv_of_nonneg, Int.tdiv_eq_ediv_of_nonneg, Int.tmod_eq_emod_of_nonneg, chk_pos, decT, decF, br_pos, br_neg, wX, ↓reduceIte, Nat.reduceEqDiff, Nat.reduceAdd, Nat.reduceSub, Nat.reduceMul, Nat.reduceLeDiff, Nat.reduceLT, Nat.reduceMod, Nat.reduceDiv, Int.reduceToNat, Nat.min_eq_left, IntKind.bits, Int.reducePow, Int.reduceLT, Int.reduceLE, Int.reduceEq, Int.reduceNe, Int.reduceAdd, Int.reduceSub, and_self, reduceCtorEq, decide_eq_true_eq, decide_eq_false_iff_not, eq_self, implies_true, exists_const, Option.isNone_some, Option.isNone_none, Option.isSome_some, Option.isSome_none, Option.getD_some]
    refine vc_loop1 (fun vi h' => ∃ rs f, vi = .int .i64 (szs rs : Int) ∧ WkI l 0 rs f ∧ J rs.length h') (fun vi _ => l.length - m1 vi) ?_ ?_
    · simp (disch := omega) only [dm_t, wA, wB, wL, wW, wY, Int.fdiv_eq_ediv_of_nonneg, Int.tdiv_eq_ediv_of_nonneg, Int.tmod_eq_emod_of_nonneg, chk_pos, decT, decF, br_pos, br_neg, wX, ↓reduceIte, Nat.reduceEqDiff, Nat.reduceAdd, Nat.reduceSub, Nat.reduceMul, Nat.reduceLeDiff, Nat.reduceLT, Nat.reduceMod, Nat.reduceDiv, Int.reduceToNat, Nat.min_eq_left, IntKind.bits, Int.reducePow, Int.reduceLT, Int.reduceLE, Int.reduceEq, Int.reduceNe, Int.reduceAdd, Int.reduceSub, and_self, reduceCtorEq, decide_eq_true_eq, decide_eq_false_iff_not, eq_self, implies_true, exists_const, Option.isNone_some, Option.isNone_none, Option.isSome_some, Option.isSome_none, Option.getD_some]
      exact ⟨[], _, rfl, wk0 (Nat.zero_le _), h0⟩
    rintro _ h1 ⟨rs, f, rfl, W, hj⟩
    obtain ⟨hb1, hs1⟩ := hJ _ _ hj
    have hp0 : 0 + szs rs = szs rs := Nat.zero_add _
    have hle := W.le
    have hra := readAt_nat l W.le
    have hst := @wk_step l 0 f rs W
    have hsz := @wk_size l (0 + szs rs) W.le
    have hend := @wk_end l 0 f rs W
    rw [hp0] at hle hra hst hsz hend
    simp (disch := omega) only [dm_t, wA, wB, wL, wW, wY, Int.fdiv_eq_ediv_of_nonneg, Int.tdiv_eq_ediv_of_nonneg, Int.tmod_eq_emod_of_nonneg, chk_pos, decT, decF, br_pos, br_neg, wX, ↓reduceIte, Nat.reduceEqDiff, Nat.reduceAdd, Nat.reduceSub, Nat.reduceMul, Nat.reduceLeDiff, Nat.reduceLT, Nat.reduceMod, Nat.reduceDiv, Int.reduceToNat, Nat.min_eq_left, IntKind.bits, Int.reducePow, Int.reduceLT, Int.reduceLE, Int.reduceEq, Int.reduceNe, Int.reduceAdd, Int.reduceSub, and_self, reduceCtorEq, decide_eq_true_eq, decide_eq_false_iff_not, eq_self, implies_true, exists_const, Option.isNone_some, Option.isNone_none, Option.isSome_some, Option.isSome_none, Option.getD_some, cellAt_of hb1]
    refine (Read_ok hs1 hl _ (by omega)).k ?_
    rw [hra]
    rintro _ g2 ⟨v, rfl, ow, e2⟩
    simp (disch := omega) only [dm_t, wA, wB, wL, wW, wY, Int.fdiv_eq_ediv_of_nonneg, Int.tdiv_eq_ediv_of_nonneg, Int.tmod_eq_emod_of_nonneg, chk_pos, decT, decF, br_pos, br_neg, wX, ↓reduceIte, Nat.reduceEqDiff, Nat.reduceAdd, Nat.reduceSub, Nat.reduceMul, Nat.reduceLeDiff, Nat.reduceLT, Nat.reduceMod, Nat.reduceDiv, Int.reduceToNat, Nat.min_eq_left, IntKind.bits, Int.reducePow, Int.reduceLT, Int.reduceLE, Int.reduceEq, Int.reduceNe, Int.reduceAdd, Int.reduceSub, and_self, reduceCtorEq, decide_eq_true_eq, decide_eq_false_iff_not, eq_self, implies_true, exists_const, Option.isNone_some, Option.isNone_none, Option.isSome_some, Option.isSome_none, Option.getD_some]
    intro xb hxb
    obtain ⟨va, vc', rfl⟩ := ow.l.len
    simp (disch := omega) only [dm_t, wA, wB, wL, wW, wY, Int.fdiv_eq_ediv_of_nonneg, Int.tdiv_eq_ediv_of_nonneg, Int.tmod_eq_emod_of_nonneg, chk_pos, decT, decF, br_pos, br_neg, wX, ↓reduceIte, Nat.reduceEqDiff, Nat.reduceAdd, Nat.reduceSub, Nat.reduceMul, Nat.reduceLeDiff, Nat.reduceLT, Nat.reduceMod, Nat.reduceDiv, Int.reduceToNat, Nat.min_eq_left, IntKind.bits, Int.reducePow, Int.reduceLT, Int.reduceLE, Int.reduceEq, Int.reduceNe, Int.reduceAdd, Int.reduceSub, and_self, reduceCtorEq, decide_eq_true_eq, decide_eq_false_iff_not, eq_self, implies_true, exists_const, Option.isNone_some, Option.isNone_none, Option.isSome_some, Option.isSome_none, Option.getD_some]
    refine storeH_all (vs := [_, _]) (hupd_same _ _ _) rfl rfl ?_
    rw [hupd_hupd]
    generalize hG : hupd g2 xb _ = g3
    obtain ⟨e3, qx⟩ := new_ext hG hxb
    clear hG
    by_cases he : (readP (l.drop (szs rs))).e = 0
    · obtain ⟨k, W'⟩ := hst he
      obtain ⟨z1, z2, z3, z4⟩ := hsz he
      have hz := szs_snoc rs (readP (l.drop (szs rs)))
      have hN : rs.length < (allB l 0).length := by rw [W'.all]; simp
      have ht : (allB l 0).take rs.length = rs := by rw [W.all]; simp
      have hg : (allB l 0).getD rs.length (badR 0) = readP (l.drop (szs rs)) := by rw [W'.all]; simp
      have hA : allA l rs.length h1 g3 [.int .i64 (szs rs : Int), .agg #[.int .i64 (readP (l.drop (szs rs))).base, .slice va (readP (l.drop (szs rs))).recs.length vc']] := by
        refine ⟨_, by rw [ht, hg], ?_⟩
        rw [hg]
        exact OwQ.ext ow e3 fun r hr => hr.ext e3
      have hy1 := hy rs.length hN h1 g3 _ hj (e2.trans e3) hA
      rw [z3]
      simp (disch := omega) only [dm_t, wA, wB, wL, wW, wY, Int.fdiv_eq_ediv_of_nonneg, Int.tdiv_eq_ediv_of_nonneg, Int.tmod_eq_emod_of_nonneg, chk_pos, decT, decF, br_pos, br_neg, wX, ↓reduceIte, Nat.reduceEqDiff, Nat.reduceAdd, Nat.reduceSub, Nat.reduceMul, Nat.reduceLeDiff, Nat.reduceLT, Nat.reduceMod, Nat.reduceDiv, Int.reduceToNat, Nat.min_eq_left, IntKind.bits, Int.reducePow, Int.reduceLT, Int.reduceLE, Int.reduceEq, Int.reduceNe, Int.reduceAdd, Int.reduceSub, and_self, reduceCtorEq, decide_eq_true_eq, decide_eq_false_iff_not, eq_self, implies_true, exists_const, Option.isNone_some, Option.isNone_none, Option.isSome_some, Option.isSome_none, Option.getD_some, he, cellsAt_all qx 2 rfl]
      refine hy1.k ?_
      rintro (_ | _) h2 hj3
      · simp (disch := omega) only [dm_t, wA, wB, wL, wW, wY, Int.fdiv_eq_ediv_of_nonneg, Int.tdiv_eq_ediv_of_nonneg, Int.tmod_eq_emod_of_nonneg, chk_pos, decT, decF, br_pos, br_neg, wX, ↓reduceIte, Nat.reduceEqDiff, Nat.reduceAdd, Nat.reduceSub, Nat.reduceMul, Nat.reduceLeDiff, Nat.reduceLT, Nat.reduceMod, Nat.reduceDiv, Int.reduceToNat, Nat.min_eq_left, IntKind.bits, Int.reducePow, Int.reduceLT, Int.reduceLE, Int.reduceEq, Int.reduceNe, Int.reduceAdd, Int.reduceSub, and_self, reduceCtorEq, decide_eq_true_eq, decide_eq_false_iff_not, eq_self, implies_true, exists_const, Option.isNone_some, Option.isNone_none, Option.isSome_some, Option.isSome_none, Option.getD_some]
        exact .inr ⟨rs.length, hN, by simpa using hj3⟩
      · simp (disch := omega) only [dm_t, wA, wB, wL, wW, wY, Int.fdiv_eq_ediv_of_nonneg, Int.tdiv_eq_ediv_of_nonneg, Int.tmod_eq_emod_of_nonneg, chk_pos, decT, decF, br_pos, br_neg, wX, ↓reduceIte, Nat.reduceEqDiff, Nat.reduceAdd, Nat.reduceSub, Nat.reduceMul, Nat.reduceLeDiff, Nat.reduceLT, Nat.reduceMod, Nat.reduceDiv, Int.reduceToNat, Nat.min_eq_left, IntKind.bits, Int.reducePow, Int.reduceLT, Int.reduceLE, Int.reduceEq, Int.reduceNe, Int.reduceAdd, Int.reduceSub, and_self, reduceCtorEq, decide_eq_true_eq, decide_eq_false_iff_not, eq_self, implies_true, exists_const, Option.isNone_some, Option.isNone_none, Option.isSome_some, Option.isSome_none, Option.getD_some]
        refine ⟨⟨rs ++ [readP (l.drop (szs rs))], k, by rw [hz, Int.natCast_add], W', by simpa using hj3⟩, ?_⟩
        show l.length - Int.toNat ((szs rs : Int) + ((readP (l.drop (szs rs))).size.toNat : Int)) < l.length - Int.toNat (szs rs : Int)
        rw [← Int.natCast_add, Int.toNat_natCast, Int.toNat_natCast]
        omega
    · have hall := hend he
      simp (disch := omega) only [dm_t, wA, wB, wL, wW, wY, Int.fdiv_eq_ediv_of_nonneg, Int.tdiv_eq_ediv_of_nonneg, Int.tmod_eq_emod_of_nonneg, chk_pos, decT, decF, br_pos, br_neg, wX, ↓reduceIte, Nat.reduceEqDiff, Nat.reduceAdd, Nat.reduceSub, Nat.reduceMul, Nat.reduceLeDiff, Nat.reduceLT, Nat.reduceMod, Nat.reduceDiv, Int.reduceToNat, Nat.min_eq_left, IntKind.bits, Int.reducePow, Int.reduceLT, Int.reduceLE, Int.reduceEq, Int.reduceNe, Int.reduceAdd, Int.reduceSub, and_self, reduceCtorEq, decide_eq_true_eq, decide_eq_false_iff_not, eq_self, implies_true, exists_const, Option.isNone_some, Option.isNone_none, Option.isSome_some, Option.isSome_none, Option.getD_some, he]
      left
      rw [hall]
      exact hE _ _ _ hj (e2.trans e3)
  exact key.k fun _ _ h => h
end Go.Proofs.Ytbnjhgfpfajnoaa.rr
