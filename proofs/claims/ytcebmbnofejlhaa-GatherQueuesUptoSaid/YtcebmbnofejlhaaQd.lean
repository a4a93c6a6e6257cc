/-
  gather: Look, Take.
-/
import Derived.Test.YtcebmbnofejlhaaQc
namespace Go.Proofs.Ytcebmbnofejlhaa.gq
open Go.Proofs.Ytcebmbnofejlhaa rr ga
set_option linter.unusedVariables false
set_option linter.unusedSimpArgs false
/-- How many are taken. -/
def nT (take : Int) (cs : List callT.D) : Nat := if lE take cs ≠ 0 then 0 else cnt take (recsOf cs)
theorem lE0 {take : Int} {cs : List callT.D} (h : lE take cs = 0) : cs.all putB = true ∧ ¬ take < 1 ∧ chkE (recsOf cs) = 0 := by
  unfold lE at h
  split at h
  · cases h
  · rename_i h1
    split at h
    · cases h
    · rename_i h2
      exact ⟨by simpa using h1, h2, h⟩
theorem nT_le (take : Int) (cs : List callT.D) : nT take cs ≤ cs.length := by
  unfold nT
  split
  · omega
  · have := cnt_le take (recsOf cs)
    rwa [recsOf, List.length_map] at this
section
variable {S T : Nat → Prop} {h0 g g' : H} {p : Nat} {lv w : Value} {B first : Nat} {cs xs : List callT.D} {rows : List (List Value)}
theorem Look_nil (g : H) (take : Int) : Ok Try.prog 35 #[.pointer none, .int .i64 take] g fun u h' => u = .tuple #[.int .i64 0, .int .i64 1] ∧ Ext g h' := by
  refine c35_ok (args := [_, _]) (by simp) ?_
  simp (disch := omega) only [dm_t, wA, wB, wL, wW, wY, Int.fdiv_eq_ediv_of_nonneg, Int.tdiv_eq_ediv_of_nonneg, Int.tmod_eq_emod_of_nonneg, chk_pos, decT, decF, br_pos, br_neg, wX, ↓reduceIte, Nat.reduceEqDiff, Nat.reduceAdd, Nat.reduceSub, Nat.reduceMul, Nat.reduceLeDiff, Nat.reduceLT, Nat.reduceMod, Nat.reduceDiv, Int.reduceToNat, Nat.min_eq_left, IntKind.bits, Int.reducePow, Int.reduceLT, Int.reduceLE, Int.reduceEq, Int.reduceNe, Int.reduceAdd, Int.reduceSub, and_self, reduceCtorEq, decide_eq_true_eq, decide_eq_false_iff_not, eq_self, implies_true, exists_const, Option.isNone_some, Option.isNone_none, Option.isSome_some, Option.isSome_none, Option.getD_some]
  refine (lists_nil g take).k ?_
  rintro _ g2 ⟨rfl, e2⟩
  simp (disch := omega) only [dm_t, wA, wB, wL, wW, wY, Int.fdiv_eq_ediv_of_nonneg, Int.tdiv_eq_ediv_of_nonneg, Int.tmod_eq_emod_of_nonneg, chk_pos, decT, decF, br_pos, br_neg, wX, ↓reduceIte, Nat.reduceEqDiff, Nat.reduceAdd, Nat.reduceSub, Nat.reduceMul, Nat.reduceLeDiff, Nat.reduceLT, Nat.reduceMod, Nat.reduceDiv, Int.reduceToNat, Nat.min_eq_left, IntKind.bits, Int.reducePow, Int.reduceLT, Int.reduceLE, Int.reduceEq, Int.reduceNe, Int.reduceAdd, Int.reduceSub, and_self, reduceCtorEq, decide_eq_true_eq, decide_eq_false_iff_not, eq_self, implies_true, exists_const, Option.isNone_some, Option.isNone_none, Option.isSome_some, Option.isSome_none, Option.getD_some]
  exact e2
theorem Look_ok (X : RO S h0 g p lv B first cs rows) (take : Int) (hx : ∀ c ∈ cs, c.2.2.1.length ≤ 1000000) : Ok Try.prog 35 #[.pointer (some ⟨p, 0, none⟩), .int .i64 take] g fun u h' => u = .tuple #[.int .i64 (nT take cs : Nat), .int .i64 (lE take cs)] ∧ Ext g h' := by
  have hb := X.b
  refine c35_ok (args := [_, _]) (by simp) ?_
  simp (disch := omega) only [dm_t, wA, wB, wL, wW, wY, Int.fdiv_eq_ediv_of_nonneg, Int.tdiv_eq_ediv_of_nonneg, Int.tmod_eq_emod_of_nonneg, chk_pos, decT, decF, br_pos, br_neg, wX, ↓reduceIte, Nat.reduceEqDiff, Nat.reduceAdd, Nat.reduceSub, Nat.reduceMul, Nat.reduceLeDiff, Nat.reduceLT, Nat.reduceMod, Nat.reduceDiv, Int.reduceToNat, Nat.min_eq_left, IntKind.bits, Int.reducePow, Int.reduceLT, Int.reduceLE, Int.reduceEq, Int.reduceNe, Int.reduceAdd, Int.reduceSub, and_self, reduceCtorEq, decide_eq_true_eq, decide_eq_false_iff_not, eq_self, implies_true, exists_const, Option.isNone_some, Option.isNone_none, Option.isSome_some, Option.isSome_none, Option.getD_some]
  refine (lists_ok X take hx).k ?_
  rintro _ g2 ⟨w, rfl, hw, e2⟩
  by_cases he : lE take cs = 0
  · obtain ⟨h1, h2, h3⟩ := lE0 he
    have ow := hw ⟨h1, h2⟩
    have hn : nT take cs = cnt take (recsOf cs) := by rw [nT, if_neg (by rw [he]; simp)]
    rw [he, hn]
    obtain ⟨wa, wc, rfl⟩ := ow.len
    simp (disch := omega) only [dm_t, wA, wB, wL, wW, wY, Int.fdiv_eq_ediv_of_nonneg, Int.tdiv_eq_ediv_of_nonneg, Int.tmod_eq_emod_of_nonneg, chk_pos, decT, decF, br_pos, br_neg, wX, ↓reduceIte, Nat.reduceEqDiff, Nat.reduceAdd, Nat.reduceSub, Nat.reduceMul, Nat.reduceLeDiff, Nat.reduceLT, Nat.reduceMod, Nat.reduceDiv, Int.reduceToNat, Nat.min_eq_left, IntKind.bits, Int.reducePow, Int.reduceLT, Int.reduceLE, Int.reduceEq, Int.reduceNe, Int.reduceAdd, Int.reduceSub, and_self, reduceCtorEq, decide_eq_true_eq, decide_eq_false_iff_not, eq_self, implies_true, exists_const, Option.isNone_some, Option.isNone_none, Option.isSome_some, Option.isSome_none, Option.getD_some]
    refine (count_ok take ow.rep (by rw [recsOf, List.length_map]; omega) (chk0 h3).2).k ?_
    rintro _ g3 ⟨rfl, e3⟩
    simp (disch := omega) only [dm_t, wA, wB, wL, wW, wY, Int.fdiv_eq_ediv_of_nonneg, Int.tdiv_eq_ediv_of_nonneg, Int.tmod_eq_emod_of_nonneg, chk_pos, decT, decF, br_pos, br_neg, wX, ↓reduceIte, Nat.reduceEqDiff, Nat.reduceAdd, Nat.reduceSub, Nat.reduceMul, Nat.reduceLeDiff, Nat.reduceLT, Nat.reduceMod, Nat.reduceDiv, Int.reduceToNat, Nat.min_eq_left, IntKind.bits, Int.reducePow, Int.reduceLT, Int.reduceLE, Int.reduceEq, Int.reduceNe, Int.reduceAdd, Int.reduceSub, and_self, reduceCtorEq, decide_eq_true_eq, decide_eq_false_iff_not, eq_self, implies_true, exists_const, Option.isNone_some, Option.isNone_none, Option.isSome_some, Option.isSome_none, Option.getD_some]
    exact e2.trans e3
  · have hn : nT take cs = 0 := by rw [nT, if_pos he]
    rw [hn]
    simp (disch := omega) only [dm_t, wA, wB, wL, wW, wY, Int.fdiv_eq_ediv_of_nonneg, Int.tdiv_eq_ediv_of_nonneg, Int.tmod_eq_emod_of_nonneg, chk_pos, decT, decF, br_pos, br_neg, wX, ↓reduceIte, Nat.reduceEqDiff, Nat.reduceAdd, Nat.reduceSub, Nat.reduceMul, Nat.reduceLeDiff, Nat.reduceLT, Nat.reduceMod, Nat.reduceDiv, Int.reduceToNat, Nat.min_eq_left, IntKind.bits, Int.reducePow, Int.reduceLT, Int.reduceLE, Int.reduceEq, Int.reduceNe, Int.reduceAdd, Int.reduceSub, and_self, reduceCtorEq, decide_eq_true_eq, decide_eq_false_iff_not, eq_self, implies_true, exists_const, Option.isNone_some, Option.isNone_none, Option.isSome_some, Option.isSome_none, Option.getD_some, he]
    exact ⟨rfl, e2⟩
theorem Take_nil (g : H) (take : Int) : Ok Try.prog 31 #[.pointer none, .int .i64 take] g fun u h' => u = .tuple #[.slice none 0 0, .slice none 0 0, .int .i64 1] ∧ Ext g h' := by
  refine c31_ok (args := [_, _]) (by simp) ?_
  simp (disch := omega) only [dm_t, wA, wB, wL, wW, wY, Int.fdiv_eq_ediv_of_nonneg, Int.tdiv_eq_ediv_of_nonneg, Int.tmod_eq_emod_of_nonneg, chk_pos, decT, decF, br_pos, br_neg, wX, ↓reduceIte, Nat.reduceEqDiff, Nat.reduceAdd, Nat.reduceSub, Nat.reduceMul, Nat.reduceLeDiff, Nat.reduceLT, Nat.reduceMod, Nat.reduceDiv, Int.reduceToNat, Nat.min_eq_left, IntKind.bits, Int.reducePow, Int.reduceLT, Int.reduceLE, Int.reduceEq, Int.reduceNe, Int.reduceAdd, Int.reduceSub, and_self, reduceCtorEq, decide_eq_true_eq, decide_eq_false_iff_not, eq_self, implies_true, exists_const, Option.isNone_some, Option.isNone_none, Option.isSome_some, Option.isSome_none, Option.getD_some]
  refine (lists_nil g take).k ?_
  rintro _ g2 ⟨rfl, e2⟩
  simp (disch := omega) only [dm_t, wA, wB, wL, wW, wY, Int.fdiv_eq_ediv_of_nonneg, Int.tdiv_eq_ediv_of_nonneg, Int.tmod_eq_emod_of_nonneg, chk_pos, decT, decF, br_pos, br_neg, wX, ↓reduceIte, Nat.reduceEqDiff, Nat.reduceAdd, Nat.reduceSub, Nat.reduceMul, Nat.reduceLeDiff, Nat.reduceLT, Nat.reduceMod, Nat.reduceDiv, Int.reduceToNat, Nat.min_eq_left, IntKind.bits, Int.reducePow, Int.reduceLT, Int.reduceLE, Int.reduceEq, Int.reduceNe, Int.reduceAdd, Int.reduceSub, and_self, reduceCtorEq, decide_eq_true_eq, decide_eq_false_iff_not, eq_self, implies_true, exists_const, Option.isNone_some, Option.isNone_none, Option.isSome_some, Option.isSome_none, Option.getD_some]
  exact e2
theorem recs_take (cs : List callT.D) (n : Nat) : recsOf (cs.take n) = (recsOf cs).take n := by simp [recsOf]
theorem Take_ok (X : RO S h0 g p lv B first cs rows) (E : Ext h0 g) (take : Int) (hx : ∀ c ∈ cs, c.2.2.1.length ≤ 1000000) (hk : ∀ c ∈ cs, ∀ x ∈ c.2.2.1, x.2.1.length ≤ 140737488355328 ∧ x.2.2.length ≤ 140737488355328) (ht : total (recsOf cs) ≤ 1000000) (hS : ∀ y, S y → g y ≠ none) :
    Ok Try.prog 31 #[.pointer (some ⟨p, 0, none⟩), .int .i64 take] g fun u h' => ∃ v w, u = .tuple #[v, w, .int .i64 (lE take cs)] ∧ RepL (fun y => y = p ∨ isAt lv y ∨ S y) callT h' v (cs.take (nT take cs)) ∧ RepL (fun y => y = p ∨ isAt lv y ∨ S y) rc h' w (List.flatten ((recsOf cs).take (nT take cs))) ∧ (∃ rows', RO S h0 h' p lv B ((first + nT take cs) % B) (cs.drop (nT take cs)) rows') ∧ Fr (RF p lv) g h' := by
  have hb := X.b
  refine c31_ok (args := [_, _]) (by simp) ?_
  simp (disch := omega) only [dm_t, wA, wB, wL, wW, wY, Int.fdiv_eq_ediv_of_nonneg, Int.tdiv_eq_ediv_of_nonneg, Int.tmod_eq_emod_of_nonneg, chk_pos, decT, decF, br_pos, br_neg, wX, ↓reduceIte, Nat.reduceEqDiff, Nat.reduceAdd, Nat.reduceSub, Nat.reduceMul, Nat.reduceLeDiff, Nat.reduceLT, Nat.reduceMod, Nat.reduceDiv, Int.reduceToNat, Nat.min_eq_left, IntKind.bits, Int.reducePow, Int.reduceLT, Int.reduceLE, Int.reduceEq, Int.reduceNe, Int.reduceAdd, Int.reduceSub, and_self, reduceCtorEq, decide_eq_true_eq, decide_eq_false_iff_not, eq_self, implies_true, exists_const, Option.isNone_some, Option.isNone_none, Option.isSome_some, Option.isSome_none, Option.getD_some]
  refine (lists_ok X take hx).k ?_
  rintro _ g2 ⟨w, rfl, hw, e2⟩
  by_cases he : lE take cs = 0
  · obtain ⟨h1, h2, h3⟩ := lE0 he
    have ow := hw ⟨h1, h2⟩
    have hrl : (recsOf cs).length = cs.length := by rw [recsOf, List.length_map]
    have hn : nT take cs = cnt take (recsOf cs) := by rw [nT, if_neg (by rw [he]; simp)]
    have hnl := nT_le take cs
    obtain ⟨wa, wc, hwv⟩ := ow.len
    rw [hrl] at hwv
    subst hwv
    rw [he]
    simp (disch := omega) only [dm_t, wA, wB, wL, wW, wY, Int.fdiv_eq_ediv_of_nonneg, Int.tdiv_eq_ediv_of_nonneg, Int.tmod_eq_emod_of_nonneg, chk_pos, decT, decF, br_pos, br_neg, wX, ↓reduceIte, Nat.reduceEqDiff, Nat.reduceAdd, Nat.reduceSub, Nat.reduceMul, Nat.reduceLeDiff, Nat.reduceLT, Nat.reduceMod, Nat.reduceDiv, Int.reduceToNat, Nat.min_eq_left, IntKind.bits, Int.reducePow, Int.reduceLT, Int.reduceLE, Int.reduceEq, Int.reduceNe, Int.reduceAdd, Int.reduceSub, and_self, reduceCtorEq, decide_eq_true_eq, decide_eq_false_iff_not, eq_self, implies_true, exists_const, Option.isNone_some, Option.isNone_none, Option.isSome_some, Option.isSome_none, Option.getD_some]
    refine (count_ok take ow.rep (by rw [hrl]; omega) (chk0 h3).2).k ?_
    rintro _ g3 ⟨rfl, e3⟩
    rw [← hn]
    have E3 := e2.trans e3
    have X3 : RO (fun y => S y ∨ g3 y = none) h0 g3 p lv B first cs rows := (X.ext E3).avoid fun y hy => hy
    simp (disch := omega) only [dm_t, wA, wB, wL, wW, wY, Int.fdiv_eq_ediv_of_nonneg, Int.tdiv_eq_ediv_of_nonneg, Int.tmod_eq_emod_of_nonneg, chk_pos, decT, decF, br_pos, br_neg, wX, ↓reduceIte, Nat.reduceEqDiff, Nat.reduceAdd, Nat.reduceSub, Nat.reduceMul, Nat.reduceLeDiff, Nat.reduceLT, Nat.reduceMod, Nat.reduceDiv, Int.reduceToNat, Nat.min_eq_left, IntKind.bits, Int.reducePow, Int.reduceLT, Int.reduceLE, Int.reduceEq, Int.reduceNe, Int.reduceAdd, Int.reduceSub, and_self, reduceCtorEq, decide_eq_true_eq, decide_eq_false_iff_not, eq_self, implies_true, exists_const, Option.isNone_some, Option.isNone_none, Option.isSome_some, Option.isSome_none, Option.getD_some]
    refine (Drop_ok X3 (E.trans E3) hnl).k ?_
    rintro _ g4 ⟨v, rfl, ov, ⟨rows', X4⟩, f4⟩
    have hRg : ∀ y, RF p lv y → g y ≠ none := fun y hy => X.there hy
    have ow3 := (ow.ext e3).avoid
    have ow4 := ow3.fr f4 (fun y hy => .inl (hy.elim .inl fun h => .inr (.inl h))) fun y hy ho => absurd ho (hRg y hy)
    have th3 : ∀ y, (y = p ∨ isAt lv y ∨ S y) → g3 y ≠ none := fun y hy hn => by
      rcases hy with h | h | h
      · exact X3.there (.inl h) hn
      · exact X3.there (.inr h) hn
      · exact hS y h (E3.bk hn)
    have th4 : ∀ y, (y = p ∨ isAt lv y ∨ S y) → g4 y ≠ none := fun y hy => by
      by_cases hr : RF p lv y
      · exact X4.there hr
      · cases hc : g3 y with
        | none => exact absurd hc (th3 y hy)
        | some o => rw [f4 y o hc hr]; simp
    replace ov : OwL (fun y => y = p ∨ isAt lv y ∨ S y) callT (fun y => g3 y = none) g4 64 v (cs.take (nT take cs)) := ov.subS fun y hy => hy.imp id fun h => h.imp id .inl
    have hntl : (cs.take (nT take cs)).length = nT take cs := by rw [List.length_take]; omega
    obtain ⟨va, vn, hv⟩ := ov.len
    rw [hntl] at hv
    subst hv
    generalize hnn : nT take cs = n at *
    simp (disch := omega) only [dm_t, wA, wB, wL, wW, wY, Int.fdiv_eq_ediv_of_nonneg, Int.tdiv_eq_ediv_of_nonneg, Int.tmod_eq_emod_of_nonneg, chk_pos, decT, decF, br_pos, br_neg, wX, ↓reduceIte, Nat.reduceEqDiff, Nat.reduceAdd, Nat.reduceSub, Nat.reduceMul, Nat.reduceLeDiff, Nat.reduceLT, Nat.reduceMod, Nat.reduceDiv, Int.reduceToNat, Nat.min_eq_left, IntKind.bits, Int.reducePow, Int.reduceLT, Int.reduceLE, Int.reduceEq, Int.reduceNe, Int.reduceAdd, Int.reduceSub, and_self, reduceCtorEq, decide_eq_true_eq, decide_eq_false_iff_not, eq_self, implies_true, exists_const, Option.isNone_some, Option.isNone_none, Option.isSome_some, Option.isSome_none, Option.getD_some]
    refine vc_loop1 (fun vi G => ∃ i : Nat, vi = .int .i64 (i : Int) ∧ i ≤ n ∧ OwL (fun y => y = p ∨ isAt lv y ∨ S y) callT (fun y => g3 y = none) G 64 (.slice va n vn) (cs.take n) ∧ Fr (fun y => g3 y = none) g4 G) (fun vi _ => n - m1 vi) ?_ ?_
    · simp (disch := omega) only [dm_t, wA, wB, wL, wW, wY, Int.fdiv_eq_ediv_of_nonneg, Int.tdiv_eq_ediv_of_nonneg, Int.tmod_eq_emod_of_nonneg, chk_pos, decT, decF, br_pos, br_neg, wX, ↓reduceIte, Nat.reduceEqDiff, Nat.reduceAdd, Nat.reduceSub, Nat.reduceMul, Nat.reduceLeDiff, Nat.reduceLT, Nat.reduceMod, Nat.reduceDiv, Int.reduceToNat, Nat.min_eq_left, IntKind.bits, Int.reducePow, Int.reduceLT, Int.reduceLE, Int.reduceEq, Int.reduceNe, Int.reduceAdd, Int.reduceSub, and_self, reduceCtorEq, decide_eq_true_eq, decide_eq_false_iff_not, eq_self, implies_true, exists_const, Option.isNone_some, Option.isNone_none, Option.isSome_some, Option.isSome_none, Option.getD_some]
      exact ⟨0, rfl, by omega, ov, Fr.refl _ _⟩
    rintro _ G ⟨i, rfl, hi, og, F⟩
    have thG : ∀ y, (y = p ∨ isAt lv y ∨ S y) → G y ≠ none := fun y hy => by
      cases hc : g4 y with
      | none => exact absurd hc (th4 y hy)
      | some o => rw [F y o hc fun h => th3 y hy h]; simp
    by_cases hil : i < n
    · have hit : i < (cs.take n).length := by omega
      have hci : (cs.take n)[i] = cs[i]'(by omega) := List.getElem_take
      obtain ⟨b1, o1, row, i1, -, -, hc1, hr1, -⟩ := og.set hit .i64 5 rfl
      obtain ⟨r, hrow, hcb, hrr⟩ := rep_call.1 hr1
      obtain ⟨ra, rn, hrl'⟩ := hrr.len
      subst hrl'
      have c2 := hc1 2 (by omega)
      rw [hrow] at c2
      have c2' : cellAt G ⟨b1, o1 + 2, none⟩ = some (.slice ra (cs.take n)[i].2.2.1.length rn) := c2
      simp (disch := omega) only [dm_t, wA, wB, wL, wW, wY, Int.fdiv_eq_ediv_of_nonneg, Int.tdiv_eq_ediv_of_nonneg, Int.tmod_eq_emod_of_nonneg, chk_pos, decT, decF, br_pos, br_neg, wX, ↓reduceIte, Nat.reduceEqDiff, Nat.reduceAdd, Nat.reduceSub, Nat.reduceMul, Nat.reduceLeDiff, Nat.reduceLT, Nat.reduceMod, Nat.reduceDiv, Int.reduceToNat, Nat.min_eq_left, IntKind.bits, Int.reducePow, Int.reduceLT, Int.reduceLE, Int.reduceEq, Int.reduceNe, Int.reduceAdd, Int.reduceSub, and_self, reduceCtorEq, decide_eq_true_eq, decide_eq_false_iff_not, eq_self, implies_true, exists_const, Option.isNone_some, Option.isNone_none, Option.isSome_some, Option.isSome_none, Option.getD_some, i1, c2']
      refine (rr.Copy_ok hrr (by rw [hci]; exact hx _ (List.getElem_mem _)) (by rw [hci]; exact hk _ (List.getElem_mem _))).k ?_
      rintro u G2 ⟨ou, eG⟩
      obtain ⟨ua, uc, rfl⟩ := ou.l.len
      have og2 := og.ext eG
      obtain ⟨b3, o3, row3, i3, a3, -, -, hr3, st⟩ := og2.set hit .i64 5 rfl
      obtain ⟨r3, hrow3, -, -⟩ := rep_call.1 hr3
      simp (disch := omega) only [dm_t, wA, wB, wL, wW, wY, Int.fdiv_eq_ediv_of_nonneg, Int.tdiv_eq_ediv_of_nonneg, Int.tmod_eq_emod_of_nonneg, chk_pos, decT, decF, br_pos, br_neg, wX, ↓reduceIte, Nat.reduceEqDiff, Nat.reduceAdd, Nat.reduceSub, Nat.reduceMul, Nat.reduceLeDiff, Nat.reduceLT, Nat.reduceMod, Nat.reduceDiv, Int.reduceToNat, Nat.min_eq_left, IntKind.bits, Int.reducePow, Int.reduceLT, Int.reduceLE, Int.reduceEq, Int.reduceNe, Int.reduceAdd, Int.reduceSub, and_self, reduceCtorEq, decide_eq_true_eq, decide_eq_false_iff_not, eq_self, implies_true, exists_const, Option.isNone_some, Option.isNone_none, Option.isSome_some, Option.isSome_none, Option.getD_some, i3]
      refine st 2 [.slice ua (cs.take n)[i].2.2.1.length uc] (cs.take n)[i] _ (by simp) rfl ?_ fun G3 og3 f3 => ?_
      · rw [hrow3]
        refine rep_call.2 ⟨_, rfl, hcb, ?_⟩
        refine RepL.mono (ou.l.repS fun y hy hn => hn hy) fun y _ _ hy => ?_
        exact hy.elim (fun h => og.there h) (thG y)
      · rw [List.set_getElem_self] at og3
        simp (disch := omega) only [dm_t, wA, wB, wL, wW, wY, Int.fdiv_eq_ediv_of_nonneg, Int.tdiv_eq_ediv_of_nonneg, Int.tmod_eq_emod_of_nonneg, chk_pos, decT, decF, br_pos, br_neg, wX, ↓reduceIte, Nat.reduceEqDiff, Nat.reduceAdd, Nat.reduceSub, Nat.reduceMul, Nat.reduceLeDiff, Nat.reduceLT, Nat.reduceMod, Nat.reduceDiv, Int.reduceToNat, Nat.min_eq_left, IntKind.bits, Int.reducePow, Int.reduceLT, Int.reduceLE, Int.reduceEq, Int.reduceNe, Int.reduceAdd, Int.reduceSub, and_self, reduceCtorEq, decide_eq_true_eq, decide_eq_false_iff_not, eq_self, implies_true, exists_const, Option.isNone_some, Option.isNone_none, Option.isSome_some, Option.isSome_none, Option.getD_some]
        refine ⟨⟨i + 1, by simp, by omega, og3, ?_⟩, by simp [m1]; omega⟩
        intro y o hy hn
        exact f3 y o (eG.at (F y o hy hn)) fun h => hn (h ▸ og2.own a3)
    · obtain rfl : i = n := by omega
      have owG := ow4.fr F (fun y hy => .inr hy) fun y hy ho hat => ow3.there hat hy
      have XG := X4.fr F (fun y hy => .inr hy) fun y hy h => X3.there h hy
      have hcap := owG.rep.cap
      have htk := total_take (recsOf cs) i
      simp (disch := omega) only [dm_t, wA, wB, wL, wW, wY, Int.fdiv_eq_ediv_of_nonneg, Int.tdiv_eq_ediv_of_nonneg, Int.tmod_eq_emod_of_nonneg, chk_pos, decT, decF, br_pos, br_neg, wX, ↓reduceIte, Nat.reduceEqDiff, Nat.reduceAdd, Nat.reduceSub, Nat.reduceMul, Nat.reduceLeDiff, Nat.reduceLT, Nat.reduceMod, Nat.reduceDiv, Int.reduceToNat, Nat.min_eq_left, IntKind.bits, Int.reducePow, Int.reduceLT, Int.reduceLE, Int.reduceEq, Int.reduceNe, Int.reduceAdd, Int.reduceSub, and_self, reduceCtorEq, decide_eq_true_eq, decide_eq_false_iff_not, eq_self, implies_true, exists_const, Option.isNone_some, Option.isNone_none, Option.isSome_some, Option.isSome_none, Option.getD_some]
      refine RepL.cutK owG.rep (by rfl) 0 i wc rfl rfl rfl (by omega) (.inr rfl) ?_
      intro u5 hu5
      rw [List.drop_zero, Nat.sub_zero] at hu5
      simp (disch := omega) only [dm_t, wA, wB, wL, wW, wY, Int.fdiv_eq_ediv_of_nonneg, Int.tdiv_eq_ediv_of_nonneg, Int.tmod_eq_emod_of_nonneg, chk_pos, decT, decF, br_pos, br_neg, wX, ↓reduceIte, Nat.reduceEqDiff, Nat.reduceAdd, Nat.reduceSub, Nat.reduceMul, Nat.reduceLeDiff, Nat.reduceLT, Nat.reduceMod, Nat.reduceDiv, Int.reduceToNat, Nat.min_eq_left, IntKind.bits, Int.reducePow, Int.reduceLT, Int.reduceLE, Int.reduceEq, Int.reduceNe, Int.reduceAdd, Int.reduceSub, and_self, reduceCtorEq, decide_eq_true_eq, decide_eq_false_iff_not, eq_self, implies_true, exists_const, Option.isNone_some, Option.isNone_none, Option.isSome_some, Option.isSome_none, Option.getD_some]
      refine (Concat_ok hu5 (by rw [List.length_take]; omega) (by omega)).k ?_
      rintro u6 G2 ⟨r6, e6⟩
      simp (disch := omega) only [dm_t, wA, wB, wL, wW, wY, Int.fdiv_eq_ediv_of_nonneg, Int.tdiv_eq_ediv_of_nonneg, Int.tmod_eq_emod_of_nonneg, chk_pos, decT, decF, br_pos, br_neg, wX, ↓reduceIte, Nat.reduceEqDiff, Nat.reduceAdd, Nat.reduceSub, Nat.reduceMul, Nat.reduceLeDiff, Nat.reduceLT, Nat.reduceMod, Nat.reduceDiv, Int.reduceToNat, Nat.min_eq_left, IntKind.bits, Int.reducePow, Int.reduceLT, Int.reduceLE, Int.reduceEq, Int.reduceNe, Int.reduceAdd, Int.reduceSub, and_self, reduceCtorEq, decide_eq_true_eq, decide_eq_false_iff_not, eq_self, implies_true, exists_const, Option.isNone_some, Option.isNone_none, Option.isSome_some, Option.isSome_none, Option.getD_some]
      refine (rr.Copy_ok r6 (by rw [total_flat]; omega) fun x hxx => ?_).k ?_
      · obtain ⟨l, hl, hxl⟩ := List.mem_flatten.1 hxx
        obtain ⟨c, hc, rfl⟩ := List.mem_map.1 (List.mem_of_mem_take hl)
        exact hk c hc x hxl
      rintro u7 G3 ⟨o7, e7⟩
      simp (disch := omega) only [dm_t, wA, wB, wL, wW, wY, Int.fdiv_eq_ediv_of_nonneg, Int.tdiv_eq_ediv_of_nonneg, Int.tmod_eq_emod_of_nonneg, chk_pos, decT, decF, br_pos, br_neg, wX, ↓reduceIte, Nat.reduceEqDiff, Nat.reduceAdd, Nat.reduceSub, Nat.reduceMul, Nat.reduceLeDiff, Nat.reduceLT, Nat.reduceMod, Nat.reduceDiv, Int.reduceToNat, Nat.min_eq_left, IntKind.bits, Int.reducePow, Int.reduceLT, Int.reduceLE, Int.reduceEq, Int.reduceNe, Int.reduceAdd, Int.reduceSub, and_self, reduceCtorEq, decide_eq_true_eq, decide_eq_false_iff_not, eq_self, implies_true, exists_const, Option.isNone_some, Option.isNone_none, Option.isSome_some, Option.isSome_none, Option.getD_some]
      have e67 := e6.trans e7
      refine ⟨_, _, rfl, (og.repS fun y hy hs => th3 y hs hy).ext e67, ?_, ⟨rows', (XG.ext e67).avoid fun y hy => .inl (.inl hy)⟩, ?_⟩
      · exact RepL.mono (o7.l.repS fun y hy hn => hn hy) fun y _ _ hy hn => thG y hy (e6.bk hn)
      · intro y o hy hn
        exact e67.at (F y o (f4 y o (E3.at hy) hn) fun h => by have h9 : g3 y = none := h; rw [E3.at hy] at h9; cases h9)
  · have hn : nT take cs = 0 := by rw [nT, if_pos he]
    rw [hn]
    simp (disch := omega) only [dm_t, wA, wB, wL, wW, wY, Int.fdiv_eq_ediv_of_nonneg, Int.tdiv_eq_ediv_of_nonneg, Int.tmod_eq_emod_of_nonneg, chk_pos, decT, decF, br_pos, br_neg, wX, ↓reduceIte, Nat.reduceEqDiff, Nat.reduceAdd, Nat.reduceSub, Nat.reduceMul, Nat.reduceLeDiff, Nat.reduceLT, Nat.reduceMod, Nat.reduceDiv, Int.reduceToNat, Nat.min_eq_left, IntKind.bits, Int.reducePow, Int.reduceLT, Int.reduceLE, Int.reduceEq, Int.reduceNe, Int.reduceAdd, Int.reduceSub, and_self, reduceCtorEq, decide_eq_true_eq, decide_eq_false_iff_not, eq_self, implies_true, exists_const, Option.isNone_some, Option.isNone_none, Option.isSome_some, Option.isSome_none, Option.getD_some, he]
    refine ⟨.slice none 0 0, .slice none 0 0, rfl, RepL.nil, RepL.nil, ⟨rows, ?_⟩, e2.mono fun _ h => h.elim⟩
    rw [Nat.mod_eq_of_lt hb.2.2.1, List.drop_zero]
    exact X.ext e2
end
end Go.Proofs.Ytcebmbnofejlhaa.gq
