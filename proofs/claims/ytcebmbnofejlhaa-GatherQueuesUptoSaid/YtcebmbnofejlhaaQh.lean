/-
  gather: GatherQueues, walked whole.
-/
import Derived.Test.YtcebmbnofejlhaaQf
namespace Go.Proofs.Ytcebmbnofejlhaa.gq
open Go.Proofs.Ytcebmbnofejlhaa rr ga
set_option linter.unusedVariables false
set_option linter.unusedSimpArgs false
abbrev yT (h : H) : Value → H → Prop := fun v h' => v = .bool true ∧ Ext h h'
theorem flat_piece {L : List rcs.D} {j : Nat} (hj : j < L.length) : (((List.flatten L).drop (total (L.take j))).take (L[j]).length) = L[j] := by
  have h1 : L = L.take j ++ L[j] :: L.drop (j + 1) := by simp
  have h2 : List.flatten L = List.flatten (L.take j) ++ (L[j] ++ List.flatten (L.drop (j + 1))) := by
    conv => lhs; rw [h1]
    rw [List.flatten_append, List.flatten_cons]
  rw [h2, List.drop_append_of_le_length (by rw [total_flat]; omega), List.drop_eq_nil_of_le (by rw [total_flat]; omega), List.nil_append, List.take_left]
theorem total_one (x : rcs.D) : total [x] = x.length := by simp [total]
theorem total_next {L : List rcs.D} {j : Nat} (hj : j < L.length) : total (L.take (j + 1)) = total (L.take j) + (L[j]).length := by
  rw [List.take_succ_eq_append_getElem hj, total_append, total_one]
theorem recs_drop (cs : List callT.D) (n : Nat) : recsOf (cs.drop n) = (recsOf cs).drop n := by simp [recsOf]
theorem lE_drop {take : Int} {cs : List callT.D} (ht : ¬ take < 1) (hp : cs.all putB = true) (hf : ∀ x ∈ recsOf cs, fitsE x = 0) (hl : cs.length ≤ 256) (n : Nat) : lE take (cs.drop n) = 0 := by
  have h1 : (cs.drop n).all putB = true := List.all_eq_true.2 fun x hx => List.all_eq_true.1 hp x (List.mem_of_mem_drop hx)
  have hf' : ∀ x ∈ recsOf (cs.drop n), fitsE x = 0 := fun x hx => hf x (by rw [recs_drop] at hx; exact List.mem_of_mem_drop hx)
  rw [lE, if_neg (by rw [h1]; simp), if_neg ht, chkE, if_neg, if_neg, if_neg]
  · simp only [List.any_eq_true, decide_eq_true_eq, not_exists, not_and]
    intro x hx; rw [hf' x hx]; simp
  · rw [recsOf, List.length_map, List.length_drop]; omega
  · simp only [List.any_eq_true, decide_eq_true_eq, not_exists, not_and]
    intro x hx; rw [hf' x hx]; decide
section
variable {h g : H} {take : Int} {cs : List callT.D} {wa : Option Addr} {wc : Nat}
/-- The inner loop: one taking's calls and records. -/
theorem gq_s17 {Q : Post} {p : Nat} {pv : Value} {ca ra : Option Addr} {cc rn m k i : Nat} {S2 : Nat → Prop} (hw : RepL nos callT h (.slice wa cs.length wc) cs) (hl : cs.length ≤ 256) (htot : total (recsOf cs) ≤ 3000) (E : Ext h g) (hm : k + m ≤ cs.length) (hc : RepL S2 callT g (.slice ca m cc) ((cs.drop k).take m)) (hr : RepL S2 rc g (.slice ra (List.flatten ((recsOf (cs.drop k)).take m)).length rn) (List.flatten ((recsOf (cs.drop k)).take m)))
    (hQ : ∀ g2, Ext g g2 → vc Try.prog c6_s26 Q [(0, .int .i64 take), (1, .slice wa cs.length wc), (7, pv), (9, .pointer (some ⟨p, 0, none⟩)), (11, .int .i64 ((k + m : Nat) : Int)), (12, .int .i64 (i : Int))] g2) :
    vc Try.prog c6_s17 (blockQ 3 (seqQ Try.prog [0, 1, 7, 9, 11, 12] c6_s26 Q)) [(0, .int .i64 take), (1, .slice wa cs.length wc), (7, pv), (9, .pointer (some ⟨p, 0, none⟩)), (11, .int .i64 (k : Int)), (12, .int .i64 (i : Int)), (13, .slice ca m cc), (14, .slice ra (List.flatten ((recsOf (cs.drop k)).take m)).length rn)] g := by
  have hx := lim_total htot
  generalize hL : (recsOf (cs.drop k)).take m = L at *
  have hLl : L.length = m := by rw [← hL, List.length_take, recsOf, List.length_map, List.length_drop]; omega
  have hLi : ∀ j (hj : j < L.length), L[j] = (cs[k + j]'(by omega)).2.2.1 := fun j hj => by subst hL; simp [recsOf]
  have hLt : total L ≤ 3000 := by
    have h1 := total_take (recsOf (cs.drop k)) m
    have h2 := total_append ((recsOf cs).take k) ((recsOf cs).drop k)
    rw [List.take_append_drop] at h2
    rw [recs_drop] at h1 hL
    rw [← hL]; omega
  have hfl : (List.flatten L).length = total L := total_flat L
  have hcap := hr.cap
  simp (disch := omega) only [dm_t, wA, wB, wL, wW, wY, Int.fdiv_eq_ediv_of_nonneg, Int.tdiv_eq_ediv_of_nonneg, Int.tmod_eq_emod_of_nonneg, chk_pos, decT, decF, br_pos, br_neg, wX, ↓reduceIte, Nat.reduceEqDiff, Nat.reduceAdd, Nat.reduceSub, Nat.reduceMul, Nat.reduceLeDiff, Nat.reduceLT, Nat.reduceMod, Nat.reduceDiv, Int.reduceToNat, Nat.min_eq_left, IntKind.bits, Int.reducePow, Int.reduceLT, Int.reduceLE, Int.reduceEq, Int.reduceNe, Int.reduceAdd, Int.reduceSub, and_self, reduceCtorEq, decide_eq_true_eq, decide_eq_false_iff_not, eq_self, implies_true, exists_const, Option.isNone_some, Option.isNone_none, Option.isSome_some, Option.isSome_none, Option.getD_some]
  refine vc_loop3 (fun va vk vn G => ∃ j : Nat, va = .int .i64 ((k + j : Nat) : Int) ∧ vk = .int .i64 ((total (L.take j) : Nat) : Int) ∧ vn = .int .i64 (j : Int) ∧ j ≤ m ∧ Ext g G) (fun _ _ vn _ => m - m1 vn) ?_ ?_
  · simp (disch := omega) only [dm_t, wA, wB, wL, wW, wY, Int.fdiv_eq_ediv_of_nonneg, Int.tdiv_eq_ediv_of_nonneg, Int.tmod_eq_emod_of_nonneg, chk_pos, decT, decF, br_pos, br_neg, wX, ↓reduceIte, Nat.reduceEqDiff, Nat.reduceAdd, Nat.reduceSub, Nat.reduceMul, Nat.reduceLeDiff, Nat.reduceLT, Nat.reduceMod, Nat.reduceDiv, Int.reduceToNat, Nat.min_eq_left, IntKind.bits, Int.reducePow, Int.reduceLT, Int.reduceLE, Int.reduceEq, Int.reduceNe, Int.reduceAdd, Int.reduceSub, and_self, reduceCtorEq, decide_eq_true_eq, decide_eq_false_iff_not, eq_self, implies_true, exists_const, Option.isNone_some, Option.isNone_none, Option.isSome_some, Option.isSome_none, Option.getD_some]
    exact ⟨0, rfl, by simp [total], rfl, by omega, Ext.refl _⟩
  rintro _ _ _ G ⟨j, rfl, rfl, rfl, hj, e⟩
  have EG := E.trans e
  by_cases hjm : j < m
  · have hkj : k + j < cs.length := by omega
    have hjL : j < L.length := by omega
    obtain ⟨b1, o1, la, ln, i1, t1, -, t2, r1, rr1⟩ := call_at (hw.ext EG) hkj
    have hel : ((cs.drop k).take m)[j]'(by rw [List.length_take, List.length_drop]; omega) = cs[k + j] := by simp
    obtain ⟨b2, o2, ma, mn, i2, u1, -, -, r2, -⟩ := call_at (hc.ext e) (i := j) (by rw [List.length_take, List.length_drop]; omega)
    rw [hel] at u1 r2
    have hxl := hx _ (List.getElem_mem hkj)
    have htn := total_next hjL
    have htt := total_take L (j + 1)
    rw [hLi j hjL] at htn
    simp (disch := omega) only [dm_t, wA, wB, wL, wW, wY, Int.fdiv_eq_ediv_of_nonneg, Int.tdiv_eq_ediv_of_nonneg, Int.tmod_eq_emod_of_nonneg, chk_pos, decT, decF, br_pos, br_neg, wX, ↓reduceIte, Nat.reduceEqDiff, Nat.reduceAdd, Nat.reduceSub, Nat.reduceMul, Nat.reduceLeDiff, Nat.reduceLT, Nat.reduceMod, Nat.reduceDiv, Int.reduceToNat, Nat.min_eq_left, IntKind.bits, Int.reducePow, Int.reduceLT, Int.reduceLE, Int.reduceEq, Int.reduceNe, Int.reduceAdd, Int.reduceSub, and_self, reduceCtorEq, decide_eq_true_eq, decide_eq_false_iff_not, eq_self, implies_true, exists_const, Option.isNone_some, Option.isNone_none, Option.isSome_some, Option.isSome_none, Option.getD_some, i1, t2]
    simp (disch := omega) only [dm_t, wA, wB, wL, wW, wY, Int.fdiv_eq_ediv_of_nonneg, Int.tdiv_eq_ediv_of_nonneg, Int.tmod_eq_emod_of_nonneg, chk_pos, decT, decF, br_pos, br_neg, wX, ↓reduceIte, Nat.reduceEqDiff, Nat.reduceAdd, Nat.reduceSub, Nat.reduceMul, Nat.reduceLeDiff, Nat.reduceLT, Nat.reduceMod, Nat.reduceDiv, Int.reduceToNat, Nat.min_eq_left, IntKind.bits, Int.reducePow, Int.reduceLT, Int.reduceLE, Int.reduceEq, Int.reduceNe, Int.reduceAdd, Int.reduceSub, and_self, reduceCtorEq, decide_eq_true_eq, decide_eq_false_iff_not, eq_self, implies_true, exists_const, Option.isNone_some, Option.isNone_none, Option.isSome_some, Option.isSome_none, Option.getD_some, i1, t1, i2, u1]
    refine (call_ok r2 r1 (by omega)).k ?_
    rintro _ G2 ⟨rfl, e2⟩
    have hrG := hr.ext (e.trans e2)
    simp (disch := omega) only [dm_t, wA, wB, wL, wW, wY, Int.fdiv_eq_ediv_of_nonneg, Int.tdiv_eq_ediv_of_nonneg, Int.tmod_eq_emod_of_nonneg, chk_pos, decT, decF, br_pos, br_neg, wX, ↓reduceIte, Nat.reduceEqDiff, Nat.reduceAdd, Nat.reduceSub, Nat.reduceMul, Nat.reduceLeDiff, Nat.reduceLT, Nat.reduceMod, Nat.reduceDiv, Int.reduceToNat, Nat.min_eq_left, IntKind.bits, Int.reducePow, Int.reduceLT, Int.reduceLE, Int.reduceEq, Int.reduceNe, Int.reduceAdd, Int.reduceSub, and_self, reduceCtorEq, decide_eq_true_eq, decide_eq_false_iff_not, eq_self, implies_true, exists_const, Option.isNone_some, Option.isNone_none, Option.isSome_some, Option.isSome_none, Option.getD_some]
    refine RepL.cutK hrG (by rfl) (total (L.take j)) (total (L.take j) + (cs[k + j]).2.2.1.length) rn rfl (by omega) rfl (by omega) (.inr rfl) ?_
    intro v hv
    rw [Nat.add_sub_cancel_left, ← hLi j hjL, flat_piece hjL] at hv
    simp (disch := omega) only [dm_t, wA, wB, wL, wW, wY, Int.fdiv_eq_ediv_of_nonneg, Int.tdiv_eq_ediv_of_nonneg, Int.tmod_eq_emod_of_nonneg, chk_pos, decT, decF, br_pos, br_neg, wX, ↓reduceIte, Nat.reduceEqDiff, Nat.reduceAdd, Nat.reduceSub, Nat.reduceMul, Nat.reduceLeDiff, Nat.reduceLT, Nat.reduceMod, Nat.reduceDiv, Int.reduceToNat, Nat.min_eq_left, IntKind.bits, Int.reducePow, Int.reduceLT, Int.reduceLE, Int.reduceEq, Int.reduceNe, Int.reduceAdd, Int.reduceSub, and_self, reduceCtorEq, decide_eq_true_eq, decide_eq_false_iff_not, eq_self, implies_true, exists_const, Option.isNone_some, Option.isNone_none, Option.isSome_some, Option.isSome_none, Option.getD_some]
    refine (gf.Same_ok hv (rr1.ext e2) (by rw [hLi j hjL]; omega)).k ?_
    rintro _ _ ⟨rfl, rfl⟩
    rw [show decide (L[j] = cs[k + j].2.2.1) = true from decide_eq_true (hLi j hjL)]
    simp (disch := omega) only [dm_t, wA, wB, wL, wW, wY, Int.fdiv_eq_ediv_of_nonneg, Int.tdiv_eq_ediv_of_nonneg, Int.tmod_eq_emod_of_nonneg, chk_pos, decT, decF, br_pos, br_neg, wX, ↓reduceIte, Nat.reduceEqDiff, Nat.reduceAdd, Nat.reduceSub, Nat.reduceMul, Nat.reduceLeDiff, Nat.reduceLT, Nat.reduceMod, Nat.reduceDiv, Int.reduceToNat, Nat.min_eq_left, IntKind.bits, Int.reducePow, Int.reduceLT, Int.reduceLE, Int.reduceEq, Int.reduceNe, Int.reduceAdd, Int.reduceSub, and_self, reduceCtorEq, decide_eq_true_eq, decide_eq_false_iff_not, eq_self, implies_true, exists_const, Option.isNone_some, Option.isNone_none, Option.isSome_some, Option.isSome_none, Option.getD_some]
    exact ⟨⟨j + 1, by simp; omega, by simp; omega, by simp, by omega, e.trans e2⟩, by simp [m1]; omega⟩
  · obtain rfl : j = m := by omega
    have k26 := hQ G e
    rw [List.take_of_length_le (by omega : L.length ≤ j), ← hfl]
    revert k26
    simp (disch := omega) only [dm_t, wA, wB, wL, wW, wY, Int.fdiv_eq_ediv_of_nonneg, Int.tdiv_eq_ediv_of_nonneg, Int.tmod_eq_emod_of_nonneg, chk_pos, decT, decF, br_pos, br_neg, wX, ↓reduceIte, Nat.reduceEqDiff, Nat.reduceAdd, Nat.reduceSub, Nat.reduceMul, Nat.reduceLeDiff, Nat.reduceLT, Nat.reduceMod, Nat.reduceDiv, Int.reduceToNat, Nat.min_eq_left, IntKind.bits, Int.reducePow, Int.reduceLT, Int.reduceLE, Int.reduceEq, Int.reduceNe, Int.reduceAdd, Int.reduceSub, and_self, reduceCtorEq, decide_eq_true_eq, decide_eq_false_iff_not, eq_self, implies_true, exists_const, Option.isNone_some, Option.isNone_none, Option.isSome_some, Option.isSome_none, Option.getD_some]
    exact id
theorem gq_s27 {g1 : H} {p first : Nat} {lv : Value} {rows : List (List Value)} (ht : ¬ take < 1) (htk : -9223372036854775808 ≤ take ∧ take ≤ 9223372036854775807) (e : Ext g1 g) (E1 : Ext h g1) (X : RO nos g1 g p lv 256 first [] rows) :
    vc Try.prog c6_s27 (retQ [4] (okR (yT h))) [(0, .int .i64 take), (1, .slice wa cs.length wc), (9, .pointer (some ⟨p, 0, none⟩)), (11, .int .i64 (cs.length : Int))] g := by
  have hle0 : lE take ([] : List callT.D) = 0 := lE_drop (cs := []) ht rfl (by simp [recsOf]) (by simp) 0
  have hn0 : nT take ([] : List callT.D) = 0 := by have := nT_le take []; simpa using this
  have TK := Take_ok X e take (fun c hc => by simp at hc) (fun c hc => by simp at hc) (by simp [recsOf, total]) (fun y hy => hy.elim)
  rw [hle0, hn0] at TK
  simp only [List.drop_nil, List.take_nil, recsOf, List.map_nil, List.flatten_nil] at TK
  simp (disch := omega) only [dm_t, wA, wB, wL, wW, wY, Int.fdiv_eq_ediv_of_nonneg, Int.tdiv_eq_ediv_of_nonneg, Int.tmod_eq_emod_of_nonneg, chk_pos, decT, decF, br_pos, br_neg, wX, ↓reduceIte, Nat.reduceEqDiff, Nat.reduceAdd, Nat.reduceSub, Nat.reduceMul, Nat.reduceLeDiff, Nat.reduceLT, Nat.reduceMod, Nat.reduceDiv, Int.reduceToNat, Nat.min_eq_left, IntKind.bits, Int.reducePow, Int.reduceLT, Int.reduceLE, Int.reduceEq, Int.reduceNe, Int.reduceAdd, Int.reduceSub, and_self, reduceCtorEq, decide_eq_true_eq, decide_eq_false_iff_not, eq_self, implies_true, exists_const, Option.isNone_some, Option.isNone_none, Option.isSome_some, Option.isSome_none, Option.getD_some]
  refine TK.k ?_
  rintro _ G2 ⟨v, w, rfl, hv, hw2, ⟨rows3, X3⟩, f3⟩
  have e3 : Ext h G2 := Ext.step' (E1.trans e) f3 fun y hy => E1.bk (X.own' hy)
  obtain ⟨ca, cc, rfl⟩ := hv.len
  obtain ⟨ra, rn, rfl⟩ := hw2.len
  have l0 : (([] : List callT.D).length : Int) = 0 := rfl
  have l1 : (([] : List rc.D).length : Int) = 0 := rfl
  simp (disch := omega) only [dm_t, wA, wB, wL, wW, wY, Int.fdiv_eq_ediv_of_nonneg, Int.tdiv_eq_ediv_of_nonneg, Int.tmod_eq_emod_of_nonneg, chk_pos, decT, decF, br_pos, br_neg, wX, ↓reduceIte, Nat.reduceEqDiff, Nat.reduceAdd, Nat.reduceSub, Nat.reduceMul, Nat.reduceLeDiff, Nat.reduceLT, Nat.reduceMod, Nat.reduceDiv, Int.reduceToNat, Nat.min_eq_left, IntKind.bits, Int.reducePow, Int.reduceLT, Int.reduceLE, Int.reduceEq, Int.reduceNe, Int.reduceAdd, Int.reduceSub, and_self, reduceCtorEq, decide_eq_true_eq, decide_eq_false_iff_not, eq_self, implies_true, exists_const, Option.isNone_some, Option.isNone_none, Option.isSome_some, Option.isSome_none, Option.getD_some]
  refine (Len_ok X3).k ?_
  rintro _ _ ⟨rfl, rfl⟩
  simp (disch := omega) only [dm_t, wA, wB, wL, wW, wY, Int.fdiv_eq_ediv_of_nonneg, Int.tdiv_eq_ediv_of_nonneg, Int.tmod_eq_emod_of_nonneg, chk_pos, decT, decF, br_pos, br_neg, wX, ↓reduceIte, Nat.reduceEqDiff, Nat.reduceAdd, Nat.reduceSub, Nat.reduceMul, Nat.reduceLeDiff, Nat.reduceLT, Nat.reduceMod, Nat.reduceDiv, Int.reduceToNat, Nat.min_eq_left, IntKind.bits, Int.reducePow, Int.reduceLT, Int.reduceLE, Int.reduceEq, Int.reduceNe, Int.reduceAdd, Int.reduceSub, and_self, reduceCtorEq, decide_eq_true_eq, decide_eq_false_iff_not, eq_self, implies_true, exists_const, Option.isNone_some, Option.isNone_none, Option.isSome_some, Option.isSome_none, Option.getD_some, l0, l1]
  refine (num_ok _ _).k ?_
  rintro _ _ ⟨rfl, rfl⟩
  simp (disch := omega) only [dm_t, wA, wB, wL, wW, wY, Int.fdiv_eq_ediv_of_nonneg, Int.tdiv_eq_ediv_of_nonneg, Int.tmod_eq_emod_of_nonneg, chk_pos, decT, decF, br_pos, br_neg, wX, ↓reduceIte, Nat.reduceEqDiff, Nat.reduceAdd, Nat.reduceSub, Nat.reduceMul, Nat.reduceLeDiff, Nat.reduceLT, Nat.reduceMod, Nat.reduceDiv, Int.reduceToNat, Nat.min_eq_left, IntKind.bits, Int.reducePow, Int.reduceLT, Int.reduceLE, Int.reduceEq, Int.reduceNe, Int.reduceAdd, Int.reduceSub, and_self, reduceCtorEq, decide_eq_true_eq, decide_eq_false_iff_not, eq_self, implies_true, exists_const, Option.isNone_some, Option.isNone_none, Option.isSome_some, Option.isSome_none, Option.getD_some]
  refine (works_ok).k ?_
  rintro _ g5 ⟨rfl, e5⟩
  simp (disch := omega) only [dm_t, wA, wB, wL, wW, wY, Int.fdiv_eq_ediv_of_nonneg, Int.tdiv_eq_ediv_of_nonneg, Int.tmod_eq_emod_of_nonneg, chk_pos, decT, decF, br_pos, br_neg, wX, ↓reduceIte, Nat.reduceEqDiff, Nat.reduceAdd, Nat.reduceSub, Nat.reduceMul, Nat.reduceLeDiff, Nat.reduceLT, Nat.reduceMod, Nat.reduceDiv, Int.reduceToNat, Nat.min_eq_left, IntKind.bits, Int.reducePow, Int.reduceLT, Int.reduceLE, Int.reduceEq, Int.reduceNe, Int.reduceAdd, Int.reduceSub, and_self, reduceCtorEq, decide_eq_true_eq, decide_eq_false_iff_not, eq_self, implies_true, exists_const, Option.isNone_some, Option.isNone_none, Option.isSome_some, Option.isSome_none, Option.getD_some]
  exact ⟨rfl, e3.trans e5⟩
/-- The ring filled, taken again and again. -/
theorem gq_s10 {pv : Value} (hw : RepL nos callT h (.slice wa cs.length wc) cs) (hl : cs.length ≤ 256) (htot : total (recsOf cs) ≤ 3000) (hk : ∀ c ∈ cs, ∀ x ∈ c.2.2.1, x.2.1.length ≤ 140737488355328 ∧ x.2.2.length ≤ 140737488355328) (htk : -9223372036854775808 ≤ take ∧ take ≤ 9223372036854775807) (E : Ext h g)
    (ht : ¬ take < 1) (hp : cs.all putB = true) (hf : ∀ x ∈ recsOf cs, fitsE x = 0) (hpv : O1 (fun y => h y = none) g 3 pv (ga.ints (plan take (recsOf cs)))) :
    vc Try.prog c6_s10 (retQ [4] (okR (yT h))) [(0, .int .i64 take), (1, .slice wa cs.length wc), (7, pv)] g := by
  have hx := lim_total htot
  have hrl : (recsOf cs).length = cs.length := by rw [recsOf, List.length_map]
  have hpl : (plan take (recsOf cs)).length ≤ (recsOf cs).length := plan_len _ _
  have hint : (ga.ints (plan take (recsOf cs))).length = (plan take (recsOf cs)).length := by simp [ga.ints]
  obtain ⟨pa, pn, hpvv⟩ := S1.len hpv.s0
  rw [hint] at hpvv
  subst hpvv
  simp (disch := omega) only [dm_t, wA, wB, wL, wW, wY, Int.fdiv_eq_ediv_of_nonneg, Int.tdiv_eq_ediv_of_nonneg, Int.tmod_eq_emod_of_nonneg, chk_pos, decT, decF, br_pos, br_neg, wX, ↓reduceIte, Nat.reduceEqDiff, Nat.reduceAdd, Nat.reduceSub, Nat.reduceMul, Nat.reduceLeDiff, Nat.reduceLT, Nat.reduceMod, Nat.reduceDiv, Int.reduceToNat, Nat.min_eq_left, IntKind.bits, Int.reducePow, Int.reduceLT, Int.reduceLE, Int.reduceEq, Int.reduceNe, Int.reduceAdd, Int.reduceSub, and_self, reduceCtorEq, decide_eq_true_eq, decide_eq_false_iff_not, eq_self, implies_true, exists_const, Option.isNone_some, Option.isNone_none, Option.isSome_some, Option.isSome_none, Option.getD_some]
  refine New_ok.k ?_
  rintro _ g1 ⟨p, lv, rows, rfl, X0, e1⟩
  have X1 := X0 nos
  simp (disch := omega) only [dm_t, wA, wB, wL, wW, wY, Int.fdiv_eq_ediv_of_nonneg, Int.tdiv_eq_ediv_of_nonneg, Int.tmod_eq_emod_of_nonneg, chk_pos, decT, decF, br_pos, br_neg, wX, ↓reduceIte, Nat.reduceEqDiff, Nat.reduceAdd, Nat.reduceSub, Nat.reduceMul, Nat.reduceLeDiff, Nat.reduceLT, Nat.reduceMod, Nat.reduceDiv, Int.reduceToNat, Nat.min_eq_left, IntKind.bits, Int.reducePow, Int.reduceLT, Int.reduceLE, Int.reduceEq, Int.reduceNe, Int.reduceAdd, Int.reduceSub, and_self, reduceCtorEq, decide_eq_true_eq, decide_eq_false_iff_not, eq_self, implies_true, exists_const, Option.isNone_some, Option.isNone_none, Option.isSome_some, Option.isSome_none, Option.getD_some]
  refine (num_ok _ _).k ?_
  rintro _ _ ⟨rfl, rfl⟩
  simp (disch := omega) only [dm_t, wA, wB, wL, wW, wY, Int.fdiv_eq_ediv_of_nonneg, Int.tdiv_eq_ediv_of_nonneg, Int.tmod_eq_emod_of_nonneg, chk_pos, decT, decF, br_pos, br_neg, wX, ↓reduceIte, Nat.reduceEqDiff, Nat.reduceAdd, Nat.reduceSub, Nat.reduceMul, Nat.reduceLeDiff, Nat.reduceLT, Nat.reduceMod, Nat.reduceDiv, Int.reduceToNat, Nat.min_eq_left, IntKind.bits, Int.reducePow, Int.reduceLT, Int.reduceLE, Int.reduceEq, Int.reduceNe, Int.reduceAdd, Int.reduceSub, and_self, reduceCtorEq, decide_eq_true_eq, decide_eq_false_iff_not, eq_self, implies_true, exists_const, Option.isNone_some, Option.isNone_none, Option.isSome_some, Option.isSome_none, Option.getD_some]
  refine (Put_ok X1 e1 (RepL.mono (hw.fresh.ext (E.trans e1)) fun y _ _ hy => hy.elim (fun h1 => E.bk (X1.own' (.inl h1))) fun h1 => h1.elim (fun h1 => E.bk (X1.own' (.inr h1))) fun h => h.elim) (by simp; omega)).k ?_
  rintro _ g2 ⟨rfl, ⟨rows2, X2⟩, f2⟩
  rw [List.nil_append] at X2
  have e2 : Ext g g2 := Ext.step' e1 f2 fun y hy => X1.own' hy
  simp (disch := omega) only [dm_t, wA, wB, wL, wW, wY, Int.fdiv_eq_ediv_of_nonneg, Int.tdiv_eq_ediv_of_nonneg, Int.tmod_eq_emod_of_nonneg, chk_pos, decT, decF, br_pos, br_neg, wX, ↓reduceIte, Nat.reduceEqDiff, Nat.reduceAdd, Nat.reduceSub, Nat.reduceMul, Nat.reduceLeDiff, Nat.reduceLT, Nat.reduceMod, Nat.reduceDiv, Int.reduceToNat, Nat.min_eq_left, IntKind.bits, Int.reducePow, Int.reduceLT, Int.reduceLE, Int.reduceEq, Int.reduceNe, Int.reduceAdd, Int.reduceSub, and_self, reduceCtorEq, decide_eq_true_eq, decide_eq_false_iff_not, eq_self, implies_true, exists_const, Option.isNone_some, Option.isNone_none, Option.isSome_some, Option.isSome_none, Option.getD_some]
  refine (num_ok _ _).k ?_
  rintro _ _ ⟨rfl, rfl⟩
  simp (disch := omega) only [dm_t, wA, wB, wL, wW, wY, Int.fdiv_eq_ediv_of_nonneg, Int.tdiv_eq_ediv_of_nonneg, Int.tmod_eq_emod_of_nonneg, chk_pos, decT, decF, br_pos, br_neg, wX, ↓reduceIte, Nat.reduceEqDiff, Nat.reduceAdd, Nat.reduceSub, Nat.reduceMul, Nat.reduceLeDiff, Nat.reduceLT, Nat.reduceMod, Nat.reduceDiv, Int.reduceToNat, Nat.min_eq_left, IntKind.bits, Int.reducePow, Int.reduceLT, Int.reduceLE, Int.reduceEq, Int.reduceNe, Int.reduceAdd, Int.reduceSub, and_self, reduceCtorEq, decide_eq_true_eq, decide_eq_false_iff_not, eq_self, implies_true, exists_const, Option.isNone_some, Option.isNone_none, Option.isSome_some, Option.isSome_none, Option.getD_some]
  refine vc_loop2 (fun va vi G => ∃ (i k first : Nat) (rows : List (List Value)), va = .int .i64 (k : Int) ∧ vi = .int .i64 (i : Int) ∧ i ≤ (plan take (recsOf cs)).length ∧ k ≤ cs.length ∧ (plan take (recsOf cs)).drop i = plan take (recsOf (cs.drop k)) ∧ RO nos g G p lv 256 first (cs.drop k) rows ∧ Ext g G) (fun _ vi _ => (plan take (recsOf cs)).length - m1 vi) ?_ ?_
  · simp (disch := omega) only [dm_t, wA, wB, wL, wW, wY, Int.fdiv_eq_ediv_of_nonneg, Int.tdiv_eq_ediv_of_nonneg, Int.tmod_eq_emod_of_nonneg, chk_pos, decT, decF, br_pos, br_neg, wX, ↓reduceIte, Nat.reduceEqDiff, Nat.reduceAdd, Nat.reduceSub, Nat.reduceMul, Nat.reduceLeDiff, Nat.reduceLT, Nat.reduceMod, Nat.reduceDiv, Int.reduceToNat, Nat.min_eq_left, IntKind.bits, Int.reducePow, Int.reduceLT, Int.reduceLE, Int.reduceEq, Int.reduceNe, Int.reduceAdd, Int.reduceSub, and_self, reduceCtorEq, decide_eq_true_eq, decide_eq_false_iff_not, eq_self, implies_true, exists_const, Option.isNone_some, Option.isNone_none, Option.isSome_some, Option.isSome_none, Option.getD_some]
    exact ⟨0, 0, 0, rows2, rfl, rfl, by omega, by omega, by simp, by simpa using X2, e2⟩
  rintro _ _ G ⟨i, k, first, rows, rfl, rfl, hi, hkl, hpd, X, e⟩
  have EG := E.trans e
  have htd : total (recsOf (cs.drop k)) ≤ 3000 := by
    have h2 := total_append ((recsOf cs).take k) ((recsOf cs).drop k)
    rw [List.take_append_drop] at h2
    rw [recs_drop]; omega
  have hle0 : lE take (cs.drop k) = 0 := lE_drop ht hp hf hl k
  have hnT : nT take (cs.drop k) = cnt take (recsOf (cs.drop k)) := by rw [nT, if_neg (by rw [hle0]; simp)]
  have hdl : (cs.drop k).length = cs.length - k := List.length_drop
  have TK := Take_ok X e take (fun c hc => hx c (List.mem_of_mem_drop hc)) (fun c hc => hk c (List.mem_of_mem_drop hc)) (by omega) (fun y hy => hy.elim)
  rw [hle0] at TK
  have hnl := nT_le take (cs.drop k)
  by_cases hil : i < (plan take (recsOf cs)).length
  · have hne : recsOf (cs.drop k) ≠ [] := fun hn => by
      rw [hn] at hpd
      have h3 := congrArg List.length hpd
      rw [List.length_drop] at h3
      have : plan take [] = [] := rfl
      rw [this] at h3
      simp at h3; omega
    have hpc := plan_cons (take := take) (by omega) hne (fun x hx' => hf x (by rw [recs_drop] at hx'; exact List.mem_of_mem_drop hx'))
    rw [← hpd, List.drop_eq_getElem_cons hil, ← hnT] at hpc
    obtain ⟨hpi, hpt⟩ := List.cons.inj hpc
    obtain ⟨b1, o1, i1, t1⟩ := S1.load (hpv.ext e).s0 (i := i) (by rw [hint]; exact hil) .i64
    have hg : (ga.ints (plan take (recsOf cs)))[i]'(by rw [hint]; exact hil) = .int .i64 (nT take (cs.drop k) : Nat) := by simp [ga.ints, hpi]
    rw [hg] at t1
    generalize hQ0 : lq2 _ _ _ _ _ _ _ _ = Q0
    have key : vc Try.prog c6_s15 Q0 [(0, .int .i64 take), (1, .slice wa cs.length wc), (7, .slice pa (plan take (recsOf cs)).length pn), (9, .pointer (some ⟨p, 0, none⟩)), (11, .int .i64 (k : Int)), (12, .int .i64 (i : Int))] G := by
      simp (disch := omega) only [dm_t, wA, wB, wL, wW, wY, Int.fdiv_eq_ediv_of_nonneg, Int.tdiv_eq_ediv_of_nonneg, Int.tmod_eq_emod_of_nonneg, chk_pos, decT, decF, br_pos, br_neg, wX, ↓reduceIte, Nat.reduceEqDiff, Nat.reduceAdd, Nat.reduceSub, Nat.reduceMul, Nat.reduceLeDiff, Nat.reduceLT, Nat.reduceMod, Nat.reduceDiv, Int.reduceToNat, Nat.min_eq_left, IntKind.bits, Int.reducePow, Int.reduceLT, Int.reduceLE, Int.reduceEq, Int.reduceNe, Int.reduceAdd, Int.reduceSub, and_self, reduceCtorEq, decide_eq_true_eq, decide_eq_false_iff_not, eq_self, implies_true, exists_const, Option.isNone_some, Option.isNone_none, Option.isSome_some, Option.isSome_none, Option.getD_some]
      refine TK.k ?_
      rintro _ G2 ⟨v, w, rfl, hv, hw2, ⟨rows3, X3⟩, f3⟩
      have e3 : Ext g G2 := Ext.step' e f3 fun y hy => X.own' hy
      have t1' : cellAt G2 ⟨b1, o1, none⟩ = some (.int .i64 (nT take (cs.drop k) : Nat)) := by
        obtain ⟨b', o', i', t'⟩ := S1.load (hpv.ext e3).s0 (i := i) (by rw [hint]; exact hil) .i64
        rw [i1] at i'
        simp only [Option.some.injEq, Value.pointer.injEq, Addr.mk.injEq, and_true] at i'
        obtain ⟨rfl, rfl⟩ := i'
        rw [hg] at t'; exact t'
      obtain ⟨ca, cc, hcv⟩ := hv.len
      have hntl : ((cs.drop k).take (nT take (cs.drop k))).length = nT take (cs.drop k) := by rw [List.length_take]; omega
      rw [hntl] at hcv
      subst hcv
      obtain ⟨ra, rn, hrv⟩ := hw2.len
      subst hrv
      simp (disch := omega) only [dm_t, wA, wB, wL, wW, wY, Int.fdiv_eq_ediv_of_nonneg, Int.tdiv_eq_ediv_of_nonneg, Int.tmod_eq_emod_of_nonneg, chk_pos, decT, decF, br_pos, br_neg, wX, ↓reduceIte, Nat.reduceEqDiff, Nat.reduceAdd, Nat.reduceSub, Nat.reduceMul, Nat.reduceLeDiff, Nat.reduceLT, Nat.reduceMod, Nat.reduceDiv, Int.reduceToNat, Nat.min_eq_left, IntKind.bits, Int.reducePow, Int.reduceLT, Int.reduceLE, Int.reduceEq, Int.reduceNe, Int.reduceAdd, Int.reduceSub, and_self, reduceCtorEq, decide_eq_true_eq, decide_eq_false_iff_not, eq_self, implies_true, exists_const, Option.isNone_some, Option.isNone_none, Option.isSome_some, Option.isSome_none, Option.getD_some]
      refine (num_ok _ _).k ?_
      rintro _ _ ⟨rfl, rfl⟩
      have k17 := gq_s17 (take := take) (Q := Q0) (p := p) (pv := .slice pa (plan take (recsOf cs)).length pn) (i := i) hw hl htot (E.trans e3) (by omega) hv hw2 fun g2 eg2 => by
        rw [← hQ0]
        simp (disch := omega) only [dm_t, wA, wB, wL, wW, wY, Int.fdiv_eq_ediv_of_nonneg, Int.tdiv_eq_ediv_of_nonneg, Int.tmod_eq_emod_of_nonneg, chk_pos, decT, decF, br_pos, br_neg, wX, ↓reduceIte, Nat.reduceEqDiff, Nat.reduceAdd, Nat.reduceSub, Nat.reduceMul, Nat.reduceLeDiff, Nat.reduceLT, Nat.reduceMod, Nat.reduceDiv, Int.reduceToNat, Nat.min_eq_left, IntKind.bits, Int.reducePow, Int.reduceLT, Int.reduceLE, Int.reduceEq, Int.reduceNe, Int.reduceAdd, Int.reduceSub, and_self, reduceCtorEq, decide_eq_true_eq, decide_eq_false_iff_not, eq_self, implies_true, exists_const, Option.isNone_some, Option.isNone_none, Option.isSome_some, Option.isSome_none, Option.getD_some]
        refine ⟨⟨i + 1, k + nT take (cs.drop k), (first + nT take (cs.drop k)) % 256, rows3, rfl, by simp, by omega, by omega, ?_, ?_, e3.trans eg2⟩, by simp [m1]; omega⟩
        · rw [hpt, hnT, ← List.drop_drop, recs_drop _ (cnt _ _)]
        · rw [← List.drop_drop]; exact X3.ext eg2
      simp (disch := omega) only [dm_t, wA, wB, wL, wW, wY, Int.fdiv_eq_ediv_of_nonneg, Int.tdiv_eq_ediv_of_nonneg, Int.tmod_eq_emod_of_nonneg, chk_pos, decT, decF, br_pos, br_neg, wX, ↓reduceIte, Nat.reduceEqDiff, Nat.reduceAdd, Nat.reduceSub, Nat.reduceMul, Nat.reduceLeDiff, Nat.reduceLT, Nat.reduceMod, Nat.reduceDiv, Int.reduceToNat, Nat.min_eq_left, IntKind.bits, Int.reducePow, Int.reduceLT, Int.reduceLE, Int.reduceEq, Int.reduceNe, Int.reduceAdd, Int.reduceSub, and_self, reduceCtorEq, decide_eq_true_eq, decide_eq_false_iff_not, eq_self, implies_true, exists_const, Option.isNone_some, Option.isNone_none, Option.isSome_some, Option.isSome_none, Option.getD_some, i1, t1', k17]
    revert key
    simp (disch := omega) only [dm_t, wA, wB, wL, wW, wY, Int.fdiv_eq_ediv_of_nonneg, Int.tdiv_eq_ediv_of_nonneg, Int.tmod_eq_emod_of_nonneg, chk_pos, decT, decF, br_pos, br_neg, wX, ↓reduceIte, Nat.reduceEqDiff, Nat.reduceAdd, Nat.reduceSub, Nat.reduceMul, Nat.reduceLeDiff, Nat.reduceLT, Nat.reduceMod, Nat.reduceDiv, Int.reduceToNat, Nat.min_eq_left, IntKind.bits, Int.reducePow, Int.reduceLT, Int.reduceLE, Int.reduceEq, Int.reduceNe, Int.reduceAdd, Int.reduceSub, and_self, reduceCtorEq, decide_eq_true_eq, decide_eq_false_iff_not, eq_self, implies_true, exists_const, Option.isNone_some, Option.isNone_none, Option.isSome_some, Option.isSome_none, Option.getD_some]
    exact id
  · obtain rfl : i = (plan take (recsOf cs)).length := by omega
    have hnil : recsOf (cs.drop k) = [] := by
      rw [List.drop_length] at hpd
      by_cases hne : recsOf (cs.drop k) = []
      · exact hne
      · rw [plan_cons (take := take) (by omega) hne (fun x hx' => hf x (by rw [recs_drop] at hx'; exact List.mem_of_mem_drop hx'))] at hpd
        cases hpd
    have hcd : cs.drop k = [] := List.map_eq_nil_iff.1 hnil
    have hkc : k = cs.length := by
      have := congrArg List.length hcd
      simp at this; omega
    subst hkc
    have k27 := gq_s27 (wa := wa) (wc := wc) (cs := cs) ht htk e E (hcd ▸ X)
    revert k27
    simp (disch := omega) only [dm_t, wA, wB, wL, wW, wY, Int.fdiv_eq_ediv_of_nonneg, Int.tdiv_eq_ediv_of_nonneg, Int.tmod_eq_emod_of_nonneg, chk_pos, decT, decF, br_pos, br_neg, wX, ↓reduceIte, Nat.reduceEqDiff, Nat.reduceAdd, Nat.reduceSub, Nat.reduceMul, Nat.reduceLeDiff, Nat.reduceLT, Nat.reduceMod, Nat.reduceDiv, Int.reduceToNat, Nat.min_eq_left, IntKind.bits, Int.reducePow, Int.reduceLT, Int.reduceLE, Int.reduceEq, Int.reduceNe, Int.reduceAdd, Int.reduceSub, and_self, reduceCtorEq, decide_eq_true_eq, decide_eq_false_iff_not, eq_self, implies_true, exists_const, Option.isNone_some, Option.isNone_none, Option.isSome_some, Option.isSome_none, Option.getD_some]
    exact id
end
theorem GQ_ok {h : H} {w : Value} {take : Int} {cs : List callT.D} (htk : -9223372036854775808 ≤ take ∧ take ≤ 9223372036854775807) (hw : RepL nos callT h w cs) (hl0 : cs.length ≤ 4611686018427387904) (hk : ∀ c ∈ cs, ∀ x ∈ c.2.2.1, x.2.1.length ≤ 140737488355328 ∧ x.2.2.length ≤ 140737488355328) : Ok Try.prog 6 #[.int .i64 take, w] h (yT h) := by
  obtain ⟨wa, wc, rfl⟩ := hw.len
  refine c6_ok (args := [_, _]) (by simp) ?_
  by_cases hl : 256 < cs.length
  · simp (disch := omega) only [dm_t, wA, wB, wL, wW, wY, Int.fdiv_eq_ediv_of_nonneg, Int.tdiv_eq_ediv_of_nonneg, Int.tmod_eq_emod_of_nonneg, chk_pos, decT, decF, br_pos, br_neg, wX, ↓reduceIte, Nat.reduceEqDiff, Nat.reduceAdd, Nat.reduceSub, Nat.reduceMul, Nat.reduceLeDiff, Nat.reduceLT, Nat.reduceMod, Nat.reduceDiv, Int.reduceToNat, Nat.min_eq_left, IntKind.bits, Int.reducePow, Int.reduceLT, Int.reduceLE, Int.reduceEq, Int.reduceNe, Int.reduceAdd, Int.reduceSub, and_self, reduceCtorEq, decide_eq_true_eq, decide_eq_false_iff_not, eq_self, implies_true, exists_const, Option.isNone_some, Option.isNone_none, Option.isSome_some, Option.isSome_none, Option.getD_some]
    refine (works_ok).k ?_
    rintro _ g5 ⟨rfl, e5⟩
    simp (disch := omega) only [dm_t, wA, wB, wL, wW, wY, Int.fdiv_eq_ediv_of_nonneg, Int.tdiv_eq_ediv_of_nonneg, Int.tmod_eq_emod_of_nonneg, chk_pos, decT, decF, br_pos, br_neg, wX, ↓reduceIte, Nat.reduceEqDiff, Nat.reduceAdd, Nat.reduceSub, Nat.reduceMul, Nat.reduceLeDiff, Nat.reduceLT, Nat.reduceMod, Nat.reduceDiv, Int.reduceToNat, Nat.min_eq_left, IntKind.bits, Int.reducePow, Int.reduceLT, Int.reduceLE, Int.reduceEq, Int.reduceNe, Int.reduceAdd, Int.reduceSub, and_self, reduceCtorEq, decide_eq_true_eq, decide_eq_false_iff_not, eq_self, implies_true, exists_const, Option.isNone_some, Option.isNone_none, Option.isSome_some, Option.isSome_none, Option.getD_some]
    exact ⟨rfl, e5⟩
  have hrl : (recsOf cs).length = cs.length := by rw [recsOf, List.length_map]
  simp (disch := omega) only [dm_t, wA, wB, wL, wW, wY, Int.fdiv_eq_ediv_of_nonneg, Int.tdiv_eq_ediv_of_nonneg, Int.tmod_eq_emod_of_nonneg, chk_pos, decT, decF, br_pos, br_neg, wX, ↓reduceIte, Nat.reduceEqDiff, Nat.reduceAdd, Nat.reduceSub, Nat.reduceMul, Nat.reduceLeDiff, Nat.reduceLT, Nat.reduceMod, Nat.reduceDiv, Int.reduceToNat, Nat.min_eq_left, IntKind.bits, Int.reducePow, Int.reduceLT, Int.reduceLE, Int.reduceEq, Int.reduceNe, Int.reduceAdd, Int.reduceSub, and_self, reduceCtorEq, decide_eq_true_eq, decide_eq_false_iff_not, eq_self, implies_true, exists_const, Option.isNone_some, Option.isNone_none, Option.isSome_some, Option.isSome_none, Option.getD_some]
  refine vc_loop2 (fun vl vi G => ∃ i : Nat, vi = .int .i64 (i : Int) ∧ i ≤ cs.length ∧ (cs.take i).all putB = true ∧ OwL nos rcs (fun y => h y = none) G 32 vl (recsOf (cs.take i)) ∧ Ext h G) (fun _ vi _ => cs.length - m1 vi) ?_ ?_
  · simp (disch := omega) only [dm_t, wA, wB, wL, wW, wY, Int.fdiv_eq_ediv_of_nonneg, Int.tdiv_eq_ediv_of_nonneg, Int.tmod_eq_emod_of_nonneg, chk_pos, decT, decF, br_pos, br_neg, wX, ↓reduceIte, Nat.reduceEqDiff, Nat.reduceAdd, Nat.reduceSub, Nat.reduceMul, Nat.reduceLeDiff, Nat.reduceLT, Nat.reduceMod, Nat.reduceDiv, Int.reduceToNat, Nat.min_eq_left, IntKind.bits, Int.reducePow, Int.reduceLT, Int.reduceLE, Int.reduceEq, Int.reduceNe, Int.reduceAdd, Int.reduceSub, and_self, reduceCtorEq, decide_eq_true_eq, decide_eq_false_iff_not, eq_self, implies_true, exists_const, Option.isNone_some, Option.isNone_none, Option.isSome_some, Option.isSome_none, Option.getD_some]
    exact ⟨0, rfl, by omega, by simp, OwL.nil, Ext.refl _⟩
  rintro vl _ G ⟨i, rfl, hi, hpu, ol, E⟩
  have hlt : (recsOf (cs.take i)).length = i := by rw [recsOf, List.length_map, List.length_take]; omega
  obtain ⟨va, vn, hvl⟩ := ol.len
  rw [hlt] at hvl
  subst hvl
  by_cases hil : i < cs.length
  · obtain ⟨b1, o1, ra, rn, i1, -, t0, t2, -, rr1⟩ := call_at (hw.fresh.ext E) hil
    have hsp : recsOf (cs.take (i + 1)) = recsOf (cs.take i) ++ [cs[i].2.2.1] := by rw [recsOf, List.take_succ_eq_append_getElem hil, List.map_append]; rfl
    have hall : (cs.take (i + 1)).all putB = ((cs.take i).all putB && putB cs[i]) := by rw [List.take_succ_eq_append_getElem hil, List.all_append]; simp
    by_cases hk1 : @Eq Int cs[i].1 1
    · rw [hk1] at t0
      have hpb : putB cs[i] = true := by simp [putB, hk1]
      simp (disch := omega) only [dm_t, wA, wB, wL, wW, wY, Int.fdiv_eq_ediv_of_nonneg, Int.tdiv_eq_ediv_of_nonneg, Int.tmod_eq_emod_of_nonneg, chk_pos, decT, decF, br_pos, br_neg, wX, ↓reduceIte, Nat.reduceEqDiff, Nat.reduceAdd, Nat.reduceSub, Nat.reduceMul, Nat.reduceLeDiff, Nat.reduceLT, Nat.reduceMod, Nat.reduceDiv, Int.reduceToNat, Nat.min_eq_left, IntKind.bits, Int.reducePow, Int.reduceLT, Int.reduceLE, Int.reduceEq, Int.reduceNe, Int.reduceAdd, Int.reduceSub, and_self, reduceCtorEq, decide_eq_true_eq, decide_eq_false_iff_not, eq_self, implies_true, exists_const, Option.isNone_some, Option.isNone_none, Option.isSome_some, Option.isSome_none, Option.getD_some, i1, t0, t2]
      refine OwL.push2 (V := fun _ => _) (bytes := 24) (z := #[.slice none 0 0]) (t := rcs) (x := cs[i].2.2.1) 1 rfl ol (fun y hy => E.bk hy) (RepL.mono rr1 fun y _ _ hy => hy.elim (fun h => ol.own h) fun h => h.elim) (by rfl) (by rw [hlt]; omega) (by rw [hlt]; omega) ?_
      intro _ v2 G2 _ o2 f2 hat
      obtain ⟨v2a, v2n, rfl⟩ := o2.len
      have E2 := Ext.step E f2
      simp (disch := omega) only [dm_t, wA, wB, wL, wW, wY, Int.fdiv_eq_ediv_of_nonneg, Int.tdiv_eq_ediv_of_nonneg, Int.tmod_eq_emod_of_nonneg, chk_pos, decT, decF, br_pos, br_neg, wX, ↓reduceIte, Nat.reduceEqDiff, Nat.reduceAdd, Nat.reduceSub, Nat.reduceMul, Nat.reduceLeDiff, Nat.reduceLT, Nat.reduceMod, Nat.reduceDiv, Int.reduceToNat, Nat.min_eq_left, IntKind.bits, Int.reducePow, Int.reduceLT, Int.reduceLE, Int.reduceEq, Int.reduceNe, Int.reduceAdd, Int.reduceSub, and_self, reduceCtorEq, decide_eq_true_eq, decide_eq_false_iff_not, eq_self, implies_true, exists_const, Option.isNone_some, Option.isNone_none, Option.isSome_some, Option.isSome_none, Option.getD_some]
      exact ⟨⟨i + 1, by simp, by omega, by rw [hall, hpu, hpb]; rfl, by rw [hsp]; exact o2, E2⟩, by simp [m1]; omega⟩
    · simp (disch := omega) only [dm_t, wA, wB, wL, wW, wY, Int.fdiv_eq_ediv_of_nonneg, Int.tdiv_eq_ediv_of_nonneg, Int.tmod_eq_emod_of_nonneg, chk_pos, decT, decF, br_pos, br_neg, wX, ↓reduceIte, Nat.reduceEqDiff, Nat.reduceAdd, Nat.reduceSub, Nat.reduceMul, Nat.reduceLeDiff, Nat.reduceLT, Nat.reduceMod, Nat.reduceDiv, Int.reduceToNat, Nat.min_eq_left, IntKind.bits, Int.reducePow, Int.reduceLT, Int.reduceLE, Int.reduceEq, Int.reduceNe, Int.reduceAdd, Int.reduceSub, and_self, reduceCtorEq, decide_eq_true_eq, decide_eq_false_iff_not, eq_self, implies_true, exists_const, Option.isNone_some, Option.isNone_none, Option.isSome_some, Option.isSome_none, Option.getD_some, i1, t0, hk1]
      refine (works_ok).k ?_
      rintro _ g5 ⟨rfl, e5⟩
      simp (disch := omega) only [dm_t, wA, wB, wL, wW, wY, Int.fdiv_eq_ediv_of_nonneg, Int.tdiv_eq_ediv_of_nonneg, Int.tmod_eq_emod_of_nonneg, chk_pos, decT, decF, br_pos, br_neg, wX, ↓reduceIte, Nat.reduceEqDiff, Nat.reduceAdd, Nat.reduceSub, Nat.reduceMul, Nat.reduceLeDiff, Nat.reduceLT, Nat.reduceMod, Nat.reduceDiv, Int.reduceToNat, Nat.min_eq_left, IntKind.bits, Int.reducePow, Int.reduceLT, Int.reduceLE, Int.reduceEq, Int.reduceNe, Int.reduceAdd, Int.reduceSub, and_self, reduceCtorEq, decide_eq_true_eq, decide_eq_false_iff_not, eq_self, implies_true, exists_const, Option.isNone_some, Option.isNone_none, Option.isSome_some, Option.isSome_none, Option.getD_some]
      exact ⟨rfl, E.trans e5⟩
  · obtain rfl : i = cs.length := by omega
    rw [List.take_length] at ol hpu
    simp (disch := omega) only [dm_t, wA, wB, wL, wW, wY, Int.fdiv_eq_ediv_of_nonneg, Int.tdiv_eq_ediv_of_nonneg, Int.tmod_eq_emod_of_nonneg, chk_pos, decT, decF, br_pos, br_neg, wX, ↓reduceIte, Nat.reduceEqDiff, Nat.reduceAdd, Nat.reduceSub, Nat.reduceMul, Nat.reduceLeDiff, Nat.reduceLT, Nat.reduceMod, Nat.reduceDiv, Int.reduceToNat, Nat.min_eq_left, IntKind.bits, Int.reducePow, Int.reduceLT, Int.reduceLE, Int.reduceEq, Int.reduceNe, Int.reduceAdd, Int.reduceSub, and_self, reduceCtorEq, decide_eq_true_eq, decide_eq_false_iff_not, eq_self, implies_true, exists_const, Option.isNone_some, Option.isNone_none, Option.isSome_some, Option.isSome_none, Option.getD_some]
    refine (many_ok ol.rep (by rw [hrl]; omega)).k ?_
    rintro _ _ ⟨bb, rfl, hm, rfl⟩
    cases bb with
    | true =>
      simp (disch := omega) only [dm_t, wA, wB, wL, wW, wY, Int.fdiv_eq_ediv_of_nonneg, Int.tdiv_eq_ediv_of_nonneg, Int.tmod_eq_emod_of_nonneg, chk_pos, decT, decF, br_pos, br_neg, wX, ↓reduceIte, Nat.reduceEqDiff, Nat.reduceAdd, Nat.reduceSub, Nat.reduceMul, Nat.reduceLeDiff, Nat.reduceLT, Nat.reduceMod, Nat.reduceDiv, Int.reduceToNat, Nat.min_eq_left, IntKind.bits, Int.reducePow, Int.reduceLT, Int.reduceLE, Int.reduceEq, Int.reduceNe, Int.reduceAdd, Int.reduceSub, and_self, reduceCtorEq, decide_eq_true_eq, decide_eq_false_iff_not, eq_self, implies_true, exists_const, Option.isNone_some, Option.isNone_none, Option.isSome_some, Option.isSome_none, Option.getD_some]
      refine (works_ok).k ?_
      rintro _ g5 ⟨rfl, e5⟩
      simp (disch := omega) only [dm_t, wA, wB, wL, wW, wY, Int.fdiv_eq_ediv_of_nonneg, Int.tdiv_eq_ediv_of_nonneg, Int.tmod_eq_emod_of_nonneg, chk_pos, decT, decF, br_pos, br_neg, wX, ↓reduceIte, Nat.reduceEqDiff, Nat.reduceAdd, Nat.reduceSub, Nat.reduceMul, Nat.reduceLeDiff, Nat.reduceLT, Nat.reduceMod, Nat.reduceDiv, Int.reduceToNat, Nat.min_eq_left, IntKind.bits, Int.reducePow, Int.reduceLT, Int.reduceLE, Int.reduceEq, Int.reduceNe, Int.reduceAdd, Int.reduceSub, and_self, reduceCtorEq, decide_eq_true_eq, decide_eq_false_iff_not, eq_self, implies_true, exists_const, Option.isNone_some, Option.isNone_none, Option.isSome_some, Option.isSome_none, Option.getD_some]
      exact ⟨rfl, E.trans e5⟩
    | false =>
      have htot := (hm rfl).2
      have hxl : ∀ x ∈ recsOf cs, x.length ≤ 1000000 := fun x hx => by
        have := total_mem hx; omega
      simp (disch := omega) only [dm_t, wA, wB, wL, wW, wY, Int.fdiv_eq_ediv_of_nonneg, Int.tdiv_eq_ediv_of_nonneg, Int.tmod_eq_emod_of_nonneg, chk_pos, decT, decF, br_pos, br_neg, wX, ↓reduceIte, Nat.reduceEqDiff, Nat.reduceAdd, Nat.reduceSub, Nat.reduceMul, Nat.reduceLeDiff, Nat.reduceLT, Nat.reduceMod, Nat.reduceDiv, Int.reduceToNat, Nat.min_eq_left, IntKind.bits, Int.reducePow, Int.reduceLT, Int.reduceLE, Int.reduceEq, Int.reduceNe, Int.reduceAdd, Int.reduceSub, and_self, reduceCtorEq, decide_eq_true_eq, decide_eq_false_iff_not, eq_self, implies_true, exists_const, Option.isNone_some, Option.isNone_none, Option.isSome_some, Option.isSome_none, Option.getD_some]
      refine (gf.Plan_n take ol.rep (by omega) hxl).k ?_
      rintro _ g2 ⟨v, rfl, ov, e2⟩
      replace ov : O1 (fun y => h y = none) g2 3 v (ga.ints (gf.pC take (recsOf cs))) := OwK.mono ov fun y _ _ hy => E.bk hy
      simp (disch := omega) only [dm_t, wA, wB, wL, wW, wY, Int.fdiv_eq_ediv_of_nonneg, Int.tdiv_eq_ediv_of_nonneg, Int.tmod_eq_emod_of_nonneg, chk_pos, decT, decF, br_pos, br_neg, wX, ↓reduceIte, Nat.reduceEqDiff, Nat.reduceAdd, Nat.reduceSub, Nat.reduceMul, Nat.reduceLeDiff, Nat.reduceLT, Nat.reduceMod, Nat.reduceDiv, Int.reduceToNat, Nat.min_eq_left, IntKind.bits, Int.reducePow, Int.reduceLT, Int.reduceLE, Int.reduceEq, Int.reduceNe, Int.reduceAdd, Int.reduceSub, and_self, reduceCtorEq, decide_eq_true_eq, decide_eq_false_iff_not, eq_self, implies_true, exists_const, Option.isNone_some, Option.isNone_none, Option.isSome_some, Option.isSome_none, Option.getD_some]
      refine (num_ok _ _).k ?_
      rintro _ _ ⟨rfl, rfl⟩
      by_cases h0 : gf.eC take (recsOf cs) = 0
      · have h1 : ¬ take < 1 := fun h => by rw [gf.eC, if_pos h] at h0; cases h0
        have h2 : chkE (recsOf cs) = 0 := by rw [gf.eC, if_neg h1] at h0; exact h0
        rw [gf.pC, if_neg h1, if_neg (by rw [h2]; simp)] at ov
        have k := gq_s10 hw (by omega) htot hk htk (E.trans e2) h1 hpu (chk0 h2).2 ov
        rw [h0]
        simp (disch := omega) only [dm_t, wA, wB, wL, wW, wY, Int.fdiv_eq_ediv_of_nonneg, Int.tdiv_eq_ediv_of_nonneg, Int.tmod_eq_emod_of_nonneg, chk_pos, decT, decF, br_pos, br_neg, wX, ↓reduceIte, Nat.reduceEqDiff, Nat.reduceAdd, Nat.reduceSub, Nat.reduceMul, Nat.reduceLeDiff, Nat.reduceLT, Nat.reduceMod, Nat.reduceDiv, Int.reduceToNat, Nat.min_eq_left, IntKind.bits, Int.reducePow, Int.reduceLT, Int.reduceLE, Int.reduceEq, Int.reduceNe, Int.reduceAdd, Int.reduceSub, and_self, reduceCtorEq, decide_eq_true_eq, decide_eq_false_iff_not, eq_self, implies_true, exists_const, Option.isNone_some, Option.isNone_none, Option.isSome_some, Option.isSome_none, Option.getD_some, k]
      · have hpC : gf.pC take (recsOf cs) = [] := by
          by_cases h1 : take < 1
          · rw [gf.pC, if_pos h1]
          · rw [gf.eC, if_neg h1] at h0
            rw [gf.pC, if_neg h1, if_pos h0]
        rw [hpC, show ga.ints [] = [] from rfl] at ov
        obtain ⟨va2, vn2, rfl⟩ := S1.len ov.s0
        simp (disch := omega) only [dm_t, wA, wB, wL, wW, wY, Int.fdiv_eq_ediv_of_nonneg, Int.tdiv_eq_ediv_of_nonneg, Int.tmod_eq_emod_of_nonneg, chk_pos, decT, decF, br_pos, br_neg, wX, ↓reduceIte, Nat.reduceEqDiff, Nat.reduceAdd, Nat.reduceSub, Nat.reduceMul, Nat.reduceLeDiff, Nat.reduceLT, Nat.reduceMod, Nat.reduceDiv, Int.reduceToNat, Nat.min_eq_left, IntKind.bits, Int.reducePow, Int.reduceLT, Int.reduceLE, Int.reduceEq, Int.reduceNe, Int.reduceAdd, Int.reduceSub, and_self, reduceCtorEq, decide_eq_true_eq, decide_eq_false_iff_not, eq_self, implies_true, exists_const, Option.isNone_some, Option.isNone_none, Option.isSome_some, Option.isSome_none, Option.getD_some, h0, ga.ints]
        refine (works_ok).k ?_
        rintro _ g5 ⟨rfl, e5⟩
        simp (disch := omega) only [dm_t, wA, wB, wL, wW, wY, Int.fdiv_eq_ediv_of_nonneg, Int.tdiv_eq_ediv_of_nonneg, Int.tmod_eq_emod_of_nonneg, chk_pos, decT, decF, br_pos, br_neg, wX, ↓reduceIte, Nat.reduceEqDiff, Nat.reduceAdd, Nat.reduceSub, Nat.reduceMul, Nat.reduceLeDiff, Nat.reduceLT, Nat.reduceMod, Nat.reduceDiv, Int.reduceToNat, Nat.min_eq_left, IntKind.bits, Int.reducePow, Int.reduceLT, Int.reduceLE, Int.reduceEq, Int.reduceNe, Int.reduceAdd, Int.reduceSub, and_self, reduceCtorEq, decide_eq_true_eq, decide_eq_false_iff_not, eq_self, implies_true, exists_const, Option.isNone_some, Option.isNone_none, Option.isSome_some, Option.isSome_none, Option.getD_some]
        exact ⟨rfl, E.trans (e2.trans e5)⟩
end Go.Proofs.Ytcebmbnofejlhaa.gq
