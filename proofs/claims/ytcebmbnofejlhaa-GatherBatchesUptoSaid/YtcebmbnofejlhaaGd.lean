/-
  gather: Batches, made.
-/
import Derived.Test.YtcebmbnofejlhaaGc
namespace Go.Proofs.Ytcebmbnofejlhaa.gf
open Go.Proofs.Ytcebmbnofejlhaa rr ga
set_option linter.unusedVariables false
set_option linter.unusedSimpArgs false
/-- The error of Batches. -/
def eB (take base : Int) (ls : List rcs.D) : Int := if eC take ls ≠ 0 then eC take ls else eO base ls
theorem Batches_ok {S : Nat → Prop} {h : H} {s : Value} {ls : List rcs.D} (take base : Int) (hbs : -9223372036854775808 ≤ base ∧ base ≤ 9223372036854775807) (hs : RepL S rcs h s ls) (hl : ls.length ≤ 300) (hx : ∀ x ∈ ls, x.length ≤ 1000000) (hk : ∀ l ∈ ls, ∀ x ∈ l, x.2.1.length ≤ 140737488355328 ∧ x.2.2.length ≤ 140737488355328) :
    Ok Try.prog 27 #[.int .i64 take, .int .i64 base, s] h fun v h' => ((eB take base ls ≠ 0 ∧ v = .tuple #[.nilFunc, .int .i64 (eB take base ls)]) ∨ (eB take base ls = 0 ∧ ∃ bb pb ab pv av, v = .tuple #[.func (.func 43) #[] #[.pointer (some ⟨bb, 0, none⟩), .pointer (some ⟨pb, 0, none⟩), .pointer (some ⟨ab, 0, none⟩)], .int .i64 0] ∧ BI (fun y => h y ≠ none) bb pb ab pv av base.toNat (plan take ls) ls h')) ∧ Ext h h' := by
  obtain ⟨sa, sc, rfl⟩ := hs.len
  refine c27_ok (args := [_, _, _]) (by simp) ?_
  simp (disch := omega) only [dm_t, wA, wB, wL, wW, wY, Int.fdiv_eq_ediv_of_nonneg, Int.tdiv_eq_ediv_of_nonneg, Int.tmod_eq_emod_of_nonneg, chk_pos, decT, decF, br_pos, br_neg, wX, ↓reduceIte, Nat.reduceEqDiff, Nat.reduceAdd, Nat.reduceSub, Nat.reduceMul, Nat.reduceLeDiff, Nat.reduceLT, Nat.reduceMod, Nat.reduceDiv, Int.reduceToNat, Nat.min_eq_left, IntKind.bits, Int.reducePow, Int.reduceLT, Int.reduceLE, Int.reduceEq, Int.reduceNe, Int.reduceAdd, Int.reduceSub, and_self, reduceCtorEq, decide_eq_true_eq, decide_eq_false_iff_not, eq_self, implies_true, exists_const, Option.isNone_some, Option.isNone_none, Option.isSome_some, Option.isSome_none, Option.getD_some]
  intro bb hbb
  generalize hG : hupd h bb _ = g1
  obtain ⟨e1, qb⟩ := new_ext hG hbb
  clear hG
  simp (disch := omega) only [dm_t, wA, wB, wL, wW, wY, Int.fdiv_eq_ediv_of_nonneg, Int.tdiv_eq_ediv_of_nonneg, Int.tmod_eq_emod_of_nonneg, chk_pos, decT, decF, br_pos, br_neg, wX, ↓reduceIte, Nat.reduceEqDiff, Nat.reduceAdd, Nat.reduceSub, Nat.reduceMul, Nat.reduceLeDiff, Nat.reduceLT, Nat.reduceMod, Nat.reduceDiv, Int.reduceToNat, Nat.min_eq_left, IntKind.bits, Int.reducePow, Int.reduceLT, Int.reduceLE, Int.reduceEq, Int.reduceNe, Int.reduceAdd, Int.reduceSub, and_self, reduceCtorEq, decide_eq_true_eq, decide_eq_false_iff_not, eq_self, implies_true, exists_const, Option.isNone_some, Option.isNone_none, Option.isSome_some, Option.isSome_none, Option.getD_some]
  refine (Plan_n take (hs.ext e1) (by omega) hx).k ?_
  rintro _ g2 ⟨w, rfl, op, e2⟩
  obtain ⟨wa, wc, rfl⟩ := S1.len op.s0
  simp (disch := omega) only [dm_t, wA, wB, wL, wW, wY, Int.fdiv_eq_ediv_of_nonneg, Int.tdiv_eq_ediv_of_nonneg, Int.tmod_eq_emod_of_nonneg, chk_pos, decT, decF, br_pos, br_neg, wX, ↓reduceIte, Nat.reduceEqDiff, Nat.reduceAdd, Nat.reduceSub, Nat.reduceMul, Nat.reduceLeDiff, Nat.reduceLT, Nat.reduceMod, Nat.reduceDiv, Int.reduceToNat, Nat.min_eq_left, IntKind.bits, Int.reducePow, Int.reduceLT, Int.reduceLE, Int.reduceEq, Int.reduceNe, Int.reduceAdd, Int.reduceSub, and_self, reduceCtorEq, decide_eq_true_eq, decide_eq_false_iff_not, eq_self, implies_true, exists_const, Option.isNone_some, Option.isNone_none, Option.isSome_some, Option.isSome_none, Option.getD_some]
  intro pb hpb
  refine storeH_all (vs := [_]) (hupd_same _ _ _) rfl rfl ?_
  rw [hupd_hupd]
  generalize hG : hupd g2 pb _ = g3
  obtain ⟨e3, qp⟩ := new_ext hG hpb
  clear hG
  have E3 := (e1.trans e2).trans e3
  by_cases hc : eC take ls = 0
  · have qb3 := (e2.trans e3).at qb
    have b0 : cellAt g3 ⟨bb, 0, none⟩ = some (.int .i64 base) := by rw [cellAt_of qb3]; rfl
    simp (disch := omega) only [dm_t, wA, wB, wL, wW, wY, Int.fdiv_eq_ediv_of_nonneg, Int.tdiv_eq_ediv_of_nonneg, Int.tmod_eq_emod_of_nonneg, chk_pos, decT, decF, br_pos, br_neg, wX, ↓reduceIte, Nat.reduceEqDiff, Nat.reduceAdd, Nat.reduceSub, Nat.reduceMul, Nat.reduceLeDiff, Nat.reduceLT, Nat.reduceMod, Nat.reduceDiv, Int.reduceToNat, Nat.min_eq_left, IntKind.bits, Int.reducePow, Int.reduceLT, Int.reduceLE, Int.reduceEq, Int.reduceNe, Int.reduceAdd, Int.reduceSub, and_self, reduceCtorEq, decide_eq_true_eq, decide_eq_false_iff_not, eq_self, implies_true, exists_const, Option.isNone_some, Option.isNone_none, Option.isSome_some, Option.isSome_none, Option.getD_some, hc, b0]
    refine (Offsets_n base (hs.ext E3) (by omega) hx).k ?_
    rintro _ g4 ⟨ow, rfl, -, e4⟩
    by_cases ho : eO base ls = 0
    · simp (disch := omega) only [dm_t, wA, wB, wL, wW, wY, Int.fdiv_eq_ediv_of_nonneg, Int.tdiv_eq_ediv_of_nonneg, Int.tmod_eq_emod_of_nonneg, chk_pos, decT, decF, br_pos, br_neg, wX, ↓reduceIte, Nat.reduceEqDiff, Nat.reduceAdd, Nat.reduceSub, Nat.reduceMul, Nat.reduceLeDiff, Nat.reduceLT, Nat.reduceMod, Nat.reduceDiv, Int.reduceToNat, Nat.min_eq_left, IntKind.bits, Int.reducePow, Int.reduceLT, Int.reduceLE, Int.reduceEq, Int.reduceNe, Int.reduceAdd, Int.reduceSub, and_self, reduceCtorEq, decide_eq_true_eq, decide_eq_false_iff_not, eq_self, implies_true, exists_const, Option.isNone_some, Option.isNone_none, Option.isSome_some, Option.isSome_none, Option.getD_some, ho]
      intro ab hab
      generalize hG : hupd g4 ab _ = g5
      obtain ⟨e5, qa⟩ := new_ext hG hab
      clear hG
      have E5 := (E3.trans e4).trans e5
      have hbn : bb ≠ ab := ne_of ((e4).at qb3) hab
      have hpn : pb ≠ ab := ne_of ((e4).at qp) hab
      have han := (E3.trans e4).bk hab
      simp (disch := omega) only [dm_t, wA, wB, wL, wW, wY, Int.fdiv_eq_ediv_of_nonneg, Int.tdiv_eq_ediv_of_nonneg, Int.tmod_eq_emod_of_nonneg, chk_pos, decT, decF, br_pos, br_neg, wX, ↓reduceIte, Nat.reduceEqDiff, Nat.reduceAdd, Nat.reduceSub, Nat.reduceMul, Nat.reduceLeDiff, Nat.reduceLT, Nat.reduceMod, Nat.reduceDiv, Int.reduceToNat, Nat.min_eq_left, IntKind.bits, Int.reducePow, Int.reduceLT, Int.reduceLE, Int.reduceEq, Int.reduceNe, Int.reduceAdd, Int.reduceSub, and_self, reduceCtorEq, decide_eq_true_eq, decide_eq_false_iff_not, eq_self, implies_true, exists_const, Option.isNone_some, Option.isNone_none, Option.isSome_some, Option.isSome_none, Option.getD_some]
      refine vc_loop1 (fun vi h' => ∃ (i : Nat) (v : Value), vi = .int .i64 (i : Int) ∧ i ≤ ls.length ∧ h' ab = some (.cells #[v] 22) ∧ OwL (fun y => g5 y ≠ none) rcs (fun y => g5 y = none) h' 32 v (ls.take i) ∧ Fr (fun y => y = ab) g5 h') (fun vi _ => ls.length - m1 vi) ?_ ?_
      · simp (disch := omega) only [dm_t, wA, wB, wL, wW, wY, Int.fdiv_eq_ediv_of_nonneg, Int.tdiv_eq_ediv_of_nonneg, Int.tmod_eq_emod_of_nonneg, chk_pos, decT, decF, br_pos, br_neg, wX, ↓reduceIte, Nat.reduceEqDiff, Nat.reduceAdd, Nat.reduceSub, Nat.reduceMul, Nat.reduceLeDiff, Nat.reduceLT, Nat.reduceMod, Nat.reduceDiv, Int.reduceToNat, Nat.min_eq_left, IntKind.bits, Int.reducePow, Int.reduceLT, Int.reduceLE, Int.reduceEq, Int.reduceNe, Int.reduceAdd, Int.reduceSub, and_self, reduceCtorEq, decide_eq_true_eq, decide_eq_false_iff_not, eq_self, implies_true, exists_const, Option.isNone_some, Option.isNone_none, Option.isSome_some, Option.isSome_none, Option.getD_some]
        exact ⟨0, _, rfl, by omega, qa, OwL.nil, Fr.refl _ _⟩
      rintro _ g ⟨i, v, rfl, hi, qa', ov, f⟩
      have Eg : Ext h g := Ext.step' E5 f fun y hy => by rw [hy]; exact han
      have hga : g ab ≠ none := by rw [qa']; simp
      have back : ∀ {y}, g y = none → g5 y = none := fun {y} hy => by
        by_cases hya : y = ab
        · exact absurd (hya ▸ hy) hga
        · cases hc : g5 y with
          | none => rfl
          | some o => rw [f y o hc hya] at hy; cases hy
      have g5a : g5 ab ≠ none := by rw [qa]; simp
      by_cases hil : i < ls.length
      · have hsplit : ls.take (i + 1) = ls.take i ++ [ls[i]] := by simp
        have hlt : (ls.take i).length = i := by rw [List.length_take]; omega
        obtain ⟨va, vc', hva⟩ := ov.len
        rw [hlt] at hva
        subst hva
        obtain ⟨b1, o1, w1, i1, t1, r1⟩ : ∃ b o w, idxV1 1 (.slice sa ls.length sc) (.int .i64 (i : Int)) = some (.pointer (some ⟨b, o, none⟩)) ∧ cellAt h ⟨b, o, none⟩ = some w ∧ RepL S rc h w ls[i] := by
          obtain ⟨b, o, cs, q1, q2, q3, q4⟩ := hs.load hil .i64 1 rfl
          obtain ⟨w, _, rfl, _⟩ := id q4
          exact ⟨b, o, w, q1, q3 0 (by omega), q4⟩
        have a0 : ∀ {G : H} {v}, G ab = some (.cells #[v] 22) → cellAt G ⟨ab, 0, none⟩ = some v := fun q => by rw [cellAt_of q]; rfl
        simp (disch := omega) only [dm_t, wA, wB, wL, wW, wY, Int.fdiv_eq_ediv_of_nonneg, Int.tdiv_eq_ediv_of_nonneg, Int.tmod_eq_emod_of_nonneg, chk_pos, decT, decF, br_pos, br_neg, wX, ↓reduceIte, Nat.reduceEqDiff, Nat.reduceAdd, Nat.reduceSub, Nat.reduceMul, Nat.reduceLeDiff, Nat.reduceLT, Nat.reduceMod, Nat.reduceDiv, Int.reduceToNat, Nat.min_eq_left, IntKind.bits, Int.reducePow, Int.reduceLT, Int.reduceLE, Int.reduceEq, Int.reduceNe, Int.reduceAdd, Int.reduceSub, and_self, reduceCtorEq, decide_eq_true_eq, decide_eq_false_iff_not, eq_self, implies_true, exists_const, Option.isNone_some, Option.isNone_none, Option.isSome_some, Option.isSome_none, Option.getD_some, i1, cellAt_ext Eg t1, a0 qa']
        refine (rr.Copy_ok (r1.ext Eg) (hx _ (List.getElem_mem hil)) (hk _ (List.getElem_mem hil))).k ?_
        rintro u G1 ⟨ou, eG⟩
        obtain ⟨ua, uc, rfl⟩ := ou.l.len
        have qa1 := eG.at qa'
        simp (disch := omega) only [dm_t, wA, wB, wL, wW, wY, Int.fdiv_eq_ediv_of_nonneg, Int.tdiv_eq_ediv_of_nonneg, Int.tmod_eq_emod_of_nonneg, chk_pos, decT, decF, br_pos, br_neg, wX, ↓reduceIte, Nat.reduceEqDiff, Nat.reduceAdd, Nat.reduceSub, Nat.reduceMul, Nat.reduceLeDiff, Nat.reduceLT, Nat.reduceMod, Nat.reduceDiv, Int.reduceToNat, Nat.min_eq_left, IntKind.bits, Int.reducePow, Int.reduceLT, Int.reduceLE, Int.reduceEq, Int.reduceNe, Int.reduceAdd, Int.reduceSub, and_self, reduceCtorEq, decide_eq_true_eq, decide_eq_false_iff_not, eq_self, implies_true, exists_const, Option.isNone_some, Option.isNone_none, Option.isSome_some, Option.isSome_none, Option.getD_some, a0 qa1]
        intro bl hbl
        have hba := ne_of qa1 hbl
        refine ⟨a0 (by rw [hupd_ne _ _ hba]; exact qa1), ?_⟩
        refine OwL.push2 (V := fun _ => _) (bytes := 24) (z := #[.slice none 0 0]) (t := rcs) (x := ls[i]) 1 rfl (ov.ext eG) (fun y hy => back (eG.bk hy)) ?_ (by rfl) (by rw [hlt]; omega) (by rw [hlt]; omega) ?_ bl hbl
        · refine (ou.l.repS fun y hy hn => hn hy).mono fun y _ _ hy => ?_
          rcases hy with hy | hy
          · exact ov.there hy
          · exact fun hn => hy (back hn)
        intro _ v2 G2 _ o2 f2 hat
        have qa2 := f2 _ _ qa1 fun h => g5a h.1
        obtain ⟨v2a, v2n, rfl⟩ := o2.len
        simp (disch := omega) only [dm_t, wA, wB, wL, wW, wY, Int.fdiv_eq_ediv_of_nonneg, Int.tdiv_eq_ediv_of_nonneg, Int.tmod_eq_emod_of_nonneg, chk_pos, decT, decF, br_pos, br_neg, wX, ↓reduceIte, Nat.reduceEqDiff, Nat.reduceAdd, Nat.reduceSub, Nat.reduceMul, Nat.reduceLeDiff, Nat.reduceLT, Nat.reduceMod, Nat.reduceDiv, Int.reduceToNat, Nat.min_eq_left, IntKind.bits, Int.reducePow, Int.reduceLT, Int.reduceLE, Int.reduceEq, Int.reduceNe, Int.reduceAdd, Int.reduceSub, and_self, reduceCtorEq, decide_eq_true_eq, decide_eq_false_iff_not, eq_self, implies_true, exists_const, Option.isNone_some, Option.isNone_none, Option.isSome_some, Option.isSome_none, Option.getD_some, a0 qa2]
        refine storeH_all (vs := [_]) qa2 rfl rfl ?_
        generalize hG : hupd G2 ab _ = G3
        have f3 : Fr (fun y => y = ab) G2 G3 := hG ▸ Fr.upd (S := fun y => y = ab) rfl _
        have q3 : G3 ab = some (.cells #[.slice v2a _ v2n] 22) := hG ▸ hupd_same _ _ _
        clear hG
        simp (disch := omega) only [dm_t, wA, wB, wL, wW, wY, Int.fdiv_eq_ediv_of_nonneg, Int.tdiv_eq_ediv_of_nonneg, Int.tmod_eq_emod_of_nonneg, chk_pos, decT, decF, br_pos, br_neg, wX, ↓reduceIte, Nat.reduceEqDiff, Nat.reduceAdd, Nat.reduceSub, Nat.reduceMul, Nat.reduceLeDiff, Nat.reduceLT, Nat.reduceMod, Nat.reduceDiv, Int.reduceToNat, Nat.min_eq_left, IntKind.bits, Int.reducePow, Int.reduceLT, Int.reduceLE, Int.reduceEq, Int.reduceNe, Int.reduceAdd, Int.reduceSub, and_self, reduceCtorEq, decide_eq_true_eq, decide_eq_false_iff_not, eq_self, implies_true, exists_const, Option.isNone_some, Option.isNone_none, Option.isSome_some, Option.isSome_none, Option.getD_some]
        refine ⟨⟨i + 1, _, by simp, by omega, q3, ?_, ?_⟩, by simp [m1]; omega⟩
        · rw [hsplit]
          exact o2.fr f3 (fun y hy => hy ▸ g5a) fun y hy ho => absurd ho (hy ▸ g5a)
        · intro y o hy hn
          have y1 := eG.at (f y o hy hn)
          have y2 := f2 y o y1 fun hh => by have h6 := hh.1; rw [hy] at h6; cases h6
          exact f3 y o y2 hn
      · obtain rfl : i = ls.length := by omega
        rw [List.take_length] at ov
        simp (disch := omega) only [dm_t, wA, wB, wL, wW, wY, Int.fdiv_eq_ediv_of_nonneg, Int.tdiv_eq_ediv_of_nonneg, Int.tmod_eq_emod_of_nonneg, chk_pos, decT, decF, br_pos, br_neg, wX, ↓reduceIte, Nat.reduceEqDiff, Nat.reduceAdd, Nat.reduceSub, Nat.reduceMul, Nat.reduceLeDiff, Nat.reduceLT, Nat.reduceMod, Nat.reduceDiv, Int.reduceToNat, Nat.min_eq_left, IntKind.bits, Int.reducePow, Int.reduceLT, Int.reduceLE, Int.reduceEq, Int.reduceNe, Int.reduceAdd, Int.reduceSub, and_self, reduceCtorEq, decide_eq_true_eq, decide_eq_false_iff_not, eq_self, implies_true, exists_const, Option.isNone_some, Option.isNone_none, Option.isSome_some, Option.isSome_none, Option.getD_some]
        have keep : ∀ {y : Nat} {o : Obj}, g4 y = some o → y ≠ ab → g y = some o := fun hy hne => f _ _ (e5.at hy) hne
        have hE0 : eB take base ls = 0 := by rw [eB, hc, if_neg (by simp)]; exact ho
        have hb0 : 0 ≤ base := by
          by_cases hh : base < 0
          · have h2 : eO base ls = 2 := by rw [eO, if_pos (.inl hh)]
            rw [h2] at ho; cases ho
          · omega
        have hpl : pC take ls = plan take ls := by
          unfold eC at hc
          unfold pC
          split at hc
          · cases hc
          · rw [if_neg ‹_›, if_neg (by simpa using hc)]
        rw [hpl] at op qp
        refine ⟨.inr ⟨hE0, bb, pb, ab, .slice wa (ga.ints (plan take ls)).length wc, v, rfl, ?_⟩, Eg⟩
        refine ⟨by rw [Int.toNat_of_nonneg hb0]; exact keep (e4.at qb3) hbn, fun hh => hh hbb, keep (e4.at qp) hpn, fun hh => hh ((e1.trans e2).bk hpb), ?_, qa', fun hh => hh han, ?_⟩
        · have ga2 := (e3.trans e4).bk hab
          have op2 : O1 (fun y => h y = none ∧ y ≠ ab) g2 _ _ _ := OwK.mono op fun y o hy hn => ⟨e1.bk hn, fun hh => by rw [hh, ga2] at hy; cases hy⟩
          have op5 := OwK.ext op2 ((e3.trans e4).trans e5)
          exact (SlK.fr (OwK.sl op5 (S := fun y => h y ≠ none ∨ y = ab) fun y hy hs => hs.elim (fun h => h hy.1) hy.2) f fun y hy => .inr hy).mono fun y _ _ hy => .inl hy
        · exact (ov.repS fun y hy hs => hs hy).mono fun y _ _ hy hn => hy (E5.bk hn)
    · simp (disch := omega) only [dm_t, wA, wB, wL, wW, wY, Int.fdiv_eq_ediv_of_nonneg, Int.tdiv_eq_ediv_of_nonneg, Int.tmod_eq_emod_of_nonneg, chk_pos, decT, decF, br_pos, br_neg, wX, ↓reduceIte, Nat.reduceEqDiff, Nat.reduceAdd, Nat.reduceSub, Nat.reduceMul, Nat.reduceLeDiff, Nat.reduceLT, Nat.reduceMod, Nat.reduceDiv, Int.reduceToNat, Nat.min_eq_left, IntKind.bits, Int.reducePow, Int.reduceLT, Int.reduceLE, Int.reduceEq, Int.reduceNe, Int.reduceAdd, Int.reduceSub, and_self, reduceCtorEq, decide_eq_true_eq, decide_eq_false_iff_not, eq_self, implies_true, exists_const, Option.isNone_some, Option.isNone_none, Option.isSome_some, Option.isSome_none, Option.getD_some, ho]
      exact ⟨.inl ⟨by rw [eB, hc, if_neg (by simp)]; exact ho, by rw [eB, hc, if_neg (by simp)]⟩, E3.trans e4⟩
  · simp (disch := omega) only [dm_t, wA, wB, wL, wW, wY, Int.fdiv_eq_ediv_of_nonneg, Int.tdiv_eq_ediv_of_nonneg, Int.tmod_eq_emod_of_nonneg, chk_pos, decT, decF, br_pos, br_neg, wX, ↓reduceIte, Nat.reduceEqDiff, Nat.reduceAdd, Nat.reduceSub, Nat.reduceMul, Nat.reduceLeDiff, Nat.reduceLT, Nat.reduceMod, Nat.reduceDiv, Int.reduceToNat, Nat.min_eq_left, IntKind.bits, Int.reducePow, Int.reduceLT, Int.reduceLE, Int.reduceEq, Int.reduceNe, Int.reduceAdd, Int.reduceSub, and_self, reduceCtorEq, decide_eq_true_eq, decide_eq_false_iff_not, eq_self, implies_true, exists_const, Option.isNone_some, Option.isNone_none, Option.isSome_some, Option.isSome_none, Option.getD_some, hc]
    exact ⟨.inl ⟨by rw [eB, if_pos hc]; exact hc, by rw [eB, if_pos hc]⟩, E3⟩
end Go.Proofs.Ytcebmbnofejlhaa.gf
