/-
  model: fetch, Try.
-/
import Derived.Test.YtpgkkpjdajkobaaMb
namespace Go.Proofs.Ytpgkkpjdajkobaa.mo
open Go.Proofs.Ytpgkkpjdajkobaa rr
set_option linter.unusedVariables false
set_option linter.unusedSimpArgs false
section
variable {S : Nat → Prop} {h0 g : H} {p : Nat} {pv : Value} {vs : List Value} {ps : List (List rc.D)}
theorem fetch_ok {cs : List Value} {x : callT.D} (X : MX S h0 g p pv vs ps) (hx : Rep nos callT g cs x) (hps : ∀ l ∈ ps, lims l) :
    Ok Try.prog 39 #[.pointer (some ⟨p, 0, none⟩), .agg cs.toArray] g fun v h' => ∃ cs', v = .agg cs'.toArray ∧ YR g h' cs' (fetchP ps x) ∧ Ext g h' := by
  obtain ⟨r, rfl, hb, hr⟩ := rep_call.1 hx
  obtain ⟨hb0, hb1, hb3, hb4⟩ := hb
  unfold inI at hb0 hb1 hb3 hb4
  refine c39_ok (args := [_, _]) (by simp) ?_
  simp (disch := omega) only [dm_t, wA, wB, wL, wW, wY, Int.fdiv_eq_ediv_of_nonneg, Int.tdiv_eq_ediv_of_nonneg, Int.tmod_eq_emod_of_nonneg, chk_pos, decT, decF, br_pos, br_neg, wX, ↓reduceIte, Nat.reduceEqDiff, Nat.reduceAdd, Nat.reduceSub, Nat.reduceMul, Nat.reduceLeDiff, Nat.reduceLT, Nat.reduceMod, Nat.reduceDiv, Int.reduceToNat, Nat.min_eq_left, IntKind.bits, Int.reducePow, Int.reduceLT, Int.reduceLE, Int.reduceEq, Int.reduceNe, Int.reduceAdd, Int.reduceSub, and_self, reduceCtorEq, decide_eq_true_eq, decide_eq_false_iff_not, eq_self, implies_true, exists_const, Option.isNone_some, Option.isNone_none, Option.isSome_some, Option.isSome_none, Option.getD_some]
  intro b hbn d hd
  generalize hG : hupd g b _ = g1 at hd ⊢
  obtain ⟨e1, qb⟩ := new_ext hG hbn
  clear hG
  generalize hG : hupd g1 d _ = g2
  obtain ⟨e2, qd⟩ := new_ext hG hd
  clear hG
  have E2 := e1.trans e2
  have k := caC (e2.at qb)
  have X2 := X.ext E2
  have hdn := e1.bk hd
  by_cases hm : @LT.lt Int _ x.2.2.2.2 0
  · simp (disch := omega) only [dm_t, wA, wB, wL, wW, wY, Int.fdiv_eq_ediv_of_nonneg, Int.tdiv_eq_ediv_of_nonneg, Int.tmod_eq_emod_of_nonneg, chk_pos, decT, decF, br_pos, br_neg, wX, ↓reduceIte, Nat.reduceEqDiff, Nat.reduceAdd, Nat.reduceSub, Nat.reduceMul, Nat.reduceLeDiff, Nat.reduceLT, Nat.reduceMod, Nat.reduceDiv, Int.reduceToNat, Nat.min_eq_left, IntKind.bits, Int.reducePow, Int.reduceLT, Int.reduceLE, Int.reduceEq, Int.reduceNe, Int.reduceAdd, Int.reduceSub, and_self, reduceCtorEq, decide_eq_true_eq, decide_eq_false_iff_not, eq_self, implies_true, exists_const, Option.isNone_some, Option.isNone_none, Option.isSome_some, Option.isSome_none, Option.getD_some, k.c4]
    refine res3 (err 2) (.slice none 0 0) qd rfl rfl ?_
    intro G' kG qG f
    simp (disch := omega) only [dm_t, wA, wB, wL, wW, wY, Int.fdiv_eq_ediv_of_nonneg, Int.tdiv_eq_ediv_of_nonneg, Int.tmod_eq_emod_of_nonneg, chk_pos, decT, decF, br_pos, br_neg, wX, ↓reduceIte, Nat.reduceEqDiff, Nat.reduceAdd, Nat.reduceSub, Nat.reduceMul, Nat.reduceLeDiff, Nat.reduceLT, Nat.reduceMod, Nat.reduceDiv, Int.reduceToNat, Nat.min_eq_left, IntKind.bits, Int.reducePow, Int.reduceLT, Int.reduceLE, Int.reduceEq, Int.reduceNe, Int.reduceAdd, Int.reduceSub, and_self, reduceCtorEq, decide_eq_true_eq, decide_eq_false_iff_not, eq_self, implies_true, exists_const, Option.isNone_some, Option.isNone_none, Option.isSome_some, Option.isSome_none, Option.getD_some, kG]
    exact ⟨_, rfl, by rw [fetchP, if_pos hm]; exact yr_err 2 (by unfold inI; decide), Ext.step' E2 f fun y hy => by rw [hy]; exact hdn⟩
  simp (disch := omega) only [dm_t, wA, wB, wL, wW, wY, Int.fdiv_eq_ediv_of_nonneg, Int.tdiv_eq_ediv_of_nonneg, Int.tmod_eq_emod_of_nonneg, chk_pos, decT, decF, br_pos, br_neg, wX, ↓reduceIte, Nat.reduceEqDiff, Nat.reduceAdd, Nat.reduceSub, Nat.reduceMul, Nat.reduceLeDiff, Nat.reduceLT, Nat.reduceMod, Nat.reduceDiv, Int.reduceToNat, Nat.min_eq_left, IntKind.bits, Int.reducePow, Int.reduceLT, Int.reduceLE, Int.reduceEq, Int.reduceNe, Int.reduceAdd, Int.reduceSub, and_self, reduceCtorEq, decide_eq_true_eq, decide_eq_false_iff_not, eq_self, implies_true, exists_const, Option.isNone_some, Option.isNone_none, Option.isSome_some, Option.isSome_none, Option.getD_some, k.c4, k.c1]
  refine (part_ok X2 _).k ?_
  rintro _ _ ⟨rfl, rfl⟩
  by_cases hp : inP ps x.2.1
  · have hdec : decide (inP ps x.2.1) = true := by simpa using hp
    rw [hdec]
    obtain ⟨i, hi⟩ : ∃ i : Nat, @Eq Int x.2.1 (i : Int) := ⟨Int.toNat x.2.1, by have := hp.1; omega⟩
    have hil : i < ps.length := by have := hp.2; rw [hi] at this; omega
    have c1 := k.c1
    rw [hi] at c1
    have hiv : i < vs.length := by rw [X.len]; exact hil
    obtain ⟨b5, o5, i5, h5⟩ := S1.load X2.par.s0 hiv .i64
    have ok5 := X2.recAt hil
    obtain ⟨ra, rn, hra⟩ := ok5.len
    rw [hra] at h5 ok5
    obtain ⟨hlen, hkeys⟩ := hps _ (List.getElem_mem hil)
    have hgd : ps.getD (Int.toNat x.2.1) [] = ps[i] := by rw [hi, Int.toNat_natCast, List.getD_eq_getElem?_getD, List.getElem?_eq_getElem hil]; rfl
    simp (disch := omega) only [dm_t, wA, wB, wL, wW, wY, Int.fdiv_eq_ediv_of_nonneg, Int.tdiv_eq_ediv_of_nonneg, Int.tmod_eq_emod_of_nonneg, chk_pos, decT, decF, br_pos, br_neg, wX, ↓reduceIte, Nat.reduceEqDiff, Nat.reduceAdd, Nat.reduceSub, Nat.reduceMul, Nat.reduceLeDiff, Nat.reduceLT, Nat.reduceMod, Nat.reduceDiv, Int.reduceToNat, Nat.min_eq_left, IntKind.bits, Int.reducePow, Int.reduceLT, Int.reduceLE, Int.reduceEq, Int.reduceNe, Int.reduceAdd, Int.reduceSub, and_self, reduceCtorEq, decide_eq_true_eq, decide_eq_false_iff_not, eq_self, implies_true, exists_const, Option.isNone_some, Option.isNone_none, Option.isSome_some, Option.isSome_none, Option.getD_some, X2.cell, c1, i5, h5]
    by_cases ho : @LT.lt Int _ x.2.2.2.1 0 ∨ @LT.lt Int _ ps[i].length x.2.2.2.1
    · have fin : ∀ G', cellsAt G' ⟨d, 0, none⟩ 3 = some (yCs (err 4) (.slice none 0 0)).toArray → Fr (fun y => y = d) g2 G' → ∃ cs', Value.agg (yCs (err 4) (.slice none 0 0)).toArray = .agg cs'.toArray ∧ YR g G' cs' (fetchP ps x) ∧ Ext g G' := by
        intro G' kG f
        exact ⟨_, rfl, by rw [fetchP, if_neg hm, if_pos hp, hgd, if_pos ho]; exact yr_err 4 (by unfold inI; decide), Ext.step' E2 f fun y hy => by rw [hy]; exact hdn⟩
      by_cases ho1 : @LT.lt Int _ x.2.2.2.1 0
      · simp (disch := omega) only [dm_t, wA, wB, wL, wW, wY, Int.fdiv_eq_ediv_of_nonneg, Int.tdiv_eq_ediv_of_nonneg, Int.tmod_eq_emod_of_nonneg, chk_pos, decT, decF, br_pos, br_neg, wX, ↓reduceIte, Nat.reduceEqDiff, Nat.reduceAdd, Nat.reduceSub, Nat.reduceMul, Nat.reduceLeDiff, Nat.reduceLT, Nat.reduceMod, Nat.reduceDiv, Int.reduceToNat, Nat.min_eq_left, IntKind.bits, Int.reducePow, Int.reduceLT, Int.reduceLE, Int.reduceEq, Int.reduceNe, Int.reduceAdd, Int.reduceSub, and_self, reduceCtorEq, decide_eq_true_eq, decide_eq_false_iff_not, eq_self, implies_true, exists_const, Option.isNone_some, Option.isNone_none, Option.isSome_some, Option.isSome_none, Option.getD_some, k.c3]
        refine res3 (err 4) (.slice none 0 0) qd rfl rfl ?_
        intro G' kG qG f
        simp (disch := omega) only [dm_t, wA, wB, wL, wW, wY, Int.fdiv_eq_ediv_of_nonneg, Int.tdiv_eq_ediv_of_nonneg, Int.tmod_eq_emod_of_nonneg, chk_pos, decT, decF, br_pos, br_neg, wX, ↓reduceIte, Nat.reduceEqDiff, Nat.reduceAdd, Nat.reduceSub, Nat.reduceMul, Nat.reduceLeDiff, Nat.reduceLT, Nat.reduceMod, Nat.reduceDiv, Int.reduceToNat, Nat.min_eq_left, IntKind.bits, Int.reducePow, Int.reduceLT, Int.reduceLE, Int.reduceEq, Int.reduceNe, Int.reduceAdd, Int.reduceSub, and_self, reduceCtorEq, decide_eq_true_eq, decide_eq_false_iff_not, eq_self, implies_true, exists_const, Option.isNone_some, Option.isNone_none, Option.isSome_some, Option.isSome_none, Option.getD_some, kG]
        exact fin G' kG f
      · have ho2 : @LT.lt Int _ ps[i].length x.2.2.2.1 := ho.resolve_left ho1
        simp (disch := omega) only [dm_t, wA, wB, wL, wW, wY, Int.fdiv_eq_ediv_of_nonneg, Int.tdiv_eq_ediv_of_nonneg, Int.tmod_eq_emod_of_nonneg, chk_pos, decT, decF, br_pos, br_neg, wX, ↓reduceIte, Nat.reduceEqDiff, Nat.reduceAdd, Nat.reduceSub, Nat.reduceMul, Nat.reduceLeDiff, Nat.reduceLT, Nat.reduceMod, Nat.reduceDiv, Int.reduceToNat, Nat.min_eq_left, IntKind.bits, Int.reducePow, Int.reduceLT, Int.reduceLE, Int.reduceEq, Int.reduceNe, Int.reduceAdd, Int.reduceSub, and_self, reduceCtorEq, decide_eq_true_eq, decide_eq_false_iff_not, eq_self, implies_true, exists_const, Option.isNone_some, Option.isNone_none, Option.isSome_some, Option.isSome_none, Option.getD_some, k.c3]
        refine res3 (err 4) (.slice none 0 0) qd rfl rfl ?_
        intro G' kG qG f
        simp (disch := omega) only [dm_t, wA, wB, wL, wW, wY, Int.fdiv_eq_ediv_of_nonneg, Int.tdiv_eq_ediv_of_nonneg, Int.tmod_eq_emod_of_nonneg, chk_pos, decT, decF, br_pos, br_neg, wX, ↓reduceIte, Nat.reduceEqDiff, Nat.reduceAdd, Nat.reduceSub, Nat.reduceMul, Nat.reduceLeDiff, Nat.reduceLT, Nat.reduceMod, Nat.reduceDiv, Int.reduceToNat, Nat.min_eq_left, IntKind.bits, Int.reducePow, Int.reduceLT, Int.reduceLE, Int.reduceEq, Int.reduceNe, Int.reduceAdd, Int.reduceSub, and_self, reduceCtorEq, decide_eq_true_eq, decide_eq_false_iff_not, eq_self, implies_true, exists_const, Option.isNone_some, Option.isNone_none, Option.isSome_some, Option.isSome_none, Option.getD_some, kG]
        exact fin G' kG f
    · have ho1 : ¬ @LT.lt Int _ x.2.2.2.1 0 := fun h => ho (.inl h)
      have ho2 : ¬ @LT.lt Int _ ps[i].length x.2.2.2.1 := fun h => ho (.inr h)
      obtain ⟨off, hoff⟩ : ∃ o : Nat, @Eq Int x.2.2.2.1 (o : Int) := ⟨Int.toNat x.2.2.2.1, by omega⟩
      obtain ⟨most, hmost⟩ : ∃ o : Nat, @Eq Int x.2.2.2.2 (o : Int) := ⟨Int.toNat x.2.2.2.2, by omega⟩
      have c3 := k.c3
      have c4 := k.c4
      rw [hoff] at c3
      rw [hmost] at c4
      have r5 := ok5.rep
      obtain ⟨_, hcap, _⟩ := r5.cap
      simp (disch := omega) only [dm_t, wA, wB, wL, wW, wY, Int.fdiv_eq_ediv_of_nonneg, Int.tdiv_eq_ediv_of_nonneg, Int.tmod_eq_emod_of_nonneg, chk_pos, decT, decF, br_pos, br_neg, wX, ↓reduceIte, Nat.reduceEqDiff, Nat.reduceAdd, Nat.reduceSub, Nat.reduceMul, Nat.reduceLeDiff, Nat.reduceLT, Nat.reduceMod, Nat.reduceDiv, Int.reduceToNat, Nat.min_eq_left, IntKind.bits, Int.reducePow, Int.reduceLT, Int.reduceLE, Int.reduceEq, Int.reduceNe, Int.reduceAdd, Int.reduceSub, and_self, reduceCtorEq, decide_eq_true_eq, decide_eq_false_iff_not, eq_self, implies_true, exists_const, Option.isNone_some, Option.isNone_none, Option.isSome_some, Option.isSome_none, Option.getD_some, c3]
      refine RepL.cutK r5 (by rfl) off ps[i].length rn rfl (by simp) rfl (by omega) (.inr rfl) ?_
      intro v1 hv1
      have hl1 : ((ps[i].drop off).take (ps[i].length - off)).length = ps[i].length - off := by simp
      have hd1 : (ps[i].drop off).take (ps[i].length - off) = ps[i].drop off := List.take_of_length_le (by simp)
      rw [hd1] at hv1
      obtain ⟨qa, qn, rfl⟩ := hv1.len
      have hl2 : (ps[i].drop off).length = ps[i].length - off := by simp
      rw [hl2] at hv1 ⊢
      simp (disch := omega) only [dm_t, wA, wB, wL, wW, wY, Int.fdiv_eq_ediv_of_nonneg, Int.tdiv_eq_ediv_of_nonneg, Int.tmod_eq_emod_of_nonneg, chk_pos, decT, decF, br_pos, br_neg, wX, ↓reduceIte, Nat.reduceEqDiff, Nat.reduceAdd, Nat.reduceSub, Nat.reduceMul, Nat.reduceLeDiff, Nat.reduceLT, Nat.reduceMod, Nat.reduceDiv, Int.reduceToNat, Nat.min_eq_left, IntKind.bits, Int.reducePow, Int.reduceLT, Int.reduceLE, Int.reduceEq, Int.reduceNe, Int.reduceAdd, Int.reduceSub, and_self, reduceCtorEq, decide_eq_true_eq, decide_eq_false_iff_not, eq_self, implies_true, exists_const, Option.isNone_some, Option.isNone_none, Option.isSome_some, Option.isSome_none, Option.getD_some, c4]
      refine RepL.cutK hv1 (by rfl) 0 (min (ps[i].length - off) most) qn rfl (by omega) rfl (by have := hv1.cap; omega) (.inr rfl) ?_
      intro v2 hv2
      have hl3 : ((ps[i].drop off).drop 0).take (min (ps[i].length - off) most - 0) = (ps[i].drop off).take most := by
        rw [List.drop_zero, Nat.sub_zero]
        have := List.take_take (l := ps[i].drop off) (i := most) (j := ps[i].length - off)
        rw [List.take_of_length_le (l := ps[i].drop off) (i := ps[i].length - off) (by omega)] at this
        rw [this, Nat.min_comm]
      rw [hl3] at hv2
      obtain ⟨wa, wn, rfl⟩ := hv2.len
      have hll : ((ps[i].drop off).take most).length ≤ 1000000 := by rw [List.length_take]; omega
      simp (disch := omega) only [dm_t, wA, wB, wL, wW, wY, Int.fdiv_eq_ediv_of_nonneg, Int.tdiv_eq_ediv_of_nonneg, Int.tmod_eq_emod_of_nonneg, chk_pos, decT, decF, br_pos, br_neg, wX, ↓reduceIte, Nat.reduceEqDiff, Nat.reduceAdd, Nat.reduceSub, Nat.reduceMul, Nat.reduceLeDiff, Nat.reduceLT, Nat.reduceMod, Nat.reduceDiv, Int.reduceToNat, Nat.min_eq_left, IntKind.bits, Int.reducePow, Int.reduceLT, Int.reduceLE, Int.reduceEq, Int.reduceNe, Int.reduceAdd, Int.reduceSub, and_self, reduceCtorEq, decide_eq_true_eq, decide_eq_false_iff_not, eq_self, implies_true, exists_const, Option.isNone_some, Option.isNone_none, Option.isSome_some, Option.isSome_none, Option.getD_some]
      refine (Copy_ok hv2 hll (fun y hy => hkeys y (List.mem_of_mem_drop (List.mem_of_mem_take hy)))).k ?_
      rintro w g3 ⟨oq, e3⟩
      obtain ⟨za, zn, rfl⟩ := oq.l.len
      simp (disch := omega) only [dm_t, wA, wB, wL, wW, wY, Int.fdiv_eq_ediv_of_nonneg, Int.tdiv_eq_ediv_of_nonneg, Int.tmod_eq_emod_of_nonneg, chk_pos, decT, decF, br_pos, br_neg, wX, ↓reduceIte, Nat.reduceEqDiff, Nat.reduceAdd, Nat.reduceSub, Nat.reduceMul, Nat.reduceLeDiff, Nat.reduceLT, Nat.reduceMod, Nat.reduceDiv, Int.reduceToNat, Nat.min_eq_left, IntKind.bits, Int.reducePow, Int.reduceLT, Int.reduceLE, Int.reduceEq, Int.reduceNe, Int.reduceAdd, Int.reduceSub, and_self, reduceCtorEq, decide_eq_true_eq, decide_eq_false_iff_not, eq_self, implies_true, exists_const, Option.isNone_some, Option.isNone_none, Option.isSome_some, Option.isSome_none, Option.getD_some]
      refine res3 ((0 : Int), (ps[i].length : Int), (ps[i].drop off).take most) (.slice za ((ps[i].drop off).take most).length zn) (e3.at qd) rfl rfl ?_
      intro G' kG qG f
      simp (disch := omega) only [dm_t, wA, wB, wL, wW, wY, Int.fdiv_eq_ediv_of_nonneg, Int.tdiv_eq_ediv_of_nonneg, Int.tmod_eq_emod_of_nonneg, chk_pos, decT, decF, br_pos, br_neg, wX, ↓reduceIte, Nat.reduceEqDiff, Nat.reduceAdd, Nat.reduceSub, Nat.reduceMul, Nat.reduceLeDiff, Nat.reduceLT, Nat.reduceMod, Nat.reduceDiv, Int.reduceToNat, Nat.min_eq_left, IntKind.bits, Int.reducePow, Int.reduceLT, Int.reduceLE, Int.reduceEq, Int.reduceNe, Int.reduceAdd, Int.reduceSub, and_self, reduceCtorEq, decide_eq_true_eq, decide_eq_false_iff_not, eq_self, implies_true, exists_const, Option.isNone_some, Option.isNone_none, Option.isSome_some, Option.isSome_none, Option.getD_some, kG]
      have hdg : g2 d ≠ none := by rw [qd]; simp
      have oq2 := (oq.fr f (fun y hy => by rw [hy]; exact hdg) (fun y hy ho => absurd ho (by rw [hy]; exact hdg)) fun r hr => wrow_fr hr f fun y hy ho => hdg (hy ▸ ho)).imp (Q' := WRow 5 fun y => g y = none) (S' := fun y => g y ≠ none) (O' := fun y => g y = none) (fun y hy hn => hy (E2.bk hn)) (fun y _ _ hn => E2.bk hn) fun r hr => hr.mono fun y _ _ hn => E2.bk hn
      refine ⟨_, rfl, ?_, Ext.step' (E2.trans e3) f fun y hy => by rw [hy]; exact hdn⟩
      rw [fetchP, if_neg hm, if_pos hp, hgd, if_neg ho, hoff, hmost, Int.toNat_natCast, Int.toNat_natCast]
      exact ⟨_, rfl, ⟨inI0, inI_len (by omega)⟩, oq2⟩
  · have hdec : decide (inP ps x.2.1) = false := by simpa using hp
    rw [hdec]
    simp (disch := omega) only [dm_t, wA, wB, wL, wW, wY, Int.fdiv_eq_ediv_of_nonneg, Int.tdiv_eq_ediv_of_nonneg, Int.tmod_eq_emod_of_nonneg, chk_pos, decT, decF, br_pos, br_neg, wX, ↓reduceIte, Nat.reduceEqDiff, Nat.reduceAdd, Nat.reduceSub, Nat.reduceMul, Nat.reduceLeDiff, Nat.reduceLT, Nat.reduceMod, Nat.reduceDiv, Int.reduceToNat, Nat.min_eq_left, IntKind.bits, Int.reducePow, Int.reduceLT, Int.reduceLE, Int.reduceEq, Int.reduceNe, Int.reduceAdd, Int.reduceSub, and_self, reduceCtorEq, decide_eq_true_eq, decide_eq_false_iff_not, eq_self, implies_true, exists_const, Option.isNone_some, Option.isNone_none, Option.isSome_some, Option.isSome_none, Option.getD_some]
    refine res3 (err 7) (.slice none 0 0) qd rfl rfl ?_
    intro G' kG qG f
    simp (disch := omega) only [dm_t, wA, wB, wL, wW, wY, Int.fdiv_eq_ediv_of_nonneg, Int.tdiv_eq_ediv_of_nonneg, Int.tmod_eq_emod_of_nonneg, chk_pos, decT, decF, br_pos, br_neg, wX, ↓reduceIte, Nat.reduceEqDiff, Nat.reduceAdd, Nat.reduceSub, Nat.reduceMul, Nat.reduceLeDiff, Nat.reduceLT, Nat.reduceMod, Nat.reduceDiv, Int.reduceToNat, Nat.min_eq_left, IntKind.bits, Int.reducePow, Int.reduceLT, Int.reduceLE, Int.reduceEq, Int.reduceNe, Int.reduceAdd, Int.reduceSub, and_self, reduceCtorEq, decide_eq_true_eq, decide_eq_false_iff_not, eq_self, implies_true, exists_const, Option.isNone_some, Option.isNone_none, Option.isSome_some, Option.isSome_none, Option.getD_some, kG]
    exact ⟨_, rfl, by rw [fetchP, if_neg hm, if_neg hp]; exact yr_err 7 (by unfold inI; decide), Ext.step' E2 f fun y hy => by rw [hy]; exact hdn⟩
theorem YR.base {g g3 h' : H} {cs : List Value} {r : replyT.D} (y : YR g3 h' cs r) (e : Ext g g3) : YR g h' cs r := by
  obtain ⟨v, h1, h2, h3⟩ := y
  exact ⟨v, h1, h2, h3.imp (fun y hy hn => hy (e.bk hn)) (fun y _ _ hn => e.bk hn) fun r hr => hr.mono fun y _ _ hn => e.bk hn⟩
theorem YR.fr {g h' h'' : H} {T : Nat → Prop} {cs : List Value} {r : replyT.D} (y : YR g h' cs r) (f : Fr T h' h'') (hT : ∀ y, T y → g y ≠ none) : YR g h'' cs r := by
  obtain ⟨v, h1, h2, h3⟩ := y
  exact ⟨v, h1, h2, h3.fr f hT (fun y hy ho => absurd ho (hT y hy)) fun r hr => wrow_fr hr f fun y hy ho => hT y hy ho⟩
theorem Try_ok {cs : List Value} {x : callT.D} (X : MX S h0 g p pv vs ps) (hx : Rep nos callT g cs x) (hl : x.2.2.1.length ≤ 4611686018427387904) (hps : ∀ l ∈ ps, lims l) :
    Ok Try.prog 21 #[.pointer (some ⟨p, 0, none⟩), .agg cs.toArray] g fun v h' => ∃ cs', v = .agg cs'.toArray ∧ YK x g h' cs' (tryP ps x) ∧ Ext g h' := by
  obtain ⟨r, rfl, hb, hr⟩ := rep_call.1 hx
  have hb0 := hb.1
  unfold inI at hb0
  refine c21_ok (args := [_, _]) (by simp) ?_
  simp (disch := omega) only [dm_t, wA, wB, wL, wW, wY, Int.fdiv_eq_ediv_of_nonneg, Int.tdiv_eq_ediv_of_nonneg, Int.tmod_eq_emod_of_nonneg, chk_pos, decT, decF, br_pos, br_neg, wX, ↓reduceIte, Nat.reduceEqDiff, Nat.reduceAdd, Nat.reduceSub, Nat.reduceMul, Nat.reduceLeDiff, Nat.reduceLT, Nat.reduceMod, Nat.reduceDiv, Int.reduceToNat, Nat.min_eq_left, IntKind.bits, Int.reducePow, Int.reduceLT, Int.reduceLE, Int.reduceEq, Int.reduceNe, Int.reduceAdd, Int.reduceSub, and_self, reduceCtorEq, decide_eq_true_eq, decide_eq_false_iff_not, eq_self, implies_true, exists_const, Option.isNone_some, Option.isNone_none, Option.isSome_some, Option.isSome_none, Option.getD_some]
  intro b hbn d hd
  generalize hG : hupd g b _ = g1 at hd ⊢
  obtain ⟨e1, qb⟩ := new_ext hG hbn
  clear hG
  generalize hG : hupd g1 d _ = g2
  obtain ⟨e2, qd⟩ := new_ext hG hd
  clear hG
  have E2 := e1.trans e2
  have X2 := X.ext E2
  have hdn := e1.bk hd
  refine (none_ok X2).k ?_
  rintro _ _ ⟨rfl, rfl⟩
  simp (disch := omega) only [dm_t, wA, wB, wL, wW, wY, Int.fdiv_eq_ediv_of_nonneg, Int.tdiv_eq_ediv_of_nonneg, Int.tmod_eq_emod_of_nonneg, chk_pos, decT, decF, br_pos, br_neg, wX, ↓reduceIte, Nat.reduceEqDiff, Nat.reduceAdd, Nat.reduceSub, Nat.reduceMul, Nat.reduceLeDiff, Nat.reduceLT, Nat.reduceMod, Nat.reduceDiv, Int.reduceToNat, Nat.min_eq_left, IntKind.bits, Int.reducePow, Int.reduceLT, Int.reduceLE, Int.reduceEq, Int.reduceNe, Int.reduceAdd, Int.reduceSub, and_self, reduceCtorEq, decide_eq_true_eq, decide_eq_false_iff_not, eq_self, implies_true, exists_const, Option.isNone_some, Option.isNone_none, Option.isSome_some, Option.isSome_none, Option.getD_some]
  intro t ht
  simp (disch := omega) only [dm_t, wA, wB, wL, wW, wY, Int.fdiv_eq_ediv_of_nonneg, Int.tdiv_eq_ediv_of_nonneg, Int.tmod_eq_emod_of_nonneg, chk_pos, decT, decF, br_pos, br_neg, wX, ↓reduceIte, Nat.reduceEqDiff, Nat.reduceAdd, Nat.reduceSub, Nat.reduceMul, Nat.reduceLeDiff, Nat.reduceLT, Nat.reduceMod, Nat.reduceDiv, Int.reduceToNat, Nat.min_eq_left, IntKind.bits, Int.reducePow, Int.reduceLT, Int.reduceLE, Int.reduceEq, Int.reduceNe, Int.reduceAdd, Int.reduceSub, and_self, reduceCtorEq, decide_eq_true_eq, decide_eq_false_iff_not, eq_self, implies_true, exists_const, Option.isNone_some, Option.isNone_none, Option.isSome_some, Option.isSome_none, Option.getD_some]
  refine storeH_all (hupd_same _ _ _) rfl rfl ?_
  generalize hG : hupd (hupd g2 t _) t _ = g3
  rw [hupd_hupd] at hG
  obtain ⟨e3, qt⟩ := new_ext hG ht
  clear hG
  have E3 := E2.trans e3
  have X3 := X.ext E3
  have k := caC (e3.at (e2.at qb))
  have qd3 := e3.at qd
  have hbd : b ≠ d := fun h => by subst h; rw [qb] at hd; cases hd
  have htd : t ≠ d := fun h => by subst h; rw [qd] at ht; cases ht
  have f0 : cellAt g3 ⟨t, 1, none⟩ = some (.func (.func 38) #[] #[]) := by rw [cellAt_of qt]; rfl
  have f1 : cellAt g3 ⟨t, 2, none⟩ = some (.func (.func 39) #[] #[]) := by rw [cellAt_of qt]; rfl
  by_cases h1 : @Eq Int x.1 1
  · have c0 := k.c0
    rw [h1] at c0
    have htry : tryP ps x = prodP ps x := by rw [tryP, if_pos h1]
    simp (disch := omega) only [dm_t, wA, wB, wL, wW, wY, Int.fdiv_eq_ediv_of_nonneg, Int.tdiv_eq_ediv_of_nonneg, Int.tmod_eq_emod_of_nonneg, chk_pos, decT, decF, br_pos, br_neg, wX, ↓reduceIte, Nat.reduceEqDiff, Nat.reduceAdd, Nat.reduceSub, Nat.reduceMul, Nat.reduceLeDiff, Nat.reduceLT, Nat.reduceMod, Nat.reduceDiv, Int.reduceToNat, Nat.min_eq_left, IntKind.bits, Int.reducePow, Int.reduceLT, Int.reduceLE, Int.reduceEq, Int.reduceNe, Int.reduceAdd, Int.reduceSub, and_self, reduceCtorEq, decide_eq_true_eq, decide_eq_false_iff_not, eq_self, implies_true, exists_const, Option.isNone_some, Option.isNone_none, Option.isSome_some, Option.isSome_none, Option.getD_some, c0, k.ca, f0]
    refine ⟨rfl, (produce_ok X3 (hx.ext E3) hl hps).k ?_⟩
    rintro _ g4 ⟨cs', rfl, ⟨hy, hcs⟩, e4⟩
    have hyr := hy
    obtain ⟨w, rfl, hyb, how⟩ := hy
    obtain ⟨wa, wn, rfl⟩ := how.l.len
    have k4 := caC (e4.at (e3.at (e2.at qb)))
    have c04 := k4.c0
    rw [h1] at c04
    simp (disch := omega) only [dm_t, wA, wB, wL, wW, wY, Int.fdiv_eq_ediv_of_nonneg, Int.tdiv_eq_ediv_of_nonneg, Int.tmod_eq_emod_of_nonneg, chk_pos, decT, decF, br_pos, br_neg, wX, ↓reduceIte, Nat.reduceEqDiff, Nat.reduceAdd, Nat.reduceSub, Nat.reduceMul, Nat.reduceLeDiff, Nat.reduceLT, Nat.reduceMod, Nat.reduceDiv, Int.reduceToNat, Nat.min_eq_left, IntKind.bits, Int.reducePow, Int.reduceLT, Int.reduceLE, Int.reduceEq, Int.reduceNe, Int.reduceAdd, Int.reduceSub, and_self, reduceCtorEq, decide_eq_true_eq, decide_eq_false_iff_not, eq_self, implies_true, exists_const, Option.isNone_some, Option.isNone_none, Option.isSome_some, Option.isSome_none, Option.getD_some, c04, k4.ca, cellAt_ext e4 f0]
    refine res3 _ _ (e4.at qd3) rfl rfl ?_
    intro G' kG qG f
    have k5 := caC (f _ _ (e4.at (e3.at (e2.at qb))) hbd)
    have c05 := k5.c0
    rw [h1] at c05
    have f5 : cellAt G' ⟨t, 1, none⟩ = some (.func (.func 38) #[] #[]) := by rw [cellAt_of (f _ _ (e4.at qt) htd)]; rfl
    simp (disch := omega) only [dm_t, wA, wB, wL, wW, wY, Int.fdiv_eq_ediv_of_nonneg, Int.tdiv_eq_ediv_of_nonneg, Int.tmod_eq_emod_of_nonneg, chk_pos, decT, decF, br_pos, br_neg, wX, ↓reduceIte, Nat.reduceEqDiff, Nat.reduceAdd, Nat.reduceSub, Nat.reduceMul, Nat.reduceLeDiff, Nat.reduceLT, Nat.reduceMod, Nat.reduceDiv, Int.reduceToNat, Nat.min_eq_left, IntKind.bits, Int.reducePow, Int.reduceLT, Int.reduceLE, Int.reduceEq, Int.reduceNe, Int.reduceAdd, Int.reduceSub, and_self, reduceCtorEq, decide_eq_true_eq, decide_eq_false_iff_not, eq_self, implies_true, exists_const, Option.isNone_some, Option.isNone_none, Option.isSome_some, Option.isSome_none, Option.getD_some, c05, k5.ca, f5, kG]
    exact ⟨_, rfl, by rw [htry]; exact ⟨(hyr.fr f fun y hy => by rw [hy, qd3]; simp).base E3, fun _ => hcs⟩, Ext.step' (E3.trans e4) f fun y hy => by rw [hy]; exact hdn⟩
  by_cases h2 : @Eq Int x.1 2
  · have c0 := k.c0
    rw [h2] at c0
    have htry : tryP ps x = fetchP ps x := by rw [tryP, if_neg h1, if_pos h2]
    simp (disch := omega) only [dm_t, wA, wB, wL, wW, wY, Int.fdiv_eq_ediv_of_nonneg, Int.tdiv_eq_ediv_of_nonneg, Int.tmod_eq_emod_of_nonneg, chk_pos, decT, decF, br_pos, br_neg, wX, ↓reduceIte, Nat.reduceEqDiff, Nat.reduceAdd, Nat.reduceSub, Nat.reduceMul, Nat.reduceLeDiff, Nat.reduceLT, Nat.reduceMod, Nat.reduceDiv, Int.reduceToNat, Nat.min_eq_left, IntKind.bits, Int.reducePow, Int.reduceLT, Int.reduceLE, Int.reduceEq, Int.reduceNe, Int.reduceAdd, Int.reduceSub, and_self, reduceCtorEq, decide_eq_true_eq, decide_eq_false_iff_not, eq_self, implies_true, exists_const, Option.isNone_some, Option.isNone_none, Option.isSome_some, Option.isSome_none, Option.getD_some, c0, k.ca, f1]
    refine ⟨rfl, (fetch_ok X3 (hx.ext E3) hps).k ?_⟩
    rintro _ g4 ⟨cs', rfl, hy, e4⟩
    have hyr := hy
    obtain ⟨w, rfl, hyb, how⟩ := hy
    obtain ⟨wa, wn, rfl⟩ := how.l.len
    have k4 := caC (e4.at (e3.at (e2.at qb)))
    have c04 := k4.c0
    rw [h2] at c04
    simp (disch := omega) only [dm_t, wA, wB, wL, wW, wY, Int.fdiv_eq_ediv_of_nonneg, Int.tdiv_eq_ediv_of_nonneg, Int.tmod_eq_emod_of_nonneg, chk_pos, decT, decF, br_pos, br_neg, wX, ↓reduceIte, Nat.reduceEqDiff, Nat.reduceAdd, Nat.reduceSub, Nat.reduceMul, Nat.reduceLeDiff, Nat.reduceLT, Nat.reduceMod, Nat.reduceDiv, Int.reduceToNat, Nat.min_eq_left, IntKind.bits, Int.reducePow, Int.reduceLT, Int.reduceLE, Int.reduceEq, Int.reduceNe, Int.reduceAdd, Int.reduceSub, and_self, reduceCtorEq, decide_eq_true_eq, decide_eq_false_iff_not, eq_self, implies_true, exists_const, Option.isNone_some, Option.isNone_none, Option.isSome_some, Option.isSome_none, Option.getD_some, c04, k4.ca, cellAt_ext e4 f1]
    refine res3 _ _ (e4.at qd3) rfl rfl ?_
    intro G' kG qG f
    have k5 := caC (f _ _ (e4.at (e3.at (e2.at qb))) hbd)
    have c05 := k5.c0
    rw [h2] at c05
    have f5 : cellAt G' ⟨t, 2, none⟩ = some (.func (.func 39) #[] #[]) := by rw [cellAt_of (f _ _ (e4.at qt) htd)]; rfl
    simp (disch := omega) only [dm_t, wA, wB, wL, wW, wY, Int.fdiv_eq_ediv_of_nonneg, Int.tdiv_eq_ediv_of_nonneg, Int.tmod_eq_emod_of_nonneg, chk_pos, decT, decF, br_pos, br_neg, wX, ↓reduceIte, Nat.reduceEqDiff, Nat.reduceAdd, Nat.reduceSub, Nat.reduceMul, Nat.reduceLeDiff, Nat.reduceLT, Nat.reduceMod, Nat.reduceDiv, Int.reduceToNat, Nat.min_eq_left, IntKind.bits, Int.reducePow, Int.reduceLT, Int.reduceLE, Int.reduceEq, Int.reduceNe, Int.reduceAdd, Int.reduceSub, and_self, reduceCtorEq, decide_eq_true_eq, decide_eq_false_iff_not, eq_self, implies_true, exists_const, Option.isNone_some, Option.isNone_none, Option.isSome_some, Option.isSome_none, Option.getD_some, c05, k5.ca, f5, kG]
    exact ⟨_, rfl, by rw [htry]; exact ⟨(hyr.fr f fun y hy => by rw [hy, qd3]; simp).base E3, fun h => absurd h h1⟩, Ext.step' (E3.trans e4) f fun y hy => by rw [hy]; exact hdn⟩
  have htry : tryP ps x = err 2 := by rw [tryP, if_neg h1, if_neg h2]
  have fin : ∀ G', Fr (fun y => y = d) g3 G' → YR g G' (yCs (err 2) (.slice none 0 0)) (tryP ps x) ∧ Ext g G' := fun G' f => ⟨by rw [htry]; exact yr_err 2 (by unfold inI; decide), Ext.step' E3 f fun y hy => by rw [hy]; exact hdn⟩
  by_cases h3 : @LT.lt Int _ x.1 1
  · simp (disch := omega) only [dm_t, wA, wB, wL, wW, wY, Int.fdiv_eq_ediv_of_nonneg, Int.tdiv_eq_ediv_of_nonneg, Int.tmod_eq_emod_of_nonneg, chk_pos, decT, decF, br_pos, br_neg, wX, ↓reduceIte, Nat.reduceEqDiff, Nat.reduceAdd, Nat.reduceSub, Nat.reduceMul, Nat.reduceLeDiff, Nat.reduceLT, Nat.reduceMod, Nat.reduceDiv, Int.reduceToNat, Nat.min_eq_left, IntKind.bits, Int.reducePow, Int.reduceLT, Int.reduceLE, Int.reduceEq, Int.reduceNe, Int.reduceAdd, Int.reduceSub, and_self, reduceCtorEq, decide_eq_true_eq, decide_eq_false_iff_not, eq_self, implies_true, exists_const, Option.isNone_some, Option.isNone_none, Option.isSome_some, Option.isSome_none, Option.getD_some, k.c0]
    refine res3 (err 2) (.slice none 0 0) qd3 rfl rfl ?_
    intro G' kG qG f
    simp (disch := omega) only [dm_t, wA, wB, wL, wW, wY, Int.fdiv_eq_ediv_of_nonneg, Int.tdiv_eq_ediv_of_nonneg, Int.tmod_eq_emod_of_nonneg, chk_pos, decT, decF, br_pos, br_neg, wX, ↓reduceIte, Nat.reduceEqDiff, Nat.reduceAdd, Nat.reduceSub, Nat.reduceMul, Nat.reduceLeDiff, Nat.reduceLT, Nat.reduceMod, Nat.reduceDiv, Int.reduceToNat, Nat.min_eq_left, IntKind.bits, Int.reducePow, Int.reduceLT, Int.reduceLE, Int.reduceEq, Int.reduceNe, Int.reduceAdd, Int.reduceSub, and_self, reduceCtorEq, decide_eq_true_eq, decide_eq_false_iff_not, eq_self, implies_true, exists_const, Option.isNone_some, Option.isNone_none, Option.isSome_some, Option.isSome_none, Option.getD_some, kG]
    exact ⟨_, rfl, ⟨(fin G' f).1, fun h => absurd h h1⟩, (fin G' f).2⟩
  · have h4 : @LT.lt Int _ 2 x.1 := by omega
    simp (disch := omega) only [dm_t, wA, wB, wL, wW, wY, Int.fdiv_eq_ediv_of_nonneg, Int.tdiv_eq_ediv_of_nonneg, Int.tmod_eq_emod_of_nonneg, chk_pos, decT, decF, br_pos, br_neg, wX, ↓reduceIte, Nat.reduceEqDiff, Nat.reduceAdd, Nat.reduceSub, Nat.reduceMul, Nat.reduceLeDiff, Nat.reduceLT, Nat.reduceMod, Nat.reduceDiv, Int.reduceToNat, Nat.min_eq_left, IntKind.bits, Int.reducePow, Int.reduceLT, Int.reduceLE, Int.reduceEq, Int.reduceNe, Int.reduceAdd, Int.reduceSub, and_self, reduceCtorEq, decide_eq_true_eq, decide_eq_false_iff_not, eq_self, implies_true, exists_const, Option.isNone_some, Option.isNone_none, Option.isSome_some, Option.isSome_none, Option.getD_some, k.c0]
    refine res3 (err 2) (.slice none 0 0) qd3 rfl rfl ?_
    intro G' kG qG f
    simp (disch := omega) only [dm_t, wA, wB, wL, wW, wY, Int.fdiv_eq_ediv_of_nonneg, Int.tdiv_eq_ediv_of_nonneg, Int.tmod_eq_emod_of_nonneg, chk_pos, decT, decF, br_pos, br_neg, wX, ↓reduceIte, Nat.reduceEqDiff, Nat.reduceAdd, Nat.reduceSub, Nat.reduceMul, Nat.reduceLeDiff, Nat.reduceLT, Nat.reduceMod, Nat.reduceDiv, Int.reduceToNat, Nat.min_eq_left, IntKind.bits, Int.reducePow, Int.reduceLT, Int.reduceLE, Int.reduceEq, Int.reduceNe, Int.reduceAdd, Int.reduceSub, and_self, reduceCtorEq, decide_eq_true_eq, decide_eq_false_iff_not, eq_self, implies_true, exists_const, Option.isNone_some, Option.isNone_none, Option.isSome_some, Option.isSome_none, Option.getD_some, kG]
    exact ⟨_, rfl, ⟨(fin G' f).1, fun h => absurd h h1⟩, (fin G' f).2⟩
end
end Go.Proofs.Ytpgkkpjdajkobaa.mo
