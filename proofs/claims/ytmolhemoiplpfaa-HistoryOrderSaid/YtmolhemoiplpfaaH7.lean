/-
  history: put, New, Call, Return, Len.
-/
import Derived.Test.YtmolhemoiplpfaaH6
namespace Go.Proofs.Ytmolhemoiplpfaa.hi
open Go.Proofs.Ytmolhemoiplpfaa
set_option linter.unusedVariables false
set_option linter.unusedSimpArgs false
theorem turn0 {s : Hs} {x : evT.D} (h : turnE s x = 0) : ¬ badE x ∧ (∃ i : Nat, @Eq Int x.1 (i : Int) ∧ i < 64 ∧ s.opn.getD i false = x.2.1) ∧ s.evs.length < 65536 := by
  unfold turnE at h
  by_cases hb : badE x
  · rw [if_pos hb] at h; cases h
  rw [if_neg hb] at h
  by_cases hl : 65536 ≤ s.evs.length
  · rw [if_pos hl] at h; cases h
  rw [if_neg hl] at h
  by_cases ho : s.opn.getD (Int.toNat x.1) false = x.2.1
  · refine ⟨hb, ⟨Int.toNat x.1, ?_, ?_, ho⟩, by omega⟩
    · have : @LE.le Int _ 0 x.1 := Int.not_lt.1 fun h => hb (.inl h)
      omega
    · have : @LT.lt Int _ x.1 64 := Int.not_le.1 fun h => hb (.inr (.inl h))
      omega
  · rw [if_pos ho] at h; cases h
theorem put_ok {S : Nat → Prop} {h0 g : H} {p : Nat} {ve vo : Value} {s : Hs} {cs : List Value} {x : evT.D} (X : HX h0 g p ve vo s) (E0 : Ext h0 g) (hx : Rep S evT g cs x) (h1 : limL x.2.2.1.2.2.1) (h2 : limL x.2.2.2.2.2) :
    Ok Try.prog 26 #[.pointer (some ⟨p, 0, none⟩), .agg cs.toArray] g (PutR h0 g p ve vo s x) := by
  refine c26_ok (args := [_, _]) (by simp) ?_
  obtain ⟨r, q, rfl, hb, hr, hq⟩ := rep_ev.1 hx
  simp (disch := omega) only [dm_t, wA, wB, wL, wW, wY, Int.fdiv_eq_ediv_of_nonneg, Int.tdiv_eq_ediv_of_nonneg, Int.tmod_eq_emod_of_nonneg, chk_pos, decT, decF, br_pos, br_neg, wX, ↓reduceIte, Nat.reduceEqDiff, Nat.reduceAdd, Nat.reduceSub, Nat.reduceMul, Nat.reduceLeDiff, Nat.reduceLT, Nat.reduceMod, Nat.reduceDiv, Int.reduceToNat, Nat.min_eq_left, IntKind.bits, Int.reducePow, Int.reduceLT, Int.reduceLE, Int.reduceEq, Int.reduceNe, Int.reduceAdd, Int.reduceSub, and_self, reduceCtorEq, decide_eq_true_eq, decide_eq_false_iff_not, eq_self, implies_true, exists_const, Option.isNone_some, Option.isNone_none, Option.isSome_some, Option.isSome_none, Option.getD_some]
  intro eb heb
  generalize hG : hupd g eb _ = g1
  obtain ⟨e, qb⟩ := new_ext hG heb
  clear hG
  have X1 := X.ext e
  have hne : ¬ HF p ve vo eb := fun h => X.there h heb
  refine (none_ok X1).k ?_
  rintro _ _ ⟨rfl, rfl⟩
  have k := evC qb
  simp (disch := omega) only [dm_t, wA, wB, wL, wW, wY, Int.fdiv_eq_ediv_of_nonneg, Int.tdiv_eq_ediv_of_nonneg, Int.tmod_eq_emod_of_nonneg, chk_pos, decT, decF, br_pos, br_neg, wX, ↓reduceIte, Nat.reduceEqDiff, Nat.reduceAdd, Nat.reduceSub, Nat.reduceMul, Nat.reduceLeDiff, Nat.reduceLT, Nat.reduceMod, Nat.reduceDiv, Int.reduceToNat, Nat.min_eq_left, IntKind.bits, Int.reducePow, Int.reduceLT, Int.reduceLE, Int.reduceEq, Int.reduceNe, Int.reduceAdd, Int.reduceSub, and_self, reduceCtorEq, decide_eq_true_eq, decide_eq_false_iff_not, eq_self, implies_true, exists_const, Option.isNone_some, Option.isNone_none, Option.isSome_some, Option.isSome_none, Option.getD_some, k.ca]
  refine (turn_ok X1 (hx.ext e)).k ?_
  rintro _ g2 ⟨rfl, e2⟩
  have X2 := X1.ext e2
  have k2 := evC (e2.at qb)
  by_cases hT : turnE s x = 0
  · rw [hT]
    simp (disch := omega) only [dm_t, wA, wB, wL, wW, wY, Int.fdiv_eq_ediv_of_nonneg, Int.tdiv_eq_ediv_of_nonneg, Int.tmod_eq_emod_of_nonneg, chk_pos, decT, decF, br_pos, br_neg, wX, ↓reduceIte, Nat.reduceEqDiff, Nat.reduceAdd, Nat.reduceSub, Nat.reduceMul, Nat.reduceLeDiff, Nat.reduceLT, Nat.reduceMod, Nat.reduceDiv, Int.reduceToNat, Nat.min_eq_left, IntKind.bits, Int.reducePow, Int.reduceLT, Int.reduceLE, Int.reduceEq, Int.reduceNe, Int.reduceAdd, Int.reduceSub, and_self, reduceCtorEq, decide_eq_true_eq, decide_eq_false_iff_not, eq_self, implies_true, exists_const, Option.isNone_some, Option.isNone_none, Option.isSome_some, Option.isSome_none, Option.getD_some, k2.ca]
    refine (event_ok (hx.ext (e.trans e2)) h1 h2).k ?_
    rintro _ g3 ⟨cs', rfl, hx3, e3⟩
    obtain ⟨r', q', rfl, _, hr', hq'⟩ := rep_ev.1 hx3
    have X3 := X2.ext e3
    have qb3 := e3.at (e2.at qb)
    simp (disch := omega) only [dm_t, wV, wB, wL, wW, wU, Int.fdiv_eq_ediv_of_nonneg, Int.tdiv_eq_ediv_of_nonneg, Int.tmod_eq_emod_of_nonneg, chk_pos, decT, decF, br_pos, br_neg, wX, ↓reduceIte, Nat.reduceEqDiff, Nat.reduceAdd, Nat.reduceSub, Nat.reduceMul, Nat.reduceLeDiff, Nat.reduceLT, Nat.reduceMod, Nat.reduceDiv, Int.reduceToNat, Nat.min_eq_left, IntKind.bits, Int.reducePow, Int.reduceLT, Int.reduceLE, Int.reduceEq, Int.reduceNe, Int.reduceAdd, Int.reduceSub, and_self, reduceCtorEq, decide_eq_true_eq, decide_eq_false_iff_not, eq_self, implies_true, exists_const, Option.isNone_some, Option.isNone_none, Option.isSome_some, Option.isSome_none, Option.getD_some]
    refine storeH_all qb3 rfl (rep_ev.2 ⟨r', q', rfl, hb, hr', hq'⟩ : Rep _ evT g3 (eCs x r' q') x).cells ?_
    generalize hG : hupd g3 eb _ = g4
    have f4 : Fr (fun y => y = eb) g3 g4 := by rw [← hG]; exact Fr.upd (S := fun y => y = eb) rfl _
    have qb4 : g4 eb = some (.cells (eCs x r' q').toArray 41) := by rw [← hG, hupd_same]
    clear hG
    have E4 : Ext g g4 := Ext.step' ((e.trans e2).trans e3) f4 fun y hy => hy ▸ heb
    have X4 := X.ext E4
    have hnb : g2 eb ≠ none := by rw [e2.at qb]; simp
    have hr4 : RepL (HF p ve vo) rc g4 r' x.2.2.1.2.2.1 := (RepL.fr hr' f4 fun y hy => hy ▸ hnb).mono fun y _ _ hy => X2.there hy
    have hq4 : RepL (HF p ve vo) rc g4 q' x.2.2.2.2.2 := (RepL.fr hq' f4 fun y hy => hy ▸ hnb).mono fun y _ _ hy => X2.there hy
    obtain ⟨hnb, ⟨i, hi, hi64, hop⟩, hlen⟩ := turn0 hT
    have k4 := evC qb4
    have c0 := k4.c0
    rw [hi] at c0
    have key : ∀ g5, HX h0 g5 p ve vo ⟨s.evs, s.opn.set i (!x.2.1), s.ops⟩ → Fr (fun y => y = p) g4 g5 → vc Try.prog c26_s5 (retQ [4] (okR (PutR h0 g p ve vo s x))) [(0, .pointer (some ⟨p, 0, none⟩)), (3, .pointer (some ⟨eb, 0, none⟩))] g5 := by
      intro g5 X5 f5
      have hopn : s.opn.set i (!x.2.1) = s.opn.set (Int.toNat x.1) (!x.2.1) := by rw [hi, Int.toNat_natCast]
      have F : Fr (HF p ve vo) g4 g5 := f5.mono fun y hy => .inl hy
      have E5 : Ext h0 g5 := Ext.step' (E0.trans E4) F fun y hy => X4.own hy
      have qb5 := f5 _ _ qb4 fun h => hne (.inl h)
      have F5 : Fr (HF p ve vo) g g5 := (E4.mono fun _ h => h.elim).trans F
      have hr5 := RepL.fr hr4 F fun _ h => h
      have hq5 := RepL.fr hq4 F fun _ h => h
      cases hret : x.2.1 with
      | false => exact put_call hT X5 hopn hlen E5 F5 hb qb5 hne hr5 hq5 hret
      | true => exact put_ret hT X5 hopn hlen E5 F5 hb qb5 hne hr5 hq5 hret
    simp (disch := omega) only [dm_t, wV, wB, wL, wW, wU, Int.fdiv_eq_ediv_of_nonneg, Int.tdiv_eq_ediv_of_nonneg, Int.tmod_eq_emod_of_nonneg, chk_pos, decT, decF, br_pos, br_neg, wX, ↓reduceIte, Nat.reduceEqDiff, Nat.reduceAdd, Nat.reduceSub, Nat.reduceMul, Nat.reduceLeDiff, Nat.reduceLT, Nat.reduceMod, Nat.reduceDiv, Int.reduceToNat, Nat.min_eq_left, IntKind.bits, Int.reducePow, Int.reduceLT, Int.reduceLE, Int.reduceEq, Int.reduceNe, Int.reduceAdd, Int.reduceSub, and_self, reduceCtorEq, decide_eq_true_eq, decide_eq_false_iff_not, eq_self, implies_true, exists_const, Option.isNone_some, Option.isNone_none, Option.isSome_some, Option.isSome_none, Option.getD_some]
    simp (disch := omega) only [dm_t, wA, wB, wL, wW, wY, Int.fdiv_eq_ediv_of_nonneg, Int.tdiv_eq_ediv_of_nonneg, Int.tmod_eq_emod_of_nonneg, chk_pos, decT, decF, br_pos, br_neg, wX, ↓reduceIte, Nat.reduceEqDiff, Nat.reduceAdd, Nat.reduceSub, Nat.reduceMul, Nat.reduceLeDiff, Nat.reduceLT, Nat.reduceMod, Nat.reduceDiv, Int.reduceToNat, Nat.min_eq_left, IntKind.bits, Int.reducePow, Int.reduceLT, Int.reduceLE, Int.reduceEq, Int.reduceNe, Int.reduceAdd, Int.reduceSub, and_self, reduceCtorEq, decide_eq_true_eq, decide_eq_false_iff_not, eq_self, implies_true, exists_const, Option.isNone_some, Option.isNone_none, Option.isSome_some, Option.isSome_none, Option.getD_some, c0, k4.c1]
    refine X4.setI hi64 _ fun g5 X5 f5 => ?_
    have k5 := evC (f5 _ _ qb4 fun h => hne (.inl h))
    have c5 := k5.c0
    rw [hi] at c5
    simp (disch := omega) only [dm_t, wV, wB, wL, wW, wU, Int.fdiv_eq_ediv_of_nonneg, Int.tdiv_eq_ediv_of_nonneg, Int.tmod_eq_emod_of_nonneg, chk_pos, decT, decF, br_pos, br_neg, wX, ↓reduceIte, Nat.reduceEqDiff, Nat.reduceAdd, Nat.reduceSub, Nat.reduceMul, Nat.reduceLeDiff, Nat.reduceLT, Nat.reduceMod, Nat.reduceDiv, Int.reduceToNat, Nat.min_eq_left, IntKind.bits, Int.reducePow, Int.reduceLT, Int.reduceLE, Int.reduceEq, Int.reduceNe, Int.reduceAdd, Int.reduceSub, and_self, reduceCtorEq, decide_eq_true_eq, decide_eq_false_iff_not, eq_self, implies_true, exists_const, Option.isNone_some, Option.isNone_none, Option.isSome_some, Option.isSome_none, Option.getD_some, c5, k5.c1]
    exact key g5 X5 f5
  · simp (disch := omega) only [dm_t, wA, wB, wL, wW, wY, Int.fdiv_eq_ediv_of_nonneg, Int.tdiv_eq_ediv_of_nonneg, Int.tmod_eq_emod_of_nonneg, chk_pos, decT, decF, br_pos, br_neg, wX, ↓reduceIte, Nat.reduceEqDiff, Nat.reduceAdd, Nat.reduceSub, Nat.reduceMul, Nat.reduceLeDiff, Nat.reduceLT, Nat.reduceMod, Nat.reduceDiv, Int.reduceToNat, Nat.min_eq_left, IntKind.bits, Int.reducePow, Int.reduceLT, Int.reduceLE, Int.reduceEq, Int.reduceNe, Int.reduceAdd, Int.reduceSub, and_self, reduceCtorEq, decide_eq_true_eq, decide_eq_false_iff_not, eq_self, implies_true, exists_const, Option.isNone_some, Option.isNone_none, Option.isSome_some, Option.isSome_none, Option.getD_some]
    exact ⟨rfl, ⟨ve, vo, by rw [if_neg hT]; exact X2⟩, (e.trans e2).mono fun _ h => h.elim⟩
theorem New_ok (h : H) : Ok Try.prog 24 #[] h fun v h' => ∃ p, v = .pointer (some ⟨p, 0, none⟩) ∧ h p = none ∧ HX h h' p (.slice none 0 0) (.slice none 0 0) Hs.new ∧ Ext h h' := by
  refine c24_ok (args := []) (by simp) ?_
  simp (disch := omega) only [dm_t, wA, wB, wL, wW, wY, Int.fdiv_eq_ediv_of_nonneg, Int.tdiv_eq_ediv_of_nonneg, Int.tmod_eq_emod_of_nonneg, chk_pos, decT, decF, br_pos, br_neg, wX, ↓reduceIte, Nat.reduceEqDiff, Nat.reduceAdd, Nat.reduceSub, Nat.reduceMul, Nat.reduceLeDiff, Nat.reduceLT, Nat.reduceMod, Nat.reduceDiv, Int.reduceToNat, Nat.min_eq_left, IntKind.bits, Int.reducePow, Int.reduceLT, Int.reduceLE, Int.reduceEq, Int.reduceNe, Int.reduceAdd, Int.reduceSub, and_self, reduceCtorEq, decide_eq_true_eq, decide_eq_false_iff_not, eq_self, implies_true, exists_const, Option.isNone_some, Option.isNone_none, Option.isSome_some, Option.isSome_none, Option.getD_some]
  intro p hp
  refine ⟨p, rfl, hp, ⟨hupd_same _ _ _, by simp [Hs.new], by simp [Hs.new], ⟨hp, OwL.nil, OwL.nil⟩⟩, Ext.new hp _⟩
/-- A call, as an event. -/
def evCall (c : Int) (x : callT.D) : evT.D := (c, false, x, ((0 : Int), (0 : Int), ([] : List rc.D)))
def evRet (c : Int) (y : replyT.D) : evT.D := (c, true, ((0 : Int), (0 : Int), ([] : List rc.D), (0 : Int), (0 : Int)), y)
theorem limN : limL [] := ⟨by simp, fun x hx => by simp at hx⟩
theorem Call_ok {S : Nat → Prop} {h0 g : H} {p : Nat} {ve vo : Value} {s : Hs} {cs : List Value} {x : callT.D} {n : Int} (hn : inI n) (X : HX h0 g p ve vo s) (E0 : Ext h0 g) (hx : Rep S callT g cs x) (h1 : limL x.2.2.1) :
    Ok Try.prog 19 #[.pointer (some ⟨p, 0, none⟩), .int .i64 n, .agg cs.toArray] g (PutR h0 g p ve vo s (evCall n x)) := by
  refine c19_ok (args := [_, _, _]) (by simp) ?_
  obtain ⟨r, rfl, hb, hr⟩ := rep_call.1 hx
  simp (disch := omega) only [dm_t, wA, wB, wL, wW, wY, Int.fdiv_eq_ediv_of_nonneg, Int.tdiv_eq_ediv_of_nonneg, Int.tmod_eq_emod_of_nonneg, chk_pos, decT, decF, br_pos, br_neg, wX, ↓reduceIte, Nat.reduceEqDiff, Nat.reduceAdd, Nat.reduceSub, Nat.reduceMul, Nat.reduceLeDiff, Nat.reduceLT, Nat.reduceMod, Nat.reduceDiv, Int.reduceToNat, Nat.min_eq_left, IntKind.bits, Int.reducePow, Int.reduceLT, Int.reduceLE, Int.reduceEq, Int.reduceNe, Int.reduceAdd, Int.reduceSub, and_self, reduceCtorEq, decide_eq_true_eq, decide_eq_false_iff_not, eq_self, implies_true, exists_const, Option.isNone_some, Option.isNone_none, Option.isSome_some, Option.isSome_none, Option.getD_some]
  intro b hbn
  generalize hG : hupd g b _ = g1
  obtain ⟨e, qb⟩ := new_ext hG hbn
  clear hG
  have k : cellsAt g1 ⟨b, 0, none⟩ 5 = some (cCs x r).toArray := cellsAt_all qb 5 rfl
  have hev : Rep S evT g1 (eCs (evCall n x) r (.slice none 0 0)) (evCall n x) := rep_ev.2 ⟨r, .slice none 0 0, rfl, ⟨hn, hb, ⟨inI0, inI0⟩⟩, hr.ext e, RepL.nil⟩
  have kk := (put_ok (X.ext e) (E0.trans e) hev h1 limN).mono fun v h' hh => (⟨hh.1, hh.2.1, (e.mono fun _ h => h.elim).trans hh.2.2⟩ : PutR h0 g p ve vo s (evCall n x) v h')
  simp (disch := omega) only [dm_t, wA, wB, wL, wW, wY, Int.fdiv_eq_ediv_of_nonneg, Int.tdiv_eq_ediv_of_nonneg, Int.tmod_eq_emod_of_nonneg, chk_pos, decT, decF, br_pos, br_neg, wX, ↓reduceIte, Nat.reduceEqDiff, Nat.reduceAdd, Nat.reduceSub, Nat.reduceMul, Nat.reduceLeDiff, Nat.reduceLT, Nat.reduceMod, Nat.reduceDiv, Int.reduceToNat, Nat.min_eq_left, IntKind.bits, Int.reducePow, Int.reduceLT, Int.reduceLE, Int.reduceEq, Int.reduceNe, Int.reduceAdd, Int.reduceSub, and_self, reduceCtorEq, decide_eq_true_eq, decide_eq_false_iff_not, eq_self, implies_true, exists_const, Option.isNone_some, Option.isNone_none, Option.isSome_some, Option.isSome_none, Option.getD_some, k]
  refine kk.k ?_
  rintro _ h' ⟨rfl, hh⟩
  simp (disch := omega) only [dm_t, wA, wB, wL, wW, wY, Int.fdiv_eq_ediv_of_nonneg, Int.tdiv_eq_ediv_of_nonneg, Int.tmod_eq_emod_of_nonneg, chk_pos, decT, decF, br_pos, br_neg, wX, ↓reduceIte, Nat.reduceEqDiff, Nat.reduceAdd, Nat.reduceSub, Nat.reduceMul, Nat.reduceLeDiff, Nat.reduceLT, Nat.reduceMod, Nat.reduceDiv, Int.reduceToNat, Nat.min_eq_left, IntKind.bits, Int.reducePow, Int.reduceLT, Int.reduceLE, Int.reduceEq, Int.reduceNe, Int.reduceAdd, Int.reduceSub, and_self, reduceCtorEq, decide_eq_true_eq, decide_eq_false_iff_not, eq_self, implies_true, exists_const, Option.isNone_some, Option.isNone_none, Option.isSome_some, Option.isSome_none, Option.getD_some]
  exact ⟨rfl, hh⟩
theorem Return_ok {S : Nat → Prop} {h0 g : H} {p : Nat} {ve vo : Value} {s : Hs} {cs : List Value} {x : replyT.D} {n : Int} (hn : inI n) (X : HX h0 g p ve vo s) (E0 : Ext h0 g) (hx : Rep S replyT g cs x) (h1 : limL x.2.2) :
    Ok Try.prog 20 #[.pointer (some ⟨p, 0, none⟩), .int .i64 n, .agg cs.toArray] g (PutR h0 g p ve vo s (evRet n x)) := by
  refine c20_ok (args := [_, _, _]) (by simp) ?_
  obtain ⟨r, rfl, hb, hr⟩ := rep_reply.1 hx
  simp (disch := omega) only [dm_t, wA, wB, wL, wW, wY, Int.fdiv_eq_ediv_of_nonneg, Int.tdiv_eq_ediv_of_nonneg, Int.tmod_eq_emod_of_nonneg, chk_pos, decT, decF, br_pos, br_neg, wX, ↓reduceIte, Nat.reduceEqDiff, Nat.reduceAdd, Nat.reduceSub, Nat.reduceMul, Nat.reduceLeDiff, Nat.reduceLT, Nat.reduceMod, Nat.reduceDiv, Int.reduceToNat, Nat.min_eq_left, IntKind.bits, Int.reducePow, Int.reduceLT, Int.reduceLE, Int.reduceEq, Int.reduceNe, Int.reduceAdd, Int.reduceSub, and_self, reduceCtorEq, decide_eq_true_eq, decide_eq_false_iff_not, eq_self, implies_true, exists_const, Option.isNone_some, Option.isNone_none, Option.isSome_some, Option.isSome_none, Option.getD_some]
  intro b hbn
  generalize hG : hupd g b _ = g1
  obtain ⟨e, qb⟩ := new_ext hG hbn
  clear hG
  have k : cellsAt g1 ⟨b, 0, none⟩ 3 = some (yCs x r).toArray := cellsAt_all qb 3 rfl
  have hev : Rep S evT g1 (eCs (evRet n x) (.slice none 0 0) r) (evRet n x) := rep_ev.2 ⟨.slice none 0 0, r, rfl, ⟨hn, ⟨inI0, inI0, inI0, inI0⟩, hb⟩, RepL.nil, hr.ext e⟩
  have kk := (put_ok (X.ext e) (E0.trans e) hev limN h1).mono fun v h' hh => (⟨hh.1, hh.2.1, (e.mono fun _ h => h.elim).trans hh.2.2⟩ : PutR h0 g p ve vo s (evRet n x) v h')
  simp (disch := omega) only [dm_t, wA, wB, wL, wW, wY, Int.fdiv_eq_ediv_of_nonneg, Int.tdiv_eq_ediv_of_nonneg, Int.tmod_eq_emod_of_nonneg, chk_pos, decT, decF, br_pos, br_neg, wX, ↓reduceIte, Nat.reduceEqDiff, Nat.reduceAdd, Nat.reduceSub, Nat.reduceMul, Nat.reduceLeDiff, Nat.reduceLT, Nat.reduceMod, Nat.reduceDiv, Int.reduceToNat, Nat.min_eq_left, IntKind.bits, Int.reducePow, Int.reduceLT, Int.reduceLE, Int.reduceEq, Int.reduceNe, Int.reduceAdd, Int.reduceSub, and_self, reduceCtorEq, decide_eq_true_eq, decide_eq_false_iff_not, eq_self, implies_true, exists_const, Option.isNone_some, Option.isNone_none, Option.isSome_some, Option.isSome_none, Option.getD_some, k]
  refine kk.k ?_
  rintro _ h' ⟨rfl, hh⟩
  simp (disch := omega) only [dm_t, wA, wB, wL, wW, wY, Int.fdiv_eq_ediv_of_nonneg, Int.tdiv_eq_ediv_of_nonneg, Int.tmod_eq_emod_of_nonneg, chk_pos, decT, decF, br_pos, br_neg, wX, ↓reduceIte, Nat.reduceEqDiff, Nat.reduceAdd, Nat.reduceSub, Nat.reduceMul, Nat.reduceLeDiff, Nat.reduceLT, Nat.reduceMod, Nat.reduceDiv, Int.reduceToNat, Nat.min_eq_left, IntKind.bits, Int.reducePow, Int.reduceLT, Int.reduceLE, Int.reduceEq, Int.reduceNe, Int.reduceAdd, Int.reduceSub, and_self, reduceCtorEq, decide_eq_true_eq, decide_eq_false_iff_not, eq_self, implies_true, exists_const, Option.isNone_some, Option.isNone_none, Option.isSome_some, Option.isSome_none, Option.getD_some]
  exact ⟨rfl, hh⟩
theorem Len_ok {h0 g : H} {p : Nat} {ve vo : Value} {s : Hs} (X : HX h0 g p ve vo s) : Ok Try.prog 23 #[.pointer (some ⟨p, 0, none⟩)] g fun v h' => v = .int .i64 (s.evs.length : Int) ∧ g = h' := by
  refine c23_ok (args := [_]) (by simp) ?_
  obtain ⟨ea, en, rfl⟩ := X.evs.len
  simp (disch := omega) only [dm_t, wA, wB, wL, wW, wY, Int.fdiv_eq_ediv_of_nonneg, Int.tdiv_eq_ediv_of_nonneg, Int.tmod_eq_emod_of_nonneg, chk_pos, decT, decF, br_pos, br_neg, wX, ↓reduceIte, Nat.reduceEqDiff, Nat.reduceAdd, Nat.reduceSub, Nat.reduceMul, Nat.reduceLeDiff, Nat.reduceLT, Nat.reduceMod, Nat.reduceDiv, Int.reduceToNat, Nat.min_eq_left, IntKind.bits, Int.reducePow, Int.reduceLT, Int.reduceLE, Int.reduceEq, Int.reduceNe, Int.reduceAdd, Int.reduceSub, and_self, reduceCtorEq, decide_eq_true_eq, decide_eq_false_iff_not, eq_self, implies_true, exists_const, Option.isNone_some, Option.isNone_none, Option.isSome_some, Option.isSome_none, Option.getD_some]
  refine (none_ok X).k ?_
  rintro _ _ ⟨rfl, rfl⟩
  simp (disch := omega) only [dm_t, wA, wB, wL, wW, wY, Int.fdiv_eq_ediv_of_nonneg, Int.tdiv_eq_ediv_of_nonneg, Int.tmod_eq_emod_of_nonneg, chk_pos, decT, decF, br_pos, br_neg, wX, ↓reduceIte, Nat.reduceEqDiff, Nat.reduceAdd, Nat.reduceSub, Nat.reduceMul, Nat.reduceLeDiff, Nat.reduceLT, Nat.reduceMod, Nat.reduceDiv, Int.reduceToNat, Nat.min_eq_left, IntKind.bits, Int.reducePow, Int.reduceLT, Int.reduceLE, Int.reduceEq, Int.reduceNe, Int.reduceAdd, Int.reduceSub, and_self, reduceCtorEq, decide_eq_true_eq, decide_eq_false_iff_not, eq_self, implies_true, exists_const, Option.isNone_some, Option.isNone_none, Option.isSome_some, Option.isSome_none, Option.getD_some, X.c0]
end Go.Proofs.Ytmolhemoiplpfaa.hi
