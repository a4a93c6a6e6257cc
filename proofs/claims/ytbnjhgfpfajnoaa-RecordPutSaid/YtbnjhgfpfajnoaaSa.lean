/-
  record: lists lent, and held against what they were; the document's Copy.
-/
import Derived.Test.YtbnjhgfpfajnoaaRx
import Derived.Test.YtbnjhgfpfajnoaaR2
namespace Go.Proofs.Ytbnjhgfpfajnoaa.rr
open Go.Proofs.Ytbnjhgfpfajnoaa
set_option linter.unusedVariables false
set_option linter.unusedSimpArgs false
theorem SlK.frAt {k : Nat} {S T : Nat → Prop} {h h' : H} {v : Value} {rows : List (List Value)} (s : SlK k S h v rows) (f : Fr T h h') (hT : ∀ x, T x → ¬ isAt v x) : SlK k S h' v rows := by
  obtain ⟨hr, s | ⟨b, o, cp, c, E, fr, h1, h2, h3, h4, h5, h6⟩⟩ := s
  · exact ⟨hr, .inl s⟩
  · exact ⟨hr, .inr ⟨b, o, cp, c, E, fr, h1, f _ _ h2 fun hb => hT b hb ⟨_, _, _, h1⟩, h3, h4, h5, h6⟩⟩
/-- The record behind a lent list. -/
def z42 : rc.D := ((4242 : Int), ([] : List UInt8), ([] : List UInt8))
/-- Records in memory of their own, one more behind them. -/
def LR (O S : Nat → Prop) (h : H) (v : Value) (l : List rc.D) : Prop := ∃ a c, v = .slice a l.length c ∧ l.length + 1 ≤ c ∧ OwQ (WRow 5 O) S rc O h 39 (.slice a (l.length + 1) c) (l ++ [z42])
theorem LR.ext {O S : Nat → Prop} {h h' : H} {v : Value} {l : List rc.D} (s : LR O S h v l) (e : Ext h h') : LR O S h' v l := by
  obtain ⟨a, c, h1, h2, h3⟩ := s
  exact ⟨a, c, h1, h2, h3.ext e fun r hr => hr.ext e⟩
theorem LR.imp {O O' S S' : Nat → Prop} {h : H} {v : Value} {l : List rc.D} (s : LR O S h v l) (hS : ∀ y, S' y → S y) (hO : ∀ x, O x → O' x) : LR O' S' h v l := by
  obtain ⟨a, c, h1, h2, h3⟩ := s
  exact ⟨a, c, h1, h2, h3.imp hS (fun x _ _ hx => hO x hx) fun r hr => hr.mono fun x _ _ hx => hO x hx⟩
theorem rep_take {S : Nat → Prop} {t : Ty} {h : H} {a : Option Addr} {c : Nat} {l r : List t.D} (s : RepL S t h (.slice a (l ++ r).length c) (l ++ r)) : RepL S t h (.slice a l.length c) l := by
  obtain ⟨rows, h1, h2, h3⟩ := repL_iff.1 s
  have h4 := h1.pre (m := l.length) (by simp)
  refine repL_iff.2 ⟨_, h4, by rw [List.length_take, h2]; simp, ?_⟩
  intro i r' x hr hx
  rw [List.getElem?_take] at hr
  split at hr
  · refine h3 i r' x hr ?_
    rw [List.getElem?_append_left (by assumption)]; exact hx
  · cases hr
theorem LR.rep {O S : Nat → Prop} {h : H} {v : Value} {l : List rc.D} (s : LR O S h v l) : RepL nos rc h v l := by
  obtain ⟨a, c, rfl, h2, h3⟩ := s
  have h4 := h3.l.rep
  rw [show l.length + 1 = (l ++ [z42]).length by simp] at h4
  exact rep_take h4
theorem DCopy_ok {S : Nat → Prop} {h : H} {s : Value} {l : List rc.D} (hs : RepL S rc h s l) (hl : l.length ≤ 1000000) (hk : ∀ x ∈ l, x.2.1.length ≤ 140737488355328 ∧ x.2.2.length ≤ 140737488355328) :
    Ok Try.prog 47 #[s] h fun v h' => OwQ (WRow 5 fun y => h y = none) (fun y => h y ≠ none) rc (fun y => h y = none) h' 39 v l ∧ Ext h h' := by
  obtain ⟨sa, sc, rfl⟩ := hs.len
  refine c47_ok (args := [_]) (by simp) ?_
  simp (disch := omega) only [dm_t, wA, wB, wL, wW, wY, Int.fdiv_eq_ediv_of_nonneg, Int.tdiv_eq_ediv_of_nonneg, Int.tmod_eq_emod_of_nonneg, chk_pos, decT, decF, br_pos, br_neg, wX, ↓reduceIte, Nat.reduceEqDiff, Nat.reduceAdd, Nat.reduceSub, Nat.reduceMul, Nat.reduceLeDiff, Nat.reduceLT, Nat.reduceMod, Nat.reduceDiv, Int.reduceToNat, Nat.min_eq_left, IntKind.bits, Int.reducePow, Int.reduceLT, Int.reduceLE, Int.reduceEq, Int.reduceNe, Int.reduceAdd, Int.reduceSub, and_self, reduceCtorEq, decide_eq_true_eq, decide_eq_false_iff_not, eq_self, implies_true, exists_const, Option.isNone_some, Option.isNone_none, Option.isSome_some, Option.isSome_none, Option.getD_some]
  refine vc_loop2 (fun vo vi h' => ∃ i : Nat, vi = .int .i64 (i : Int) ∧ i ≤ l.length ∧ OwQ (WRow 5 fun y => h y = none) (fun y => h y ≠ none) rc (fun y => h y = none) h' 39 vo (l.take i) ∧ Ext h h') (fun _ vi _ => l.length - m1 vi) ?_ ?_
  · simp (disch := omega) only [dm_t, wA, wB, wL, wW, wY, Int.fdiv_eq_ediv_of_nonneg, Int.tdiv_eq_ediv_of_nonneg, Int.tmod_eq_emod_of_nonneg, chk_pos, decT, decF, br_pos, br_neg, wX, ↓reduceIte, Nat.reduceEqDiff, Nat.reduceAdd, Nat.reduceSub, Nat.reduceMul, Nat.reduceLeDiff, Nat.reduceLT, Nat.reduceMod, Nat.reduceDiv, Int.reduceToNat, Nat.min_eq_left, IntKind.bits, Int.reducePow, Int.reduceLT, Int.reduceLE, Int.reduceEq, Int.reduceNe, Int.reduceAdd, Int.reduceSub, and_self, reduceCtorEq, decide_eq_true_eq, decide_eq_false_iff_not, eq_self, implies_true, exists_const, Option.isNone_some, Option.isNone_none, Option.isSome_some, Option.isSome_none, Option.getD_some]
    exact ⟨0, rfl, by omega, OwQ.nil, Ext.refl h⟩
  rintro vo _ g ⟨i, rfl, hi, ho, e1⟩
  by_cases hil : i < l.length
  · have hsplit : l.take (i + 1) = l.take i ++ [l[i]] := by simp
    have hlt : (l.take i).length = i := by rw [List.length_take]; omega
    have hki := hk l[i] (List.getElem_mem hil)
    have hbd := rec_bd (hs.ext e1) hil
    obtain ⟨pb, po, k, v, gi, t1, x1, y1, hk1, hv1⟩ := rec_at (hs.ext e1) hil
    simp (disch := omega) only [dm_t, wA, wB, wL, wW, wY, Int.fdiv_eq_ediv_of_nonneg, Int.tdiv_eq_ediv_of_nonneg, Int.tmod_eq_emod_of_nonneg, chk_pos, decT, decF, br_pos, br_neg, wX, ↓reduceIte, Nat.reduceEqDiff, Nat.reduceAdd, Nat.reduceSub, Nat.reduceMul, Nat.reduceLeDiff, Nat.reduceLT, Nat.reduceMod, Nat.reduceDiv, Int.reduceToNat, Nat.min_eq_left, IntKind.bits, Int.reducePow, Int.reduceLT, Int.reduceLE, Int.reduceEq, Int.reduceNe, Int.reduceAdd, Int.reduceSub, and_self, reduceCtorEq, decide_eq_true_eq, decide_eq_false_iff_not, eq_self, implies_true, exists_const, Option.isNone_some, Option.isNone_none, Option.isSome_some, Option.isSome_none, Option.getD_some, gi, t1, x1, y1]
    refine appB (O := fun y => g y = none) (xs := []) OwK.nil (fun y hy => hy) hk1 (by simp; omega) ?_
    intro w1 G1 o1 f1
    rw [List.nil_append] at o1
    have eG1 : Ext g G1 := Ext.step (Ext.refl _) f1
    simp (disch := omega) only [dm_t, wA, wB, wL, wW, wY, Int.fdiv_eq_ediv_of_nonneg, Int.tdiv_eq_ediv_of_nonneg, Int.tmod_eq_emod_of_nonneg, chk_pos, decT, decF, br_pos, br_neg, wX, ↓reduceIte, Nat.reduceEqDiff, Nat.reduceAdd, Nat.reduceSub, Nat.reduceMul, Nat.reduceLeDiff, Nat.reduceLT, Nat.reduceMod, Nat.reduceDiv, Int.reduceToNat, Nat.min_eq_left, IntKind.bits, Int.reducePow, Int.reduceLT, Int.reduceLE, Int.reduceEq, Int.reduceNe, Int.reduceAdd, Int.reduceSub, and_self, reduceCtorEq, decide_eq_true_eq, decide_eq_false_iff_not, eq_self, implies_true, exists_const, Option.isNone_some, Option.isNone_none, Option.isSome_some, Option.isSome_none, Option.getD_some, cellAt_ext eG1 t1, cellAt_ext eG1 x1, cellAt_ext eG1 y1]
    refine appB (O := fun y => G1 y = none) (xs := []) OwK.nil (fun y hy => hy) (SlK.ext hv1 eG1) (by simp; omega) ?_
    intro w2 G2 o2f f2
    rw [List.nil_append] at o2f
    have e2 : Ext G1 G2 := Ext.step (Ext.refl _) f2
    have eG := eG1.trans e2
    have o1f := OwK.ext o1 e2
    have b1 : By (fun y => isAt vo y ∨ h y ≠ none) G2 w1 (l[i]).2.1 := OwK.sl o1f fun x hx hy => hy.elim (fun hy => ho.l.there hy hx) fun hy => hy (e1.bk hx)
    have b2 : By (fun y => isAt vo y ∨ h y ≠ none) G2 w2 (l[i]).2.2 := OwK.sl o2f fun x hx hy => hy.elim (fun hy => ho.l.there hy (eG1.bk hx)) fun hy => hy ((e1.trans eG1).bk hx)
    obtain ⟨wa1, wc1, rfl⟩ := By.len b1
    obtain ⟨wa2, wc2, rfl⟩ := By.len b2
    simp (disch := omega) only [dm_t, wA, wB, wL, wW, wY, Int.fdiv_eq_ediv_of_nonneg, Int.tdiv_eq_ediv_of_nonneg, Int.tmod_eq_emod_of_nonneg, chk_pos, decT, decF, br_pos, br_neg, wX, ↓reduceIte, Nat.reduceEqDiff, Nat.reduceAdd, Nat.reduceSub, Nat.reduceMul, Nat.reduceLeDiff, Nat.reduceLT, Nat.reduceMod, Nat.reduceDiv, Int.reduceToNat, Nat.min_eq_left, IntKind.bits, Int.reducePow, Int.reduceLT, Int.reduceLE, Int.reduceEq, Int.reduceNe, Int.reduceAdd, Int.reduceSub, and_self, reduceCtorEq, decide_eq_true_eq, decide_eq_false_iff_not, eq_self, implies_true, exists_const, Option.isNone_some, Option.isNone_none, Option.isSome_some, Option.isSome_none, Option.getD_some, cellAt_ext eG t1, cellAt_ext eG x1, cellAt_ext eG y1]
    intro b3 hb3
    have eb := eG.trans (Ext.new hb3 (.cells #[.int .i64 (l[i]).1, .slice wa1 (l[i]).2.1.length wc1, .slice wa2 (l[i]).2.2.length wc2] 39))
    simp (disch := omega) only [dm_t, wA, wB, wL, wW, wY, Int.fdiv_eq_ediv_of_nonneg, Int.tdiv_eq_ediv_of_nonneg, Int.tmod_eq_emod_of_nonneg, chk_pos, decT, decF, br_pos, br_neg, wX, ↓reduceIte, Nat.reduceEqDiff, Nat.reduceAdd, Nat.reduceSub, Nat.reduceMul, Nat.reduceLeDiff, Nat.reduceLT, Nat.reduceMod, Nat.reduceDiv, Int.reduceToNat, Nat.min_eq_left, IntKind.bits, Int.reducePow, Int.reduceLT, Int.reduceLE, Int.reduceEq, Int.reduceNe, Int.reduceAdd, Int.reduceSub, and_self, reduceCtorEq, decide_eq_true_eq, decide_eq_false_iff_not, eq_self, implies_true, exists_const, Option.isNone_some, Option.isNone_none, Option.isSome_some, Option.isSome_none, Option.getD_some, cellAt_ext eb t1, cellAt_ext eb x1, cellAt_ext eb y1]
    refine OwQ.push (V := fun _ => _) (x := l[i]) 3 sz_rc (ho.ext eG fun r hr => hr.ext eG) (fun y hy => (e1.trans eG).bk hy) (rep_rc.2 ⟨_, _, rfl, hbd, b1, b2⟩) (by rfl) (by rw [hlt]; omega) (by rw [hlt]; omega) ⟨_, _, _, _, _, rfl, OwK.mono o1f fun x _ _ hx => e1.bk hx, OwK.mono o2f fun x _ _ hx => (e1.trans eG1).bk hx, hki⟩ (fun h' rows so f r hr => hr.fr (by decide) so f fun x hx => hx.2) ?_ b3 hb3
    intro _ s' G3 _ o3 f3
    simp (disch := omega) only [dm_t, wA, wB, wL, wW, wY, Int.fdiv_eq_ediv_of_nonneg, Int.tdiv_eq_ediv_of_nonneg, Int.tmod_eq_emod_of_nonneg, chk_pos, decT, decF, br_pos, br_neg, wX, ↓reduceIte, Nat.reduceEqDiff, Nat.reduceAdd, Nat.reduceSub, Nat.reduceMul, Nat.reduceLeDiff, Nat.reduceLT, Nat.reduceMod, Nat.reduceDiv, Int.reduceToNat, Nat.min_eq_left, IntKind.bits, Int.reducePow, Int.reduceLT, Int.reduceLE, Int.reduceEq, Int.reduceNe, Int.reduceAdd, Int.reduceSub, and_self, reduceCtorEq, decide_eq_true_eq, decide_eq_false_iff_not, eq_self, implies_true, exists_const, Option.isNone_some, Option.isNone_none, Option.isSome_some, Option.isSome_none, Option.getD_some]
    refine ⟨⟨i + 1, by simp, by omega, by rw [hsplit]; exact o3, Ext.step (e1.trans eG) f3⟩, by simp [m1]; omega⟩
  · obtain rfl : i = l.length := by omega
    rw [List.take_of_length_le (Nat.le_refl _)] at ho
    simp (disch := omega) only [dm_t, wA, wB, wL, wW, wY, Int.fdiv_eq_ediv_of_nonneg, Int.tdiv_eq_ediv_of_nonneg, Int.tmod_eq_emod_of_nonneg, chk_pos, decT, decF, br_pos, br_neg, wX, ↓reduceIte, Nat.reduceEqDiff, Nat.reduceAdd, Nat.reduceSub, Nat.reduceMul, Nat.reduceLeDiff, Nat.reduceLT, Nat.reduceMod, Nat.reduceDiv, Int.reduceToNat, Nat.min_eq_left, IntKind.bits, Int.reducePow, Int.reduceLT, Int.reduceLE, Int.reduceEq, Int.reduceNe, Int.reduceAdd, Int.reduceSub, and_self, reduceCtorEq, decide_eq_true_eq, decide_eq_false_iff_not, eq_self, implies_true, exists_const, Option.isNone_some, Option.isNone_none, Option.isSome_some, Option.isSome_none, Option.getD_some]
    exact ⟨ho, e1⟩
theorem lent_ok {S : Nat → Prop} {h : H} {s : Value} {l : List rc.D} (hs : RepL S rc h s l) (hl : l.length ≤ 100000) (hk : ∀ x ∈ l, x.2.1.length ≤ 140737488355328 ∧ x.2.2.length ≤ 140737488355328) :
    Ok Try.prog 28 #[s] h fun v h' => LR (fun y => h y = none) (fun y => h y ≠ none) h' v l ∧ Ext h h' := by
  obtain ⟨sa, sc, rfl⟩ := hs.len
  refine c28_ok (args := [_]) (by simp) ?_
  simp (disch := omega) only [dm_t, wA, wB, wL, wW, wY, Int.fdiv_eq_ediv_of_nonneg, Int.tdiv_eq_ediv_of_nonneg, Int.tmod_eq_emod_of_nonneg, chk_pos, decT, decF, br_pos, br_neg, wX, ↓reduceIte, Nat.reduceEqDiff, Nat.reduceAdd, Nat.reduceSub, Nat.reduceMul, Nat.reduceLeDiff, Nat.reduceLT, Nat.reduceMod, Nat.reduceDiv, Int.reduceToNat, Nat.min_eq_left, IntKind.bits, Int.reducePow, Int.reduceLT, Int.reduceLE, Int.reduceEq, Int.reduceNe, Int.reduceAdd, Int.reduceSub, and_self, reduceCtorEq, decide_eq_true_eq, decide_eq_false_iff_not, eq_self, implies_true, exists_const, Option.isNone_some, Option.isNone_none, Option.isSome_some, Option.isSome_none, Option.getD_some]
  refine (DCopy_ok hs (by omega) hk).k ?_
  rintro m h2 ⟨o2, e2⟩
  obtain ⟨ma, mc, rfl⟩ := o2.l.len
  simp (disch := omega) only [dm_t, wA, wB, wL, wW, wY, Int.fdiv_eq_ediv_of_nonneg, Int.tdiv_eq_ediv_of_nonneg, Int.tmod_eq_emod_of_nonneg, chk_pos, decT, decF, br_pos, br_neg, wX, ↓reduceIte, Nat.reduceEqDiff, Nat.reduceAdd, Nat.reduceSub, Nat.reduceMul, Nat.reduceLeDiff, Nat.reduceLT, Nat.reduceMod, Nat.reduceDiv, Int.reduceToNat, Nat.min_eq_left, IntKind.bits, Int.reducePow, Int.reduceLT, Int.reduceLE, Int.reduceEq, Int.reduceNe, Int.reduceAdd, Int.reduceSub, and_self, reduceCtorEq, decide_eq_true_eq, decide_eq_false_iff_not, eq_self, implies_true, exists_const, Option.isNone_some, Option.isNone_none, Option.isSome_some, Option.isSome_none, Option.getD_some]
  refine OwQ.push (x := z42) 3 sz_rc o2 (fun y hy => e2.bk hy) (rep_rc.2 ⟨_, _, rfl, by decide, By.nil, By.nil⟩) (by rfl) (by omega) (by omega) ⟨_, _, _, [], [], rfl, OwK.nil, OwK.nil, by simp, by simp⟩ (fun h' rows so f r hr => hr.fr (by decide) so f fun x hx => hx.2) ?_
  intro _ m' h3 _ o3 f3
  have e3 : Ext h h3 := Ext.step e2 f3
  obtain ⟨m'a, m'c, rfl⟩ := o3.l.len
  have hcap := RepL.cap o3.l.rep
  simp only [List.length_append, List.length_cons, List.length_nil, Nat.zero_add] at o3 hcap
  simp (disch := omega) only [dm_t, wA, wB, wL, wW, wY, Int.fdiv_eq_ediv_of_nonneg, Int.tdiv_eq_ediv_of_nonneg, Int.tmod_eq_emod_of_nonneg, chk_pos, decT, decF, br_pos, br_neg, wX, ↓reduceIte, Nat.reduceEqDiff, Nat.reduceAdd, Nat.reduceSub, Nat.reduceMul, Nat.reduceLeDiff, Nat.reduceLT, Nat.reduceMod, Nat.reduceDiv, Int.reduceToNat, Nat.min_eq_left, IntKind.bits, Int.reducePow, Int.reduceLT, Int.reduceLE, Int.reduceEq, Int.reduceNe, Int.reduceAdd, Int.reduceSub, and_self, reduceCtorEq, decide_eq_true_eq, decide_eq_false_iff_not, eq_self, implies_true, exists_const, Option.isNone_some, Option.isNone_none, Option.isSome_some, Option.isSome_none, Option.getD_some]
  refine slc_pre l.length rfl rfl (by omega) ?_
  simp (disch := omega) only [dm_t, wA, wB, wL, wW, wY, Int.fdiv_eq_ediv_of_nonneg, Int.tdiv_eq_ediv_of_nonneg, Int.tmod_eq_emod_of_nonneg, chk_pos, decT, decF, br_pos, br_neg, wX, ↓reduceIte, Nat.reduceEqDiff, Nat.reduceAdd, Nat.reduceSub, Nat.reduceMul, Nat.reduceLeDiff, Nat.reduceLT, Nat.reduceMod, Nat.reduceDiv, Int.reduceToNat, Nat.min_eq_left, IntKind.bits, Int.reducePow, Int.reduceLT, Int.reduceLE, Int.reduceEq, Int.reduceNe, Int.reduceAdd, Int.reduceSub, and_self, reduceCtorEq, decide_eq_true_eq, decide_eq_false_iff_not, eq_self, implies_true, exists_const, Option.isNone_some, Option.isNone_none, Option.isSome_some, Option.isSome_none, Option.getD_some]
  exact ⟨⟨_, _, rfl, by omega, o3⟩, e3⟩
theorem kept_ok {O S S' : Nat → Prop} {h : H} {m s : Value} {l : List rc.D} (hm : LR O S h m l) (hs : RepL S' rc h s l) (hl : l.length ≤ 100000) : Ok Try.prog 31 #[m, s] h fun v h' => v = .bool true ∧ Ext h h' := by
  obtain ⟨sa, sc, rfl⟩ := hs.len
  have hrep := hm.rep
  obtain ⟨a, c, rfl, hc1, hq⟩ := hm
  refine c31_ok (args := [_, _]) (by simp) ?_
  simp (disch := omega) only [dm_t, wA, wB, wL, wW, wY, Int.fdiv_eq_ediv_of_nonneg, Int.tdiv_eq_ediv_of_nonneg, Int.tmod_eq_emod_of_nonneg, chk_pos, decT, decF, br_pos, br_neg, wX, ↓reduceIte, Nat.reduceEqDiff, Nat.reduceAdd, Nat.reduceSub, Nat.reduceMul, Nat.reduceLeDiff, Nat.reduceLT, Nat.reduceMod, Nat.reduceDiv, Int.reduceToNat, Nat.min_eq_left, IntKind.bits, Int.reducePow, Int.reduceLT, Int.reduceLE, Int.reduceEq, Int.reduceNe, Int.reduceAdd, Int.reduceSub, and_self, reduceCtorEq, decide_eq_true_eq, decide_eq_false_iff_not, eq_self, implies_true, exists_const, Option.isNone_some, Option.isNone_none, Option.isSome_some, Option.isSome_none, Option.getD_some]
  refine (DSameAll_ok hrep hs (by omega)).k ?_
  rintro _ g ⟨rfl, e⟩
  have hqr := hq.l.rep.ext e
  have hlen1 : (l ++ [z42]).length = l.length + 1 := by simp
  obtain ⟨b3, o3, k, v, gi3, t1, -, -, -, -⟩ := rec_at hqr (i := l.length) (by rw [hlen1]; omega)
  have t1' : cellAt g ⟨b3, o3, none⟩ = some (.int .i64 4242) := by
    rw [t1]; simp [z42]
  simp (disch := omega) only [dm_t, wA, wB, wL, wW, wY, Int.fdiv_eq_ediv_of_nonneg, Int.tdiv_eq_ediv_of_nonneg, Int.tmod_eq_emod_of_nonneg, chk_pos, decT, decF, br_pos, br_neg, wX, ↓reduceIte, Nat.reduceEqDiff, Nat.reduceAdd, Nat.reduceSub, Nat.reduceMul, Nat.reduceLeDiff, Nat.reduceLT, Nat.reduceMod, Nat.reduceDiv, Int.reduceToNat, Nat.min_eq_left, IntKind.bits, Int.reducePow, Int.reduceLT, Int.reduceLE, Int.reduceEq, Int.reduceNe, Int.reduceAdd, Int.reduceSub, and_self, reduceCtorEq, decide_eq_true_eq, decide_eq_false_iff_not, eq_self, implies_true, exists_const, Option.isNone_some, Option.isNone_none, Option.isSome_some, Option.isSome_none, Option.getD_some]
  refine slc_pre (l.length + 1) (by simp) rfl (by omega) ?_
  simp (disch := omega) only [dm_t, wA, wB, wL, wW, wY, Int.fdiv_eq_ediv_of_nonneg, Int.tdiv_eq_ediv_of_nonneg, Int.tmod_eq_emod_of_nonneg, chk_pos, decT, decF, br_pos, br_neg, wX, ↓reduceIte, Nat.reduceEqDiff, Nat.reduceAdd, Nat.reduceSub, Nat.reduceMul, Nat.reduceLeDiff, Nat.reduceLT, Nat.reduceMod, Nat.reduceDiv, Int.reduceToNat, Nat.min_eq_left, IntKind.bits, Int.reducePow, Int.reduceLT, Int.reduceLE, Int.reduceEq, Int.reduceNe, Int.reduceAdd, Int.reduceSub, and_self, reduceCtorEq, decide_eq_true_eq, decide_eq_false_iff_not, eq_self, implies_true, exists_const, Option.isNone_some, Option.isNone_none, Option.isSome_some, Option.isSome_none, Option.getD_some, gi3, t1']
  exact e
end Go.Proofs.Ytbnjhgfpfajnoaa.rr
