/-
  A batch's bytes.
-/
import Derived.Test.YtbnjhgfpfajnoaaRe
namespace Go.Proofs.Ytbnjhgfpfajnoaa.rr
open Go.Proofs.Ytbnjhgfpfajnoaa
set_option linter.unusedVariables false
set_option linter.unusedSimpArgs false
abbrev batT : Ty := .pair (.int .i64) (.sl rc)
/-! ### The plain side -/
def recB (r : rc.D) : List UInt8 := low 8 (Int.toNat r.1) ++ low 2 r.2.1.length ++ low 2 r.2.2.length ++ r.2.1 ++ r.2.2
def recsB (l : List rc.D) : List UInt8 := l.flatMap recB
def bodyB (base : Int) (l : List rc.D) : List UInt8 := low 8 base.toNat ++ low 4 l.length ++ recsB l
def wrongB (base : Int) (l : List rc.D) : Prop := fitsE l = 2 ∨ base < 0 ∨ 9007199254740992 < base ∨ 9007199254740992 < base + (l.length : Int) - 1
def bytesB (base : Int) (l : List rc.D) : List UInt8 := low 4 (16 + sizes l) ++ low 4 (sumB (bodyB base l)).toNat ++ bodyB base l
instance (base : Int) (l : List rc.D) : Decidable (wrongB base l) := by unfold wrongB; infer_instance
def putE (base : Int) (l : List rc.D) : Int := if wrongB base l then 2 else fitsE l
def putB (base : Int) (l : List rc.D) : List UInt8 := if putE base l = 0 then bytesB base l else []
theorem recB_len (r : rc.D) : (recB r).length = size r := by
  simp only [recB, List.length_append, low_len, size]
theorem recsB_len (l : List rc.D) : (recsB l).length = sizes l := by
  induction l with
  | nil => rfl
  | cons r t ih => rw [recsB, List.flatMap_cons, List.length_append, recB_len]; show _ + (recsB t).length = _; rw [ih]; rfl
theorem recsB_append (a b : List rc.D) : recsB (a ++ b) = recsB a ++ recsB b := by simp [recsB]
theorem bodyB_len (base : Int) (l : List rc.D) : (bodyB base l).length = 12 + sizes l := by
  rw [bodyB, List.length_append, List.length_append, low_len, low_len, recsB_len]
theorem fits0 {l : List rc.D} (h : fitsE l = 0) : l ≠ [] ∧ l.all may = true ∧ l.length ≤ 256 ∧ 20 + sizes l ≤ 65536 := by
  unfold fitsE at h
  by_cases h1 : l = []
  · rw [if_pos h1] at h; cases h
  rw [if_neg h1] at h
  by_cases h2 : l.all may = false
  · rw [if_pos h2] at h; cases h
  rw [if_neg h2] at h
  by_cases h3 : 256 < l.length
  · rw [if_pos h3] at h; cases h
  rw [if_neg h3] at h
  by_cases h4 : 65536 < 20 + sizes l
  · rw [if_pos h4] at h; cases h
  exact ⟨h1, by simpa using h2, by omega, by omega⟩
theorem fitsN0 {l : List rc.D} (h : fitsE l = 0) : fitsN l = ((20 + sizes l : Nat) : Int) := by rw [fitsN, if_pos h]
theorem sizes_take {l : List rc.D} (i : Nat) : sizes (l.take i) ≤ sizes l := by
  induction l generalizing i with
  | nil => simp
  | cons r t ih =>
    cases i with
    | zero => simp [sizes]
    | succ i => simp only [List.take_succ_cons, sizes]; have := ih i; omega
theorem may_len {r : rc.D} (h : may r = true) : 0 ≤ @id Int r.1 ∧ @id Int r.1 ≤ 9007199254740992 ∧ r.2.1.length ≤ 256 ∧ r.2.2.length ≤ 4096 := by
  simp only [may, Bool.and_eq_true, decide_eq_true_eq] at h
  exact h
/-! ### The walk -/
theorem Put_ok {S : Nat → Prop} {h : H} {sv : Value} {base : Int} {l : List rc.D} (hs : RepL S rc h sv l) (hbd : -9223372036854775808 ≤ base ∧ base ≤ 9223372036854775807) (hl : l.length ≤ 1000000000) :
    Ok Try.prog 25 #[.agg #[.int .i64 base, sv]] h fun v h' => ∃ w, v = .tuple #[w, .int .i64 (putE base l)] ∧ OwB (fun y => h y = none) h' 5 w (putB base l) ∧ Ext h h' := by
  obtain ⟨sa, sc, rfl⟩ := RepL.len hs
  refine c25_ok (args := [_]) (by simp) ?_
  simp (disch := omega) only [dm_t, wA, wB, wL, wW, wY, Int.fdiv_eq_ediv_of_nonneg, Int.tdiv_eq_ediv_of_nonneg, Int.tmod_eq_emod_of_nonneg, chk_pos, decT, decF, br_pos, br_neg, wX, ↓reduceIte, Nat.reduceEqDiff, Nat.reduceAdd, Nat.reduceSub, Nat.reduceMul, Nat.reduceLeDiff, Nat.reduceLT, Nat.reduceMod, Nat.reduceDiv, Int.reduceToNat, Nat.min_eq_left, IntKind.bits, Int.reducePow, Int.reduceLT, Int.reduceLE, Int.reduceEq, Int.reduceNe, Int.reduceAdd, Int.reduceSub, and_self, reduceCtorEq, decide_eq_true_eq, decide_eq_false_iff_not, eq_self, implies_true, exists_const, Option.isNone_some, Option.isNone_none, Option.isSome_some, Option.isSome_none, Option.getD_some]
  intro bb hbb
  generalize hG : hupd h bb _ = g1
  obtain ⟨e1, qb⟩ := new_ext hG hbb
  clear hG
  have b0 : ∀ {G : H}, Ext g1 G → cellAt G ⟨bb, 0, none⟩ = some (.int .i64 base) := fun e => by rw [cellAt_of (e.at qb)]; rfl
  have b1 : ∀ {G : H}, Ext g1 G → cellAt G ⟨bb, 1, none⟩ = some (.slice sa l.length sc) := fun e => by rw [cellAt_of (e.at qb)]; rfl
  simp (disch := omega) only [dm_t, wA, wB, wL, wW, wY, Int.fdiv_eq_ediv_of_nonneg, Int.tdiv_eq_ediv_of_nonneg, Int.tmod_eq_emod_of_nonneg, chk_pos, decT, decF, br_pos, br_neg, wX, ↓reduceIte, Nat.reduceEqDiff, Nat.reduceAdd, Nat.reduceSub, Nat.reduceMul, Nat.reduceLeDiff, Nat.reduceLT, Nat.reduceMod, Nat.reduceDiv, Int.reduceToNat, Nat.min_eq_left, IntKind.bits, Int.reducePow, Int.reduceLT, Int.reduceLE, Int.reduceEq, Int.reduceNe, Int.reduceAdd, Int.reduceSub, and_self, reduceCtorEq, decide_eq_true_eq, decide_eq_false_iff_not, eq_self, implies_true, exists_const, Option.isNone_some, Option.isNone_none, Option.isSome_some, Option.isSome_none, Option.getD_some, b0 (Ext.refl _), b1 (Ext.refl _)]
  refine (Fits_ok (hs.ext e1) (by omega)).k ?_
  rintro _ g2 ⟨rfl, e2⟩
  have E2 := e1.trans e2
  have bad : wrongB base l → ∃ w, Value.tuple #[.slice none 0 0, .int .i64 2] = .tuple #[w, .int .i64 (putE base l)] ∧ OwB (fun y => h y = none) g2 5 w (putB base l) ∧ Ext h g2 := by
    intro hw
    have hE : putE base l = 2 := by rw [putE, if_pos hw]
    refine ⟨_, by rw [hE], ?_, E2⟩
    rw [putB, if_neg (by rw [hE]; decide)]
    exact OwK.nil
  by_cases f2 : fitsE l = 2
  · rw [f2]
    simp (disch := omega) only [dm_t, wA, wB, wL, wW, wY, Int.fdiv_eq_ediv_of_nonneg, Int.tdiv_eq_ediv_of_nonneg, Int.tmod_eq_emod_of_nonneg, chk_pos, decT, decF, br_pos, br_neg, wX, ↓reduceIte, Nat.reduceEqDiff, Nat.reduceAdd, Nat.reduceSub, Nat.reduceMul, Nat.reduceLeDiff, Nat.reduceLT, Nat.reduceMod, Nat.reduceDiv, Int.reduceToNat, Nat.min_eq_left, IntKind.bits, Int.reducePow, Int.reduceLT, Int.reduceLE, Int.reduceEq, Int.reduceNe, Int.reduceAdd, Int.reduceSub, and_self, reduceCtorEq, decide_eq_true_eq, decide_eq_false_iff_not, eq_self, implies_true, exists_const, Option.isNone_some, Option.isNone_none, Option.isSome_some, Option.isSome_none, Option.getD_some]
    exact bad (.inl f2)
  by_cases w1 : base < 0
  · rcases fitsE_vals l with f | f | f
    · rw [f]
      simp (disch := omega) only [dm_t, wA, wB, wL, wW, wY, Int.fdiv_eq_ediv_of_nonneg, Int.tdiv_eq_ediv_of_nonneg, Int.tmod_eq_emod_of_nonneg, chk_pos, decT, decF, br_pos, br_neg, wX, ↓reduceIte, Nat.reduceEqDiff, Nat.reduceAdd, Nat.reduceSub, Nat.reduceMul, Nat.reduceLeDiff, Nat.reduceLT, Nat.reduceMod, Nat.reduceDiv, Int.reduceToNat, Nat.min_eq_left, IntKind.bits, Int.reducePow, Int.reduceLT, Int.reduceLE, Int.reduceEq, Int.reduceNe, Int.reduceAdd, Int.reduceSub, and_self, reduceCtorEq, decide_eq_true_eq, decide_eq_false_iff_not, eq_self, implies_true, exists_const, Option.isNone_some, Option.isNone_none, Option.isSome_some, Option.isSome_none, Option.getD_some, b0 e2]
      exact bad (.inr (.inl w1))
    · exact absurd f f2
    · rw [f]
      simp (disch := omega) only [dm_t, wA, wB, wL, wW, wY, Int.fdiv_eq_ediv_of_nonneg, Int.tdiv_eq_ediv_of_nonneg, Int.tmod_eq_emod_of_nonneg, chk_pos, decT, decF, br_pos, br_neg, wX, ↓reduceIte, Nat.reduceEqDiff, Nat.reduceAdd, Nat.reduceSub, Nat.reduceMul, Nat.reduceLeDiff, Nat.reduceLT, Nat.reduceMod, Nat.reduceDiv, Int.reduceToNat, Nat.min_eq_left, IntKind.bits, Int.reducePow, Int.reduceLT, Int.reduceLE, Int.reduceEq, Int.reduceNe, Int.reduceAdd, Int.reduceSub, and_self, reduceCtorEq, decide_eq_true_eq, decide_eq_false_iff_not, eq_self, implies_true, exists_const, Option.isNone_some, Option.isNone_none, Option.isSome_some, Option.isSome_none, Option.getD_some, b0 e2]
      exact bad (.inr (.inl w1))
  by_cases w2 : 9007199254740992 < base
  · rcases fitsE_vals l with f | f | f
    · rw [f]
      simp (disch := omega) only [dm_t, wA, wB, wL, wW, wY, Int.fdiv_eq_ediv_of_nonneg, Int.tdiv_eq_ediv_of_nonneg, Int.tmod_eq_emod_of_nonneg, chk_pos, decT, decF, br_pos, br_neg, wX, ↓reduceIte, Nat.reduceEqDiff, Nat.reduceAdd, Nat.reduceSub, Nat.reduceMul, Nat.reduceLeDiff, Nat.reduceLT, Nat.reduceMod, Nat.reduceDiv, Int.reduceToNat, Nat.min_eq_left, IntKind.bits, Int.reducePow, Int.reduceLT, Int.reduceLE, Int.reduceEq, Int.reduceNe, Int.reduceAdd, Int.reduceSub, and_self, reduceCtorEq, decide_eq_true_eq, decide_eq_false_iff_not, eq_self, implies_true, exists_const, Option.isNone_some, Option.isNone_none, Option.isSome_some, Option.isSome_none, Option.getD_some, b0 e2]
      exact bad (.inr (.inr (.inl w2)))
    · exact absurd f f2
    · rw [f]
      simp (disch := omega) only [dm_t, wA, wB, wL, wW, wY, Int.fdiv_eq_ediv_of_nonneg, Int.tdiv_eq_ediv_of_nonneg, Int.tmod_eq_emod_of_nonneg, chk_pos, decT, decF, br_pos, br_neg, wX, ↓reduceIte, Nat.reduceEqDiff, Nat.reduceAdd, Nat.reduceSub, Nat.reduceMul, Nat.reduceLeDiff, Nat.reduceLT, Nat.reduceMod, Nat.reduceDiv, Int.reduceToNat, Nat.min_eq_left, IntKind.bits, Int.reducePow, Int.reduceLT, Int.reduceLE, Int.reduceEq, Int.reduceNe, Int.reduceAdd, Int.reduceSub, and_self, reduceCtorEq, decide_eq_true_eq, decide_eq_false_iff_not, eq_self, implies_true, exists_const, Option.isNone_some, Option.isNone_none, Option.isSome_some, Option.isSome_none, Option.getD_some, b0 e2]
      exact bad (.inr (.inr (.inl w2)))
  by_cases w3 : 9007199254740992 < base + (l.length : Int) - 1
  · rcases fitsE_vals l with f | f | f
    · rw [f]
      simp (disch := omega) only [dm_t, wA, wB, wL, wW, wY, Int.fdiv_eq_ediv_of_nonneg, Int.tdiv_eq_ediv_of_nonneg, Int.tmod_eq_emod_of_nonneg, chk_pos, decT, decF, br_pos, br_neg, wX, ↓reduceIte, Nat.reduceEqDiff, Nat.reduceAdd, Nat.reduceSub, Nat.reduceMul, Nat.reduceLeDiff, Nat.reduceLT, Nat.reduceMod, Nat.reduceDiv, Int.reduceToNat, Nat.min_eq_left, IntKind.bits, Int.reducePow, Int.reduceLT, Int.reduceLE, Int.reduceEq, Int.reduceNe, Int.reduceAdd, Int.reduceSub, and_self, reduceCtorEq, decide_eq_true_eq, decide_eq_false_iff_not, eq_self, implies_true, exists_const, Option.isNone_some, Option.isNone_none, Option.isSome_some, Option.isSome_none, Option.getD_some, b0 e2, b1 e2]
      exact bad (.inr (.inr (.inr w3)))
    · exact absurd f f2
    · rw [f]
      simp (disch := omega) only [dm_t, wA, wB, wL, wW, wY, Int.fdiv_eq_ediv_of_nonneg, Int.tdiv_eq_ediv_of_nonneg, Int.tmod_eq_emod_of_nonneg, chk_pos, decT, decF, br_pos, br_neg, wX, ↓reduceIte, Nat.reduceEqDiff, Nat.reduceAdd, Nat.reduceSub, Nat.reduceMul, Nat.reduceLeDiff, Nat.reduceLT, Nat.reduceMod, Nat.reduceDiv, Int.reduceToNat, Nat.min_eq_left, IntKind.bits, Int.reducePow, Int.reduceLT, Int.reduceLE, Int.reduceEq, Int.reduceNe, Int.reduceAdd, Int.reduceSub, and_self, reduceCtorEq, decide_eq_true_eq, decide_eq_false_iff_not, eq_self, implies_true, exists_const, Option.isNone_some, Option.isNone_none, Option.isSome_some, Option.isSome_none, Option.getD_some, b0 e2, b1 e2]
      exact bad (.inr (.inr (.inr w3)))
  have hnw : ¬ wrongB base l := by rintro (h | h | h | h); exact f2 h; exact w1 h; exact w2 h; exact w3 h
  have hE : putE base l = fitsE l := by rw [putE, if_neg hnw]
  rcases fitsE_vals l with f | f | f
  rotate_left
  · exact absurd f f2
  · rw [f]
    simp (disch := omega) only [dm_t, wA, wB, wL, wW, wY, Int.fdiv_eq_ediv_of_nonneg, Int.tdiv_eq_ediv_of_nonneg, Int.tmod_eq_emod_of_nonneg, chk_pos, decT, decF, br_pos, br_neg, wX, ↓reduceIte, Nat.reduceEqDiff, Nat.reduceAdd, Nat.reduceSub, Nat.reduceMul, Nat.reduceLeDiff, Nat.reduceLT, Nat.reduceMod, Nat.reduceDiv, Int.reduceToNat, Nat.min_eq_left, IntKind.bits, Int.reducePow, Int.reduceLT, Int.reduceLE, Int.reduceEq, Int.reduceNe, Int.reduceAdd, Int.reduceSub, and_self, reduceCtorEq, decide_eq_true_eq, decide_eq_false_iff_not, eq_self, implies_true, exists_const, Option.isNone_some, Option.isNone_none, Option.isSome_some, Option.isSome_none, Option.getD_some, b0 e2, b1 e2]
    refine ⟨_, by rw [hE, f], ?_, E2⟩
    rw [putB, if_neg (by rw [hE, f]; decide)]
    exact OwK.nil
  obtain ⟨-, hmay, hl256, hsz⟩ := fits0 f
  have hB : putB base l = bytesB base l := by rw [putB, if_pos (by rw [hE, f])]
  rw [hE, hB, f, fitsN0 f]
  obtain ⟨bn, rfl⟩ : ∃ bn : Nat, base = (bn : Int) := ⟨base.toNat, by omega⟩
  have hbl : (low 8 bn).length = 8 := low_len _ _
  simp (disch := omega) only [dm_t, wA, wB, wL, wW, wY, Int.fdiv_eq_ediv_of_nonneg, Int.tdiv_eq_ediv_of_nonneg, Int.tmod_eq_emod_of_nonneg, chk_pos, decT, decF, br_pos, br_neg, wX, ↓reduceIte, Nat.reduceEqDiff, Nat.reduceAdd, Nat.reduceSub, Nat.reduceMul, Nat.reduceLeDiff, Nat.reduceLT, Nat.reduceMod, Nat.reduceDiv, Int.reduceToNat, Nat.min_eq_left, IntKind.bits, Int.reducePow, Int.reduceLT, Int.reduceLE, Int.reduceEq, Int.reduceNe, Int.reduceAdd, Int.reduceSub, and_self, reduceCtorEq, decide_eq_true_eq, decide_eq_false_iff_not, eq_self, implies_true, exists_const, Option.isNone_some, Option.isNone_none, Option.isSome_some, Option.isSome_none, Option.getD_some, b0 e2, b1 e2]
  refine (put_ok (O := fun y => g1 y = none) (l := []) OwK.nil (fun y hy => e2.bk hy) bn 8 (by omega) (by omega) (by simp)).k ?_
  rintro v3 g3 ⟨o3, f3⟩
  have e3 : Ext g1 g3 := Ext.step' e2 f3 fun y hy => hy
  rw [List.nil_append] at o3
  simp (disch := omega) only [dm_t, wA, wB, wL, wW, wY, Int.fdiv_eq_ediv_of_nonneg, Int.tdiv_eq_ediv_of_nonneg, Int.tmod_eq_emod_of_nonneg, chk_pos, decT, decF, br_pos, br_neg, wX, ↓reduceIte, Nat.reduceEqDiff, Nat.reduceAdd, Nat.reduceSub, Nat.reduceMul, Nat.reduceLeDiff, Nat.reduceLT, Nat.reduceMod, Nat.reduceDiv, Int.reduceToNat, Nat.min_eq_left, IntKind.bits, Int.reducePow, Int.reduceLT, Int.reduceLE, Int.reduceEq, Int.reduceNe, Int.reduceAdd, Int.reduceSub, and_self, reduceCtorEq, decide_eq_true_eq, decide_eq_false_iff_not, eq_self, implies_true, exists_const, Option.isNone_some, Option.isNone_none, Option.isSome_some, Option.isSome_none, Option.getD_some, b1 e3]
  refine (put_ok o3 (fun y hy => e3.bk hy) l.length 4 (by omega) (by omega) (by omega)).k ?_
  rintro v4 g4 ⟨o4, f4⟩
  have e4 : Ext g1 g4 := Ext.step' e3 f4 fun y hy => hy
  simp (disch := omega) only [dm_t, wA, wB, wL, wW, wY, Int.fdiv_eq_ediv_of_nonneg, Int.tdiv_eq_ediv_of_nonneg, Int.tmod_eq_emod_of_nonneg, chk_pos, decT, decF, br_pos, br_neg, wX, ↓reduceIte, Nat.reduceEqDiff, Nat.reduceAdd, Nat.reduceSub, Nat.reduceMul, Nat.reduceLeDiff, Nat.reduceLT, Nat.reduceMod, Nat.reduceDiv, Int.reduceToNat, Nat.min_eq_left, IntKind.bits, Int.reducePow, Int.reduceLT, Int.reduceLE, Int.reduceEq, Int.reduceNe, Int.reduceAdd, Int.reduceSub, and_self, reduceCtorEq, decide_eq_true_eq, decide_eq_false_iff_not, eq_self, implies_true, exists_const, Option.isNone_some, Option.isNone_none, Option.isSome_some, Option.isSome_none, Option.getD_some, b1 e4]
  refine vc_loop2 (fun vb vi g => ∃ i : Nat, vi = .int .i64 (i : Int) ∧ i ≤ l.length ∧ OwB (fun y => g1 y = none) g 5 vb (low 8 bn ++ low 4 l.length ++ recsB (l.take i)) ∧ Ext g1 g) (fun _ vi _ => l.length - m1 vi) ?_ ?_
  · simp (disch := omega) only [dm_t, wA, wB, wL, wW, wY, Int.fdiv_eq_ediv_of_nonneg, Int.tdiv_eq_ediv_of_nonneg, Int.tmod_eq_emod_of_nonneg, chk_pos, decT, decF, br_pos, br_neg, wX, ↓reduceIte, Nat.reduceEqDiff, Nat.reduceAdd, Nat.reduceSub, Nat.reduceMul, Nat.reduceLeDiff, Nat.reduceLT, Nat.reduceMod, Nat.reduceDiv, Int.reduceToNat, Nat.min_eq_left, IntKind.bits, Int.reducePow, Int.reduceLT, Int.reduceLE, Int.reduceEq, Int.reduceNe, Int.reduceAdd, Int.reduceSub, and_self, reduceCtorEq, decide_eq_true_eq, decide_eq_false_iff_not, eq_self, implies_true, exists_const, Option.isNone_some, Option.isNone_none, Option.isSome_some, Option.isSome_none, Option.getD_some]
    exact ⟨0, rfl, by omega, by simp only [List.take_zero, recsB, List.flatMap_nil, List.append_nil]; exact o4, e4⟩
  rintro vb _ g ⟨i, rfl, hi, ob, e5⟩
  by_cases hil : i < l.length
  · have hsplit : l.take (i + 1) = l.take i ++ [l[i]] := by simp
    have hmi := may_len (List.all_eq_true.1 hmay _ (List.getElem_mem hil))
    have hst := sizes_take (l := l) i
    have hbs : (low 8 bn ++ low 4 l.length ++ recsB (l.take i)).length ≤ 66000 := by
      rw [List.length_append, List.length_append, low_len, low_len, recsB_len]; omega
    generalize hbz : low 8 bn ++ low 4 l.length ++ recsB (l.take i) = bz at ob hbs
    simp (disch := omega) only [dm_t, wA, wB, wL, wW, wY, Int.fdiv_eq_ediv_of_nonneg, Int.tdiv_eq_ediv_of_nonneg, Int.tmod_eq_emod_of_nonneg, chk_pos, decT, decF, br_pos, br_neg, wX, ↓reduceIte, Nat.reduceEqDiff, Nat.reduceAdd, Nat.reduceSub, Nat.reduceMul, Nat.reduceLeDiff, Nat.reduceLT, Nat.reduceMod, Nat.reduceDiv, Int.reduceToNat, Nat.min_eq_left, IntKind.bits, Int.reducePow, Int.reduceLT, Int.reduceLE, Int.reduceEq, Int.reduceNe, Int.reduceAdd, Int.reduceSub, and_self, reduceCtorEq, decide_eq_true_eq, decide_eq_false_iff_not, eq_self, implies_true, exists_const, Option.isNone_some, Option.isNone_none, Option.isSome_some, Option.isSome_none, Option.getD_some]
    refine (hs.fresh.ext (e1.trans e5)).at sz_rc i rfl hil ?_
    intro pb po cs k1 k2 k3
    simp (disch := omega) only [dm_t, wA, wB, wL, wW, wY, Int.fdiv_eq_ediv_of_nonneg, Int.tdiv_eq_ediv_of_nonneg, Int.tmod_eq_emod_of_nonneg, chk_pos, decT, decF, br_pos, br_neg, wX, ↓reduceIte, Nat.reduceEqDiff, Nat.reduceAdd, Nat.reduceSub, Nat.reduceMul, Nat.reduceLeDiff, Nat.reduceLT, Nat.reduceMod, Nat.reduceDiv, Int.reduceToNat, Nat.min_eq_left, IntKind.bits, Int.reducePow, Int.reduceLT, Int.reduceLE, Int.reduceEq, Int.reduceNe, Int.reduceAdd, Int.reduceSub, and_self, reduceCtorEq, decide_eq_true_eq, decide_eq_false_iff_not, eq_self, implies_true, exists_const, Option.isNone_some, Option.isNone_none, Option.isSome_some, Option.isSome_none, Option.getD_some, k1]
    intro rb hrb
    simp (disch := omega) only [dm_t, wA, wB, wL, wW, wY, Int.fdiv_eq_ediv_of_nonneg, Int.tdiv_eq_ediv_of_nonneg, Int.tmod_eq_emod_of_nonneg, chk_pos, decT, decF, br_pos, br_neg, wX, ↓reduceIte, Nat.reduceEqDiff, Nat.reduceAdd, Nat.reduceSub, Nat.reduceMul, Nat.reduceLeDiff, Nat.reduceLT, Nat.reduceMod, Nat.reduceDiv, Int.reduceToNat, Nat.min_eq_left, IntKind.bits, Int.reducePow, Int.reduceLT, Int.reduceLE, Int.reduceEq, Int.reduceNe, Int.reduceAdd, Int.reduceSub, and_self, reduceCtorEq, decide_eq_true_eq, decide_eq_false_iff_not, eq_self, implies_true, exists_const, Option.isNone_some, Option.isNone_none, Option.isSome_some, Option.isSome_none, Option.getD_some]
    refine stn_new (k3.len.trans sz_rc) (by rfl) k3.cells ?_
    generalize hG : hupd g rb _ = g6
    obtain ⟨e6, qr⟩ := new_ext hG hrb
    clear hG
    obtain ⟨ka, kc, va, vc, rfl, hbdi, hk, hv⟩ := rc_len k3
    obtain ⟨tn, htn⟩ : ∃ tn : Nat, @Eq Int l[i].1 (tn : Int) := ⟨Int.toNat l[i].1, by have := hmi.1; simp only [id] at this; omega⟩
    have htl : tn ≤ 9007199254740992 := by have := hmi.2.1; simp only [id] at this; omega
    have e16 := e5.trans e6
    have hrbn : g1 rb = none := e5.bk hrb
    have r0 : ∀ {G : H}, G rb = g6 rb → cellAt G ⟨rb, 0, none⟩ = some (.int .i64 (tn : Int)) := fun h => by rw [cellAt_look, h, qr, ← htn]; rfl
    have r1 : ∀ {G : H}, G rb = g6 rb → cellAt G ⟨rb, 1, none⟩ = some (.slice ka l[i].2.1.length kc) := fun h => by rw [cellAt_look, h, qr]; rfl
    have r2 : ∀ {G : H}, G rb = g6 rb → cellAt G ⟨rb, 2, none⟩ = some (.slice va l[i].2.2.length vc) := fun h => by rw [cellAt_look, h, qr]; rfl
    have ob6 : OwB (fun y => g1 y = none ∧ y ≠ rb) g6 5 vb bz := OwK.ext (OwK.mono ob fun y o hy ho => ⟨ho, fun h => by rw [h, hrb] at hy; cases hy⟩) e6
    have hO6 : ∀ y, g6 y = none → g1 y = none ∧ y ≠ rb := fun y hy => ⟨e16.bk hy, fun h => by rw [h, qr] at hy; cases hy⟩
    simp (disch := omega) only [dm_t, wA, wB, wL, wW, wY, Int.fdiv_eq_ediv_of_nonneg, Int.tdiv_eq_ediv_of_nonneg, Int.tmod_eq_emod_of_nonneg, chk_pos, decT, decF, br_pos, br_neg, wX, ↓reduceIte, Nat.reduceEqDiff, Nat.reduceAdd, Nat.reduceSub, Nat.reduceMul, Nat.reduceLeDiff, Nat.reduceLT, Nat.reduceMod, Nat.reduceDiv, Int.reduceToNat, Nat.min_eq_left, IntKind.bits, Int.reducePow, Int.reduceLT, Int.reduceLE, Int.reduceEq, Int.reduceNe, Int.reduceAdd, Int.reduceSub, and_self, reduceCtorEq, decide_eq_true_eq, decide_eq_false_iff_not, eq_self, implies_true, exists_const, Option.isNone_some, Option.isNone_none, Option.isSome_some, Option.isSome_none, Option.getD_some, r0 rfl]
    refine (put_ok ob6 hO6 tn 8 (by omega) (by omega) (by omega)).k ?_
    rintro v7 g7 ⟨o7, f7⟩
    have q7 : g7 rb = g6 rb := by rw [qr]; exact f7 _ _ qr fun h => h.2 rfl
    simp (disch := omega) only [dm_t, wA, wB, wL, wW, wY, Int.fdiv_eq_ediv_of_nonneg, Int.tdiv_eq_ediv_of_nonneg, Int.tmod_eq_emod_of_nonneg, chk_pos, decT, decF, br_pos, br_neg, wX, ↓reduceIte, Nat.reduceEqDiff, Nat.reduceAdd, Nat.reduceSub, Nat.reduceMul, Nat.reduceLeDiff, Nat.reduceLT, Nat.reduceMod, Nat.reduceDiv, Int.reduceToNat, Nat.min_eq_left, IntKind.bits, Int.reducePow, Int.reduceLT, Int.reduceLE, Int.reduceEq, Int.reduceNe, Int.reduceAdd, Int.reduceSub, and_self, reduceCtorEq, decide_eq_true_eq, decide_eq_false_iff_not, eq_self, implies_true, exists_const, Option.isNone_some, Option.isNone_none, Option.isSome_some, Option.isSome_none, Option.getD_some, r1 q7]
    refine (put_ok o7 (fr_new hO6 f7) l[i].2.1.length 2 (by omega) (by omega) (by rw [List.length_append, low_len]; omega)).k ?_
    rintro v8 g8 ⟨o8, f8⟩
    have f68 := f7.trans f8
    have q8 : g8 rb = g6 rb := by rw [qr]; exact f68 _ _ qr fun h => h.2 rfl
    simp (disch := omega) only [dm_t, wA, wB, wL, wW, wY, Int.fdiv_eq_ediv_of_nonneg, Int.tdiv_eq_ediv_of_nonneg, Int.tmod_eq_emod_of_nonneg, chk_pos, decT, decF, br_pos, br_neg, wX, ↓reduceIte, Nat.reduceEqDiff, Nat.reduceAdd, Nat.reduceSub, Nat.reduceMul, Nat.reduceLeDiff, Nat.reduceLT, Nat.reduceMod, Nat.reduceDiv, Int.reduceToNat, Nat.min_eq_left, IntKind.bits, Int.reducePow, Int.reduceLT, Int.reduceLE, Int.reduceEq, Int.reduceNe, Int.reduceAdd, Int.reduceSub, and_self, reduceCtorEq, decide_eq_true_eq, decide_eq_false_iff_not, eq_self, implies_true, exists_const, Option.isNone_some, Option.isNone_none, Option.isSome_some, Option.isSome_none, Option.getD_some, r2 q8]
    refine (put_ok o8 (fr_new hO6 f68) l[i].2.2.length 2 (by omega) (by omega) (by rw [List.length_append, List.length_append, low_len, low_len]; omega)).k ?_
    rintro v9 g9 ⟨o9, f9⟩
    have f69 := f68.trans f9
    have q9 : g9 rb = g6 rb := by rw [qr]; exact f69 _ _ qr fun h => h.2 rfl
    have e9 : Ext g1 g9 := Ext.step' e16 f69 fun y hy => hy.1
    simp (disch := omega) only [dm_t, wA, wB, wL, wW, wY, Int.fdiv_eq_ediv_of_nonneg, Int.tdiv_eq_ediv_of_nonneg, Int.tmod_eq_emod_of_nonneg, chk_pos, decT, decF, br_pos, br_neg, wX, ↓reduceIte, Nat.reduceEqDiff, Nat.reduceAdd, Nat.reduceSub, Nat.reduceMul, Nat.reduceLeDiff, Nat.reduceLT, Nat.reduceMod, Nat.reduceDiv, Int.reduceToNat, Nat.min_eq_left, IntKind.bits, Int.reducePow, Int.reduceLT, Int.reduceLE, Int.reduceEq, Int.reduceNe, Int.reduceAdd, Int.reduceSub, and_self, reduceCtorEq, decide_eq_true_eq, decide_eq_false_iff_not, eq_self, implies_true, exists_const, Option.isNone_some, Option.isNone_none, Option.isSome_some, Option.isSome_none, Option.getD_some, r1 q9, r2 q9]
    refine appB o9 (fr_new hO6 f69) (SlK.fr (SlK.ext hk e6) f69 fun y hy => e1.bk hy.1) (by rw [List.length_append, List.length_append, List.length_append, low_len, low_len, low_len]; omega) ?_
    intro v10 g10 o10 f10'
    have f10 := f69.trans (f10'.mono fun y hy => hy.1)
    have q10 : g10 rb = g6 rb := by rw [qr]; exact f10 _ _ qr fun h => h.2 rfl
    simp (disch := omega) only [dm_t, wA, wB, wL, wW, wY, Int.fdiv_eq_ediv_of_nonneg, Int.tdiv_eq_ediv_of_nonneg, Int.tmod_eq_emod_of_nonneg, chk_pos, decT, decF, br_pos, br_neg, wX, ↓reduceIte, Nat.reduceEqDiff, Nat.reduceAdd, Nat.reduceSub, Nat.reduceMul, Nat.reduceLeDiff, Nat.reduceLT, Nat.reduceMod, Nat.reduceDiv, Int.reduceToNat, Nat.min_eq_left, IntKind.bits, Int.reducePow, Int.reduceLT, Int.reduceLE, Int.reduceEq, Int.reduceNe, Int.reduceAdd, Int.reduceSub, and_self, reduceCtorEq, decide_eq_true_eq, decide_eq_false_iff_not, eq_self, implies_true, exists_const, Option.isNone_some, Option.isNone_none, Option.isSome_some, Option.isSome_none, Option.getD_some, r1 q10, r2 q10]
    refine appB o10 (fr_new hO6 f10) (SlK.fr (SlK.ext hv e6) f10 fun y hy => e1.bk hy.1) (by simp only [List.length_append, low_len]; omega) ?_
    intro v11 g11 o11 f11'
    have f11 := f10.trans (f11'.mono fun y hy => hy.1)
    simp (disch := omega) only [dm_t, wA, wB, wL, wW, wY, Int.fdiv_eq_ediv_of_nonneg, Int.tdiv_eq_ediv_of_nonneg, Int.tmod_eq_emod_of_nonneg, chk_pos, decT, decF, br_pos, br_neg, wX, ↓reduceIte, Nat.reduceEqDiff, Nat.reduceAdd, Nat.reduceSub, Nat.reduceMul, Nat.reduceLeDiff, Nat.reduceLT, Nat.reduceMod, Nat.reduceDiv, Int.reduceToNat, Nat.min_eq_left, IntKind.bits, Int.reducePow, Int.reduceLT, Int.reduceLE, Int.reduceEq, Int.reduceNe, Int.reduceAdd, Int.reduceSub, and_self, reduceCtorEq, decide_eq_true_eq, decide_eq_false_iff_not, eq_self, implies_true, exists_const, Option.isNone_some, Option.isNone_none, Option.isSome_some, Option.isSome_none, Option.getD_some]
    refine ⟨⟨i + 1, by simp, by omega, ?_, Ext.step' e16 f11 fun y hy => hy.1⟩, by simp [m1]; omega⟩
    rw [hsplit, recsB_append, ← List.append_assoc, hbz]
    have hr : recsB [l[i]] = low 8 tn ++ low 2 l[i].2.1.length ++ low 2 l[i].2.2.length ++ l[i].2.1 ++ l[i].2.2 := by
      simp only [recsB, List.flatMap_cons, List.flatMap_nil, List.append_nil, recB]
      rw [show Int.toNat l[i].1 = tn by rw [htn]; simp]
    rw [hr]
    simp only [← List.append_assoc]
    exact OwK.mono o11 fun y _ _ hy => hy.1
  · obtain rfl : i = l.length := by omega
    rw [List.take_length] at ob
    have hbody : low 8 bn ++ low 4 l.length ++ recsB l = bodyB (bn : Int) l := by rw [bodyB, Int.toNat_natCast]
    rw [hbody] at ob
    have hbl2 := bodyB_len (bn : Int) l
    have hO5 : ∀ y, g y = none → g1 y = none := fun y hy => e5.bk hy
    have hgn : (((20 + sizes l : Nat) : Int) - 4) = ((16 + sizes l : Nat) : Int) := by omega
    obtain ⟨vba, vbc, rfl⟩ := By.len (OwK.s0 ob)
    simp (disch := omega) only [dm_t, wA, wB, wL, wW, wY, Int.fdiv_eq_ediv_of_nonneg, Int.tdiv_eq_ediv_of_nonneg, Int.tmod_eq_emod_of_nonneg, chk_pos, decT, decF, br_pos, br_neg, wX, ↓reduceIte, Nat.reduceEqDiff, Nat.reduceAdd, Nat.reduceSub, Nat.reduceMul, Nat.reduceLeDiff, Nat.reduceLT, Nat.reduceMod, Nat.reduceDiv, Int.reduceToNat, Nat.min_eq_left, IntKind.bits, Int.reducePow, Int.reduceLT, Int.reduceLE, Int.reduceEq, Int.reduceNe, Int.reduceAdd, Int.reduceSub, and_self, reduceCtorEq, decide_eq_true_eq, decide_eq_false_iff_not, eq_self, implies_true, exists_const, Option.isNone_some, Option.isNone_none, Option.isSome_some, Option.isSome_none, Option.getD_some]
    rw [hgn]
    refine (put_ok (O := fun y => g y = none) (l := []) OwK.nil (fun y hy => hy) (16 + sizes l) 4 (by omega) (by omega) (by simp)).k ?_
    rintro w1 h1 ⟨p1, t1⟩
    have x1 : Ext g h1 := Ext.step' (Ext.refl g) t1 fun y hy => hy
    rw [List.nil_append] at p1
    simp (disch := omega) only [dm_t, wA, wB, wL, wW, wY, Int.fdiv_eq_ediv_of_nonneg, Int.tdiv_eq_ediv_of_nonneg, Int.tmod_eq_emod_of_nonneg, chk_pos, decT, decF, br_pos, br_neg, wX, ↓reduceIte, Nat.reduceEqDiff, Nat.reduceAdd, Nat.reduceSub, Nat.reduceMul, Nat.reduceLeDiff, Nat.reduceLT, Nat.reduceMod, Nat.reduceDiv, Int.reduceToNat, Nat.min_eq_left, IntKind.bits, Int.reducePow, Int.reduceLT, Int.reduceLE, Int.reduceEq, Int.reduceNe, Int.reduceAdd, Int.reduceSub, and_self, reduceCtorEq, decide_eq_true_eq, decide_eq_false_iff_not, eq_self, implies_true, exists_const, Option.isNone_some, Option.isNone_none, Option.isSome_some, Option.isSome_none, Option.getD_some]
    intro lb hlb
    have x2 : Ext h1 _ := Ext.new hlb (.cells #[.slice vba (bodyB (bn : Int) l).length vbc] 22)
    simp (disch := omega) only [dm_t, wA, wB, wL, wW, wY, Int.fdiv_eq_ediv_of_nonneg, Int.tdiv_eq_ediv_of_nonneg, Int.tmod_eq_emod_of_nonneg, chk_pos, decT, decF, br_pos, br_neg, wX, ↓reduceIte, Nat.reduceEqDiff, Nat.reduceAdd, Nat.reduceSub, Nat.reduceMul, Nat.reduceLeDiff, Nat.reduceLT, Nat.reduceMod, Nat.reduceDiv, Int.reduceToNat, Nat.min_eq_left, IntKind.bits, Int.reducePow, Int.reduceLT, Int.reduceLE, Int.reduceEq, Int.reduceNe, Int.reduceAdd, Int.reduceSub, and_self, reduceCtorEq, decide_eq_true_eq, decide_eq_false_iff_not, eq_self, implies_true, exists_const, Option.isNone_some, Option.isNone_none, Option.isSome_some, Option.isSome_none, Option.getD_some]
    refine (Sum_ok (slitS (S := nos) [.slice vba (bodyB (bn : Int) l).length vbc] (h := h1) (b := lb) (E := 22) rfl id) (SlK.ext (OwK.s0 ob) (x1.trans x2)) (by omega)).k ?_
    rintro _ h3 ⟨rfl, x3⟩
    have x13 := (x1.trans x2).trans x3
    have hsl := (sumB (bodyB (bn : Int) l)).isLt
    have p3 := OwK.ext p1 (x2.trans x3)
    simp (disch := omega) only [dm_t, wA, wB, wL, wW, wY, Int.fdiv_eq_ediv_of_nonneg, Int.tdiv_eq_ediv_of_nonneg, Int.tmod_eq_emod_of_nonneg, chk_pos, decT, decF, br_pos, br_neg, wX, ↓reduceIte, Nat.reduceEqDiff, Nat.reduceAdd, Nat.reduceSub, Nat.reduceMul, Nat.reduceLeDiff, Nat.reduceLT, Nat.reduceMod, Nat.reduceDiv, Int.reduceToNat, Nat.min_eq_left, IntKind.bits, Int.reducePow, Int.reduceLT, Int.reduceLE, Int.reduceEq, Int.reduceNe, Int.reduceAdd, Int.reduceSub, and_self, reduceCtorEq, decide_eq_true_eq, decide_eq_false_iff_not, eq_self, implies_true, exists_const, Option.isNone_some, Option.isNone_none, Option.isSome_some, Option.isSome_none, Option.getD_some]
    refine (put_ok (O := fun y => g y = none) p3 (fun y hy => x13.bk hy) (sumB (bodyB (bn : Int) l)).toNat 4 (by omega) (by omega) (by rw [low_len]; omega)).k ?_
    rintro w4 h4 ⟨p4, t4⟩
    have x4 : Ext g h4 := Ext.step' x13 t4 fun y hy => hy
    simp (disch := omega) only [dm_t, wA, wB, wL, wW, wY, Int.fdiv_eq_ediv_of_nonneg, Int.tdiv_eq_ediv_of_nonneg, Int.tmod_eq_emod_of_nonneg, chk_pos, decT, decF, br_pos, br_neg, wX, ↓reduceIte, Nat.reduceEqDiff, Nat.reduceAdd, Nat.reduceSub, Nat.reduceMul, Nat.reduceLeDiff, Nat.reduceLT, Nat.reduceMod, Nat.reduceDiv, Int.reduceToNat, Nat.min_eq_left, IntKind.bits, Int.reducePow, Int.reduceLT, Int.reduceLE, Int.reduceEq, Int.reduceNe, Int.reduceAdd, Int.reduceSub, and_self, reduceCtorEq, decide_eq_true_eq, decide_eq_false_iff_not, eq_self, implies_true, exists_const, Option.isNone_some, Option.isNone_none, Option.isSome_some, Option.isSome_none, Option.getD_some]
    refine appB p4 (fun y hy => x4.bk hy) (SlK.ext (OwK.s0 ob) x4) (by simp only [List.length_append, low_len]; omega) ?_
    intro w5 h5 p5 t5
    simp (disch := omega) only [dm_t, wA, wB, wL, wW, wY, Int.fdiv_eq_ediv_of_nonneg, Int.tdiv_eq_ediv_of_nonneg, Int.tmod_eq_emod_of_nonneg, chk_pos, decT, decF, br_pos, br_neg, wX, ↓reduceIte, Nat.reduceEqDiff, Nat.reduceAdd, Nat.reduceSub, Nat.reduceMul, Nat.reduceLeDiff, Nat.reduceLT, Nat.reduceMod, Nat.reduceDiv, Int.reduceToNat, Nat.min_eq_left, IntKind.bits, Int.reducePow, Int.reduceLT, Int.reduceLE, Int.reduceEq, Int.reduceNe, Int.reduceAdd, Int.reduceSub, and_self, reduceCtorEq, decide_eq_true_eq, decide_eq_false_iff_not, eq_self, implies_true, exists_const, Option.isNone_some, Option.isNone_none, Option.isSome_some, Option.isSome_none, Option.getD_some]
    refine ⟨w5, rfl, OwK.mono p5 fun y _ _ hy => (e1.trans e5).bk hy, Ext.step' ((e1.trans e5).trans x4) t5 fun y hy => (e1.trans e5).bk hy.1⟩
end Go.Proofs.Ytbnjhgfpfajnoaa.rr
