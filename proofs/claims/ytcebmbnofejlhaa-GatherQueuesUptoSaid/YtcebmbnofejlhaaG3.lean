/-
  gather: Offsets; the statements' small functions: many, works.
-/
import Derived.Test.YtcebmbnofejlhaaG2
namespace Go.Proofs.Ytcebmbnofejlhaa.ga
open Go.Proofs.Ytcebmbnofejlhaa rr
set_option linter.unusedVariables false
set_option linter.unusedSimpArgs false

def offs : Nat → List rcs.D → List Nat
  | _, [] => []
  | b, x :: t => b :: offs (b + x.length) t
theorem offs_append : ∀ (a b : List rcs.D) (n : Nat), offs n (a ++ b) = offs n a ++ offs (n + total a) b
  | [], b, n => by simp [offs, total]
  | x :: t, b, n => by simp [offs, total, offs_append t b, Nat.add_assoc]
theorem offs_len : ∀ (a : List rcs.D) (n : Nat), (offs n a).length = a.length
  | [], n => rfl
  | x :: t, n => by simp [offs, offs_len t]
def ints64 (l : List Nat) : List Value := l.map fun n => .int .i64 (n : Nat)
def OffR (base : Int) (ls : List rcs.D) (h : H) (v : Value) (h' : H) : Prop :=
  if base < 0 ∨ 9007199254740992 < base then v = .tuple #[.slice none 0 0, .int .i64 0, .int .i64 2] else if chkE ls ≠ 0 then v = .tuple #[.slice none 0 0, .int .i64 0, .int .i64 (chkE ls)]
  else if 9007199254740993 < base + total ls then v = .tuple #[.slice none 0 0, .int .i64 0, .int .i64 8]
  else ∃ w, v = .tuple #[w, .int .i64 (base + total ls), .int .i64 0] ∧ O1 (fun y => h y = none) h' 2 w (ints64 (offs base.toNat ls))
theorem Offsets_ok {S : Nat → Prop} {h : H} {s : Value} {ls : List rcs.D} (base : Int) (hs : RepL S rcs h s ls) (hl : ls.length ≤ 1000000) (hx : ∀ x ∈ ls, x.length ≤ 1000000) :
    Ok Try.prog 14 #[.int .i64 base, s] h fun v h' => OffR base ls h v h' ∧ Ext h h' := by
  obtain ⟨sa, sc, rfl⟩ := hs.len
  refine c14_ok (args := [_, _]) (by simp) ?_
  by_cases hb0 : base < 0
  · simp (disch := omega) only [dm_t, wA, wB, wL, wW, wY, Int.fdiv_eq_ediv_of_nonneg, Int.tdiv_eq_ediv_of_nonneg, Int.tmod_eq_emod_of_nonneg, chk_pos, decT, decF, br_pos, br_neg, wX, ↓reduceIte, Nat.reduceEqDiff, Nat.reduceAdd, Nat.reduceSub, Nat.reduceMul, Nat.reduceLeDiff, Nat.reduceLT, Nat.reduceMod, Nat.reduceDiv, Int.reduceToNat, Nat.min_eq_left, IntKind.bits, Int.reducePow, Int.reduceLT, Int.reduceLE, Int.reduceEq, Int.reduceNe, Int.reduceAdd, Int.reduceSub, and_self, reduceCtorEq, decide_eq_true_eq, decide_eq_false_iff_not, eq_self, implies_true, exists_const, Option.isNone_some, Option.isNone_none, Option.isSome_some, Option.isSome_none, Option.getD_some]
    exact ⟨by rw [OffR, if_pos (.inl hb0)], Ext.refl h⟩
  by_cases hb1 : 9007199254740992 < base
  · simp (disch := omega) only [dm_t, wA, wB, wL, wW, wY, Int.fdiv_eq_ediv_of_nonneg, Int.tdiv_eq_ediv_of_nonneg, Int.tmod_eq_emod_of_nonneg, chk_pos, decT, decF, br_pos, br_neg, wX, ↓reduceIte, Nat.reduceEqDiff, Nat.reduceAdd, Nat.reduceSub, Nat.reduceMul, Nat.reduceLeDiff, Nat.reduceLT, Nat.reduceMod, Nat.reduceDiv, Int.reduceToNat, Nat.min_eq_left, IntKind.bits, Int.reducePow, Int.reduceLT, Int.reduceLE, Int.reduceEq, Int.reduceNe, Int.reduceAdd, Int.reduceSub, and_self, reduceCtorEq, decide_eq_true_eq, decide_eq_false_iff_not, eq_self, implies_true, exists_const, Option.isNone_some, Option.isNone_none, Option.isSome_some, Option.isSome_none, Option.getD_some]
    exact ⟨by rw [OffR, if_pos (.inr hb1)], Ext.refl h⟩
  have hbb : ¬ (base < 0 ∨ 9007199254740992 < base) := by omega
  obtain ⟨bn, rfl⟩ := Int.eq_ofNat_of_zero_le (a := base) (by omega)
  simp (disch := omega) only [dm_t, wA, wB, wL, wW, wY, Int.fdiv_eq_ediv_of_nonneg, Int.tdiv_eq_ediv_of_nonneg, Int.tmod_eq_emod_of_nonneg, chk_pos, decT, decF, br_pos, br_neg, wX, ↓reduceIte, Nat.reduceEqDiff, Nat.reduceAdd, Nat.reduceSub, Nat.reduceMul, Nat.reduceLeDiff, Nat.reduceLT, Nat.reduceMod, Nat.reduceDiv, Int.reduceToNat, Nat.min_eq_left, IntKind.bits, Int.reducePow, Int.reduceLT, Int.reduceLE, Int.reduceEq, Int.reduceNe, Int.reduceAdd, Int.reduceSub, and_self, reduceCtorEq, decide_eq_true_eq, decide_eq_false_iff_not, eq_self, implies_true, exists_const, Option.isNone_some, Option.isNone_none, Option.isSome_some, Option.isSome_none, Option.getD_some]
  refine (check_ok hs hl hx).k ?_
  rintro _ h1 ⟨rfl, e1⟩
  by_cases hc : chkE ls = 0
  · rw [hc]
    obtain ⟨hl2, hf⟩ := chk0 hc
    have htot : ∀ i, total (ls.take i) ≤ 256 * i := by
      intro i
      have : ∀ (l : List rcs.D), (∀ x ∈ l, fitsE x = 0) → total l ≤ 256 * l.length := by
        intro l hl
        induction l with
        | nil => simp [total]
        | cons x t ih =>
          have h1 := (fits0 (hl x (by simp))).2.2.1
          have h2 := ih fun y hy => hl y (by simp [hy])
          simp only [total, List.length_cons]; omega
      have h3 := this (ls.take i) fun x hx => hf x (List.mem_of_mem_take hx)
      rw [List.length_take] at h3
      omega
    simp (disch := omega) only [dm_t, wA, wB, wL, wW, wY, Int.fdiv_eq_ediv_of_nonneg, Int.tdiv_eq_ediv_of_nonneg, Int.tmod_eq_emod_of_nonneg, chk_pos, decT, decF, br_pos, br_neg, wX, ↓reduceIte, Nat.reduceEqDiff, Nat.reduceAdd, Nat.reduceSub, Nat.reduceMul, Nat.reduceLeDiff, Nat.reduceLT, Nat.reduceMod, Nat.reduceDiv, Int.reduceToNat, Nat.min_eq_left, IntKind.bits, Int.reducePow, Int.reduceLT, Int.reduceLE, Int.reduceEq, Int.reduceNe, Int.reduceAdd, Int.reduceSub, and_self, reduceCtorEq, decide_eq_true_eq, decide_eq_false_iff_not, eq_self, implies_true, exists_const, Option.isNone_some, Option.isNone_none, Option.isSome_some, Option.isSome_none, Option.getD_some]
    refine vc_loop3 (fun vb vo vi h' => ∃ i : Nat, vi = .int .i64 (i : Int) ∧ vb = .int .i64 ((bn + total (ls.take i) : Nat) : Int) ∧ i ≤ ls.length ∧ O1 (fun y => h y = none) h' 2 vo (ints64 (offs bn (ls.take i))) ∧ Ext h h') (fun _ _ vi _ => ls.length - m1 vi) ?_ ?_
    · simp (disch := omega) only [dm_t, wA, wB, wL, wW, wY, Int.fdiv_eq_ediv_of_nonneg, Int.tdiv_eq_ediv_of_nonneg, Int.tmod_eq_emod_of_nonneg, chk_pos, decT, decF, br_pos, br_neg, wX, ↓reduceIte, Nat.reduceEqDiff, Nat.reduceAdd, Nat.reduceSub, Nat.reduceMul, Nat.reduceLeDiff, Nat.reduceLT, Nat.reduceMod, Nat.reduceDiv, Int.reduceToNat, Nat.min_eq_left, IntKind.bits, Int.reducePow, Int.reduceLT, Int.reduceLE, Int.reduceEq, Int.reduceNe, Int.reduceAdd, Int.reduceSub, and_self, reduceCtorEq, decide_eq_true_eq, decide_eq_false_iff_not, eq_self, implies_true, exists_const, Option.isNone_some, Option.isNone_none, Option.isSome_some, Option.isSome_none, Option.getD_some]
      exact ⟨0, rfl, by simp [total], by omega, OwK.nil, e1⟩
    rintro _ vo _ h2 ⟨i, rfl, rfl, hi, ho, e2⟩
    by_cases hil : i < ls.length
    · have hsplit : ls.take (i + 1) = ls.take i ++ [ls[i]] := by simp
      have hti := htot i
      have hxi := (fits0 (hf _ (List.getElem_mem hil))).2.2.1
      have hol : (ints64 (offs bn (ls.take i))).length = i := by simp [ints64, offs_len]; omega
      simp (disch := omega) only [dm_t, wA, wB, wL, wW, wY, Int.fdiv_eq_ediv_of_nonneg, Int.tdiv_eq_ediv_of_nonneg, Int.tmod_eq_emod_of_nonneg, chk_pos, decT, decF, br_pos, br_neg, wX, ↓reduceIte, Nat.reduceEqDiff, Nat.reduceAdd, Nat.reduceSub, Nat.reduceMul, Nat.reduceLeDiff, Nat.reduceLT, Nat.reduceMod, Nat.reduceDiv, Int.reduceToNat, Nat.min_eq_left, IntKind.bits, Int.reducePow, Int.reduceLT, Int.reduceLE, Int.reduceEq, Int.reduceNe, Int.reduceAdd, Int.reduceSub, and_self, reduceCtorEq, decide_eq_true_eq, decide_eq_false_iff_not, eq_self, implies_true, exists_const, Option.isNone_some, Option.isNone_none, Option.isSome_some, Option.isSome_none, Option.getD_some]
      refine (hs.fresh.ext e2).at1 (by rfl) i rfl hil ?_
      intro pb po w g1 g2
      have g2' : RepL (fun y => h y = none) rc h2 w ls[i] := g2
      obtain ⟨wa, wc, rfl⟩ := g2'.len
      simp (disch := omega) only [dm_t, wA, wB, wL, wW, wY, Int.fdiv_eq_ediv_of_nonneg, Int.tdiv_eq_ediv_of_nonneg, Int.tmod_eq_emod_of_nonneg, chk_pos, decT, decF, br_pos, br_neg, wX, ↓reduceIte, Nat.reduceEqDiff, Nat.reduceAdd, Nat.reduceSub, Nat.reduceMul, Nat.reduceLeDiff, Nat.reduceLT, Nat.reduceMod, Nat.reduceDiv, Int.reduceToNat, Nat.min_eq_left, IntKind.bits, Int.reducePow, Int.reduceLT, Int.reduceLE, Int.reduceEq, Int.reduceNe, Int.reduceAdd, Int.reduceSub, and_self, reduceCtorEq, decide_eq_true_eq, decide_eq_false_iff_not, eq_self, implies_true, exists_const, Option.isNone_some, Option.isNone_none, Option.isSome_some, Option.isSome_none, Option.getD_some, g1]
      refine push1 ho (fun y hy => e2.bk hy) (by rfl) (by rw [hol]; omega) (by rw [hol]; omega) ?_
      intro _ w3 h3 _ o3 f3
      simp (disch := omega) only [dm_t, wA, wB, wL, wW, wY, Int.fdiv_eq_ediv_of_nonneg, Int.tdiv_eq_ediv_of_nonneg, Int.tmod_eq_emod_of_nonneg, chk_pos, decT, decF, br_pos, br_neg, wX, ↓reduceIte, Nat.reduceEqDiff, Nat.reduceAdd, Nat.reduceSub, Nat.reduceMul, Nat.reduceLeDiff, Nat.reduceLT, Nat.reduceMod, Nat.reduceDiv, Int.reduceToNat, Nat.min_eq_left, IntKind.bits, Int.reducePow, Int.reduceLT, Int.reduceLE, Int.reduceEq, Int.reduceNe, Int.reduceAdd, Int.reduceSub, and_self, reduceCtorEq, decide_eq_true_eq, decide_eq_false_iff_not, eq_self, implies_true, exists_const, Option.isNone_some, Option.isNone_none, Option.isSome_some, Option.isSome_none, Option.getD_some]
      refine ⟨⟨i + 1, by simp, ?_, by omega, ?_, Ext.step e2 f3⟩, by simp [m1]; omega⟩
      · rw [hsplit, total_append]; simp [total]; omega
      · rw [hsplit, offs_append]; simpa [ints64, offs] using o3
    · obtain rfl : i = ls.length := by omega
      have hti := htot ls.length
      rw [List.take_length] at ho hti ⊢
      by_cases hbig : 9007199254740993 < (bn : Int) + total ls
      · simp (disch := omega) only [dm_t, wA, wB, wL, wW, wY, Int.fdiv_eq_ediv_of_nonneg, Int.tdiv_eq_ediv_of_nonneg, Int.tmod_eq_emod_of_nonneg, chk_pos, decT, decF, br_pos, br_neg, wX, ↓reduceIte, Nat.reduceEqDiff, Nat.reduceAdd, Nat.reduceSub, Nat.reduceMul, Nat.reduceLeDiff, Nat.reduceLT, Nat.reduceMod, Nat.reduceDiv, Int.reduceToNat, Nat.min_eq_left, IntKind.bits, Int.reducePow, Int.reduceLT, Int.reduceLE, Int.reduceEq, Int.reduceNe, Int.reduceAdd, Int.reduceSub, and_self, reduceCtorEq, decide_eq_true_eq, decide_eq_false_iff_not, eq_self, implies_true, exists_const, Option.isNone_some, Option.isNone_none, Option.isSome_some, Option.isSome_none, Option.getD_some]
        exact ⟨by rw [OffR, if_neg hbb, if_neg (by simp [hc]), if_pos hbig], e2⟩
      · simp (disch := omega) only [dm_t, wA, wB, wL, wW, wY, Int.fdiv_eq_ediv_of_nonneg, Int.tdiv_eq_ediv_of_nonneg, Int.tmod_eq_emod_of_nonneg, chk_pos, decT, decF, br_pos, br_neg, wX, ↓reduceIte, Nat.reduceEqDiff, Nat.reduceAdd, Nat.reduceSub, Nat.reduceMul, Nat.reduceLeDiff, Nat.reduceLT, Nat.reduceMod, Nat.reduceDiv, Int.reduceToNat, Nat.min_eq_left, IntKind.bits, Int.reducePow, Int.reduceLT, Int.reduceLE, Int.reduceEq, Int.reduceNe, Int.reduceAdd, Int.reduceSub, and_self, reduceCtorEq, decide_eq_true_eq, decide_eq_false_iff_not, eq_self, implies_true, exists_const, Option.isNone_some, Option.isNone_none, Option.isSome_some, Option.isSome_none, Option.getD_some]
        refine ⟨?_, e2⟩
        rw [OffR, if_neg hbb, if_neg (by simp [hc]), if_neg hbig]
        exact ⟨_, by simp, ho⟩
  · simp (disch := omega) only [dm_t, wA, wB, wL, wW, wY, Int.fdiv_eq_ediv_of_nonneg, Int.tdiv_eq_ediv_of_nonneg, Int.tmod_eq_emod_of_nonneg, chk_pos, decT, decF, br_pos, br_neg, wX, ↓reduceIte, Nat.reduceEqDiff, Nat.reduceAdd, Nat.reduceSub, Nat.reduceMul, Nat.reduceLeDiff, Nat.reduceLT, Nat.reduceMod, Nat.reduceDiv, Int.reduceToNat, Nat.min_eq_left, IntKind.bits, Int.reducePow, Int.reduceLT, Int.reduceLE, Int.reduceEq, Int.reduceNe, Int.reduceAdd, Int.reduceSub, and_self, reduceCtorEq, decide_eq_true_eq, decide_eq_false_iff_not, eq_self, implies_true, exists_const, Option.isNone_some, Option.isNone_none, Option.isSome_some, Option.isSome_none, Option.getD_some]
    exact ⟨by rw [OffR, if_neg hbb, if_pos hc], e1⟩
theorem many_ok {S : Nat → Prop} {h : H} {s : Value} {ls : List rcs.D} (hs : RepL S rcs h s ls) (hl : ls.length ≤ 4611686018427387904) :
    Ok Try.prog 8 #[s] h fun v h' => ∃ b, v = .bool b ∧ (b = false → ls.length ≤ 300 ∧ total ls ≤ 3000) ∧ h = h' := by
  obtain ⟨sa, sc, rfl⟩ := hs.len
  refine c8_ok (args := [_]) (by simp) ?_
  simp (disch := omega) only [dm_t, wA, wB, wL, wW, wY, Int.fdiv_eq_ediv_of_nonneg, Int.tdiv_eq_ediv_of_nonneg, Int.tmod_eq_emod_of_nonneg, chk_pos, decT, decF, br_pos, br_neg, wX, ↓reduceIte, Nat.reduceEqDiff, Nat.reduceAdd, Nat.reduceSub, Nat.reduceMul, Nat.reduceLeDiff, Nat.reduceLT, Nat.reduceMod, Nat.reduceDiv, Int.reduceToNat, Nat.min_eq_left, IntKind.bits, Int.reducePow, Int.reduceLT, Int.reduceLE, Int.reduceEq, Int.reduceNe, Int.reduceAdd, Int.reduceSub, and_self, reduceCtorEq, decide_eq_true_eq, decide_eq_false_iff_not, eq_self, implies_true, exists_const, Option.isNone_some, Option.isNone_none, Option.isSome_some, Option.isSome_none, Option.getD_some]
  refine vc_loop2 (fun vn vi h' => h' = h ∧ ∃ i n : Nat, vi = .int .i64 (i : Int) ∧ vn = .int .i64 (n : Int) ∧ i ≤ ls.length ∧ i ≤ 301 ∧ n ≤ 3001 * i ∧ (n ≤ 3000 → total (ls.take i) ≤ n)) (fun _ vi _ => 301 - m1 vi) ?_ ?_
  · simp (disch := omega) only [dm_t, wA, wB, wL, wW, wY, Int.fdiv_eq_ediv_of_nonneg, Int.tdiv_eq_ediv_of_nonneg, Int.tmod_eq_emod_of_nonneg, chk_pos, decT, decF, br_pos, br_neg, wX, ↓reduceIte, Nat.reduceEqDiff, Nat.reduceAdd, Nat.reduceSub, Nat.reduceMul, Nat.reduceLeDiff, Nat.reduceLT, Nat.reduceMod, Nat.reduceDiv, Int.reduceToNat, Nat.min_eq_left, IntKind.bits, Int.reducePow, Int.reduceLT, Int.reduceLE, Int.reduceEq, Int.reduceNe, Int.reduceAdd, Int.reduceSub, and_self, reduceCtorEq, decide_eq_true_eq, decide_eq_false_iff_not, eq_self, implies_true, exists_const, Option.isNone_some, Option.isNone_none, Option.isSome_some, Option.isSome_none, Option.getD_some]
    exact ⟨0, 0, rfl, rfl, by omega, by omega, by omega, by simp [total]⟩
  rintro _ _ _ ⟨rfl, i, n, rfl, rfl, hi, hi3, hn, ht⟩
  by_cases hil : i < ls.length
  · by_cases h301 : i < 301
    · have hsplit : ls.take (i + 1) = ls.take i ++ [ls[i]] := by simp
      simp (disch := omega) only [dm_t, wA, wB, wL, wW, wY, Int.fdiv_eq_ediv_of_nonneg, Int.tdiv_eq_ediv_of_nonneg, Int.tmod_eq_emod_of_nonneg, chk_pos, decT, decF, br_pos, br_neg, wX, ↓reduceIte, Nat.reduceEqDiff, Nat.reduceAdd, Nat.reduceSub, Nat.reduceMul, Nat.reduceLeDiff, Nat.reduceLT, Nat.reduceMod, Nat.reduceDiv, Int.reduceToNat, Nat.min_eq_left, IntKind.bits, Int.reducePow, Int.reduceLT, Int.reduceLE, Int.reduceEq, Int.reduceNe, Int.reduceAdd, Int.reduceSub, and_self, reduceCtorEq, decide_eq_true_eq, decide_eq_false_iff_not, eq_self, implies_true, exists_const, Option.isNone_some, Option.isNone_none, Option.isSome_some, Option.isSome_none, Option.getD_some]
      refine hs.at1 (by rfl) i rfl hil ?_
      intro pb po w g1 g2
      have g2' := RepL.len (t := rc) g2
      obtain ⟨wa, wc, rfl⟩ := g2'
      have htx : total (ls.take i ++ [ls[i]]) = total (ls.take i) + (ls[i]).length := by rw [total_append]; simp [total]
      simp (disch := omega) only [dm_t, wA, wB, wL, wW, wY, Int.fdiv_eq_ediv_of_nonneg, Int.tdiv_eq_ediv_of_nonneg, Int.tmod_eq_emod_of_nonneg, chk_pos, decT, decF, br_pos, br_neg, wX, ↓reduceIte, Nat.reduceEqDiff, Nat.reduceAdd, Nat.reduceSub, Nat.reduceMul, Nat.reduceLeDiff, Nat.reduceLT, Nat.reduceMod, Nat.reduceDiv, Int.reduceToNat, Nat.min_eq_left, IntKind.bits, Int.reducePow, Int.reduceLT, Int.reduceLE, Int.reduceEq, Int.reduceNe, Int.reduceAdd, Int.reduceSub, and_self, reduceCtorEq, decide_eq_true_eq, decide_eq_false_iff_not, eq_self, implies_true, exists_const, Option.isNone_some, Option.isNone_none, Option.isSome_some, Option.isSome_none, Option.getD_some, g1]
      refine ⟨⟨i + 1, n + min (ls[i]).length 3001, by simp, by simp; omega, by omega, by omega, by omega, ?_⟩, by simp [m1]; omega⟩
      intro hle
      rw [hsplit, htx]
      have := ht (by omega)
      omega
    · simp (disch := omega) only [dm_t, wA, wB, wL, wW, wY, Int.fdiv_eq_ediv_of_nonneg, Int.tdiv_eq_ediv_of_nonneg, Int.tmod_eq_emod_of_nonneg, chk_pos, decT, decF, br_pos, br_neg, wX, ↓reduceIte, Nat.reduceEqDiff, Nat.reduceAdd, Nat.reduceSub, Nat.reduceMul, Nat.reduceLeDiff, Nat.reduceLT, Nat.reduceMod, Nat.reduceDiv, Int.reduceToNat, Nat.min_eq_left, IntKind.bits, Int.reducePow, Int.reduceLT, Int.reduceLE, Int.reduceEq, Int.reduceNe, Int.reduceAdd, Int.reduceSub, and_self, reduceCtorEq, decide_eq_true_eq, decide_eq_false_iff_not, eq_self, implies_true, exists_const, Option.isNone_some, Option.isNone_none, Option.isSome_some, Option.isSome_none, Option.getD_some]
      exact ⟨_, rfl, fun h => by cases h⟩
  · obtain rfl : i = ls.length := by omega
    rw [List.take_length] at ht
    by_cases h3 : 300 < ls.length
    · simp (disch := omega) only [dm_t, wA, wB, wL, wW, wY, Int.fdiv_eq_ediv_of_nonneg, Int.tdiv_eq_ediv_of_nonneg, Int.tmod_eq_emod_of_nonneg, chk_pos, decT, decF, br_pos, br_neg, wX, ↓reduceIte, Nat.reduceEqDiff, Nat.reduceAdd, Nat.reduceSub, Nat.reduceMul, Nat.reduceLeDiff, Nat.reduceLT, Nat.reduceMod, Nat.reduceDiv, Int.reduceToNat, Nat.min_eq_left, IntKind.bits, Int.reducePow, Int.reduceLT, Int.reduceLE, Int.reduceEq, Int.reduceNe, Int.reduceAdd, Int.reduceSub, and_self, reduceCtorEq, decide_eq_true_eq, decide_eq_false_iff_not, eq_self, implies_true, exists_const, Option.isNone_some, Option.isNone_none, Option.isSome_some, Option.isSome_none, Option.getD_some]
      exact ⟨_, rfl, fun h => by cases h⟩
    · by_cases h4 : 3000 < n
      · simp (disch := omega) only [dm_t, wA, wB, wL, wW, wY, Int.fdiv_eq_ediv_of_nonneg, Int.tdiv_eq_ediv_of_nonneg, Int.tmod_eq_emod_of_nonneg, chk_pos, decT, decF, br_pos, br_neg, wX, ↓reduceIte, Nat.reduceEqDiff, Nat.reduceAdd, Nat.reduceSub, Nat.reduceMul, Nat.reduceLeDiff, Nat.reduceLT, Nat.reduceMod, Nat.reduceDiv, Int.reduceToNat, Nat.min_eq_left, IntKind.bits, Int.reducePow, Int.reduceLT, Int.reduceLE, Int.reduceEq, Int.reduceNe, Int.reduceAdd, Int.reduceSub, and_self, reduceCtorEq, decide_eq_true_eq, decide_eq_false_iff_not, eq_self, implies_true, exists_const, Option.isNone_some, Option.isNone_none, Option.isSome_some, Option.isSome_none, Option.getD_some]
        exact ⟨_, rfl, fun h => by cases h⟩
      · simp (disch := omega) only [dm_t, wA, wB, wL, wW, wY, Int.fdiv_eq_ediv_of_nonneg, Int.tdiv_eq_ediv_of_nonneg, Int.tmod_eq_emod_of_nonneg, chk_pos, decT, decF, br_pos, br_neg, wX, ↓reduceIte, Nat.reduceEqDiff, Nat.reduceAdd, Nat.reduceSub, Nat.reduceMul, Nat.reduceLeDiff, Nat.reduceLT, Nat.reduceMod, Nat.reduceDiv, Int.reduceToNat, Nat.min_eq_left, IntKind.bits, Int.reducePow, Int.reduceLT, Int.reduceLE, Int.reduceEq, Int.reduceNe, Int.reduceAdd, Int.reduceSub, and_self, reduceCtorEq, decide_eq_true_eq, decide_eq_false_iff_not, eq_self, implies_true, exists_const, Option.isNone_some, Option.isNone_none, Option.isSome_some, Option.isSome_none, Option.getD_some]
        exact ⟨_, rfl, fun _ => ⟨by omega, by have := ht (by omega); omega⟩⟩
def z100 : List rc.D := List.replicate 100 ((0 : Int), ([] : List UInt8), ([] : List UInt8))
theorem z_fits : fitsE z100 = 0 := by decide +kernel
theorem z_chk3 : chkE [z100, z100, z100] = 0 := by decide +kernel
theorem z_chk2 : chkE [z100, z100] = 0 := by decide +kernel
theorem z_cnt : cnt 9 [z100, z100, z100] = 2 := by decide +kernel
theorem z_plan : plan 9 [z100, z100, z100] = [2, 1] := by decide +kernel
theorem z_tot : total [z100, z100] = 200 := by decide +kernel
theorem z_offs : offs 7 [z100, z100] = [7, 107] := by decide +kernel
theorem works_ok {h : H} : Ok Try.prog 9 #[] h fun v h' => v = .bool true ∧ Ext h h' := by
  refine c9_ok (args := []) (by simp) ?_
  simp (disch := omega) only [dm_t, wA, wB, wL, wW, wY, Int.fdiv_eq_ediv_of_nonneg, Int.tdiv_eq_ediv_of_nonneg, Int.tmod_eq_emod_of_nonneg, chk_pos, decT, decF, br_pos, br_neg, wX, ↓reduceIte, Nat.reduceEqDiff, Nat.reduceAdd, Nat.reduceSub, Nat.reduceMul, Nat.reduceLeDiff, Nat.reduceLT, Nat.reduceMod, Nat.reduceDiv, Int.reduceToNat, Nat.min_eq_left, IntKind.bits, Int.reducePow, Int.reduceLT, Int.reduceLE, Int.reduceEq, Int.reduceNe, Int.reduceAdd, Int.reduceSub, and_self, reduceCtorEq, decide_eq_true_eq, decide_eq_false_iff_not, eq_self, implies_true, exists_const, Option.isNone_some, Option.isNone_none, Option.isSome_some, Option.isSome_none, Option.getD_some]
  refine ⟨by decide, fun b hb => ?_⟩
  have o1 : OwL (fun _ => False) rc (fun y => y = b) (hupd h b (.cells (Builtin.zeroCells #[.int .i64 0, .slice none 0 0, .slice none 0 0] 100) 81)) 81 (.slice (some ⟨b, 0, none⟩) 100 100) z100 := omakeL 3 sz_rc _ (fun h => rep_rc0 h) (Nat.le_refl _) rfl
  have e1 : Ext h (hupd h b (.cells (Builtin.zeroCells #[.int .i64 0, .slice none 0 0, .slice none 0 0] 100) 81)) := Ext.new hb _
  have r1 := o1.rep
  generalize hupd h b (.cells (Builtin.zeroCells #[.int .i64 0, .slice none 0 0, .slice none 0 0] 100) 81) = h1 at e1 r1 ⊢
  clear o1
  have l100 : ∀ x ∈ [z100, z100, z100], x.length ≤ 1000000 := by
    intro x hx
    have : x = z100 := by simp at hx; exact hx
    rw [this]; decide
  have l100' : ∀ x ∈ [z100, z100], x.length ≤ 1000000 := by
    intro x hx
    have : x = z100 := by simp at hx; exact hx
    rw [this]; decide
  have three : ∀ (g : H) (c : Nat), g c = none → RepL nos rc g (.slice (some ⟨b, 0, none⟩) 100 100) z100 → RepL nos rcs (hupd g c (.cells #[.slice (some ⟨b, 0, none⟩) 100 100, .slice (some ⟨b, 0, none⟩) 100 100, .slice (some ⟨b, 0, none⟩) 100 100] 32)) (.slice (some ⟨c, 0, none⟩) 3 3) [z100, z100, z100] := by
    intro g c hc r
    refine lit_sl [_, _, _] _ rfl rfl id ?_
    intro i v x hv hx
    match i, hv, hx with
    | 0, hv, hx | 1, hv, hx | 2, hv, hx => simp at hv hx; subst hv hx; exact r.ext (Ext.new hc _)
    | n + 3, hv, hx => simp at hv
  have two : ∀ (g : H) (c : Nat), g c = none → RepL nos rc g (.slice (some ⟨b, 0, none⟩) 100 100) z100 → RepL nos rcs (hupd g c (.cells #[.slice (some ⟨b, 0, none⟩) 100 100, .slice (some ⟨b, 0, none⟩) 100 100] 32)) (.slice (some ⟨c, 0, none⟩) 2 2) [z100, z100] := by
    intro g c hc r
    refine lit_sl [_, _] _ rfl rfl id ?_
    intro i v x hv hx
    match i, hv, hx with
    | 0, hv, hx | 1, hv, hx => simp at hv hx; subst hv hx; exact r.ext (Ext.new hc _)
    | n + 2, hv, hx => simp at hv
  simp (disch := omega) only [dm_t, wA, wB, wL, wW, wY, Int.fdiv_eq_ediv_of_nonneg, Int.tdiv_eq_ediv_of_nonneg, Int.tmod_eq_emod_of_nonneg, chk_pos, decT, decF, br_pos, br_neg, wX, ↓reduceIte, Nat.reduceEqDiff, Nat.reduceAdd, Nat.reduceSub, Nat.reduceMul, Nat.reduceLeDiff, Nat.reduceLT, Nat.reduceMod, Nat.reduceDiv, Int.reduceToNat, Nat.min_eq_left, IntKind.bits, Int.reducePow, Int.reduceLT, Int.reduceLE, Int.reduceEq, Int.reduceNe, Int.reduceAdd, Int.reduceSub, and_self, reduceCtorEq, decide_eq_true_eq, decide_eq_false_iff_not, eq_self, implies_true, exists_const, Option.isNone_some, Option.isNone_none, Option.isSome_some, Option.isSome_none, Option.getD_some]
  intro b2 hb2
  have q2 := three h1 b2 hb2 r1
  have e2 := e1.trans (Ext.new hb2 (.cells #[.slice (some ⟨b, 0, none⟩) 100 100, .slice (some ⟨b, 0, none⟩) 100 100, .slice (some ⟨b, 0, none⟩) 100 100] 32))
  have r2 := r1.ext (Ext.new hb2 (.cells #[.slice (some ⟨b, 0, none⟩) 100 100, .slice (some ⟨b, 0, none⟩) 100 100, .slice (some ⟨b, 0, none⟩) 100 100] 32))
  generalize hupd h1 b2 (.cells #[.slice (some ⟨b, 0, none⟩) 100 100, .slice (some ⟨b, 0, none⟩) 100 100, .slice (some ⟨b, 0, none⟩) 100 100] 32) = h2 at e2 r2 q2 ⊢
  refine (Count_ok 9 q2 (by decide) l100).k ?_
  rintro _ h3 ⟨rfl, e3⟩
  have e4 := e2.trans e3
  have r3 := r2.ext e3
  rw [if_neg (by decide), if_neg (fun h => h z_chk3), z_cnt]
  simp (disch := omega) only [dm_t, wA, wB, wL, wW, wY, Int.fdiv_eq_ediv_of_nonneg, Int.tdiv_eq_ediv_of_nonneg, Int.tmod_eq_emod_of_nonneg, chk_pos, decT, decF, br_pos, br_neg, wX, ↓reduceIte, Nat.reduceEqDiff, Nat.reduceAdd, Nat.reduceSub, Nat.reduceMul, Nat.reduceLeDiff, Nat.reduceLT, Nat.reduceMod, Nat.reduceDiv, Int.reduceToNat, Nat.min_eq_left, IntKind.bits, Int.reducePow, Int.reduceLT, Int.reduceLE, Int.reduceEq, Int.reduceNe, Int.reduceAdd, Int.reduceSub, and_self, reduceCtorEq, decide_eq_true_eq, decide_eq_false_iff_not, eq_self, implies_true, exists_const, Option.isNone_some, Option.isNone_none, Option.isSome_some, Option.isSome_none, Option.getD_some]
  intro b3 hb3
  have q4 := three h3 b3 hb3 r3
  have e5 := e4.trans (Ext.new hb3 (.cells #[.slice (some ⟨b, 0, none⟩) 100 100, .slice (some ⟨b, 0, none⟩) 100 100, .slice (some ⟨b, 0, none⟩) 100 100] 32))
  have r4 := r3.ext (Ext.new hb3 (.cells #[.slice (some ⟨b, 0, none⟩) 100 100, .slice (some ⟨b, 0, none⟩) 100 100, .slice (some ⟨b, 0, none⟩) 100 100] 32))
  generalize hupd h3 b3 (.cells #[.slice (some ⟨b, 0, none⟩) 100 100, .slice (some ⟨b, 0, none⟩) 100 100, .slice (some ⟨b, 0, none⟩) 100 100] 32) = h4 at e5 r4 q4 ⊢
  refine (Plan_ok 9 q4 (by decide) l100).k ?_
  rintro _ h5 ⟨hp, e6⟩
  rw [PlanR, if_neg (by decide), if_neg (fun h => h z_chk3), z_plan] at hp
  obtain ⟨pv, rfl, op⟩ := hp
  have e7 := e5.trans e6
  have r5 := r4.ext e6
  obtain ⟨pa, pc, rfl⟩ := op.s0.len
  simp (disch := omega) only [dm_t, wA, wB, wL, wW, wY, Int.fdiv_eq_ediv_of_nonneg, Int.tdiv_eq_ediv_of_nonneg, Int.tmod_eq_emod_of_nonneg, chk_pos, decT, decF, br_pos, br_neg, wX, ↓reduceIte, Nat.reduceEqDiff, Nat.reduceAdd, Nat.reduceSub, Nat.reduceMul, Nat.reduceLeDiff, Nat.reduceLT, Nat.reduceMod, Nat.reduceDiv, Int.reduceToNat, Nat.min_eq_left, IntKind.bits, Int.reducePow, Int.reduceLT, Int.reduceLE, Int.reduceEq, Int.reduceNe, Int.reduceAdd, Int.reduceSub, and_self, reduceCtorEq, decide_eq_true_eq, decide_eq_false_iff_not, eq_self, implies_true, exists_const, Option.isNone_some, Option.isNone_none, Option.isSome_some, Option.isSome_none, Option.getD_some]
  intro b4 hb4
  have q6 := two h5 b4 hb4 r5
  have e8 := e7.trans (Ext.new hb4 (.cells #[.slice (some ⟨b, 0, none⟩) 100 100, .slice (some ⟨b, 0, none⟩) 100 100] 32))
  have p6 := op.ext (Ext.new hb4 (.cells #[.slice (some ⟨b, 0, none⟩) 100 100, .slice (some ⟨b, 0, none⟩) 100 100] 32))
  generalize hupd h5 b4 (.cells #[.slice (some ⟨b, 0, none⟩) 100 100, .slice (some ⟨b, 0, none⟩) 100 100] 32) = h6 at e8 p6 q6 ⊢
  refine (Offsets_ok 7 q6 (by decide) l100').k ?_
  rintro _ h7 ⟨ho, e9⟩
  rw [OffR, if_neg (by decide), if_neg (fun h => h z_chk2), if_neg (by rw [z_tot]; decide), z_tot, show (7 : Int).toNat = 7 from rfl, z_offs] at ho
  obtain ⟨ov, rfl, oo⟩ := ho
  have e10 := e8.trans e9
  have p7 := (p6.ext e9).s0
  obtain ⟨oa, oc, rfl⟩ := oo.s0.len
  simp (disch := omega) only [dm_t, wA, wB, wL, wW, wY, Int.fdiv_eq_ediv_of_nonneg, Int.tdiv_eq_ediv_of_nonneg, Int.tmod_eq_emod_of_nonneg, chk_pos, decT, decF, br_pos, br_neg, wX, ↓reduceIte, Nat.reduceEqDiff, Nat.reduceAdd, Nat.reduceSub, Nat.reduceMul, Nat.reduceLeDiff, Nat.reduceLT, Nat.reduceMod, Nat.reduceDiv, Int.reduceToNat, Nat.min_eq_left, IntKind.bits, Int.reducePow, Int.reduceLT, Int.reduceLE, Int.reduceEq, Int.reduceNe, Int.reduceAdd, Int.reduceSub, and_self, reduceCtorEq, decide_eq_true_eq, decide_eq_false_iff_not, eq_self, implies_true, exists_const, Option.isNone_some, Option.isNone_none, Option.isSome_some, Option.isSome_none, Option.getD_some]
  refine (num_ok _ _).k ?_
  rintro _ _ ⟨rfl, rfl⟩
  have hpl : (one (ints [2, 1])).length = 2 := rfl
  have hol : (one (ints64 [7, 107])).length = 2 := rfl
  rw [hpl] at p7
  simp (disch := omega) only [dm_t, wA, wB, wL, wW, wY, Int.fdiv_eq_ediv_of_nonneg, Int.tdiv_eq_ediv_of_nonneg, Int.tmod_eq_emod_of_nonneg, chk_pos, decT, decF, br_pos, br_neg, wX, ↓reduceIte, Nat.reduceEqDiff, Nat.reduceAdd, Nat.reduceSub, Nat.reduceMul, Nat.reduceLeDiff, Nat.reduceLT, Nat.reduceMod, Nat.reduceDiv, Int.reduceToNat, Nat.min_eq_left, IntKind.bits, Int.reducePow, Int.reduceLT, Int.reduceLE, Int.reduceEq, Int.reduceNe, Int.reduceAdd, Int.reduceSub, and_self, reduceCtorEq, decide_eq_true_eq, decide_eq_false_iff_not, eq_self, implies_true, exists_const, Option.isNone_some, Option.isNone_none, Option.isSome_some, Option.isSome_none, Option.getD_some, hpl]
  refine S1.at (xs := ints [2, 1]) p7 0 rfl (by decide) ?_
  intro b10 b11 g1
  simp (disch := omega) only [dm_t, wA, wB, wL, wW, wY, Int.fdiv_eq_ediv_of_nonneg, Int.tdiv_eq_ediv_of_nonneg, Int.tmod_eq_emod_of_nonneg, chk_pos, decT, decF, br_pos, br_neg, wX, ↓reduceIte, Nat.reduceEqDiff, Nat.reduceAdd, Nat.reduceSub, Nat.reduceMul, Nat.reduceLeDiff, Nat.reduceLT, Nat.reduceMod, Nat.reduceDiv, Int.reduceToNat, Nat.min_eq_left, IntKind.bits, Int.reducePow, Int.reduceLT, Int.reduceLE, Int.reduceEq, Int.reduceNe, Int.reduceAdd, Int.reduceSub, and_self, reduceCtorEq, decide_eq_true_eq, decide_eq_false_iff_not, eq_self, implies_true, exists_const, Option.isNone_some, Option.isNone_none, Option.isSome_some, Option.isSome_none, Option.getD_some, g1]
  simp (disch := omega) only [dm_t, wA, wB, wL, wW, wY, Int.fdiv_eq_ediv_of_nonneg, Int.tdiv_eq_ediv_of_nonneg, Int.tmod_eq_emod_of_nonneg, chk_pos, decT, decF, br_pos, br_neg, wX, ↓reduceIte, Nat.reduceEqDiff, Nat.reduceAdd, Nat.reduceSub, Nat.reduceMul, Nat.reduceLeDiff, Nat.reduceLT, Nat.reduceMod, Nat.reduceDiv, Int.reduceToNat, Nat.min_eq_left, IntKind.bits, Int.reducePow, Int.reduceLT, Int.reduceLE, Int.reduceEq, Int.reduceNe, Int.reduceAdd, Int.reduceSub, and_self, reduceCtorEq, decide_eq_true_eq, decide_eq_false_iff_not, eq_self, implies_true, exists_const, Option.isNone_some, Option.isNone_none, Option.isSome_some, Option.isSome_none, Option.getD_some, show (ints [2, 1])[0] = .int .i64 2 from rfl]
  refine S1.at (xs := ints [2, 1]) p7 1 rfl (by decide) ?_
  intro b12 b13 g2
  simp (disch := omega) only [dm_t, wA, wB, wL, wW, wY, Int.fdiv_eq_ediv_of_nonneg, Int.tdiv_eq_ediv_of_nonneg, Int.tmod_eq_emod_of_nonneg, chk_pos, decT, decF, br_pos, br_neg, wX, ↓reduceIte, Nat.reduceEqDiff, Nat.reduceAdd, Nat.reduceSub, Nat.reduceMul, Nat.reduceLeDiff, Nat.reduceLT, Nat.reduceMod, Nat.reduceDiv, Int.reduceToNat, Nat.min_eq_left, IntKind.bits, Int.reducePow, Int.reduceLT, Int.reduceLE, Int.reduceEq, Int.reduceNe, Int.reduceAdd, Int.reduceSub, and_self, reduceCtorEq, decide_eq_true_eq, decide_eq_false_iff_not, eq_self, implies_true, exists_const, Option.isNone_some, Option.isNone_none, Option.isSome_some, Option.isSome_none, Option.getD_some, g2, show (ints [2, 1])[1] = .int .i64 1 from rfl]
  refine (num_ok _ _).k ?_
  rintro _ _ ⟨rfl, rfl⟩
  simp (disch := omega) only [dm_t, wA, wB, wL, wW, wY, Int.fdiv_eq_ediv_of_nonneg, Int.tdiv_eq_ediv_of_nonneg, Int.tmod_eq_emod_of_nonneg, chk_pos, decT, decF, br_pos, br_neg, wX, ↓reduceIte, Nat.reduceEqDiff, Nat.reduceAdd, Nat.reduceSub, Nat.reduceMul, Nat.reduceLeDiff, Nat.reduceLT, Nat.reduceMod, Nat.reduceDiv, Int.reduceToNat, Nat.min_eq_left, IntKind.bits, Int.reducePow, Int.reduceLT, Int.reduceLE, Int.reduceEq, Int.reduceNe, Int.reduceAdd, Int.reduceSub, and_self, reduceCtorEq, decide_eq_true_eq, decide_eq_false_iff_not, eq_self, implies_true, exists_const, Option.isNone_some, Option.isNone_none, Option.isSome_some, Option.isSome_none, Option.getD_some, hol]
  refine S1.at (xs := ints64 [7, 107]) oo.s0 1 rfl (by decide) ?_
  intro b14 b15 g3
  simp (disch := omega) only [dm_t, wA, wB, wL, wW, wY, Int.fdiv_eq_ediv_of_nonneg, Int.tdiv_eq_ediv_of_nonneg, Int.tmod_eq_emod_of_nonneg, chk_pos, decT, decF, br_pos, br_neg, wX, ↓reduceIte, Nat.reduceEqDiff, Nat.reduceAdd, Nat.reduceSub, Nat.reduceMul, Nat.reduceLeDiff, Nat.reduceLT, Nat.reduceMod, Nat.reduceDiv, Int.reduceToNat, Nat.min_eq_left, IntKind.bits, Int.reducePow, Int.reduceLT, Int.reduceLE, Int.reduceEq, Int.reduceNe, Int.reduceAdd, Int.reduceSub, and_self, reduceCtorEq, decide_eq_true_eq, decide_eq_false_iff_not, eq_self, implies_true, exists_const, Option.isNone_some, Option.isNone_none, Option.isSome_some, Option.isSome_none, Option.getD_some, g3, show (ints64 [7, 107])[1] = .int .i64 107 from rfl]
  refine (num_ok _ _).k ?_
  rintro _ _ ⟨rfl, rfl⟩
  simp (disch := omega) only [dm_t, wA, wB, wL, wW, wY, Int.fdiv_eq_ediv_of_nonneg, Int.tdiv_eq_ediv_of_nonneg, Int.tmod_eq_emod_of_nonneg, chk_pos, decT, decF, br_pos, br_neg, wX, ↓reduceIte, Nat.reduceEqDiff, Nat.reduceAdd, Nat.reduceSub, Nat.reduceMul, Nat.reduceLeDiff, Nat.reduceLT, Nat.reduceMod, Nat.reduceDiv, Int.reduceToNat, Nat.min_eq_left, IntKind.bits, Int.reducePow, Int.reduceLT, Int.reduceLE, Int.reduceEq, Int.reduceNe, Int.reduceAdd, Int.reduceSub, and_self, reduceCtorEq, decide_eq_true_eq, decide_eq_false_iff_not, eq_self, implies_true, exists_const, Option.isNone_some, Option.isNone_none, Option.isSome_some, Option.isSome_none, Option.getD_some]
  exact e10
end Go.Proofs.Ytcebmbnofejlhaa.ga
