/-
  GatherHolds: the plain law, the walk.
-/
import Derived.Test.YtcebmbnofejlhaaG3
namespace Go.Proofs.Ytcebmbnofejlhaa.ga
open Go.Proofs.Ytcebmbnofejlhaa rr
set_option linter.unusedVariables false
set_option linter.unusedSimpArgs false

/-! ### The plain law -/
theorem cntG_take (take : Int) : ∀ (ls : List rcs.D) (n r b : Nat), (n : Int) ≤ take → (cntG take n r b ls : Int) ≤ take
  | [], n, r, b, h => h
  | x :: t, n, r, b, h => by
    unfold cntG
    split
    · omega
    split
    · exact h
    split
    · exact h
    exact cntG_take take t (n + 1) _ _ (by omega)
theorem cnt_take {take : Int} (ht : 1 ≤ take) (ls : List rcs.D) : (cnt take ls : Int) ≤ take := cntG_take take ls 0 0 20 (by omega)
theorem cntG_sub (take T : Int) : ∀ (ls : List rcs.D) (n r b : Nat), (cntG take n r b ls : Int) ≤ T → cntG T n r b (ls.take (cntG take n r b ls - n)) = cntG take n r b ls
  | [], n, r, b, h => by simp [cntG]
  | x :: t, n, r, b, h => by
    have hle := (cntG_le take (x :: t) n r b).1
    by_cases c : cntG take n r b (x :: t) = n
    · rw [c]; simp [cntG]
    · have hc : ¬ (n : Int) = take ∧ ¬ 256 < r + x.length ∧ ¬ 65536 < b + sizes x := by
        refine ⟨fun h => c ?_, fun h => c ?_, fun h => c ?_⟩
        · rw [cntG, if_pos h]
        · rw [cntG]; repeat' split
          all_goals first | rfl | omega
        · rw [cntG]; repeat' split
          all_goals first | rfl | omega
      have he : cntG take n r b (x :: t) = cntG take (n + 1) (r + x.length) (b + sizes x) t := by
        rw [cntG, if_neg hc.1, if_neg hc.2.1, if_neg hc.2.2]
      have hle2 := (cntG_le take t (n + 1) (r + x.length) (b + sizes x)).1
      rw [he] at h ⊢
      rw [show cntG take (n + 1) (r + x.length) (b + sizes x) t - n = (cntG take (n + 1) (r + x.length) (b + sizes x) t - (n + 1)) + 1 by omega, List.take_succ_cons, cntG, if_neg (by omega), if_neg hc.2.1, if_neg hc.2.2]
      exact cntG_sub take T t (n + 1) _ _ h
theorem cntG_more (take T : Int) : ∀ (ls : List rcs.D) (n r b : Nat), (cntG take n r b ls : Int) < T → (cntG take n r b ls : Int) < take → cntG take n r b ls < n + ls.length → cntG T n r b (ls.take (cntG take n r b ls + 1 - n)) = cntG take n r b ls
  | [], n, r, b, h, h2, h3 => by simp [cntG] at h3
  | x :: t, n, r, b, h, h2, h3 => by
    have hle := (cntG_le take (x :: t) n r b).1
    by_cases c : cntG take n r b (x :: t) = n
    · rw [c]
      rw [show n + 1 - n = 0 + 1 by omega, List.take_succ_cons, List.take_zero]
      rw [c] at h2 h
      rw [cntG, if_neg (by omega)] at c ⊢
      split
      · rfl
      · rename_i h4
        rw [if_neg h4] at c
        split
        · rfl
        · rename_i h5
          rw [if_neg h5] at c
          have := (cntG_le take t (n + 1) (r + x.length) (b + sizes x)).1
          omega
    · have hc : ¬ (n : Int) = take ∧ ¬ 256 < r + x.length ∧ ¬ 65536 < b + sizes x := by
        refine ⟨fun h => c ?_, fun h => c ?_, fun h => c ?_⟩
        · rw [cntG, if_pos h]
        · rw [cntG]; repeat' split
          all_goals first | rfl | omega
        · rw [cntG]; repeat' split
          all_goals first | rfl | omega
      have he : cntG take n r b (x :: t) = cntG take (n + 1) (r + x.length) (b + sizes x) t := by
        rw [cntG, if_neg hc.1, if_neg hc.2.1, if_neg hc.2.2]
      have hle2 := (cntG_le take t (n + 1) (r + x.length) (b + sizes x)).1
      simp only [List.length_cons] at h3
      rw [he] at h h2 h3 ⊢
      rw [show cntG take (n + 1) (r + x.length) (b + sizes x) t + 1 - n = (cntG take (n + 1) (r + x.length) (b + sizes x) t + 1 - (n + 1)) + 1 by omega, List.take_succ_cons, cntG, if_neg (by omega), if_neg hc.2.1, if_neg hc.2.2]
      exact cntG_more take T t (n + 1) _ _ h h2 (by omega)
theorem cntG_mono (take : Int) : ∀ (ls : List rcs.D) (n r b : Nat), (n : Int) ≤ take → cntG take n r b ls ≤ cntG (take + 1) n r b ls
  | [], n, r, b, h => by simp [cntG]
  | x :: t, n, r, b, h => by
    have hle := (cntG_le (take + 1) (x :: t) n r b).1
    by_cases c : (n : Int) = take
    · rw [show cntG take n r b (x :: t) = n by rw [cntG, if_pos c]]; exact hle
    · have h2 := cntG_mono take t (n + 1) (r + x.length) (b + sizes x) (by omega)
      rw [cntG, if_neg c]
      have h3 : cntG (take + 1) n r b (x :: t) = if 256 < r + x.length then n else if 65536 < b + sizes x then n else cntG (take + 1) (n + 1) (r + x.length) (b + sizes x) t := by rw [cntG, if_neg (by omega)]
      rw [h3]
      repeat' split
      all_goals omega
theorem chk_of {ls : List rcs.D} (hl : ls.length ≤ 256) (hf : ∀ x ∈ ls, fitsE x = 0) : chkE ls = 0 := by
  unfold chkE
  rw [if_neg, if_neg (by omega), if_neg]
  · simp only [Bool.not_eq_true, List.any_eq_false, decide_eq_true_eq]
    intro x hx; simp [hf x hx]
  · simp only [Bool.not_eq_true, List.any_eq_false, decide_eq_true_eq]
    intro x hx; rw [hf x hx]; decide
theorem tog_cnt {take : Int} {ls : List rcs.D} (hl : ls.length ≤ 256) (hf : ∀ x ∈ ls, fitsE x = 0) : togE (ls.take (cnt take ls)) = 0 := by
  have hle := cnt_le take ls
  have hlen : (ls.take (cnt take ls)).length = cnt take ls := by rw [List.length_take]; omega
  have h1 := chk_of (ls := ls.take (cnt take ls)) (by omega) fun x hx => hf x (List.mem_of_mem_take hx)
  rw [togE, if_neg (by simp [h1]), if_neg]
  rw [hlen]
  have := cntG_sub take (cnt take ls) ls 0 0 20 (Int.le_refl _)
  simp only [Nat.sub_zero] at this
  have h2 : cnt (cnt take ls) (ls.take (cnt take ls)) = cnt take ls := this
  omega
theorem tog_more {take : Int} {ls : List rcs.D} (hl : ls.length ≤ 256) (hf : ∀ x ∈ ls, fitsE x = 0) (h1 : cnt take ls < ls.length) (h2 : (cnt take ls : Int) < take) : togE (ls.take (cnt take ls + 1)) = 8 := by
  have hlen : (ls.take (cnt take ls + 1)).length = cnt take ls + 1 := by rw [List.length_take]; omega
  have h3 := chk_of (ls := ls.take (cnt take ls + 1)) (by omega) fun x hx => hf x (List.mem_of_mem_take hx)
  rw [togE, if_neg (by simp [h3]), if_pos]
  rw [hlen]
  have := cntG_more take (cnt take ls + 1 : Nat) ls 0 0 20 (by show (cnt take ls : Int) < _; omega) h2 (by show cnt take ls < _; omega)
  simp only [Nat.sub_zero] at this
  have h4 : cnt (cnt take ls + 1 : Nat) (ls.take (cnt take ls + 1)) = cnt take ls := this
  omega

theorem planG_len (take : Int) : ∀ (f : Nat) (ls : List rcs.D), (planG take f ls).length ≤ f
  | 0, _ => by simp [planG]
  | f + 1, ls => by
    unfold planG
    split
    · simp
    · have := planG_len take f (ls.drop (cnt take ls))
      simp only [List.length_cons]; omega
theorem plan_len (take : Int) (ls : List rcs.D) : (plan take ls).length ≤ ls.length := planG_len take _ ls

/-! ### The walk -/
theorem ints_len (l : List Nat) : (ints l).length = l.length := by simp [ints]
theorem ints_get (l : List Nat) (i : Nat) (h : i < (ints l).length) : (ints l)[i] = .int .i64 ((l[i]'(by simpa [ints] using h) : Nat) : Int) := by simp [ints]
theorem GatherHolds_ok {S : Nat → Prop} {h : H} {s : Value} {ls : List rcs.D} (take : Int) (ht : -9223372036854775808 ≤ take ∧ take ≤ 9223372036854775807) (hs : RepL S rcs h s ls) (hl : ls.length ≤ 4611686018427387904) :
    Ok Try.prog 4 #[.int .i64 take, s] h fun v h' => v = .bool true ∧ Ext h h' := by
  obtain ⟨sa, sc, rfl⟩ := hs.len
  refine c4_ok (args := [_, _]) (by simp) ?_
  simp (disch := omega) only [dm_t, wA, wB, wL, wW, wY, Int.fdiv_eq_ediv_of_nonneg, Int.tdiv_eq_ediv_of_nonneg, Int.tmod_eq_emod_of_nonneg, chk_pos, decT, decF, br_pos, br_neg, wX, ↓reduceIte, Nat.reduceEqDiff, Nat.reduceAdd, Nat.reduceSub, Nat.reduceMul, Nat.reduceLeDiff, Nat.reduceLT, Nat.reduceMod, Nat.reduceDiv, Int.reduceToNat, Nat.min_eq_left, IntKind.bits, Int.reducePow, Int.reduceLT, Int.reduceLE, Int.reduceEq, Int.reduceNe, Int.reduceAdd, Int.reduceSub, and_self, reduceCtorEq, decide_eq_true_eq, decide_eq_false_iff_not, eq_self, implies_true, exists_const, Option.isNone_some, Option.isNone_none, Option.isSome_some, Option.isSome_none, Option.getD_some]
  refine (many_ok hs hl).k ?_
  rintro _ _ ⟨b, rfl, hm, rfl⟩
  cases b with
  | true =>
    simp (disch := omega) only [dm_t, wA, wB, wL, wW, wY, Int.fdiv_eq_ediv_of_nonneg, Int.tdiv_eq_ediv_of_nonneg, Int.tmod_eq_emod_of_nonneg, chk_pos, decT, decF, br_pos, br_neg, wX, ↓reduceIte, Nat.reduceEqDiff, Nat.reduceAdd, Nat.reduceSub, Nat.reduceMul, Nat.reduceLeDiff, Nat.reduceLT, Nat.reduceMod, Nat.reduceDiv, Int.reduceToNat, Nat.min_eq_left, IntKind.bits, Int.reducePow, Int.reduceLT, Int.reduceLE, Int.reduceEq, Int.reduceNe, Int.reduceAdd, Int.reduceSub, and_self, reduceCtorEq, decide_eq_true_eq, decide_eq_false_iff_not, eq_self, implies_true, exists_const, Option.isNone_some, Option.isNone_none, Option.isSome_some, Option.isSome_none, Option.getD_some]
    refine (works_ok).k ?_
    rintro _ h1 ⟨rfl, e1⟩
    simp (disch := omega) only [dm_t, wA, wB, wL, wW, wY, Int.fdiv_eq_ediv_of_nonneg, Int.tdiv_eq_ediv_of_nonneg, Int.tmod_eq_emod_of_nonneg, chk_pos, decT, decF, br_pos, br_neg, wX, ↓reduceIte, Nat.reduceEqDiff, Nat.reduceAdd, Nat.reduceSub, Nat.reduceMul, Nat.reduceLeDiff, Nat.reduceLT, Nat.reduceMod, Nat.reduceDiv, Int.reduceToNat, Nat.min_eq_left, IntKind.bits, Int.reducePow, Int.reduceLT, Int.reduceLE, Int.reduceEq, Int.reduceNe, Int.reduceAdd, Int.reduceSub, and_self, reduceCtorEq, decide_eq_true_eq, decide_eq_false_iff_not, eq_self, implies_true, exists_const, Option.isNone_some, Option.isNone_none, Option.isSome_some, Option.isSome_none, Option.getD_some]
    exact e1
  | false =>
  obtain ⟨hl3, htot⟩ := hm rfl
  have hx : ∀ x ∈ ls, x.length ≤ 1000000 := fun x hx => by have := total_mem hx; omega
  simp (disch := omega) only [dm_t, wA, wB, wL, wW, wY, Int.fdiv_eq_ediv_of_nonneg, Int.tdiv_eq_ediv_of_nonneg, Int.tmod_eq_emod_of_nonneg, chk_pos, decT, decF, br_pos, br_neg, wX, ↓reduceIte, Nat.reduceEqDiff, Nat.reduceAdd, Nat.reduceSub, Nat.reduceMul, Nat.reduceLeDiff, Nat.reduceLT, Nat.reduceMod, Nat.reduceDiv, Int.reduceToNat, Nat.min_eq_left, IntKind.bits, Int.reducePow, Int.reduceLT, Int.reduceLE, Int.reduceEq, Int.reduceNe, Int.reduceAdd, Int.reduceSub, and_self, reduceCtorEq, decide_eq_true_eq, decide_eq_false_iff_not, eq_self, implies_true, exists_const, Option.isNone_some, Option.isNone_none, Option.isSome_some, Option.isSome_none, Option.getD_some]
  refine (Plan_ok take hs (by omega) hx).k ?_
  rintro _ h1 ⟨hp, e1⟩
  rw [PlanR] at hp
  by_cases htk : take < 1
  · rw [if_pos htk] at hp
    subst hp
    simp (disch := omega) only [dm_t, wA, wB, wL, wW, wY, Int.fdiv_eq_ediv_of_nonneg, Int.tdiv_eq_ediv_of_nonneg, Int.tmod_eq_emod_of_nonneg, chk_pos, decT, decF, br_pos, br_neg, wX, ↓reduceIte, Nat.reduceEqDiff, Nat.reduceAdd, Nat.reduceSub, Nat.reduceMul, Nat.reduceLeDiff, Nat.reduceLT, Nat.reduceMod, Nat.reduceDiv, Int.reduceToNat, Nat.min_eq_left, IntKind.bits, Int.reducePow, Int.reduceLT, Int.reduceLE, Int.reduceEq, Int.reduceNe, Int.reduceAdd, Int.reduceSub, and_self, reduceCtorEq, decide_eq_true_eq, decide_eq_false_iff_not, eq_self, implies_true, exists_const, Option.isNone_some, Option.isNone_none, Option.isSome_some, Option.isSome_none, Option.getD_some]
    refine (Count_ok take (hs.ext e1) (by omega) hx).k ?_
    rintro _ h2 ⟨rfl, e2⟩
    rw [if_pos htk]
    simp (disch := omega) only [dm_t, wA, wB, wL, wW, wY, Int.fdiv_eq_ediv_of_nonneg, Int.tdiv_eq_ediv_of_nonneg, Int.tmod_eq_emod_of_nonneg, chk_pos, decT, decF, br_pos, br_neg, wX, ↓reduceIte, Nat.reduceEqDiff, Nat.reduceAdd, Nat.reduceSub, Nat.reduceMul, Nat.reduceLeDiff, Nat.reduceLT, Nat.reduceMod, Nat.reduceDiv, Int.reduceToNat, Nat.min_eq_left, IntKind.bits, Int.reducePow, Int.reduceLT, Int.reduceLE, Int.reduceEq, Int.reduceNe, Int.reduceAdd, Int.reduceSub, and_self, reduceCtorEq, decide_eq_true_eq, decide_eq_false_iff_not, eq_self, implies_true, exists_const, Option.isNone_some, Option.isNone_none, Option.isSome_some, Option.isSome_none, Option.getD_some]
    refine (num_ok _ _).k ?_
    rintro _ _ ⟨rfl, rfl⟩
    simp (disch := omega) only [dm_t, wA, wB, wL, wW, wY, Int.fdiv_eq_ediv_of_nonneg, Int.tdiv_eq_ediv_of_nonneg, Int.tmod_eq_emod_of_nonneg, chk_pos, decT, decF, br_pos, br_neg, wX, ↓reduceIte, Nat.reduceEqDiff, Nat.reduceAdd, Nat.reduceSub, Nat.reduceMul, Nat.reduceLeDiff, Nat.reduceLT, Nat.reduceMod, Nat.reduceDiv, Int.reduceToNat, Nat.min_eq_left, IntKind.bits, Int.reducePow, Int.reduceLT, Int.reduceLE, Int.reduceEq, Int.reduceNe, Int.reduceAdd, Int.reduceSub, and_self, reduceCtorEq, decide_eq_true_eq, decide_eq_false_iff_not, eq_self, implies_true, exists_const, Option.isNone_some, Option.isNone_none, Option.isSome_some, Option.isSome_none, Option.getD_some]
    refine (num_ok _ _).k ?_
    rintro _ _ ⟨rfl, rfl⟩
    simp (disch := omega) only [dm_t, wA, wB, wL, wW, wY, Int.fdiv_eq_ediv_of_nonneg, Int.tdiv_eq_ediv_of_nonneg, Int.tmod_eq_emod_of_nonneg, chk_pos, decT, decF, br_pos, br_neg, wX, ↓reduceIte, Nat.reduceEqDiff, Nat.reduceAdd, Nat.reduceSub, Nat.reduceMul, Nat.reduceLeDiff, Nat.reduceLT, Nat.reduceMod, Nat.reduceDiv, Int.reduceToNat, Nat.min_eq_left, IntKind.bits, Int.reducePow, Int.reduceLT, Int.reduceLE, Int.reduceEq, Int.reduceNe, Int.reduceAdd, Int.reduceSub, and_self, reduceCtorEq, decide_eq_true_eq, decide_eq_false_iff_not, eq_self, implies_true, exists_const, Option.isNone_some, Option.isNone_none, Option.isSome_some, Option.isSome_none, Option.getD_some]
    refine (num_ok _ _).k ?_
    rintro _ _ ⟨rfl, rfl⟩
    simp (disch := omega) only [dm_t, wA, wB, wL, wW, wY, Int.fdiv_eq_ediv_of_nonneg, Int.tdiv_eq_ediv_of_nonneg, Int.tmod_eq_emod_of_nonneg, chk_pos, decT, decF, br_pos, br_neg, wX, ↓reduceIte, Nat.reduceEqDiff, Nat.reduceAdd, Nat.reduceSub, Nat.reduceMul, Nat.reduceLeDiff, Nat.reduceLT, Nat.reduceMod, Nat.reduceDiv, Int.reduceToNat, Nat.min_eq_left, IntKind.bits, Int.reducePow, Int.reduceLT, Int.reduceLE, Int.reduceEq, Int.reduceNe, Int.reduceAdd, Int.reduceSub, and_self, reduceCtorEq, decide_eq_true_eq, decide_eq_false_iff_not, eq_self, implies_true, exists_const, Option.isNone_some, Option.isNone_none, Option.isSome_some, Option.isSome_none, Option.getD_some]
    refine (works_ok).k ?_
    rintro _ h3 ⟨rfl, e3⟩
    simp (disch := omega) only [dm_t, wA, wB, wL, wW, wY, Int.fdiv_eq_ediv_of_nonneg, Int.tdiv_eq_ediv_of_nonneg, Int.tmod_eq_emod_of_nonneg, chk_pos, decT, decF, br_pos, br_neg, wX, ↓reduceIte, Nat.reduceEqDiff, Nat.reduceAdd, Nat.reduceSub, Nat.reduceMul, Nat.reduceLeDiff, Nat.reduceLT, Nat.reduceMod, Nat.reduceDiv, Int.reduceToNat, Nat.min_eq_left, IntKind.bits, Int.reducePow, Int.reduceLT, Int.reduceLE, Int.reduceEq, Int.reduceNe, Int.reduceAdd, Int.reduceSub, and_self, reduceCtorEq, decide_eq_true_eq, decide_eq_false_iff_not, eq_self, implies_true, exists_const, Option.isNone_some, Option.isNone_none, Option.isSome_some, Option.isSome_none, Option.getD_some]
    exact (e1.trans e2).trans e3
  rw [if_neg htk] at hp
  by_cases hc : chkE ls = 0
  · rw [if_neg (by simp [hc])] at hp
    obtain ⟨w, rfl, op⟩ := hp
    obtain ⟨pa, pc, rfl⟩ := op.s0.len
    have hpl : (one (ints (plan take ls))).length = (plan take ls).length := by simp [one, ints]
    rw [hpl] at op
    simp (disch := omega) only [dm_t, wA, wB, wL, wW, wY, Int.fdiv_eq_ediv_of_nonneg, Int.tdiv_eq_ediv_of_nonneg, Int.tmod_eq_emod_of_nonneg, chk_pos, decT, decF, br_pos, br_neg, wX, ↓reduceIte, Nat.reduceEqDiff, Nat.reduceAdd, Nat.reduceSub, Nat.reduceMul, Nat.reduceLeDiff, Nat.reduceLT, Nat.reduceMod, Nat.reduceDiv, Int.reduceToNat, Nat.min_eq_left, IntKind.bits, Int.reducePow, Int.reduceLT, Int.reduceLE, Int.reduceEq, Int.reduceNe, Int.reduceAdd, Int.reduceSub, and_self, reduceCtorEq, decide_eq_true_eq, decide_eq_false_iff_not, eq_self, implies_true, exists_const, Option.isNone_some, Option.isNone_none, Option.isSome_some, Option.isSome_none, Option.getD_some, hpl]
    refine (Count_ok take (hs.ext e1) (by omega) hx).k ?_
    rintro _ h2 ⟨rfl, e2⟩
    rw [if_neg htk, if_neg (by simp [hc])]
    simp (disch := omega) only [dm_t, wA, wB, wL, wW, wY, Int.fdiv_eq_ediv_of_nonneg, Int.tdiv_eq_ediv_of_nonneg, Int.tmod_eq_emod_of_nonneg, chk_pos, decT, decF, br_pos, br_neg, wX, ↓reduceIte, Nat.reduceEqDiff, Nat.reduceAdd, Nat.reduceSub, Nat.reduceMul, Nat.reduceLeDiff, Nat.reduceLT, Nat.reduceMod, Nat.reduceDiv, Int.reduceToNat, Nat.min_eq_left, IntKind.bits, Int.reducePow, Int.reduceLT, Int.reduceLE, Int.reduceEq, Int.reduceNe, Int.reduceAdd, Int.reduceSub, and_self, reduceCtorEq, decide_eq_true_eq, decide_eq_false_iff_not, eq_self, implies_true, exists_const, Option.isNone_some, Option.isNone_none, Option.isSome_some, Option.isSome_none, Option.getD_some]
    refine (num_ok _ _).k ?_
    rintro _ _ ⟨rfl, rfl⟩
    simp (disch := omega) only [dm_t, wA, wB, wL, wW, wY, Int.fdiv_eq_ediv_of_nonneg, Int.tdiv_eq_ediv_of_nonneg, Int.tmod_eq_emod_of_nonneg, chk_pos, decT, decF, br_pos, br_neg, wX, ↓reduceIte, Nat.reduceEqDiff, Nat.reduceAdd, Nat.reduceSub, Nat.reduceMul, Nat.reduceLeDiff, Nat.reduceLT, Nat.reduceMod, Nat.reduceDiv, Int.reduceToNat, Nat.min_eq_left, IntKind.bits, Int.reducePow, Int.reduceLT, Int.reduceLE, Int.reduceEq, Int.reduceNe, Int.reduceAdd, Int.reduceSub, and_self, reduceCtorEq, decide_eq_true_eq, decide_eq_false_iff_not, eq_self, implies_true, exists_const, Option.isNone_some, Option.isNone_none, Option.isSome_some, Option.isSome_none, Option.getD_some]
    refine (num_ok _ _).k ?_
    rintro _ _ ⟨rfl, rfl⟩
    have e3 := e1.trans e2
    obtain ⟨hl2, hf⟩ := chk0 hc
    by_cases hn : ls = []
    · have hp0 : plan take ls = [] := by rw [hn]; rfl
      have hc0 : cnt take ls = 0 := by rw [hn]; rfl
      rw [hc0]
      rw [hp0]
      subst hn
      simp (disch := omega) only [dm_t, wA, wB, wL, wW, wY, Int.fdiv_eq_ediv_of_nonneg, Int.tdiv_eq_ediv_of_nonneg, Int.tmod_eq_emod_of_nonneg, chk_pos, decT, decF, br_pos, br_neg, wX, ↓reduceIte, Nat.reduceEqDiff, Nat.reduceAdd, Nat.reduceSub, Nat.reduceMul, Nat.reduceLeDiff, Nat.reduceLT, Nat.reduceMod, Nat.reduceDiv, Int.reduceToNat, Nat.min_eq_left, IntKind.bits, Int.reducePow, Int.reduceLT, Int.reduceLE, Int.reduceEq, Int.reduceNe, Int.reduceAdd, Int.reduceSub, and_self, reduceCtorEq, decide_eq_true_eq, decide_eq_false_iff_not, eq_self, implies_true, exists_const, Option.isNone_some, Option.isNone_none, Option.isSome_some, Option.isSome_none, Option.getD_some, List.length_nil]
      refine (works_ok).k ?_
      rintro _ h3 ⟨rfl, e4⟩
      simp (disch := omega) only [dm_t, wA, wB, wL, wW, wY, Int.fdiv_eq_ediv_of_nonneg, Int.tdiv_eq_ediv_of_nonneg, Int.tmod_eq_emod_of_nonneg, chk_pos, decT, decF, br_pos, br_neg, wX, ↓reduceIte, Nat.reduceEqDiff, Nat.reduceAdd, Nat.reduceSub, Nat.reduceMul, Nat.reduceLeDiff, Nat.reduceLT, Nat.reduceMod, Nat.reduceDiv, Int.reduceToNat, Nat.min_eq_left, IntKind.bits, Int.reducePow, Int.reduceLT, Int.reduceLE, Int.reduceEq, Int.reduceNe, Int.reduceAdd, Int.reduceSub, and_self, reduceCtorEq, decide_eq_true_eq, decide_eq_false_iff_not, eq_self, implies_true, exists_const, Option.isNone_some, Option.isNone_none, Option.isSome_some, Option.isSome_none, Option.getD_some]
      exact e3.trans e4
    have hpc := plan_cons (take := take) (by omega) hn hf
    have hp1 : 0 < (plan take ls).length := by rw [hpc]; simp
    have p2 := (op.ext e2).s0
    simp (disch := omega) only [dm_t, wA, wB, wL, wW, wY, Int.fdiv_eq_ediv_of_nonneg, Int.tdiv_eq_ediv_of_nonneg, Int.tmod_eq_emod_of_nonneg, chk_pos, decT, decF, br_pos, br_neg, wX, ↓reduceIte, Nat.reduceEqDiff, Nat.reduceAdd, Nat.reduceSub, Nat.reduceMul, Nat.reduceLeDiff, Nat.reduceLT, Nat.reduceMod, Nat.reduceDiv, Int.reduceToNat, Nat.min_eq_left, IntKind.bits, Int.reducePow, Int.reduceLT, Int.reduceLE, Int.reduceEq, Int.reduceNe, Int.reduceAdd, Int.reduceSub, and_self, reduceCtorEq, decide_eq_true_eq, decide_eq_false_iff_not, eq_self, implies_true, exists_const, Option.isNone_some, Option.isNone_none, Option.isSome_some, Option.isSome_none, Option.getD_some]
    refine vc_loop2 (fun vf vi h' => ∃ i f : Nat, vi = .int .i64 (i : Int) ∧ vf = .int .i64 (f : Int) ∧ i ≤ (plan take ls).length ∧ f ≤ ls.length ∧ plan take (ls.drop f) = (plan take ls).drop i ∧ Ext h2 h') (fun _ vi _ => (plan take ls).length - m1 vi) ?_ ?_
    · simp (disch := omega) only [dm_t, wA, wB, wL, wW, wY, Int.fdiv_eq_ediv_of_nonneg, Int.tdiv_eq_ediv_of_nonneg, Int.tmod_eq_emod_of_nonneg, chk_pos, decT, decF, br_pos, br_neg, wX, ↓reduceIte, Nat.reduceEqDiff, Nat.reduceAdd, Nat.reduceSub, Nat.reduceMul, Nat.reduceLeDiff, Nat.reduceLT, Nat.reduceMod, Nat.reduceDiv, Int.reduceToNat, Nat.min_eq_left, IntKind.bits, Int.reducePow, Int.reduceLT, Int.reduceLE, Int.reduceEq, Int.reduceNe, Int.reduceAdd, Int.reduceSub, and_self, reduceCtorEq, decide_eq_true_eq, decide_eq_false_iff_not, eq_self, implies_true, exists_const, Option.isNone_some, Option.isNone_none, Option.isSome_some, Option.isSome_none, Option.getD_some]
      exact ⟨0, 0, rfl, rfl, by omega, by omega, by simp, Ext.refl _⟩
    rintro _ _ h3 ⟨i, f, rfl, rfl, hi, hf1, hpi, e4⟩
    have hfd : ∀ x ∈ ls.drop f, fitsE x = 0 := fun x hx => hf x (List.mem_of_mem_drop hx)
    have hdl : (ls.drop f).length = ls.length - f := by simp
    have hpb := plan_len take ls
    by_cases hil : i < (plan take ls).length
    · have hnd : ls.drop f ≠ [] := by
        intro h0
        rw [h0] at hpi
        have : ((plan take ls).drop i).length = 0 := by rw [← hpi]; rfl
        rw [List.length_drop] at this
        omega
      have hpd := plan_cons (take := take) (by omega) hnd hfd
      rw [hpd, List.drop_eq_getElem_cons hil, List.cons.injEq] at hpi
      obtain ⟨hpi1, hpi2⟩ := hpi
      rw [List.drop_drop] at hpi2
      have hc1 := cnt_pos (take := take) (by omega) hnd hfd
      have hc2 := cnt_le take (ls.drop f)
      have hc3 := cnt_take (take := take) (by omega) (ls.drop f)
      have hT := tog_cnt (take := take) (ls := ls.drop f) (by omega) hfd
      have hT2 := fun a b => tog_more (take := take) (ls := ls.drop f) (by omega) hfd a b
      have p3 := p2.ext e4
      have hs3 := (hs.ext (e3.trans e4))
      obtain ⟨_, hcap, _⟩ := hs3.cap
      generalize cnt take (ls.drop f) = q at hpi1 hpi2 hc1 hc2 hc3 hT hT2
      have hgi : ∀ (h : i < (ints (plan take ls)).length), (ints (plan take ls))[i] = .int .i64 (q : Int) := fun h => by rw [ints_get, ← hpi1]
      have hil' : i < (ints (plan take ls)).length := by rw [ints_len]; exact hil
      have hgx : ∀ g, SlK 1 nos g (.slice pa (plan take ls).length pc) (one (ints (plan take ls))) → ∀ b o, idxV1 1 (.slice pa (plan take ls).length pc) (.int .i64 (i : Int)) = some (.pointer (some ⟨b, o, none⟩)) → cellAt g ⟨b, o, none⟩ = some (.int .i64 (q : Int)) := by
        intro g sg b o hbo
        obtain ⟨b', o', q1, q2⟩ := S1.load sg hil' .i64
        rw [hbo] at q1
        simp only [Option.some.injEq, Value.pointer.injEq, Addr.mk.injEq, and_true] at q1
        obtain ⟨rfl, rfl⟩ := q1
        rw [q2, hgi hil']
      obtain ⟨b1, o1, gi, -⟩ := S1.load p3 hil' .i64
      have g1 := hgx _ p3 _ _ gi
      simp (disch := omega) only [dm_t, wA, wB, wL, wW, wY, Int.fdiv_eq_ediv_of_nonneg, Int.tdiv_eq_ediv_of_nonneg, Int.tmod_eq_emod_of_nonneg, chk_pos, decT, decF, br_pos, br_neg, wX, ↓reduceIte, Nat.reduceEqDiff, Nat.reduceAdd, Nat.reduceSub, Nat.reduceMul, Nat.reduceLeDiff, Nat.reduceLT, Nat.reduceMod, Nat.reduceDiv, Int.reduceToNat, Nat.min_eq_left, IntKind.bits, Int.reducePow, Int.reduceLT, Int.reduceLE, Int.reduceEq, Int.reduceNe, Int.reduceAdd, Int.reduceSub, and_self, reduceCtorEq, decide_eq_true_eq, decide_eq_false_iff_not, eq_self, implies_true, exists_const, Option.isNone_some, Option.isNone_none, Option.isSome_some, Option.isSome_none, Option.getD_some, gi, g1]
      refine RepL.cutK hs3 (by rfl) f (f + q) sc rfl (by simp) rfl (by omega) (.inr rfl) ?_
      intro v1 hv1
      rw [show f + q - f = q by omega] at hv1
      have hx1 : ∀ x ∈ (ls.drop f).take q, x.length ≤ 1000000 := fun x hxx => hx x (List.mem_of_mem_drop (List.mem_of_mem_take hxx))
      simp (disch := omega) only [dm_t, wA, wB, wL, wW, wY, Int.fdiv_eq_ediv_of_nonneg, Int.tdiv_eq_ediv_of_nonneg, Int.tmod_eq_emod_of_nonneg, chk_pos, decT, decF, br_pos, br_neg, wX, ↓reduceIte, Nat.reduceEqDiff, Nat.reduceAdd, Nat.reduceSub, Nat.reduceMul, Nat.reduceLeDiff, Nat.reduceLT, Nat.reduceMod, Nat.reduceDiv, Int.reduceToNat, Nat.min_eq_left, IntKind.bits, Int.reducePow, Int.reduceLT, Int.reduceLE, Int.reduceEq, Int.reduceNe, Int.reduceAdd, Int.reduceSub, and_self, reduceCtorEq, decide_eq_true_eq, decide_eq_false_iff_not, eq_self, implies_true, exists_const, Option.isNone_some, Option.isNone_none, Option.isSome_some, Option.isSome_none, Option.getD_some]
      refine (Together_ok hv1 (by rw [List.length_take]; omega) hx1).k ?_
      rintro _ h4 ⟨tw, rfl, -, e5⟩
      rw [hT]
      simp (disch := omega) only [dm_t, wA, wB, wL, wW, wY, Int.fdiv_eq_ediv_of_nonneg, Int.tdiv_eq_ediv_of_nonneg, Int.tmod_eq_emod_of_nonneg, chk_pos, decT, decF, br_pos, br_neg, wX, ↓reduceIte, Nat.reduceEqDiff, Nat.reduceAdd, Nat.reduceSub, Nat.reduceMul, Nat.reduceLeDiff, Nat.reduceLT, Nat.reduceMod, Nat.reduceDiv, Int.reduceToNat, Nat.min_eq_left, IntKind.bits, Int.reducePow, Int.reduceLT, Int.reduceLE, Int.reduceEq, Int.reduceNe, Int.reduceAdd, Int.reduceSub, and_self, reduceCtorEq, decide_eq_true_eq, decide_eq_false_iff_not, eq_self, implies_true, exists_const, Option.isNone_some, Option.isNone_none, Option.isSome_some, Option.isSome_none, Option.getD_some]
      refine (num_ok _ _).k ?_
      rintro _ _ ⟨rfl, rfl⟩
      have e6 := e4.trans e5
      have g2 := hgx _ (p2.ext e6) _ _ gi
      simp (disch := omega) only [dm_t, wA, wB, wL, wW, wY, Int.fdiv_eq_ediv_of_nonneg, Int.tdiv_eq_ediv_of_nonneg, Int.tmod_eq_emod_of_nonneg, chk_pos, decT, decF, br_pos, br_neg, wX, ↓reduceIte, Nat.reduceEqDiff, Nat.reduceAdd, Nat.reduceSub, Nat.reduceMul, Nat.reduceLeDiff, Nat.reduceLT, Nat.reduceMod, Nat.reduceDiv, Int.reduceToNat, Nat.min_eq_left, IntKind.bits, Int.reducePow, Int.reduceLT, Int.reduceLE, Int.reduceEq, Int.reduceNe, Int.reduceAdd, Int.reduceSub, and_self, reduceCtorEq, decide_eq_true_eq, decide_eq_false_iff_not, eq_self, implies_true, exists_const, Option.isNone_some, Option.isNone_none, Option.isSome_some, Option.isSome_none, Option.getD_some, gi, g2]
      by_cases hlast : f + q < ls.length
      · by_cases hqt : (q : Int) < take
        · have hT3 := hT2 (by omega) hqt
          simp (disch := omega) only [dm_t, wA, wB, wL, wW, wY, Int.fdiv_eq_ediv_of_nonneg, Int.tdiv_eq_ediv_of_nonneg, Int.tmod_eq_emod_of_nonneg, chk_pos, decT, decF, br_pos, br_neg, wX, ↓reduceIte, Nat.reduceEqDiff, Nat.reduceAdd, Nat.reduceSub, Nat.reduceMul, Nat.reduceLeDiff, Nat.reduceLT, Nat.reduceMod, Nat.reduceDiv, Int.reduceToNat, Nat.min_eq_left, IntKind.bits, Int.reducePow, Int.reduceLT, Int.reduceLE, Int.reduceEq, Int.reduceNe, Int.reduceAdd, Int.reduceSub, and_self, reduceCtorEq, decide_eq_true_eq, decide_eq_false_iff_not, eq_self, implies_true, exists_const, Option.isNone_some, Option.isNone_none, Option.isSome_some, Option.isSome_none, Option.getD_some, gi, g2]
          have hs4 := (hs.ext (e3.trans e6))
          refine RepL.cutK hs4 (by rfl) f (f + q + 1) sc (by simp) (by simp) rfl (by omega) (.inr rfl) ?_
          intro v2 hv2
          rw [show f + q + 1 - f = q + 1 by omega] at hv2
          have hx2 : ∀ x ∈ (ls.drop f).take (q + 1), x.length ≤ 1000000 := fun x hxx => hx x (List.mem_of_mem_drop (List.mem_of_mem_take hxx))
          simp (disch := omega) only [dm_t, wA, wB, wL, wW, wY, Int.fdiv_eq_ediv_of_nonneg, Int.tdiv_eq_ediv_of_nonneg, Int.tmod_eq_emod_of_nonneg, chk_pos, decT, decF, br_pos, br_neg, wX, ↓reduceIte, Nat.reduceEqDiff, Nat.reduceAdd, Nat.reduceSub, Nat.reduceMul, Nat.reduceLeDiff, Nat.reduceLT, Nat.reduceMod, Nat.reduceDiv, Int.reduceToNat, Nat.min_eq_left, IntKind.bits, Int.reducePow, Int.reduceLT, Int.reduceLE, Int.reduceEq, Int.reduceNe, Int.reduceAdd, Int.reduceSub, and_self, reduceCtorEq, decide_eq_true_eq, decide_eq_false_iff_not, eq_self, implies_true, exists_const, Option.isNone_some, Option.isNone_none, Option.isSome_some, Option.isSome_none, Option.getD_some]
          refine (Together_ok hv2 (by rw [List.length_take]; omega) hx2).k ?_
          rintro _ h5 ⟨tw2, rfl, -, e7⟩
          rw [hT3]
          simp (disch := omega) only [dm_t, wA, wB, wL, wW, wY, Int.fdiv_eq_ediv_of_nonneg, Int.tdiv_eq_ediv_of_nonneg, Int.tmod_eq_emod_of_nonneg, chk_pos, decT, decF, br_pos, br_neg, wX, ↓reduceIte, Nat.reduceEqDiff, Nat.reduceAdd, Nat.reduceSub, Nat.reduceMul, Nat.reduceLeDiff, Nat.reduceLT, Nat.reduceMod, Nat.reduceDiv, Int.reduceToNat, Nat.min_eq_left, IntKind.bits, Int.reducePow, Int.reduceLT, Int.reduceLE, Int.reduceEq, Int.reduceNe, Int.reduceAdd, Int.reduceSub, and_self, reduceCtorEq, decide_eq_true_eq, decide_eq_false_iff_not, eq_self, implies_true, exists_const, Option.isNone_some, Option.isNone_none, Option.isSome_some, Option.isSome_none, Option.getD_some]
          refine (num_ok _ _).k ?_
          rintro _ _ ⟨rfl, rfl⟩
          simp (disch := omega) only [dm_t, wA, wB, wL, wW, wY, Int.fdiv_eq_ediv_of_nonneg, Int.tdiv_eq_ediv_of_nonneg, Int.tmod_eq_emod_of_nonneg, chk_pos, decT, decF, br_pos, br_neg, wX, ↓reduceIte, Nat.reduceEqDiff, Nat.reduceAdd, Nat.reduceSub, Nat.reduceMul, Nat.reduceLeDiff, Nat.reduceLT, Nat.reduceMod, Nat.reduceDiv, Int.reduceToNat, Nat.min_eq_left, IntKind.bits, Int.reducePow, Int.reduceLT, Int.reduceLE, Int.reduceEq, Int.reduceNe, Int.reduceAdd, Int.reduceSub, and_self, reduceCtorEq, decide_eq_true_eq, decide_eq_false_iff_not, eq_self, implies_true, exists_const, Option.isNone_some, Option.isNone_none, Option.isSome_some, Option.isSome_none, Option.getD_some]
          refine ⟨⟨i + 1, f + q, by simp, by simp, by omega, by omega, hpi2, e6.trans e7⟩, by simp [m1]; omega⟩
        · simp (disch := omega) only [dm_t, wA, wB, wL, wW, wY, Int.fdiv_eq_ediv_of_nonneg, Int.tdiv_eq_ediv_of_nonneg, Int.tmod_eq_emod_of_nonneg, chk_pos, decT, decF, br_pos, br_neg, wX, ↓reduceIte, Nat.reduceEqDiff, Nat.reduceAdd, Nat.reduceSub, Nat.reduceMul, Nat.reduceLeDiff, Nat.reduceLT, Nat.reduceMod, Nat.reduceDiv, Int.reduceToNat, Nat.min_eq_left, IntKind.bits, Int.reducePow, Int.reduceLT, Int.reduceLE, Int.reduceEq, Int.reduceNe, Int.reduceAdd, Int.reduceSub, and_self, reduceCtorEq, decide_eq_true_eq, decide_eq_false_iff_not, eq_self, implies_true, exists_const, Option.isNone_some, Option.isNone_none, Option.isSome_some, Option.isSome_none, Option.getD_some, gi, g2]
          refine ⟨⟨i + 1, f + q, by simp, by simp, by omega, by omega, hpi2, e6⟩, by simp [m1]; omega⟩
      · simp (disch := omega) only [dm_t, wA, wB, wL, wW, wY, Int.fdiv_eq_ediv_of_nonneg, Int.tdiv_eq_ediv_of_nonneg, Int.tmod_eq_emod_of_nonneg, chk_pos, decT, decF, br_pos, br_neg, wX, ↓reduceIte, Nat.reduceEqDiff, Nat.reduceAdd, Nat.reduceSub, Nat.reduceMul, Nat.reduceLeDiff, Nat.reduceLT, Nat.reduceMod, Nat.reduceDiv, Int.reduceToNat, Nat.min_eq_left, IntKind.bits, Int.reducePow, Int.reduceLT, Int.reduceLE, Int.reduceEq, Int.reduceNe, Int.reduceAdd, Int.reduceSub, and_self, reduceCtorEq, decide_eq_true_eq, decide_eq_false_iff_not, eq_self, implies_true, exists_const, Option.isNone_some, Option.isNone_none, Option.isSome_some, Option.isSome_none, Option.getD_some]
        refine ⟨⟨i + 1, f + q, by simp, by simp, by omega, by omega, hpi2, e6⟩, by simp [m1]; omega⟩
    · obtain rfl : i = (plan take ls).length := by omega
      rw [List.drop_length] at hpi
      have hfl : f = ls.length := by
        by_cases h0 : ls.drop f = []
        · have := congrArg List.length h0
          simp at this; omega
        · rw [plan_cons (by omega) h0 hfd] at hpi; cases hpi
      subst hfl
      have hg0 : ∀ (h : 0 < (ints (plan take ls)).length), (ints (plan take ls))[0] = .int .i64 (cnt take ls : Nat) := fun h => by
        rw [ints_get]
        have : (plan take ls)[0] = cnt take ls := by simp [hpc]
        rw [this]
      have h0' : 0 < (ints (plan take ls)).length := by rw [ints_len]; exact hp1
      have hmono : cnt take ls ≤ cnt (take + 1) ls := cntG_mono take ls 0 0 20 (by omega)
      have fin : ∀ h5, Ext h2 h5 → cellAt h5 = cellAt h5 := fun _ _ => rfl
      by_cases hth : take < 1000
      · simp (disch := omega) only [dm_t, wA, wB, wL, wW, wY, Int.fdiv_eq_ediv_of_nonneg, Int.tdiv_eq_ediv_of_nonneg, Int.tmod_eq_emod_of_nonneg, chk_pos, decT, decF, br_pos, br_neg, wX, ↓reduceIte, Nat.reduceEqDiff, Nat.reduceAdd, Nat.reduceSub, Nat.reduceMul, Nat.reduceLeDiff, Nat.reduceLT, Nat.reduceMod, Nat.reduceDiv, Int.reduceToNat, Nat.min_eq_left, IntKind.bits, Int.reducePow, Int.reduceLT, Int.reduceLE, Int.reduceEq, Int.reduceNe, Int.reduceAdd, Int.reduceSub, and_self, reduceCtorEq, decide_eq_true_eq, decide_eq_false_iff_not, eq_self, implies_true, exists_const, Option.isNone_some, Option.isNone_none, Option.isSome_some, Option.isSome_none, Option.getD_some]
        refine (Count_ok (take + 1) (hs.ext (e3.trans e4)) (by omega) hx).k ?_
        rintro _ h4 ⟨rfl, e5⟩
        rw [if_neg (by omega), if_neg (by simp [hc])]
        simp (disch := omega) only [dm_t, wA, wB, wL, wW, wY, Int.fdiv_eq_ediv_of_nonneg, Int.tdiv_eq_ediv_of_nonneg, Int.tmod_eq_emod_of_nonneg, chk_pos, decT, decF, br_pos, br_neg, wX, ↓reduceIte, Nat.reduceEqDiff, Nat.reduceAdd, Nat.reduceSub, Nat.reduceMul, Nat.reduceLeDiff, Nat.reduceLT, Nat.reduceMod, Nat.reduceDiv, Int.reduceToNat, Nat.min_eq_left, IntKind.bits, Int.reducePow, Int.reduceLT, Int.reduceLE, Int.reduceEq, Int.reduceNe, Int.reduceAdd, Int.reduceSub, and_self, reduceCtorEq, decide_eq_true_eq, decide_eq_false_iff_not, eq_self, implies_true, exists_const, Option.isNone_some, Option.isNone_none, Option.isSome_some, Option.isSome_none, Option.getD_some]
        refine (num_ok _ _).k ?_
        rintro _ _ ⟨rfl, rfl⟩
        simp (disch := omega) only [dm_t, wA, wB, wL, wW, wY, Int.fdiv_eq_ediv_of_nonneg, Int.tdiv_eq_ediv_of_nonneg, Int.tmod_eq_emod_of_nonneg, chk_pos, decT, decF, br_pos, br_neg, wX, ↓reduceIte, Nat.reduceEqDiff, Nat.reduceAdd, Nat.reduceSub, Nat.reduceMul, Nat.reduceLeDiff, Nat.reduceLT, Nat.reduceMod, Nat.reduceDiv, Int.reduceToNat, Nat.min_eq_left, IntKind.bits, Int.reducePow, Int.reduceLT, Int.reduceLE, Int.reduceEq, Int.reduceNe, Int.reduceAdd, Int.reduceSub, and_self, reduceCtorEq, decide_eq_true_eq, decide_eq_false_iff_not, eq_self, implies_true, exists_const, Option.isNone_some, Option.isNone_none, Option.isSome_some, Option.isSome_none, Option.getD_some]
        refine S1.at (p2.ext (e4.trans e5)) 0 rfl h0' ?_
        intro b1 o1 g1
        rw [hg0 h0'] at g1
        simp (disch := omega) only [dm_t, wA, wB, wL, wW, wY, Int.fdiv_eq_ediv_of_nonneg, Int.tdiv_eq_ediv_of_nonneg, Int.tmod_eq_emod_of_nonneg, chk_pos, decT, decF, br_pos, br_neg, wX, ↓reduceIte, Nat.reduceEqDiff, Nat.reduceAdd, Nat.reduceSub, Nat.reduceMul, Nat.reduceLeDiff, Nat.reduceLT, Nat.reduceMod, Nat.reduceDiv, Int.reduceToNat, Nat.min_eq_left, IntKind.bits, Int.reducePow, Int.reduceLT, Int.reduceLE, Int.reduceEq, Int.reduceNe, Int.reduceAdd, Int.reduceSub, and_self, reduceCtorEq, decide_eq_true_eq, decide_eq_false_iff_not, eq_self, implies_true, exists_const, Option.isNone_some, Option.isNone_none, Option.isSome_some, Option.isSome_none, Option.getD_some, g1]
        refine (works_ok).k ?_
        rintro _ h5 ⟨rfl, e6⟩
        simp (disch := omega) only [dm_t, wA, wB, wL, wW, wY, Int.fdiv_eq_ediv_of_nonneg, Int.tdiv_eq_ediv_of_nonneg, Int.tmod_eq_emod_of_nonneg, chk_pos, decT, decF, br_pos, br_neg, wX, ↓reduceIte, Nat.reduceEqDiff, Nat.reduceAdd, Nat.reduceSub, Nat.reduceMul, Nat.reduceLeDiff, Nat.reduceLT, Nat.reduceMod, Nat.reduceDiv, Int.reduceToNat, Nat.min_eq_left, IntKind.bits, Int.reducePow, Int.reduceLT, Int.reduceLE, Int.reduceEq, Int.reduceNe, Int.reduceAdd, Int.reduceSub, and_self, reduceCtorEq, decide_eq_true_eq, decide_eq_false_iff_not, eq_self, implies_true, exists_const, Option.isNone_some, Option.isNone_none, Option.isSome_some, Option.isSome_none, Option.getD_some]
        exact e3.trans ((e4.trans e5).trans e6)
      · simp (disch := omega) only [dm_t, wA, wB, wL, wW, wY, Int.fdiv_eq_ediv_of_nonneg, Int.tdiv_eq_ediv_of_nonneg, Int.tmod_eq_emod_of_nonneg, chk_pos, decT, decF, br_pos, br_neg, wX, ↓reduceIte, Nat.reduceEqDiff, Nat.reduceAdd, Nat.reduceSub, Nat.reduceMul, Nat.reduceLeDiff, Nat.reduceLT, Nat.reduceMod, Nat.reduceDiv, Int.reduceToNat, Nat.min_eq_left, IntKind.bits, Int.reducePow, Int.reduceLT, Int.reduceLE, Int.reduceEq, Int.reduceNe, Int.reduceAdd, Int.reduceSub, and_self, reduceCtorEq, decide_eq_true_eq, decide_eq_false_iff_not, eq_self, implies_true, exists_const, Option.isNone_some, Option.isNone_none, Option.isSome_some, Option.isSome_none, Option.getD_some]
        refine S1.at (p2.ext e4) 0 rfl h0' ?_
        intro b1 o1 g1
        rw [hg0 h0'] at g1
        simp (disch := omega) only [dm_t, wA, wB, wL, wW, wY, Int.fdiv_eq_ediv_of_nonneg, Int.tdiv_eq_ediv_of_nonneg, Int.tmod_eq_emod_of_nonneg, chk_pos, decT, decF, br_pos, br_neg, wX, ↓reduceIte, Nat.reduceEqDiff, Nat.reduceAdd, Nat.reduceSub, Nat.reduceMul, Nat.reduceLeDiff, Nat.reduceLT, Nat.reduceMod, Nat.reduceDiv, Int.reduceToNat, Nat.min_eq_left, IntKind.bits, Int.reducePow, Int.reduceLT, Int.reduceLE, Int.reduceEq, Int.reduceNe, Int.reduceAdd, Int.reduceSub, and_self, reduceCtorEq, decide_eq_true_eq, decide_eq_false_iff_not, eq_self, implies_true, exists_const, Option.isNone_some, Option.isNone_none, Option.isSome_some, Option.isSome_none, Option.getD_some, g1]
        refine (works_ok).k ?_
        rintro _ h5 ⟨rfl, e6⟩
        simp (disch := omega) only [dm_t, wA, wB, wL, wW, wY, Int.fdiv_eq_ediv_of_nonneg, Int.tdiv_eq_ediv_of_nonneg, Int.tmod_eq_emod_of_nonneg, chk_pos, decT, decF, br_pos, br_neg, wX, ↓reduceIte, Nat.reduceEqDiff, Nat.reduceAdd, Nat.reduceSub, Nat.reduceMul, Nat.reduceLeDiff, Nat.reduceLT, Nat.reduceMod, Nat.reduceDiv, Int.reduceToNat, Nat.min_eq_left, IntKind.bits, Int.reducePow, Int.reduceLT, Int.reduceLE, Int.reduceEq, Int.reduceNe, Int.reduceAdd, Int.reduceSub, and_self, reduceCtorEq, decide_eq_true_eq, decide_eq_false_iff_not, eq_self, implies_true, exists_const, Option.isNone_some, Option.isNone_none, Option.isSome_some, Option.isSome_none, Option.getD_some]
        exact e3.trans (e4.trans e6)
  · rw [if_pos hc] at hp
    subst hp
    simp (disch := omega) only [dm_t, wA, wB, wL, wW, wY, Int.fdiv_eq_ediv_of_nonneg, Int.tdiv_eq_ediv_of_nonneg, Int.tmod_eq_emod_of_nonneg, chk_pos, decT, decF, br_pos, br_neg, wX, ↓reduceIte, Nat.reduceEqDiff, Nat.reduceAdd, Nat.reduceSub, Nat.reduceMul, Nat.reduceLeDiff, Nat.reduceLT, Nat.reduceMod, Nat.reduceDiv, Int.reduceToNat, Nat.min_eq_left, IntKind.bits, Int.reducePow, Int.reduceLT, Int.reduceLE, Int.reduceEq, Int.reduceNe, Int.reduceAdd, Int.reduceSub, and_self, reduceCtorEq, decide_eq_true_eq, decide_eq_false_iff_not, eq_self, implies_true, exists_const, Option.isNone_some, Option.isNone_none, Option.isSome_some, Option.isSome_none, Option.getD_some]
    refine (Count_ok take (hs.ext e1) (by omega) hx).k ?_
    rintro _ h2 ⟨rfl, e2⟩
    rw [if_neg htk, if_pos hc]
    simp (disch := omega) only [dm_t, wA, wB, wL, wW, wY, Int.fdiv_eq_ediv_of_nonneg, Int.tdiv_eq_ediv_of_nonneg, Int.tmod_eq_emod_of_nonneg, chk_pos, decT, decF, br_pos, br_neg, wX, ↓reduceIte, Nat.reduceEqDiff, Nat.reduceAdd, Nat.reduceSub, Nat.reduceMul, Nat.reduceLeDiff, Nat.reduceLT, Nat.reduceMod, Nat.reduceDiv, Int.reduceToNat, Nat.min_eq_left, IntKind.bits, Int.reducePow, Int.reduceLT, Int.reduceLE, Int.reduceEq, Int.reduceNe, Int.reduceAdd, Int.reduceSub, and_self, reduceCtorEq, decide_eq_true_eq, decide_eq_false_iff_not, eq_self, implies_true, exists_const, Option.isNone_some, Option.isNone_none, Option.isSome_some, Option.isSome_none, Option.getD_some]
    refine (num_ok _ _).k ?_
    rintro _ _ ⟨rfl, rfl⟩
    simp (disch := omega) only [dm_t, wA, wB, wL, wW, wY, Int.fdiv_eq_ediv_of_nonneg, Int.tdiv_eq_ediv_of_nonneg, Int.tmod_eq_emod_of_nonneg, chk_pos, decT, decF, br_pos, br_neg, wX, ↓reduceIte, Nat.reduceEqDiff, Nat.reduceAdd, Nat.reduceSub, Nat.reduceMul, Nat.reduceLeDiff, Nat.reduceLT, Nat.reduceMod, Nat.reduceDiv, Int.reduceToNat, Nat.min_eq_left, IntKind.bits, Int.reducePow, Int.reduceLT, Int.reduceLE, Int.reduceEq, Int.reduceNe, Int.reduceAdd, Int.reduceSub, and_self, reduceCtorEq, decide_eq_true_eq, decide_eq_false_iff_not, eq_self, implies_true, exists_const, Option.isNone_some, Option.isNone_none, Option.isSome_some, Option.isSome_none, Option.getD_some]
    refine (num_ok _ _).k ?_
    rintro _ _ ⟨rfl, rfl⟩
    simp (disch := omega) only [dm_t, wA, wB, wL, wW, wY, Int.fdiv_eq_ediv_of_nonneg, Int.tdiv_eq_ediv_of_nonneg, Int.tmod_eq_emod_of_nonneg, chk_pos, decT, decF, br_pos, br_neg, wX, ↓reduceIte, Nat.reduceEqDiff, Nat.reduceAdd, Nat.reduceSub, Nat.reduceMul, Nat.reduceLeDiff, Nat.reduceLT, Nat.reduceMod, Nat.reduceDiv, Int.reduceToNat, Nat.min_eq_left, IntKind.bits, Int.reducePow, Int.reduceLT, Int.reduceLE, Int.reduceEq, Int.reduceNe, Int.reduceAdd, Int.reduceSub, and_self, reduceCtorEq, decide_eq_true_eq, decide_eq_false_iff_not, eq_self, implies_true, exists_const, Option.isNone_some, Option.isNone_none, Option.isSome_some, Option.isSome_none, Option.getD_some]
    refine (num_ok _ _).k ?_
    rintro _ _ ⟨rfl, rfl⟩
    simp (disch := omega) only [dm_t, wA, wB, wL, wW, wY, Int.fdiv_eq_ediv_of_nonneg, Int.tdiv_eq_ediv_of_nonneg, Int.tmod_eq_emod_of_nonneg, chk_pos, decT, decF, br_pos, br_neg, wX, ↓reduceIte, Nat.reduceEqDiff, Nat.reduceAdd, Nat.reduceSub, Nat.reduceMul, Nat.reduceLeDiff, Nat.reduceLT, Nat.reduceMod, Nat.reduceDiv, Int.reduceToNat, Nat.min_eq_left, IntKind.bits, Int.reducePow, Int.reduceLT, Int.reduceLE, Int.reduceEq, Int.reduceNe, Int.reduceAdd, Int.reduceSub, and_self, reduceCtorEq, decide_eq_true_eq, decide_eq_false_iff_not, eq_self, implies_true, exists_const, Option.isNone_some, Option.isNone_none, Option.isSome_some, Option.isSome_none, Option.getD_some]
    refine (works_ok).k ?_
    rintro _ h3 ⟨rfl, e3⟩
    simp (disch := omega) only [dm_t, wA, wB, wL, wW, wY, Int.fdiv_eq_ediv_of_nonneg, Int.tdiv_eq_ediv_of_nonneg, Int.tmod_eq_emod_of_nonneg, chk_pos, decT, decF, br_pos, br_neg, wX, ↓reduceIte, Nat.reduceEqDiff, Nat.reduceAdd, Nat.reduceSub, Nat.reduceMul, Nat.reduceLeDiff, Nat.reduceLT, Nat.reduceMod, Nat.reduceDiv, Int.reduceToNat, Nat.min_eq_left, IntKind.bits, Int.reducePow, Int.reduceLT, Int.reduceLE, Int.reduceEq, Int.reduceNe, Int.reduceAdd, Int.reduceSub, and_self, reduceCtorEq, decide_eq_true_eq, decide_eq_false_iff_not, eq_self, implies_true, exists_const, Option.isNone_some, Option.isNone_none, Option.isSome_some, Option.isSome_none, Option.getD_some]
    exact (e1.trans e2).trans e3
end Go.Proofs.Ytcebmbnofejlhaa.ga
