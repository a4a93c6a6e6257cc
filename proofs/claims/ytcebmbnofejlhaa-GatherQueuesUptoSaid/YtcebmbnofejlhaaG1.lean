/-
  gather: what the inner functions compute (check, count, Count, Plan), and the plain side.
-/
import Derived.Test.YtcebmbnofejlhaaR2
namespace Go.Proofs.Ytcebmbnofejlhaa.ga
open Go.Proofs.Ytcebmbnofejlhaa rr
set_option linter.unusedVariables false
set_option linter.unusedSimpArgs false

abbrev rcs : Ty := .sl rc
/-! ### The plain side -/
def chkE (ls : List rcs.D) : Int :=
  if (ls.any fun x => decide (fitsE x = 2)) = true then 2 else if 256 < ls.length then 3 else if (ls.any fun x => decide (fitsE x ≠ 0)) = true then 8 else 0
def cntG (take : Int) : Nat → Nat → Nat → List rcs.D → Nat
  | n, r, b, [] => n
  | n, r, b, x :: t => if (n : Int) = take then n else if 256 < r + x.length then n else if 65536 < b + sizes x then n else cntG take (n + 1) (r + x.length) (b + sizes x) t
def cnt (take : Int) (ls : List rcs.D) : Nat := cntG take 0 0 20 ls
theorem cntG_le (take : Int) : ∀ (ls : List rcs.D) (n r b : Nat), n ≤ cntG take n r b ls ∧ cntG take n r b ls ≤ n + ls.length
  | [], n, r, b => by simp [cntG]
  | x :: t, n, r, b => by
    have := cntG_le take t (n + 1) (r + x.length) (b + sizes x)
    unfold cntG
    simp only [List.length_cons]
    repeat' split
    all_goals omega
theorem cnt_le (take : Int) (ls : List rcs.D) : cnt take ls ≤ ls.length := by
  have := (cntG_le take ls 0 0 20).2
  unfold cnt; omega
theorem fits0 {x : List rc.D} (h : fitsE x = 0) : x ≠ [] ∧ x.all may = true ∧ x.length ≤ 256 ∧ 20 + sizes x ≤ 65536 := by
  unfold fitsE at h
  repeat' split at h
  all_goals first | (exfalso; revert h; decide) | (refine ⟨?_, ?_, ?_, ?_⟩ <;> first | assumption | omega | simp_all)
theorem chk0 {ls : List rcs.D} (h : chkE ls = 0) : ls.length ≤ 256 ∧ ∀ x ∈ ls, fitsE x = 0 := by
  unfold chkE at h
  repeat' split at h
  all_goals first | (exfalso; revert h; decide) | skip
  rename_i h1 h2 h3
  refine ⟨by omega, fun x hx => ?_⟩
  simp only [Bool.not_eq_true, List.any_eq_false, decide_eq_true_eq, ne_eq] at h3
  have := h3 x hx
  simpa using this
theorem cnt_pos {take : Int} (ht : 1 ≤ take) {ls : List rcs.D} (hn : ls ≠ []) (hf : ∀ x ∈ ls, fitsE x = 0) : 1 ≤ cnt take ls := by
  cases ls with
  | nil => exact absurd rfl hn
  | cons x t =>
    obtain ⟨_, _, h1, h2⟩ := fits0 (hf x (by simp))
    unfold cnt cntG
    rw [if_neg (by simp; omega), if_neg (by omega), if_neg (by omega)]
    exact (cntG_le take t 1 _ _).1
def planG (take : Int) : Nat → List rcs.D → List Nat
  | 0, _ => []
  | f + 1, ls => if ls = [] then [] else cnt take ls :: planG take f (ls.drop (cnt take ls))
def plan (take : Int) (ls : List rcs.D) : List Nat := planG take ls.length ls
theorem planG_eq {take : Int} (ht : 1 ≤ take) : ∀ (f g : Nat) {ls : List rcs.D}, (∀ x ∈ ls, fitsE x = 0) → ls.length ≤ f → ls.length ≤ g → planG take f ls = planG take g ls
  | 0, 0, _, _, _, _ => rfl
  | 0, g + 1, ls, _, h1, _ => by
    obtain rfl := List.length_eq_zero_iff.1 (Nat.le_zero.1 h1)
    simp [planG]
  | f + 1, 0, ls, _, _, h1 => by
    obtain rfl := List.length_eq_zero_iff.1 (Nat.le_zero.1 h1)
    simp [planG]
  | f + 1, g + 1, ls, hf, h1, h2 => by
    unfold planG
    split
    · rfl
    · rename_i hn
      have := cnt_pos ht hn hf
      rw [planG_eq ht f g (fun x hx => hf x (List.mem_of_mem_drop hx)) (by rw [List.length_drop]; omega) (by rw [List.length_drop]; omega)]
theorem plan_cons {take : Int} (ht : 1 ≤ take) {ls : List rcs.D} (hn : ls ≠ []) (hf : ∀ x ∈ ls, fitsE x = 0) : plan take ls = cnt take ls :: plan take (ls.drop (cnt take ls)) := by
  have h1 := cnt_pos ht hn hf
  have hl : 0 < ls.length := List.length_pos_iff.2 hn
  obtain ⟨f, hf'⟩ : ∃ f, ls.length = f + 1 := ⟨ls.length - 1, by omega⟩
  unfold plan
  rw [hf', planG, if_neg hn, planG_eq ht f (ls.drop (cnt take ls)).length (fun x hx => hf x (List.mem_of_mem_drop hx)) (by rw [List.length_drop]; omega) (Nat.le_refl _)]

/-! ### The walks -/
theorem num_ok (h : H) (v : Value) : Ok Try.prog 18 #[v] h fun w h' => w = v ∧ h = h' := by
  refine c18_ok (args := [_]) (by simp) ?_
  simp (disch := omega) only [dm_t, wA, wB, wL, wW, wY, Int.fdiv_eq_ediv_of_nonneg, Int.tdiv_eq_ediv_of_nonneg, Int.tmod_eq_emod_of_nonneg, chk_pos, decT, decF, br_pos, br_neg, wX, ↓reduceIte, Nat.reduceEqDiff, Nat.reduceAdd, Nat.reduceSub, Nat.reduceMul, Nat.reduceLeDiff, Nat.reduceLT, Nat.reduceMod, Nat.reduceDiv, Int.reduceToNat, Nat.min_eq_left, IntKind.bits, Int.reducePow, Int.reduceLT, Int.reduceLE, Int.reduceEq, Int.reduceNe, Int.reduceAdd, Int.reduceSub, and_self, reduceCtorEq, decide_eq_true_eq, decide_eq_false_iff_not, eq_self, implies_true, exists_const, Option.isNone_some, Option.isNone_none, Option.isSome_some, Option.isSome_none, Option.getD_some]
theorem check_ok {S : Nat → Prop} {h : H} {s : Value} {ls : List rcs.D} (hs : RepL S rcs h s ls) (hl : ls.length ≤ 1000000) (hx : ∀ x ∈ ls, x.length ≤ 1000000) : Ok Try.prog 38 #[s] h fun v h' => v = .int .i64 (chkE ls) ∧ Ext h h' := by
  obtain ⟨sa, sc, rfl⟩ := hs.len
  refine c38_ok (args := [_]) (by simp) ?_
  simp (disch := omega) only [dm_t, wA, wB, wL, wW, wY, Int.fdiv_eq_ediv_of_nonneg, Int.tdiv_eq_ediv_of_nonneg, Int.tmod_eq_emod_of_nonneg, chk_pos, decT, decF, br_pos, br_neg, wX, ↓reduceIte, Nat.reduceEqDiff, Nat.reduceAdd, Nat.reduceSub, Nat.reduceMul, Nat.reduceLeDiff, Nat.reduceLT, Nat.reduceMod, Nat.reduceDiv, Int.reduceToNat, Nat.min_eq_left, IntKind.bits, Int.reducePow, Int.reduceLT, Int.reduceLE, Int.reduceEq, Int.reduceNe, Int.reduceAdd, Int.reduceSub, and_self, reduceCtorEq, decide_eq_true_eq, decide_eq_false_iff_not, eq_self, implies_true, exists_const, Option.isNone_some, Option.isNone_none, Option.isSome_some, Option.isSome_none, Option.getD_some]
  refine vc_loop2 (fun vl vi h' => ∃ i : Nat, vi = .int .i64 (i : Int) ∧ i ≤ ls.length ∧ vl = .bool ((ls.take i).any fun x => decide (fitsE x ≠ 0)) ∧ (∀ x ∈ ls.take i, fitsE x ≠ 2) ∧ Ext h h') (fun _ vi _ => ls.length - m1 vi) ?_ ?_
  · simp (disch := omega) only [dm_t, wA, wB, wL, wW, wY, Int.fdiv_eq_ediv_of_nonneg, Int.tdiv_eq_ediv_of_nonneg, Int.tmod_eq_emod_of_nonneg, chk_pos, decT, decF, br_pos, br_neg, wX, ↓reduceIte, Nat.reduceEqDiff, Nat.reduceAdd, Nat.reduceSub, Nat.reduceMul, Nat.reduceLeDiff, Nat.reduceLT, Nat.reduceMod, Nat.reduceDiv, Int.reduceToNat, Nat.min_eq_left, IntKind.bits, Int.reducePow, Int.reduceLT, Int.reduceLE, Int.reduceEq, Int.reduceNe, Int.reduceAdd, Int.reduceSub, and_self, reduceCtorEq, decide_eq_true_eq, decide_eq_false_iff_not, eq_self, implies_true, exists_const, Option.isNone_some, Option.isNone_none, Option.isSome_some, Option.isSome_none, Option.getD_some]
    exact ⟨0, rfl, by omega, by simp, by simp, Ext.refl h⟩
  rintro _ _ h1 ⟨i, rfl, hi, rfl, hno, e1⟩
  by_cases hil : i < ls.length
  · have hsplit : ls.take (i + 1) = ls.take i ++ [ls[i]] := by simp
    simp (disch := omega) only [dm_t, wA, wB, wL, wW, wY, Int.fdiv_eq_ediv_of_nonneg, Int.tdiv_eq_ediv_of_nonneg, Int.tmod_eq_emod_of_nonneg, chk_pos, decT, decF, br_pos, br_neg, wX, ↓reduceIte, Nat.reduceEqDiff, Nat.reduceAdd, Nat.reduceSub, Nat.reduceMul, Nat.reduceLeDiff, Nat.reduceLT, Nat.reduceMod, Nat.reduceDiv, Int.reduceToNat, Nat.min_eq_left, IntKind.bits, Int.reducePow, Int.reduceLT, Int.reduceLE, Int.reduceEq, Int.reduceNe, Int.reduceAdd, Int.reduceSub, and_self, reduceCtorEq, decide_eq_true_eq, decide_eq_false_iff_not, eq_self, implies_true, exists_const, Option.isNone_some, Option.isNone_none, Option.isSome_some, Option.isSome_none, Option.getD_some]
    refine (hs.ext e1).at1 (by rfl) i rfl hil ?_
    intro pb po w g1 g2
    have g2' : RepL S rc h1 w ls[i] := g2
    obtain ⟨wa, wc, rfl⟩ := g2'.len
    simp (disch := omega) only [dm_t, wA, wB, wL, wW, wY, Int.fdiv_eq_ediv_of_nonneg, Int.tdiv_eq_ediv_of_nonneg, Int.tmod_eq_emod_of_nonneg, chk_pos, decT, decF, br_pos, br_neg, wX, ↓reduceIte, Nat.reduceEqDiff, Nat.reduceAdd, Nat.reduceSub, Nat.reduceMul, Nat.reduceLeDiff, Nat.reduceLT, Nat.reduceMod, Nat.reduceDiv, Int.reduceToNat, Nat.min_eq_left, IntKind.bits, Int.reducePow, Int.reduceLT, Int.reduceLE, Int.reduceEq, Int.reduceNe, Int.reduceAdd, Int.reduceSub, and_self, reduceCtorEq, decide_eq_true_eq, decide_eq_false_iff_not, eq_self, implies_true, exists_const, Option.isNone_some, Option.isNone_none, Option.isSome_some, Option.isSome_none, Option.getD_some, g1]
    refine (Fits_ok g2' (by have := hx _ (List.getElem_mem hil); omega)).k ?_
    rintro _ h2 ⟨rfl, e2⟩
    simp (disch := omega) only [dm_t, wA, wB, wL, wW, wY, Int.fdiv_eq_ediv_of_nonneg, Int.tdiv_eq_ediv_of_nonneg, Int.tmod_eq_emod_of_nonneg, chk_pos, decT, decF, br_pos, br_neg, wX, ↓reduceIte, Nat.reduceEqDiff, Nat.reduceAdd, Nat.reduceSub, Nat.reduceMul, Nat.reduceLeDiff, Nat.reduceLT, Nat.reduceMod, Nat.reduceDiv, Int.reduceToNat, Nat.min_eq_left, IntKind.bits, Int.reducePow, Int.reduceLT, Int.reduceLE, Int.reduceEq, Int.reduceNe, Int.reduceAdd, Int.reduceSub, and_self, reduceCtorEq, decide_eq_true_eq, decide_eq_false_iff_not, eq_self, implies_true, exists_const, Option.isNone_some, Option.isNone_none, Option.isSome_some, Option.isSome_none, Option.getD_some]
    have e3 := e1.trans e2
    rcases fitsE_vals ls[i] with hf | hf | hf
    · rw [hf]
      simp (disch := omega) only [dm_t, wA, wB, wL, wW, wY, Int.fdiv_eq_ediv_of_nonneg, Int.tdiv_eq_ediv_of_nonneg, Int.tmod_eq_emod_of_nonneg, chk_pos, decT, decF, br_pos, br_neg, wX, ↓reduceIte, Nat.reduceEqDiff, Nat.reduceAdd, Nat.reduceSub, Nat.reduceMul, Nat.reduceLeDiff, Nat.reduceLT, Nat.reduceMod, Nat.reduceDiv, Int.reduceToNat, Nat.min_eq_left, IntKind.bits, Int.reducePow, Int.reduceLT, Int.reduceLE, Int.reduceEq, Int.reduceNe, Int.reduceAdd, Int.reduceSub, and_self, reduceCtorEq, decide_eq_true_eq, decide_eq_false_iff_not, eq_self, implies_true, exists_const, Option.isNone_some, Option.isNone_none, Option.isSome_some, Option.isSome_none, Option.getD_some]
      by_cases hany : ((ls.take i).any fun x => decide (fitsE x ≠ 0)) = true
      · simp (disch := omega) only [dm_t, wA, wB, wL, wW, wY, Int.fdiv_eq_ediv_of_nonneg, Int.tdiv_eq_ediv_of_nonneg, Int.tmod_eq_emod_of_nonneg, chk_pos, decT, decF, br_pos, br_neg, wX, ↓reduceIte, Nat.reduceEqDiff, Nat.reduceAdd, Nat.reduceSub, Nat.reduceMul, Nat.reduceLeDiff, Nat.reduceLT, Nat.reduceMod, Nat.reduceDiv, Int.reduceToNat, Nat.min_eq_left, IntKind.bits, Int.reducePow, Int.reduceLT, Int.reduceLE, Int.reduceEq, Int.reduceNe, Int.reduceAdd, Int.reduceSub, and_self, reduceCtorEq, decide_eq_true_eq, decide_eq_false_iff_not, eq_self, implies_true, exists_const, Option.isNone_some, Option.isNone_none, Option.isSome_some, Option.isSome_none, Option.getD_some, hany]
        refine ⟨⟨i + 1, by simp, by omega, ?_, ?_, e3⟩, by simp [m1]; omega⟩
        · rw [hsplit, List.any_append, hany]; rfl
        · rw [hsplit]; intro x hx; rcases List.mem_append.1 hx with hx | hx
          · exact hno x hx
          · simp at hx; subst hx; rw [hf]; decide
      · have hany' : ((ls.take i).any fun x => decide (fitsE x ≠ 0)) = false := by simpa using hany
        simp (disch := omega) only [dm_t, wA, wB, wL, wW, wY, Int.fdiv_eq_ediv_of_nonneg, Int.tdiv_eq_ediv_of_nonneg, Int.tmod_eq_emod_of_nonneg, chk_pos, decT, decF, br_pos, br_neg, wX, ↓reduceIte, Nat.reduceEqDiff, Nat.reduceAdd, Nat.reduceSub, Nat.reduceMul, Nat.reduceLeDiff, Nat.reduceLT, Nat.reduceMod, Nat.reduceDiv, Int.reduceToNat, Nat.min_eq_left, IntKind.bits, Int.reducePow, Int.reduceLT, Int.reduceLE, Int.reduceEq, Int.reduceNe, Int.reduceAdd, Int.reduceSub, and_self, reduceCtorEq, decide_eq_true_eq, decide_eq_false_iff_not, eq_self, implies_true, exists_const, Option.isNone_some, Option.isNone_none, Option.isSome_some, Option.isSome_none, Option.getD_some, hany']
        refine ⟨⟨i + 1, by simp, by omega, ?_, ?_, e3⟩, by simp [m1]; omega⟩
        · rw [hsplit, List.any_append, hany']; simp [hf]
        · rw [hsplit]; intro x hx; rcases List.mem_append.1 hx with hx | hx
          · exact hno x hx
          · simp at hx; subst hx; rw [hf]; decide
    · rw [hf]
      simp (disch := omega) only [dm_t, wA, wB, wL, wW, wY, Int.fdiv_eq_ediv_of_nonneg, Int.tdiv_eq_ediv_of_nonneg, Int.tmod_eq_emod_of_nonneg, chk_pos, decT, decF, br_pos, br_neg, wX, ↓reduceIte, Nat.reduceEqDiff, Nat.reduceAdd, Nat.reduceSub, Nat.reduceMul, Nat.reduceLeDiff, Nat.reduceLT, Nat.reduceMod, Nat.reduceDiv, Int.reduceToNat, Nat.min_eq_left, IntKind.bits, Int.reducePow, Int.reduceLT, Int.reduceLE, Int.reduceEq, Int.reduceNe, Int.reduceAdd, Int.reduceSub, and_self, reduceCtorEq, decide_eq_true_eq, decide_eq_false_iff_not, eq_self, implies_true, exists_const, Option.isNone_some, Option.isNone_none, Option.isSome_some, Option.isSome_none, Option.getD_some]
      refine ⟨?_, e3⟩
      rw [chkE, if_pos]
      simp only [List.any_eq_true, decide_eq_true_eq]
      exact ⟨_, List.getElem_mem hil, hf⟩
    · rw [hf]
      simp (disch := omega) only [dm_t, wA, wB, wL, wW, wY, Int.fdiv_eq_ediv_of_nonneg, Int.tdiv_eq_ediv_of_nonneg, Int.tmod_eq_emod_of_nonneg, chk_pos, decT, decF, br_pos, br_neg, wX, ↓reduceIte, Nat.reduceEqDiff, Nat.reduceAdd, Nat.reduceSub, Nat.reduceMul, Nat.reduceLeDiff, Nat.reduceLT, Nat.reduceMod, Nat.reduceDiv, Int.reduceToNat, Nat.min_eq_left, IntKind.bits, Int.reducePow, Int.reduceLT, Int.reduceLE, Int.reduceEq, Int.reduceNe, Int.reduceAdd, Int.reduceSub, and_self, reduceCtorEq, decide_eq_true_eq, decide_eq_false_iff_not, eq_self, implies_true, exists_const, Option.isNone_some, Option.isNone_none, Option.isSome_some, Option.isSome_none, Option.getD_some]
      by_cases hany : ((ls.take i).any fun x => decide (fitsE x ≠ 0)) = true
      · simp (disch := omega) only [dm_t, wA, wB, wL, wW, wY, Int.fdiv_eq_ediv_of_nonneg, Int.tdiv_eq_ediv_of_nonneg, Int.tmod_eq_emod_of_nonneg, chk_pos, decT, decF, br_pos, br_neg, wX, ↓reduceIte, Nat.reduceEqDiff, Nat.reduceAdd, Nat.reduceSub, Nat.reduceMul, Nat.reduceLeDiff, Nat.reduceLT, Nat.reduceMod, Nat.reduceDiv, Int.reduceToNat, Nat.min_eq_left, IntKind.bits, Int.reducePow, Int.reduceLT, Int.reduceLE, Int.reduceEq, Int.reduceNe, Int.reduceAdd, Int.reduceSub, and_self, reduceCtorEq, decide_eq_true_eq, decide_eq_false_iff_not, eq_self, implies_true, exists_const, Option.isNone_some, Option.isNone_none, Option.isSome_some, Option.isSome_none, Option.getD_some, hany]
        refine ⟨⟨i + 1, by simp, by omega, ?_, ?_, e3⟩, by simp [m1]; omega⟩
        · rw [hsplit, List.any_append, hany]; rfl
        · rw [hsplit]; intro x hx; rcases List.mem_append.1 hx with hx | hx
          · exact hno x hx
          · simp at hx; subst hx; rw [hf]; decide
      · have hany' : ((ls.take i).any fun x => decide (fitsE x ≠ 0)) = false := by simpa using hany
        simp (disch := omega) only [dm_t, wA, wB, wL, wW, wY, Int.fdiv_eq_ediv_of_nonneg, Int.tdiv_eq_ediv_of_nonneg, Int.tmod_eq_emod_of_nonneg, chk_pos, decT, decF, br_pos, br_neg, wX, ↓reduceIte, Nat.reduceEqDiff, Nat.reduceAdd, Nat.reduceSub, Nat.reduceMul, Nat.reduceLeDiff, Nat.reduceLT, Nat.reduceMod, Nat.reduceDiv, Int.reduceToNat, Nat.min_eq_left, IntKind.bits, Int.reducePow, Int.reduceLT, Int.reduceLE, Int.reduceEq, Int.reduceNe, Int.reduceAdd, Int.reduceSub, and_self, reduceCtorEq, decide_eq_true_eq, decide_eq_false_iff_not, eq_self, implies_true, exists_const, Option.isNone_some, Option.isNone_none, Option.isSome_some, Option.isSome_none, Option.getD_some, hany']
        refine ⟨⟨i + 1, by simp, by omega, ?_, ?_, e3⟩, by simp [m1]; omega⟩
        · rw [hsplit, List.any_append, hany']; simp [hf]
        · rw [hsplit]; intro x hx; rcases List.mem_append.1 hx with hx | hx
          · exact hno x hx
          · simp at hx; subst hx; rw [hf]; decide
  · obtain rfl : i = ls.length := by omega
    rw [List.take_of_length_le (by omega)] at hno ⊢
    have h2 : ¬ (ls.any fun x => decide (fitsE x = 2)) = true := by
      simp only [Bool.not_eq_true, List.any_eq_false, decide_eq_true_eq]
      exact hno
    have hE : chkE ls = if 256 < ls.length then 3 else if (ls.any fun x => decide (fitsE x ≠ 0)) = true then 8 else 0 := by rw [chkE, if_neg h2]
    by_cases h3 : 256 < ls.length
    · simp (disch := omega) only [dm_t, wA, wB, wL, wW, wY, Int.fdiv_eq_ediv_of_nonneg, Int.tdiv_eq_ediv_of_nonneg, Int.tmod_eq_emod_of_nonneg, chk_pos, decT, decF, br_pos, br_neg, wX, ↓reduceIte, Nat.reduceEqDiff, Nat.reduceAdd, Nat.reduceSub, Nat.reduceMul, Nat.reduceLeDiff, Nat.reduceLT, Nat.reduceMod, Nat.reduceDiv, Int.reduceToNat, Nat.min_eq_left, IntKind.bits, Int.reducePow, Int.reduceLT, Int.reduceLE, Int.reduceEq, Int.reduceNe, Int.reduceAdd, Int.reduceSub, and_self, reduceCtorEq, decide_eq_true_eq, decide_eq_false_iff_not, eq_self, implies_true, exists_const, Option.isNone_some, Option.isNone_none, Option.isSome_some, Option.isSome_none, Option.getD_some]
      refine ⟨by rw [hE, if_pos h3], e1⟩
    · by_cases hany : (ls.any fun x => decide (fitsE x ≠ 0)) = true
      · simp (disch := omega) only [dm_t, wA, wB, wL, wW, wY, Int.fdiv_eq_ediv_of_nonneg, Int.tdiv_eq_ediv_of_nonneg, Int.tmod_eq_emod_of_nonneg, chk_pos, decT, decF, br_pos, br_neg, wX, ↓reduceIte, Nat.reduceEqDiff, Nat.reduceAdd, Nat.reduceSub, Nat.reduceMul, Nat.reduceLeDiff, Nat.reduceLT, Nat.reduceMod, Nat.reduceDiv, Int.reduceToNat, Nat.min_eq_left, IntKind.bits, Int.reducePow, Int.reduceLT, Int.reduceLE, Int.reduceEq, Int.reduceNe, Int.reduceAdd, Int.reduceSub, and_self, reduceCtorEq, decide_eq_true_eq, decide_eq_false_iff_not, eq_self, implies_true, exists_const, Option.isNone_some, Option.isNone_none, Option.isSome_some, Option.isSome_none, Option.getD_some, hany]
        refine ⟨by rw [hE, if_neg h3, if_pos hany], e1⟩
      · have hany' : (ls.any fun x => decide (fitsE x ≠ 0)) = false := by simpa using hany
        simp (disch := omega) only [dm_t, wA, wB, wL, wW, wY, Int.fdiv_eq_ediv_of_nonneg, Int.tdiv_eq_ediv_of_nonneg, Int.tmod_eq_emod_of_nonneg, chk_pos, decT, decF, br_pos, br_neg, wX, ↓reduceIte, Nat.reduceEqDiff, Nat.reduceAdd, Nat.reduceSub, Nat.reduceMul, Nat.reduceLeDiff, Nat.reduceLT, Nat.reduceMod, Nat.reduceDiv, Int.reduceToNat, Nat.min_eq_left, IntKind.bits, Int.reducePow, Int.reduceLT, Int.reduceLE, Int.reduceEq, Int.reduceNe, Int.reduceAdd, Int.reduceSub, and_self, reduceCtorEq, decide_eq_true_eq, decide_eq_false_iff_not, eq_self, implies_true, exists_const, Option.isNone_some, Option.isNone_none, Option.isSome_some, Option.isSome_none, Option.getD_some, hany']
        refine ⟨by rw [hE, if_neg h3, if_neg hany], e1⟩
theorem count_ok {S : Nat → Prop} {h : H} {s : Value} {ls : List rcs.D} (take : Int) (hs : RepL S rcs h s ls) (hl : ls.length ≤ 1000000) (hf : ∀ x ∈ ls, fitsE x = 0) : Ok Try.prog 39 #[.int .i64 take, s] h fun v h' => v = .int .i64 (cnt take ls : Nat) ∧ Ext h h' := by
  obtain ⟨sa, sc, rfl⟩ := hs.len
  refine c39_ok (args := [_, _]) (by simp) ?_
  simp (disch := omega) only [dm_t, wA, wB, wL, wW, wY, Int.fdiv_eq_ediv_of_nonneg, Int.tdiv_eq_ediv_of_nonneg, Int.tmod_eq_emod_of_nonneg, chk_pos, decT, decF, br_pos, br_neg, wX, ↓reduceIte, Nat.reduceEqDiff, Nat.reduceAdd, Nat.reduceSub, Nat.reduceMul, Nat.reduceLeDiff, Nat.reduceLT, Nat.reduceMod, Nat.reduceDiv, Int.reduceToNat, Nat.min_eq_left, IntKind.bits, Int.reducePow, Int.reduceLT, Int.reduceLE, Int.reduceEq, Int.reduceNe, Int.reduceAdd, Int.reduceSub, and_self, reduceCtorEq, decide_eq_true_eq, decide_eq_false_iff_not, eq_self, implies_true, exists_const, Option.isNone_some, Option.isNone_none, Option.isSome_some, Option.isSome_none, Option.getD_some]
  refine vc_loop4 (fun vn vr vb vi h' => ∃ i r b : Nat, vi = .int .i64 (i : Int) ∧ vn = .int .i64 (i : Int) ∧ vr = .int .i64 (r : Int) ∧ vb = .int .i64 (b : Int) ∧ i ≤ ls.length ∧ r ≤ 256 ∧ b ≤ 65536 ∧ cntG take i r b (ls.drop i) = cnt take ls ∧ Ext h h') (fun _ _ _ vi _ => ls.length - m1 vi) ?_ ?_
  · simp (disch := omega) only [dm_t, wA, wB, wL, wW, wY, Int.fdiv_eq_ediv_of_nonneg, Int.tdiv_eq_ediv_of_nonneg, Int.tmod_eq_emod_of_nonneg, chk_pos, decT, decF, br_pos, br_neg, wX, ↓reduceIte, Nat.reduceEqDiff, Nat.reduceAdd, Nat.reduceSub, Nat.reduceMul, Nat.reduceLeDiff, Nat.reduceLT, Nat.reduceMod, Nat.reduceDiv, Int.reduceToNat, Nat.min_eq_left, IntKind.bits, Int.reducePow, Int.reduceLT, Int.reduceLE, Int.reduceEq, Int.reduceNe, Int.reduceAdd, Int.reduceSub, and_self, reduceCtorEq, decide_eq_true_eq, decide_eq_false_iff_not, eq_self, implies_true, exists_const, Option.isNone_some, Option.isNone_none, Option.isSome_some, Option.isSome_none, Option.getD_some]
    exact ⟨0, 0, 20, rfl, rfl, rfl, rfl, by omega, by omega, by omega, rfl, Ext.refl h⟩
  rintro _ _ _ _ h1 ⟨i, r, b, rfl, rfl, rfl, rfl, hi, hr, hb, hc, e1⟩
  by_cases hil : i < ls.length
  · obtain ⟨f1, f2, f3, f4⟩ := fits0 (hf _ (List.getElem_mem hil))
    have hfE := hf _ (List.getElem_mem hil)
    rw [List.drop_eq_getElem_cons hil, cntG] at hc
    simp (disch := omega) only [dm_t, wA, wB, wL, wW, wY, Int.fdiv_eq_ediv_of_nonneg, Int.tdiv_eq_ediv_of_nonneg, Int.tmod_eq_emod_of_nonneg, chk_pos, decT, decF, br_pos, br_neg, wX, ↓reduceIte, Nat.reduceEqDiff, Nat.reduceAdd, Nat.reduceSub, Nat.reduceMul, Nat.reduceLeDiff, Nat.reduceLT, Nat.reduceMod, Nat.reduceDiv, Int.reduceToNat, Nat.min_eq_left, IntKind.bits, Int.reducePow, Int.reduceLT, Int.reduceLE, Int.reduceEq, Int.reduceNe, Int.reduceAdd, Int.reduceSub, and_self, reduceCtorEq, decide_eq_true_eq, decide_eq_false_iff_not, eq_self, implies_true, exists_const, Option.isNone_some, Option.isNone_none, Option.isSome_some, Option.isSome_none, Option.getD_some]
    refine (hs.ext e1).at1 (by rfl) i rfl hil ?_
    intro pb po w g1 g2
    have g2' : RepL S rc h1 w ls[i] := g2
    obtain ⟨wa, wc, rfl⟩ := g2'.len
    simp (disch := omega) only [dm_t, wA, wB, wL, wW, wY, Int.fdiv_eq_ediv_of_nonneg, Int.tdiv_eq_ediv_of_nonneg, Int.tmod_eq_emod_of_nonneg, chk_pos, decT, decF, br_pos, br_neg, wX, ↓reduceIte, Nat.reduceEqDiff, Nat.reduceAdd, Nat.reduceSub, Nat.reduceMul, Nat.reduceLeDiff, Nat.reduceLT, Nat.reduceMod, Nat.reduceDiv, Int.reduceToNat, Nat.min_eq_left, IntKind.bits, Int.reducePow, Int.reduceLT, Int.reduceLE, Int.reduceEq, Int.reduceNe, Int.reduceAdd, Int.reduceSub, and_self, reduceCtorEq, decide_eq_true_eq, decide_eq_false_iff_not, eq_self, implies_true, exists_const, Option.isNone_some, Option.isNone_none, Option.isSome_some, Option.isSome_none, Option.getD_some, g1]
    refine (Fits_ok g2' (by omega)).k ?_
    rintro _ h2 ⟨rfl, e2⟩
    have e3 := e1.trans e2
    have hN : fitsN ls[i] = ((20 + sizes ls[i] : Nat) : Int) := by rw [fitsN, if_pos hfE]
    rw [hN]
    by_cases c1 : (i : Int) = take
    · simp (disch := omega) only [dm_t, wA, wB, wL, wW, wY, Int.fdiv_eq_ediv_of_nonneg, Int.tdiv_eq_ediv_of_nonneg, Int.tmod_eq_emod_of_nonneg, chk_pos, decT, decF, br_pos, br_neg, wX, ↓reduceIte, Nat.reduceEqDiff, Nat.reduceAdd, Nat.reduceSub, Nat.reduceMul, Nat.reduceLeDiff, Nat.reduceLT, Nat.reduceMod, Nat.reduceDiv, Int.reduceToNat, Nat.min_eq_left, IntKind.bits, Int.reducePow, Int.reduceLT, Int.reduceLE, Int.reduceEq, Int.reduceNe, Int.reduceAdd, Int.reduceSub, and_self, reduceCtorEq, decide_eq_true_eq, decide_eq_false_iff_not, eq_self, implies_true, exists_const, Option.isNone_some, Option.isNone_none, Option.isSome_some, Option.isSome_none, Option.getD_some]
      rw [if_pos c1] at hc
      exact ⟨by rw [← hc], e3⟩
    rw [if_neg c1] at hc
    by_cases c2 : 256 < r + (ls[i]).length
    · simp (disch := omega) only [dm_t, wA, wB, wL, wW, wY, Int.fdiv_eq_ediv_of_nonneg, Int.tdiv_eq_ediv_of_nonneg, Int.tmod_eq_emod_of_nonneg, chk_pos, decT, decF, br_pos, br_neg, wX, ↓reduceIte, Nat.reduceEqDiff, Nat.reduceAdd, Nat.reduceSub, Nat.reduceMul, Nat.reduceLeDiff, Nat.reduceLT, Nat.reduceMod, Nat.reduceDiv, Int.reduceToNat, Nat.min_eq_left, IntKind.bits, Int.reducePow, Int.reduceLT, Int.reduceLE, Int.reduceEq, Int.reduceNe, Int.reduceAdd, Int.reduceSub, and_self, reduceCtorEq, decide_eq_true_eq, decide_eq_false_iff_not, eq_self, implies_true, exists_const, Option.isNone_some, Option.isNone_none, Option.isSome_some, Option.isSome_none, Option.getD_some]
      rw [if_pos c2] at hc
      exact ⟨by rw [← hc], e3⟩
    rw [if_neg c2] at hc
    by_cases c3 : 65536 < b + sizes ls[i]
    · simp (disch := omega) only [dm_t, wA, wB, wL, wW, wY, Int.fdiv_eq_ediv_of_nonneg, Int.tdiv_eq_ediv_of_nonneg, Int.tmod_eq_emod_of_nonneg, chk_pos, decT, decF, br_pos, br_neg, wX, ↓reduceIte, Nat.reduceEqDiff, Nat.reduceAdd, Nat.reduceSub, Nat.reduceMul, Nat.reduceLeDiff, Nat.reduceLT, Nat.reduceMod, Nat.reduceDiv, Int.reduceToNat, Nat.min_eq_left, IntKind.bits, Int.reducePow, Int.reduceLT, Int.reduceLE, Int.reduceEq, Int.reduceNe, Int.reduceAdd, Int.reduceSub, and_self, reduceCtorEq, decide_eq_true_eq, decide_eq_false_iff_not, eq_self, implies_true, exists_const, Option.isNone_some, Option.isNone_none, Option.isSome_some, Option.isSome_none, Option.getD_some]
      rw [if_pos c3] at hc
      exact ⟨by rw [← hc], e3⟩
    rw [if_neg c3] at hc
    simp (disch := omega) only [dm_t, wA, wB, wL, wW, wY, Int.fdiv_eq_ediv_of_nonneg, Int.tdiv_eq_ediv_of_nonneg, Int.tmod_eq_emod_of_nonneg, chk_pos, decT, decF, br_pos, br_neg, wX, ↓reduceIte, Nat.reduceEqDiff, Nat.reduceAdd, Nat.reduceSub, Nat.reduceMul, Nat.reduceLeDiff, Nat.reduceLT, Nat.reduceMod, Nat.reduceDiv, Int.reduceToNat, Nat.min_eq_left, IntKind.bits, Int.reducePow, Int.reduceLT, Int.reduceLE, Int.reduceEq, Int.reduceNe, Int.reduceAdd, Int.reduceSub, and_self, reduceCtorEq, decide_eq_true_eq, decide_eq_false_iff_not, eq_self, implies_true, exists_const, Option.isNone_some, Option.isNone_none, Option.isSome_some, Option.isSome_none, Option.getD_some]
    refine ⟨⟨i + 1, r + (ls[i]).length, b + sizes ls[i], by simp, by simp, by simp, ?_, by omega, by omega, by omega, hc, e3⟩, by simp [m1]; omega⟩
    simp; omega
  · obtain rfl : i = ls.length := by omega
    rw [List.drop_eq_nil_of_le (by omega), cntG] at hc
    simp (disch := omega) only [dm_t, wA, wB, wL, wW, wY, Int.fdiv_eq_ediv_of_nonneg, Int.tdiv_eq_ediv_of_nonneg, Int.tmod_eq_emod_of_nonneg, chk_pos, decT, decF, br_pos, br_neg, wX, ↓reduceIte, Nat.reduceEqDiff, Nat.reduceAdd, Nat.reduceSub, Nat.reduceMul, Nat.reduceLeDiff, Nat.reduceLT, Nat.reduceMod, Nat.reduceDiv, Int.reduceToNat, Nat.min_eq_left, IntKind.bits, Int.reducePow, Int.reduceLT, Int.reduceLE, Int.reduceEq, Int.reduceNe, Int.reduceAdd, Int.reduceSub, and_self, reduceCtorEq, decide_eq_true_eq, decide_eq_false_iff_not, eq_self, implies_true, exists_const, Option.isNone_some, Option.isNone_none, Option.isSome_some, Option.isSome_none, Option.getD_some]
    exact ⟨by rw [← hc], e1⟩
theorem Count_ok {S : Nat → Prop} {h : H} {s : Value} {ls : List rcs.D} (take : Int) (hs : RepL S rcs h s ls) (hl : ls.length ≤ 1000000) (hx : ∀ x ∈ ls, x.length ≤ 1000000) :
    Ok Try.prog 11 #[.int .i64 take, s] h fun v h' => v = (if take < 1 then .tuple #[.int .i64 0, .int .i64 2] else if chkE ls ≠ 0 then .tuple #[.int .i64 0, .int .i64 (chkE ls)] else .tuple #[.int .i64 (cnt take ls : Nat), .int .i64 0]) ∧ Ext h h' := by
  refine c11_ok (args := [_, _]) (by simp) ?_
  by_cases ht : take < 1
  · simp (disch := omega) only [dm_t, wA, wB, wL, wW, wY, Int.fdiv_eq_ediv_of_nonneg, Int.tdiv_eq_ediv_of_nonneg, Int.tmod_eq_emod_of_nonneg, chk_pos, decT, decF, br_pos, br_neg, wX, ↓reduceIte, Nat.reduceEqDiff, Nat.reduceAdd, Nat.reduceSub, Nat.reduceMul, Nat.reduceLeDiff, Nat.reduceLT, Nat.reduceMod, Nat.reduceDiv, Int.reduceToNat, Nat.min_eq_left, IntKind.bits, Int.reducePow, Int.reduceLT, Int.reduceLE, Int.reduceEq, Int.reduceNe, Int.reduceAdd, Int.reduceSub, and_self, reduceCtorEq, decide_eq_true_eq, decide_eq_false_iff_not, eq_self, implies_true, exists_const, Option.isNone_some, Option.isNone_none, Option.isSome_some, Option.isSome_none, Option.getD_some]
    exact ⟨by rw [if_pos ht], Ext.refl h⟩
  simp (disch := omega) only [dm_t, wA, wB, wL, wW, wY, Int.fdiv_eq_ediv_of_nonneg, Int.tdiv_eq_ediv_of_nonneg, Int.tmod_eq_emod_of_nonneg, chk_pos, decT, decF, br_pos, br_neg, wX, ↓reduceIte, Nat.reduceEqDiff, Nat.reduceAdd, Nat.reduceSub, Nat.reduceMul, Nat.reduceLeDiff, Nat.reduceLT, Nat.reduceMod, Nat.reduceDiv, Int.reduceToNat, Nat.min_eq_left, IntKind.bits, Int.reducePow, Int.reduceLT, Int.reduceLE, Int.reduceEq, Int.reduceNe, Int.reduceAdd, Int.reduceSub, and_self, reduceCtorEq, decide_eq_true_eq, decide_eq_false_iff_not, eq_self, implies_true, exists_const, Option.isNone_some, Option.isNone_none, Option.isSome_some, Option.isSome_none, Option.getD_some]
  refine (check_ok hs hl hx).k ?_
  rintro _ h1 ⟨rfl, e1⟩
  rw [if_neg ht]
  by_cases hc : chkE ls = 0
  · rw [hc]
    simp (disch := omega) only [dm_t, wA, wB, wL, wW, wY, Int.fdiv_eq_ediv_of_nonneg, Int.tdiv_eq_ediv_of_nonneg, Int.tmod_eq_emod_of_nonneg, chk_pos, decT, decF, br_pos, br_neg, wX, ↓reduceIte, Nat.reduceEqDiff, Nat.reduceAdd, Nat.reduceSub, Nat.reduceMul, Nat.reduceLeDiff, Nat.reduceLT, Nat.reduceMod, Nat.reduceDiv, Int.reduceToNat, Nat.min_eq_left, IntKind.bits, Int.reducePow, Int.reduceLT, Int.reduceLE, Int.reduceEq, Int.reduceNe, Int.reduceAdd, Int.reduceSub, and_self, reduceCtorEq, decide_eq_true_eq, decide_eq_false_iff_not, eq_self, implies_true, exists_const, Option.isNone_some, Option.isNone_none, Option.isSome_some, Option.isSome_none, Option.getD_some]
    refine (count_ok take (hs.ext e1) hl (chk0 hc).2).k ?_
    rintro _ h2 ⟨rfl, e2⟩
    simp (disch := omega) only [dm_t, wA, wB, wL, wW, wY, Int.fdiv_eq_ediv_of_nonneg, Int.tdiv_eq_ediv_of_nonneg, Int.tmod_eq_emod_of_nonneg, chk_pos, decT, decF, br_pos, br_neg, wX, ↓reduceIte, Nat.reduceEqDiff, Nat.reduceAdd, Nat.reduceSub, Nat.reduceMul, Nat.reduceLeDiff, Nat.reduceLT, Nat.reduceMod, Nat.reduceDiv, Int.reduceToNat, Nat.min_eq_left, IntKind.bits, Int.reducePow, Int.reduceLT, Int.reduceLE, Int.reduceEq, Int.reduceNe, Int.reduceAdd, Int.reduceSub, and_self, reduceCtorEq, decide_eq_true_eq, decide_eq_false_iff_not, eq_self, implies_true, exists_const, Option.isNone_some, Option.isNone_none, Option.isSome_some, Option.isSome_none, Option.getD_some]
    exact e1.trans e2
  · simp (disch := omega) only [dm_t, wA, wB, wL, wW, wY, Int.fdiv_eq_ediv_of_nonneg, Int.tdiv_eq_ediv_of_nonneg, Int.tmod_eq_emod_of_nonneg, chk_pos, decT, decF, br_pos, br_neg, wX, ↓reduceIte, Nat.reduceEqDiff, Nat.reduceAdd, Nat.reduceSub, Nat.reduceMul, Nat.reduceLeDiff, Nat.reduceLT, Nat.reduceMod, Nat.reduceDiv, Int.reduceToNat, Nat.min_eq_left, IntKind.bits, Int.reducePow, Int.reduceLT, Int.reduceLE, Int.reduceEq, Int.reduceNe, Int.reduceAdd, Int.reduceSub, and_self, reduceCtorEq, decide_eq_true_eq, decide_eq_false_iff_not, eq_self, implies_true, exists_const, Option.isNone_some, Option.isNone_none, Option.isSome_some, Option.isSome_none, Option.getD_some]
    exact ⟨by rw [if_pos hc], e1⟩
/-- Numbers in a row, as int. -/
def ints (l : List Nat) : List Value := l.map fun n => .int .i64 (n : Nat)
def PlanR (take : Int) (ls : List rcs.D) (h : H) (v : Value) (h' : H) : Prop :=
  if take < 1 then v = .tuple #[.slice none 0 0, .int .i64 2] else if chkE ls ≠ 0 then v = .tuple #[.slice none 0 0, .int .i64 (chkE ls)] else ∃ w, v = .tuple #[w, .int .i64 0] ∧ O1 (fun y => h y = none) h' 3 w (ints (plan take ls))
theorem Plan_ok {S : Nat → Prop} {h : H} {s : Value} {ls : List rcs.D} (take : Int) (hs : RepL S rcs h s ls) (hl : ls.length ≤ 1000000) (hx : ∀ x ∈ ls, x.length ≤ 1000000) :
    Ok Try.prog 12 #[.int .i64 take, s] h fun v h' => PlanR take ls h v h' ∧ Ext h h' := by
  refine c12_ok (args := [_, _]) (by simp) ?_
  by_cases ht : take < 1
  · simp (disch := omega) only [dm_t, wA, wB, wL, wW, wY, Int.fdiv_eq_ediv_of_nonneg, Int.tdiv_eq_ediv_of_nonneg, Int.tmod_eq_emod_of_nonneg, chk_pos, decT, decF, br_pos, br_neg, wX, ↓reduceIte, Nat.reduceEqDiff, Nat.reduceAdd, Nat.reduceSub, Nat.reduceMul, Nat.reduceLeDiff, Nat.reduceLT, Nat.reduceMod, Nat.reduceDiv, Int.reduceToNat, Nat.min_eq_left, IntKind.bits, Int.reducePow, Int.reduceLT, Int.reduceLE, Int.reduceEq, Int.reduceNe, Int.reduceAdd, Int.reduceSub, and_self, reduceCtorEq, decide_eq_true_eq, decide_eq_false_iff_not, eq_self, implies_true, exists_const, Option.isNone_some, Option.isNone_none, Option.isSome_some, Option.isSome_none, Option.getD_some]
    exact ⟨by rw [PlanR, if_pos ht], Ext.refl h⟩
  simp (disch := omega) only [dm_t, wA, wB, wL, wW, wY, Int.fdiv_eq_ediv_of_nonneg, Int.tdiv_eq_ediv_of_nonneg, Int.tmod_eq_emod_of_nonneg, chk_pos, decT, decF, br_pos, br_neg, wX, ↓reduceIte, Nat.reduceEqDiff, Nat.reduceAdd, Nat.reduceSub, Nat.reduceMul, Nat.reduceLeDiff, Nat.reduceLT, Nat.reduceMod, Nat.reduceDiv, Int.reduceToNat, Nat.min_eq_left, IntKind.bits, Int.reducePow, Int.reduceLT, Int.reduceLE, Int.reduceEq, Int.reduceNe, Int.reduceAdd, Int.reduceSub, and_self, reduceCtorEq, decide_eq_true_eq, decide_eq_false_iff_not, eq_self, implies_true, exists_const, Option.isNone_some, Option.isNone_none, Option.isSome_some, Option.isSome_none, Option.getD_some]
  refine (check_ok hs hl hx).k ?_
  rintro _ h1 ⟨rfl, e1⟩
  by_cases hc : chkE ls = 0
  · rw [hc]
    obtain ⟨hl2, hf⟩ := chk0 hc
    simp (disch := omega) only [dm_t, wA, wB, wL, wW, wY, Int.fdiv_eq_ediv_of_nonneg, Int.tdiv_eq_ediv_of_nonneg, Int.tmod_eq_emod_of_nonneg, chk_pos, decT, decF, br_pos, br_neg, wX, ↓reduceIte, Nat.reduceEqDiff, Nat.reduceAdd, Nat.reduceSub, Nat.reduceMul, Nat.reduceLeDiff, Nat.reduceLT, Nat.reduceMod, Nat.reduceDiv, Int.reduceToNat, Nat.min_eq_left, IntKind.bits, Int.reducePow, Int.reduceLT, Int.reduceLE, Int.reduceEq, Int.reduceNe, Int.reduceAdd, Int.reduceSub, and_self, reduceCtorEq, decide_eq_true_eq, decide_eq_false_iff_not, eq_self, implies_true, exists_const, Option.isNone_some, Option.isNone_none, Option.isSome_some, Option.isSome_none, Option.getD_some]
    refine vc_loop2 (fun vs vo h' => ∃ (k : Nat) (done : List Nat), k ≤ ls.length ∧ RepL (fun y => h y = none) rcs h' vs (ls.drop k) ∧ O1 (fun y => h y = none) h' 3 vo (ints done) ∧ done.length ≤ k ∧ done ++ plan take (ls.drop k) = plan take ls ∧ Ext h h') (fun vs _ _ => mlen vs) ?_ ?_
    · simp (disch := omega) only [dm_t, wA, wB, wL, wW, wY, Int.fdiv_eq_ediv_of_nonneg, Int.tdiv_eq_ediv_of_nonneg, Int.tmod_eq_emod_of_nonneg, chk_pos, decT, decF, br_pos, br_neg, wX, ↓reduceIte, Nat.reduceEqDiff, Nat.reduceAdd, Nat.reduceSub, Nat.reduceMul, Nat.reduceLeDiff, Nat.reduceLT, Nat.reduceMod, Nat.reduceDiv, Int.reduceToNat, Nat.min_eq_left, IntKind.bits, Int.reducePow, Int.reduceLT, Int.reduceLE, Int.reduceEq, Int.reduceNe, Int.reduceAdd, Int.reduceSub, and_self, reduceCtorEq, decide_eq_true_eq, decide_eq_false_iff_not, eq_self, implies_true, exists_const, Option.isNone_some, Option.isNone_none, Option.isSome_some, Option.isSome_none, Option.getD_some]
      exact ⟨0, [], by omega, hs.fresh.ext e1, OwK.nil, by simp, by simp, e1⟩
    rintro vs vo h2 ⟨k, done, hk, hs2, ho, hdk, hpl, e2⟩
    obtain ⟨sa, sc, rfl⟩ := hs2.len
    obtain ⟨oa, oc, rfl⟩ := ho.s0.len
    by_cases hn : ls.drop k = []
    · rw [hn] at hpl hs2 ⊢
      simp (disch := omega) only [dm_t, wA, wB, wL, wW, wY, Int.fdiv_eq_ediv_of_nonneg, Int.tdiv_eq_ediv_of_nonneg, Int.tmod_eq_emod_of_nonneg, chk_pos, decT, decF, br_pos, br_neg, wX, ↓reduceIte, Nat.reduceEqDiff, Nat.reduceAdd, Nat.reduceSub, Nat.reduceMul, Nat.reduceLeDiff, Nat.reduceLT, Nat.reduceMod, Nat.reduceDiv, Int.reduceToNat, Nat.min_eq_left, IntKind.bits, Int.reducePow, Int.reduceLT, Int.reduceLE, Int.reduceEq, Int.reduceNe, Int.reduceAdd, Int.reduceSub, and_self, reduceCtorEq, decide_eq_true_eq, decide_eq_false_iff_not, eq_self, implies_true, exists_const, Option.isNone_some, Option.isNone_none, Option.isSome_some, Option.isSome_none, Option.getD_some, List.length_nil]
      refine ⟨?_, e2⟩
      rw [PlanR, if_neg ht, if_neg (by simp [hc])]
      have hp0 : plan take [] = [] := rfl
      rw [hp0, List.append_nil] at hpl
      rw [← hpl]
      exact ⟨_, rfl, ho⟩
    · have hpos : 0 < (ls.drop k).length := List.length_pos_iff.2 hn
      have hcap := hs2.len
      have hfk : ∀ x ∈ ls.drop k, fitsE x = 0 := fun x hx => hf x (List.mem_of_mem_drop hx)
      have hc1 := cnt_pos (take := take) (by omega) hn hfk
      have hc2 := cnt_le take (ls.drop k)
      have hdl : (ls.drop k).length = ls.length - k := by simp
      rw [plan_cons (by omega) hn hfk] at hpl
      simp (disch := omega) only [dm_t, wA, wB, wL, wW, wY, Int.fdiv_eq_ediv_of_nonneg, Int.tdiv_eq_ediv_of_nonneg, Int.tmod_eq_emod_of_nonneg, chk_pos, decT, decF, br_pos, br_neg, wX, ↓reduceIte, Nat.reduceEqDiff, Nat.reduceAdd, Nat.reduceSub, Nat.reduceMul, Nat.reduceLeDiff, Nat.reduceLT, Nat.reduceMod, Nat.reduceDiv, Int.reduceToNat, Nat.min_eq_left, IntKind.bits, Int.reducePow, Int.reduceLT, Int.reduceLE, Int.reduceEq, Int.reduceNe, Int.reduceAdd, Int.reduceSub, and_self, reduceCtorEq, decide_eq_true_eq, decide_eq_false_iff_not, eq_self, implies_true, exists_const, Option.isNone_some, Option.isNone_none, Option.isSome_some, Option.isSome_none, Option.getD_some]
      refine (count_ok take hs2 (by omega) hfk).k ?_
      rintro _ h3 ⟨rfl, e3⟩
      have e4 := e2.trans e3
      simp (disch := omega) only [dm_t, wA, wB, wL, wW, wY, Int.fdiv_eq_ediv_of_nonneg, Int.tdiv_eq_ediv_of_nonneg, Int.tmod_eq_emod_of_nonneg, chk_pos, decT, decF, br_pos, br_neg, wX, ↓reduceIte, Nat.reduceEqDiff, Nat.reduceAdd, Nat.reduceSub, Nat.reduceMul, Nat.reduceLeDiff, Nat.reduceLT, Nat.reduceMod, Nat.reduceDiv, Int.reduceToNat, Nat.min_eq_left, IntKind.bits, Int.reducePow, Int.reduceLT, Int.reduceLE, Int.reduceEq, Int.reduceNe, Int.reduceAdd, Int.reduceSub, and_self, reduceCtorEq, decide_eq_true_eq, decide_eq_false_iff_not, eq_self, implies_true, exists_const, Option.isNone_some, Option.isNone_none, Option.isSome_some, Option.isSome_none, Option.getD_some]
      refine push1 (ho.ext e3) (fun y hy => e4.bk hy) (by rfl) (by simp [ints]; omega) (by simp [ints]; omega) ?_
      intro _ w h4 _ o4 f4
      have e5 := Ext.step e4 f4
      simp (disch := omega) only [dm_t, wA, wB, wL, wW, wY, Int.fdiv_eq_ediv_of_nonneg, Int.tdiv_eq_ediv_of_nonneg, Int.tmod_eq_emod_of_nonneg, chk_pos, decT, decF, br_pos, br_neg, wX, ↓reduceIte, Nat.reduceEqDiff, Nat.reduceAdd, Nat.reduceSub, Nat.reduceMul, Nat.reduceLeDiff, Nat.reduceLT, Nat.reduceMod, Nat.reduceDiv, Int.reduceToNat, Nat.min_eq_left, IntKind.bits, Int.reducePow, Int.reduceLT, Int.reduceLE, Int.reduceEq, Int.reduceNe, Int.reduceAdd, Int.reduceSub, and_self, reduceCtorEq, decide_eq_true_eq, decide_eq_false_iff_not, eq_self, implies_true, exists_const, Option.isNone_some, Option.isNone_none, Option.isSome_some, Option.isSome_none, Option.getD_some]
      have hs4 := (hs2.ext e3).fr f4 fun x hx => hx.1
      obtain ⟨_, hcp, _⟩ := hs4.cap
      refine RepL.cutK hs4 (by rfl) (cnt take (ls.drop k)) (ls.drop k).length sc rfl rfl rfl (by omega) (.inr rfl) ?_
      intro vs' hv'
      rw [List.take_of_length_le (by rw [List.length_drop]; omega), List.drop_drop] at hv'
      rw [List.drop_drop] at hpl
      obtain ⟨va, vc, rfl⟩ := hv'.len
      simp (disch := omega) only [dm_t, wA, wB, wL, wW, wY, Int.fdiv_eq_ediv_of_nonneg, Int.tdiv_eq_ediv_of_nonneg, Int.tmod_eq_emod_of_nonneg, chk_pos, decT, decF, br_pos, br_neg, wX, ↓reduceIte, Nat.reduceEqDiff, Nat.reduceAdd, Nat.reduceSub, Nat.reduceMul, Nat.reduceLeDiff, Nat.reduceLT, Nat.reduceMod, Nat.reduceDiv, Int.reduceToNat, Nat.min_eq_left, IntKind.bits, Int.reducePow, Int.reduceLT, Int.reduceLE, Int.reduceEq, Int.reduceNe, Int.reduceAdd, Int.reduceSub, and_self, reduceCtorEq, decide_eq_true_eq, decide_eq_false_iff_not, eq_self, implies_true, exists_const, Option.isNone_some, Option.isNone_none, Option.isSome_some, Option.isSome_none, Option.getD_some]
      refine ⟨⟨k + cnt take (ls.drop k), done ++ [cnt take (ls.drop k)], by omega, hv', by simpa [ints] using o4, by simp; omega, by simpa using hpl, e5⟩, ?_⟩
      simp only [mlen, List.length_drop] at *
      omega
  · simp (disch := omega) only [dm_t, wA, wB, wL, wW, wY, Int.fdiv_eq_ediv_of_nonneg, Int.tdiv_eq_ediv_of_nonneg, Int.tmod_eq_emod_of_nonneg, chk_pos, decT, decF, br_pos, br_neg, wX, ↓reduceIte, Nat.reduceEqDiff, Nat.reduceAdd, Nat.reduceSub, Nat.reduceMul, Nat.reduceLeDiff, Nat.reduceLT, Nat.reduceMod, Nat.reduceDiv, Int.reduceToNat, Nat.min_eq_left, IntKind.bits, Int.reducePow, Int.reduceLT, Int.reduceLE, Int.reduceEq, Int.reduceNe, Int.reduceAdd, Int.reduceSub, and_self, reduceCtorEq, decide_eq_true_eq, decide_eq_false_iff_not, eq_self, implies_true, exists_const, Option.isNone_some, Option.isNone_none, Option.isSome_some, Option.isSome_none, Option.getD_some]
    exact ⟨by rw [PlanR, if_neg ht, if_pos hc], e1⟩
end Go.Proofs.Ytcebmbnofejlhaa.ga
