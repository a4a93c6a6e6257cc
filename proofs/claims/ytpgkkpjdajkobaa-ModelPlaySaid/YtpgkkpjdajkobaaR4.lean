/-
  Records in memory, field by field; Large.
-/
import Derived.Test.YtpgkkpjdajkobaaR3
namespace Go.Proofs.Ytpgkkpjdajkobaa.rr
open Go.Proofs.Ytpgkkpjdajkobaa
set_option linter.unusedVariables false
set_option linter.unusedSimpArgs false
/-- What of a record in memory is read, field by field. -/
theorem rec_at {S : Nat → Prop} {h : H} {a : Option Addr} {n c : Nat} {l : List rc.D} (r : RepL S rc h (.slice a n c) l) {i : Nat} (hi : i < l.length) :
    ∃ b o k v, idxV1 3 (.slice a n c) (.int .i64 (i : Int)) = some (.pointer (some ⟨b, o, none⟩)) ∧ cellAt h ⟨b, o, none⟩ = some (.int .i64 (l[i]).1) ∧ cellAt h ⟨b, o + 1, none⟩ = some k ∧ cellAt h ⟨b, o + 2, none⟩ = some v ∧ By S h k (l[i]).2.1 ∧ By S h v (l[i]).2.2 := by
  obtain ⟨b, o, cs, gi, _, g2, g3⟩ := r.load hi .i64 3 sz_rc
  obtain ⟨k, v, rfl, _, hk, hv⟩ := rep_rc.1 g3
  exact ⟨b, o, k, v, gi, g2 0 (by omega), g2 1 (by omega), g2 2 (by omega), hk, hv⟩
theorem rec_bd {S : Nat → Prop} {h : H} {v : Value} {l : List rc.D} (r : RepL S rc h v l) {i : Nat} (hi : i < l.length) : -9223372036854775808 ≤ (l[i]).1 ∧ (l[i]).1 ≤ 9223372036854775807 := by
  obtain ⟨a, c, rfl⟩ := r.len
  obtain ⟨b, o, cs, gi, _, g2, g3⟩ := r.load hi .i64 3 sz_rc
  obtain ⟨k, v, _, h, _⟩ := rep_rc.1 g3
  exact h
def bigR (r : rc.D) : Bool := decide (9000 < r.2.1.length) || decide (9000 < r.2.2.length)
def largeP (m : Nat) (l : List rc.D) : Bool := decide (m < l.length) || l.any bigR
theorem largeP_not {m : Nat} {l : List rc.D} (h : largeP m l = false) : l.length ≤ m ∧ ∀ r ∈ l, r.2.1.length ≤ 9000 ∧ r.2.2.length ≤ 9000 := by
  simp only [largeP, Bool.or_eq_false_iff, decide_eq_false_iff_not, List.any_eq_false, bigR, Bool.or_eq_true, decide_eq_true_eq, not_or] at h
  exact ⟨by omega, fun r hr => by have := h.2 r hr; omega⟩
theorem Large_ok {S : Nat → Prop} {h : H} {s : Value} {l : List rc.D} (m : Nat) (hs : RepL S rc h s l) (hl : l.length ≤ 4611686018427387904) :
    Ok Try.prog 29 #[.int .i64 (m : Int), s] h fun v h' => v = .bool (largeP m l) ∧ h = h' := by
  obtain ⟨sa, sc, rfl⟩ := hs.len
  refine c29_ok (args := [_, _]) (by simp) ?_
  by_cases h1 : m < l.length
  · simp (disch := omega) only [dm_t, wA, wB, wL, wW, wY, Int.fdiv_eq_ediv_of_nonneg, Int.tdiv_eq_ediv_of_nonneg, Int.tmod_eq_emod_of_nonneg, chk_pos, decT, decF, br_pos, br_neg, wX, ↓reduceIte, Nat.reduceEqDiff, Nat.reduceAdd, Nat.reduceSub, Nat.reduceMul, Nat.reduceLeDiff, Nat.reduceLT, Nat.reduceMod, Nat.reduceDiv, Int.reduceToNat, Nat.min_eq_left, IntKind.bits, Int.reducePow, Int.reduceLT, Int.reduceLE, Int.reduceEq, Int.reduceNe, Int.reduceAdd, Int.reduceSub, and_self, reduceCtorEq, decide_eq_true_eq, decide_eq_false_iff_not, eq_self, implies_true, exists_const, Option.isNone_some, Option.isNone_none, Option.isSome_some, Option.isSome_none, Option.getD_some]
    simp [largeP, h1]
  · simp (disch := omega) only [dm_t, wA, wB, wL, wW, wY, Int.fdiv_eq_ediv_of_nonneg, Int.tdiv_eq_ediv_of_nonneg, Int.tmod_eq_emod_of_nonneg, chk_pos, decT, decF, br_pos, br_neg, wX, ↓reduceIte, Nat.reduceEqDiff, Nat.reduceAdd, Nat.reduceSub, Nat.reduceMul, Nat.reduceLeDiff, Nat.reduceLT, Nat.reduceMod, Nat.reduceDiv, Int.reduceToNat, Nat.min_eq_left, IntKind.bits, Int.reducePow, Int.reduceLT, Int.reduceLE, Int.reduceEq, Int.reduceNe, Int.reduceAdd, Int.reduceSub, and_self, reduceCtorEq, decide_eq_true_eq, decide_eq_false_iff_not, eq_self, implies_true, exists_const, Option.isNone_some, Option.isNone_none, Option.isSome_some, Option.isSome_none, Option.getD_some]
    refine vc_loop1 (fun vi h' => h' = h ∧ ∃ i : Nat, vi = .int .i64 (i : Int) ∧ i ≤ l.length ∧ (l.take i).any bigR = false) (fun vi _ => l.length - m1 vi) ?_ ?_
    · simp (disch := omega) only [dm_t, wA, wB, wL, wW, wY, Int.fdiv_eq_ediv_of_nonneg, Int.tdiv_eq_ediv_of_nonneg, Int.tmod_eq_emod_of_nonneg, chk_pos, decT, decF, br_pos, br_neg, wX, ↓reduceIte, Nat.reduceEqDiff, Nat.reduceAdd, Nat.reduceSub, Nat.reduceMul, Nat.reduceLeDiff, Nat.reduceLT, Nat.reduceMod, Nat.reduceDiv, Int.reduceToNat, Nat.min_eq_left, IntKind.bits, Int.reducePow, Int.reduceLT, Int.reduceLE, Int.reduceEq, Int.reduceNe, Int.reduceAdd, Int.reduceSub, and_self, reduceCtorEq, decide_eq_true_eq, decide_eq_false_iff_not, eq_self, implies_true, exists_const, Option.isNone_some, Option.isNone_none, Option.isSome_some, Option.isSome_none, Option.getD_some]
      exact ⟨0, rfl, by omega, by simp⟩
    rintro _ g ⟨rfl, i, rfl, hi, hall⟩
    by_cases hil : i < l.length
    · have hsplit : l.take (i + 1) = l.take i ++ [l[i]] := by simp
      obtain ⟨b, o, k, v, gi, t1, x1, y1, hk, hv⟩ := rec_at hs hil
      obtain ⟨ka, kc, rfl⟩ := hk.len
      obtain ⟨va, vc, rfl⟩ := hv.len
      have bad : bigR l[i] = true → Value.bool true = .bool (largeP m l) := by
        intro hb
        have : l.any bigR = true := List.any_eq_true.2 ⟨_, List.getElem_mem hil, hb⟩
        simp [largeP, this]
      by_cases c1 : 9000 < (l[i]).2.1.length
      · simp (disch := omega) only [dm_t, wA, wB, wL, wW, wY, Int.fdiv_eq_ediv_of_nonneg, Int.tdiv_eq_ediv_of_nonneg, Int.tmod_eq_emod_of_nonneg, chk_pos, decT, decF, br_pos, br_neg, wX, ↓reduceIte, Nat.reduceEqDiff, Nat.reduceAdd, Nat.reduceSub, Nat.reduceMul, Nat.reduceLeDiff, Nat.reduceLT, Nat.reduceMod, Nat.reduceDiv, Int.reduceToNat, Nat.min_eq_left, IntKind.bits, Int.reducePow, Int.reduceLT, Int.reduceLE, Int.reduceEq, Int.reduceNe, Int.reduceAdd, Int.reduceSub, and_self, reduceCtorEq, decide_eq_true_eq, decide_eq_false_iff_not, eq_self, implies_true, exists_const, Option.isNone_some, Option.isNone_none, Option.isSome_some, Option.isSome_none, Option.getD_some, gi, x1, y1]
        exact bad (by simp [bigR, c1])
      · by_cases c2 : 9000 < (l[i]).2.2.length
        · simp (disch := omega) only [dm_t, wA, wB, wL, wW, wY, Int.fdiv_eq_ediv_of_nonneg, Int.tdiv_eq_ediv_of_nonneg, Int.tmod_eq_emod_of_nonneg, chk_pos, decT, decF, br_pos, br_neg, wX, ↓reduceIte, Nat.reduceEqDiff, Nat.reduceAdd, Nat.reduceSub, Nat.reduceMul, Nat.reduceLeDiff, Nat.reduceLT, Nat.reduceMod, Nat.reduceDiv, Int.reduceToNat, Nat.min_eq_left, IntKind.bits, Int.reducePow, Int.reduceLT, Int.reduceLE, Int.reduceEq, Int.reduceNe, Int.reduceAdd, Int.reduceSub, and_self, reduceCtorEq, decide_eq_true_eq, decide_eq_false_iff_not, eq_self, implies_true, exists_const, Option.isNone_some, Option.isNone_none, Option.isSome_some, Option.isSome_none, Option.getD_some, gi, x1, y1]
          exact bad (by simp [bigR, c2])
        · simp (disch := omega) only [dm_t, wA, wB, wL, wW, wY, Int.fdiv_eq_ediv_of_nonneg, Int.tdiv_eq_ediv_of_nonneg, Int.tmod_eq_emod_of_nonneg, chk_pos, decT, decF, br_pos, br_neg, wX, ↓reduceIte, Nat.reduceEqDiff, Nat.reduceAdd, Nat.reduceSub, Nat.reduceMul, Nat.reduceLeDiff, Nat.reduceLT, Nat.reduceMod, Nat.reduceDiv, Int.reduceToNat, Nat.min_eq_left, IntKind.bits, Int.reducePow, Int.reduceLT, Int.reduceLE, Int.reduceEq, Int.reduceNe, Int.reduceAdd, Int.reduceSub, and_self, reduceCtorEq, decide_eq_true_eq, decide_eq_false_iff_not, eq_self, implies_true, exists_const, Option.isNone_some, Option.isNone_none, Option.isSome_some, Option.isSome_none, Option.getD_some, gi, x1, y1]
          exact ⟨⟨i + 1, by simp, by omega, by rw [hsplit, List.any_append, hall]; simp [bigR, c1, c2]⟩, by simp [m1]; omega⟩
    · obtain rfl : i = l.length := by omega
      rw [List.take_length] at hall
      simp (disch := omega) only [dm_t, wA, wB, wL, wW, wY, Int.fdiv_eq_ediv_of_nonneg, Int.tdiv_eq_ediv_of_nonneg, Int.tmod_eq_emod_of_nonneg, chk_pos, decT, decF, br_pos, br_neg, wX, ↓reduceIte, Nat.reduceEqDiff, Nat.reduceAdd, Nat.reduceSub, Nat.reduceMul, Nat.reduceLeDiff, Nat.reduceLT, Nat.reduceMod, Nat.reduceDiv, Int.reduceToNat, Nat.min_eq_left, IntKind.bits, Int.reducePow, Int.reduceLT, Int.reduceLE, Int.reduceEq, Int.reduceNe, Int.reduceAdd, Int.reduceSub, and_self, reduceCtorEq, decide_eq_true_eq, decide_eq_false_iff_not, eq_self, implies_true, exists_const, Option.isNone_some, Option.isNone_none, Option.isSome_some, Option.isSome_none, Option.getD_some]
      simp [largeP, h1, hall]
end Go.Proofs.Ytpgkkpjdajkobaa.rr
