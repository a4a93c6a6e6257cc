/-
  wire: the document's reader.
-/
import Derived.Test.YtcncclkglcmpnaaWi2
import Derived.Test.YtcncclkglcmpnaaK20
import Derived.Test.YtcncclkglcmpnaaWl1
namespace Go.Proofs.Ytcncclkglcmpnaa.wr
open Go.Proofs.Ytcncclkglcmpnaa wi wl
set_option linter.unusedVariables false
set_option linter.unusedSimpArgs false

structure Rr (h : H) (b : Nat) (s : Value) (l : List UInt8) (k : Nat) : Prop where
  obj : h b = some (.cells #[s, .int .i64 k] 58)
  sl : By (fun y => y = b) h s l
  le : k ≤ l.length
  big : l.length ≤ 140737488355328
theorem Rr.move {h : H} {b : Nat} {l : List UInt8} {k k' : Nat} {s : Value} (r : Rr h b s l k) (hk : k' ≤ l.length) (v : Int) (hv : v = k') :
    Rr (hupd h b (.cells #[s, .int .i64 v] 58)) b s l k' := by
  subst hv
  exact ⟨hupd_same _ _ _, r.sl.fr (Fr.upd (S := fun y => y = b) rfl _) fun _ h => h, hk, r.big⟩
theorem Word_ok {h : H} {b : Nat} {s : Value} {l : List UInt8} {k : Nat} (r : Rr h b s l k) (n : Nat) (hn : n ≤ 8) (hl : k + n ≤ l.length) :
    Ok Try.prog 54 #[.pointer (some ⟨b, 0, none⟩), .int .i64 (n : Int)] h fun v h' => v = .tuple #[.int .u64 (num ((l.drop k).take n) : Nat), .int .i64 0] ∧ Rr h' b s l (k + n) ∧ Fr (fun y => y = b) h h' := by
  have r1 := r.obj
  have r4 := r.big
  obtain ⟨sa, sc, rfl⟩ := r.sl.len
  obtain ⟨_, _, hsc⟩ := r.sl.cap
  refine c54_ok (args := [_, _]) (by simp) ?_
  simp (disch := omega) only [dm_t, wA, wB, wL, wW, wY, Int.fdiv_eq_ediv_of_nonneg, Int.tdiv_eq_ediv_of_nonneg, Int.tmod_eq_emod_of_nonneg, chk_pos, decT, decF, br_pos, br_neg, wX, ↓reduceIte, Nat.reduceEqDiff, Nat.reduceAdd, Nat.reduceSub, Nat.reduceMul, Nat.reduceLeDiff, Nat.reduceLT, Nat.reduceMod, Nat.reduceDiv, Int.reduceToNat, Nat.min_eq_left, IntKind.bits, Int.reducePow, Int.reduceLT, Int.reduceLE, Int.reduceEq, Int.reduceNe, Int.reduceAdd, Int.reduceSub, and_self, reduceCtorEq, decide_eq_true_eq, decide_eq_false_iff_not, eq_self, implies_true, exists_const, Option.isNone_some, Option.isNone_none, Option.isSome_some, Option.isSome_none, Option.getD_some, cellAt_of r1]
  refine r.sl.cutK k (k + n) sc rfl (by omega) rfl (by omega) (.inr rfl) ?_
  intro w hw
  rw [Nat.add_sub_cancel_left] at hw
  simp (disch := omega) only [dm_t, wA, wB, wL, wW, wY, Int.fdiv_eq_ediv_of_nonneg, Int.tdiv_eq_ediv_of_nonneg, Int.tmod_eq_emod_of_nonneg, chk_pos, decT, decF, br_pos, br_neg, wX, ↓reduceIte, Nat.reduceEqDiff, Nat.reduceAdd, Nat.reduceSub, Nat.reduceMul, Nat.reduceLeDiff, Nat.reduceLT, Nat.reduceMod, Nat.reduceDiv, Int.reduceToNat, Nat.min_eq_left, IntKind.bits, Int.reducePow, Int.reduceLT, Int.reduceLE, Int.reduceEq, Int.reduceNe, Int.reduceAdd, Int.reduceSub, and_self, reduceCtorEq, decide_eq_true_eq, decide_eq_false_iff_not, eq_self, implies_true, exists_const, Option.isNone_some, Option.isNone_none, Option.isSome_some, Option.isSome_none, Option.getD_some, cellAt_of r1]
  refine (number_ok' hw (by rw [List.length_take]; omega)).k ?_
  rintro _ _ ⟨rfl, rfl⟩
  simp (disch := omega) only [dm_t, wA, wB, wL, wW, wY, Int.fdiv_eq_ediv_of_nonneg, Int.tdiv_eq_ediv_of_nonneg, Int.tmod_eq_emod_of_nonneg, chk_pos, decT, decF, br_pos, br_neg, wX, ↓reduceIte, Nat.reduceEqDiff, Nat.reduceAdd, Nat.reduceSub, Nat.reduceMul, Nat.reduceLeDiff, Nat.reduceLT, Nat.reduceMod, Nat.reduceDiv, Int.reduceToNat, Nat.min_eq_left, IntKind.bits, Int.reducePow, Int.reduceLT, Int.reduceLE, Int.reduceEq, Int.reduceNe, Int.reduceAdd, Int.reduceSub, and_self, reduceCtorEq, decide_eq_true_eq, decide_eq_false_iff_not, eq_self, implies_true, exists_const, Option.isNone_some, Option.isNone_none, Option.isSome_some, Option.isSome_none, Option.getD_some, cellAt_of r1, storeH_0 r1]
  exact ⟨r.move (by omega) _ (by simp), Fr.upd (S := fun y => y = b) rfl _⟩
theorem Word_more {h : H} {b : Nat} {s : Value} {l : List UInt8} {k : Nat} (r : Rr h b s l k) (n : Nat) (hn : n ≤ 8) (hl : l.length < k + n) :
    Ok Try.prog 54 #[.pointer (some ⟨b, 0, none⟩), .int .i64 (n : Int)] h fun v h' => v = .tuple #[.int .u64 0, .int .i64 111] ∧ h = h' := by
  have r1 := r.obj
  have r4 := r.big
  have r3 := r.le
  obtain ⟨sa, sc, rfl⟩ := r.sl.len
  refine c54_ok (args := [_, _]) (by simp) ?_
  simp (disch := omega) only [dm_t, wA, wB, wL, wW, wY, Int.fdiv_eq_ediv_of_nonneg, Int.tdiv_eq_ediv_of_nonneg, Int.tmod_eq_emod_of_nonneg, chk_pos, decT, decF, br_pos, br_neg, wX, ↓reduceIte, Nat.reduceEqDiff, Nat.reduceAdd, Nat.reduceSub, Nat.reduceMul, Nat.reduceLeDiff, Nat.reduceLT, Nat.reduceMod, Nat.reduceDiv, Int.reduceToNat, Nat.min_eq_left, IntKind.bits, Int.reducePow, Int.reduceLT, Int.reduceLE, Int.reduceEq, Int.reduceNe, Int.reduceAdd, Int.reduceSub, and_self, reduceCtorEq, decide_eq_true_eq, decide_eq_false_iff_not, eq_self, implies_true, exists_const, Option.isNone_some, Option.isNone_none, Option.isSome_some, Option.isSome_none, Option.getD_some, cellAt_of r1]
theorem RSkip_ok {h : H} {b : Nat} {s : Value} {l : List UInt8} {k : Nat} (r : Rr h b s l k) (n : Nat) (hl : k + n ≤ l.length) :
    Ok Try.prog 50 #[.pointer (some ⟨b, 0, none⟩), .int .i64 (n : Int)] h fun v h' => v = .int .i64 0 ∧ Rr h' b s l (k + n) ∧ Fr (fun y => y = b) h h' := by
  have r1 := r.obj
  have r4 := r.big
  obtain ⟨sa, sc, rfl⟩ := r.sl.len
  refine c50_ok (args := [_, _]) (by simp) ?_
  simp (disch := omega) only [dm_t, wA, wB, wL, wW, wY, Int.fdiv_eq_ediv_of_nonneg, Int.tdiv_eq_ediv_of_nonneg, Int.tmod_eq_emod_of_nonneg, chk_pos, decT, decF, br_pos, br_neg, wX, ↓reduceIte, Nat.reduceEqDiff, Nat.reduceAdd, Nat.reduceSub, Nat.reduceMul, Nat.reduceLeDiff, Nat.reduceLT, Nat.reduceMod, Nat.reduceDiv, Int.reduceToNat, Nat.min_eq_left, IntKind.bits, Int.reducePow, Int.reduceLT, Int.reduceLE, Int.reduceEq, Int.reduceNe, Int.reduceAdd, Int.reduceSub, and_self, reduceCtorEq, decide_eq_true_eq, decide_eq_false_iff_not, eq_self, implies_true, exists_const, Option.isNone_some, Option.isNone_none, Option.isSome_some, Option.isSome_none, Option.getD_some, cellAt_of r1, storeH_0 r1]
  exact ⟨r.move (by omega) _ (by simp), Fr.upd (S := fun y => y = b) rfl _⟩
theorem RSkip_more {h : H} {b : Nat} {s : Value} {l : List UInt8} {k : Nat} (r : Rr h b s l k) (n : Int) (hn : 0 ≤ n) (hl : l.length < k + n) :
    Ok Try.prog 50 #[.pointer (some ⟨b, 0, none⟩), .int .i64 n] h fun v h' => v = .int .i64 111 ∧ h = h' := by
  have r1 := r.obj
  have r4 := r.big
  have r3 := r.le
  obtain ⟨sa, sc, rfl⟩ := r.sl.len
  refine c50_ok (args := [_, _]) (by simp) ?_
  simp (disch := omega) only [dm_t, wA, wB, wL, wW, wY, Int.fdiv_eq_ediv_of_nonneg, Int.tdiv_eq_ediv_of_nonneg, Int.tmod_eq_emod_of_nonneg, chk_pos, decT, decF, br_pos, br_neg, wX, ↓reduceIte, Nat.reduceEqDiff, Nat.reduceAdd, Nat.reduceSub, Nat.reduceMul, Nat.reduceLeDiff, Nat.reduceLT, Nat.reduceMod, Nat.reduceDiv, Int.reduceToNat, Nat.min_eq_left, IntKind.bits, Int.reducePow, Int.reduceLT, Int.reduceLE, Int.reduceEq, Int.reduceNe, Int.reduceAdd, Int.reduceSub, and_self, reduceCtorEq, decide_eq_true_eq, decide_eq_false_iff_not, eq_self, implies_true, exists_const, Option.isNone_some, Option.isNone_none, Option.isSome_some, Option.isSome_none, Option.getD_some, cellAt_of r1]
theorem RSkip_neg (h : H) (b : Value) (n : Int) (hn : n < 0) :
    Ok Try.prog 50 #[b, .int .i64 n] h fun v h' => v = .int .i64 2 ∧ h = h' := by
  refine c50_ok (args := [_, _]) (by simp) ?_
  simp (disch := omega) only [dm_t, wA, wB, wL, wW, wY, Int.fdiv_eq_ediv_of_nonneg, Int.tdiv_eq_ediv_of_nonneg, Int.tmod_eq_emod_of_nonneg, chk_pos, decT, decF, br_pos, br_neg, wX, ↓reduceIte, Nat.reduceEqDiff, Nat.reduceAdd, Nat.reduceSub, Nat.reduceMul, Nat.reduceLeDiff, Nat.reduceLT, Nat.reduceMod, Nat.reduceDiv, Int.reduceToNat, Nat.min_eq_left, IntKind.bits, Int.reducePow, Int.reduceLT, Int.reduceLE, Int.reduceEq, Int.reduceNe, Int.reduceAdd, Int.reduceSub, and_self, reduceCtorEq, decide_eq_true_eq, decide_eq_false_iff_not, eq_self, implies_true, exists_const, Option.isNone_some, Option.isNone_none, Option.isSome_some, Option.isSome_none, Option.getD_some]
theorem RString_neg (h : H) (b : Value) (n : Int) (hn : n < 0) :
    Ok Try.prog 48 #[b, .int .i64 n] h fun v h' => v = .tuple #[.slice none 0 0, .int .i64 2] ∧ h = h' := by
  refine c48_ok (args := [_, _]) (by simp) ?_
  simp (disch := omega) only [dm_t, wA, wB, wL, wW, wY, Int.fdiv_eq_ediv_of_nonneg, Int.tdiv_eq_ediv_of_nonneg, Int.tmod_eq_emod_of_nonneg, chk_pos, decT, decF, br_pos, br_neg, wX, ↓reduceIte, Nat.reduceEqDiff, Nat.reduceAdd, Nat.reduceSub, Nat.reduceMul, Nat.reduceLeDiff, Nat.reduceLT, Nat.reduceMod, Nat.reduceDiv, Int.reduceToNat, Nat.min_eq_left, IntKind.bits, Int.reducePow, Int.reduceLT, Int.reduceLE, Int.reduceEq, Int.reduceNe, Int.reduceAdd, Int.reduceSub, and_self, reduceCtorEq, decide_eq_true_eq, decide_eq_false_iff_not, eq_self, implies_true, exists_const, Option.isNone_some, Option.isNone_none, Option.isSome_some, Option.isSome_none, Option.getD_some]
theorem RString_ok {S : Nat → Prop} {h : H} {b : Nat} {s : Value} {l : List UInt8} {k : Nat} (r : Rr h b s l k) (rs : By S h s l) (hS : S b) (most : Int) (hm : 0 ≤ most) (hm' : most ≤ 9223372036854775807) :
    Ok Try.prog 48 #[.pointer (some ⟨b, 0, none⟩), .int .i64 most] h fun v h' => (match rdStr l k most with
      | .ok (x, k') => ∃ w, v = .tuple #[w, .int .i64 0] ∧ By S h' w x ∧ Rr h' b s l k'
      | .error e => v = .tuple #[.slice none 0 0, .int .i64 e] ∧ Rr h' b s l k) ∧ Fr (fun y => y = b) h h' := by
  have r1 := r.obj
  have r4 := r.big
  have r3 := r.le
  obtain ⟨sa, sc, rfl⟩ := r.sl.len
  refine c48_ok (args := [_, _]) (by simp) ?_
  by_cases h4 : l.length < k + 4
  · simp (disch := omega) only [dm_t, wA, wB, wL, wW, wY, Int.fdiv_eq_ediv_of_nonneg, Int.tdiv_eq_ediv_of_nonneg, Int.tmod_eq_emod_of_nonneg, chk_pos, decT, decF, br_pos, br_neg, wX, ↓reduceIte, Nat.reduceEqDiff, Nat.reduceAdd, Nat.reduceSub, Nat.reduceMul, Nat.reduceLeDiff, Nat.reduceLT, Nat.reduceMod, Nat.reduceDiv, Int.reduceToNat, Nat.min_eq_left, IntKind.bits, Int.reducePow, Int.reduceLT, Int.reduceLE, Int.reduceEq, Int.reduceNe, Int.reduceAdd, Int.reduceSub, and_self, reduceCtorEq, decide_eq_true_eq, decide_eq_false_iff_not, eq_self, implies_true, exists_const, Option.isNone_some, Option.isNone_none, Option.isSome_some, Option.isSome_none, Option.getD_some, cellAt_of r1]
    refine (Word_more r 4 (by omega) h4).k ?_
    rintro _ _ ⟨rfl, rfl⟩
    simp (disch := omega) only [dm_t, wA, wB, wL, wW, wY, Int.fdiv_eq_ediv_of_nonneg, Int.tdiv_eq_ediv_of_nonneg, Int.tmod_eq_emod_of_nonneg, chk_pos, decT, decF, br_pos, br_neg, wX, ↓reduceIte, Nat.reduceEqDiff, Nat.reduceAdd, Nat.reduceSub, Nat.reduceMul, Nat.reduceLeDiff, Nat.reduceLT, Nat.reduceMod, Nat.reduceDiv, Int.reduceToNat, Nat.min_eq_left, IntKind.bits, Int.reducePow, Int.reduceLT, Int.reduceLE, Int.reduceEq, Int.reduceNe, Int.reduceAdd, Int.reduceSub, and_self, reduceCtorEq, decide_eq_true_eq, decide_eq_false_iff_not, eq_self, implies_true, exists_const, Option.isNone_some, Option.isNone_none, Option.isSome_some, Option.isSome_none, Option.getD_some]
    rw [rdStr, if_pos h4]
    exact ⟨⟨rfl, r⟩, Fr.refl _ _⟩
  simp (disch := omega) only [dm_t, wA, wB, wL, wW, wY, Int.fdiv_eq_ediv_of_nonneg, Int.tdiv_eq_ediv_of_nonneg, Int.tmod_eq_emod_of_nonneg, chk_pos, decT, decF, br_pos, br_neg, wX, ↓reduceIte, Nat.reduceEqDiff, Nat.reduceAdd, Nat.reduceSub, Nat.reduceMul, Nat.reduceLeDiff, Nat.reduceLT, Nat.reduceMod, Nat.reduceDiv, Int.reduceToNat, Nat.min_eq_left, IntKind.bits, Int.reducePow, Int.reduceLT, Int.reduceLE, Int.reduceEq, Int.reduceNe, Int.reduceAdd, Int.reduceSub, and_self, reduceCtorEq, decide_eq_true_eq, decide_eq_false_iff_not, eq_self, implies_true, exists_const, Option.isNone_some, Option.isNone_none, Option.isSome_some, Option.isSome_none, Option.getD_some, cellAt_of r1]
  refine (Word_ok r 4 (by omega) (by omega)).k ?_
  rintro _ h1 ⟨rfl, q0, f1⟩
  have hx := num_lt ((l.drop k).take 4)
  rw [show ((l.drop k).take 4).length = 4 by rw [List.length_take, List.length_drop]; omega] at hx
  rw [rdStr, if_neg h4]
  generalize num ((l.drop k).take 4) = n at hx ⊢
  have q1 := q0.obj
  by_cases h5 : most < n
  · simp (disch := omega) only [dm_t, wA, wB, wL, wW, wY, Int.fdiv_eq_ediv_of_nonneg, Int.tdiv_eq_ediv_of_nonneg, Int.tmod_eq_emod_of_nonneg, chk_pos, decT, decF, br_pos, br_neg, wX, ↓reduceIte, Nat.reduceEqDiff, Nat.reduceAdd, Nat.reduceSub, Nat.reduceMul, Nat.reduceLeDiff, Nat.reduceLT, Nat.reduceMod, Nat.reduceDiv, Int.reduceToNat, Nat.min_eq_left, IntKind.bits, Int.reducePow, Int.reduceLT, Int.reduceLE, Int.reduceEq, Int.reduceNe, Int.reduceAdd, Int.reduceSub, and_self, reduceCtorEq, decide_eq_true_eq, decide_eq_false_iff_not, eq_self, implies_true, exists_const, Option.isNone_some, Option.isNone_none, Option.isSome_some, Option.isSome_none, Option.getD_some, storeH_0 q1]
    rw [if_pos h5]
    exact ⟨⟨rfl, q0.move (by omega) _ rfl⟩, f1.trans (Fr.upd (S := fun y => y = b) rfl _)⟩
  rw [if_neg h5]
  by_cases h6 : l.length < k + 4 + n
  · simp (disch := omega) only [dm_t, wA, wB, wL, wW, wY, Int.fdiv_eq_ediv_of_nonneg, Int.tdiv_eq_ediv_of_nonneg, Int.tmod_eq_emod_of_nonneg, chk_pos, decT, decF, br_pos, br_neg, wX, ↓reduceIte, Nat.reduceEqDiff, Nat.reduceAdd, Nat.reduceSub, Nat.reduceMul, Nat.reduceLeDiff, Nat.reduceLT, Nat.reduceMod, Nat.reduceDiv, Int.reduceToNat, Nat.min_eq_left, IntKind.bits, Int.reducePow, Int.reduceLT, Int.reduceLE, Int.reduceEq, Int.reduceNe, Int.reduceAdd, Int.reduceSub, and_self, reduceCtorEq, decide_eq_true_eq, decide_eq_false_iff_not, eq_self, implies_true, exists_const, Option.isNone_some, Option.isNone_none, Option.isSome_some, Option.isSome_none, Option.getD_some, cellAt_of q1, storeH_0 q1]
    rw [if_pos h6]
    exact ⟨⟨rfl, q0.move (by omega) _ rfl⟩, f1.trans (Fr.upd (S := fun y => y = b) rfl _)⟩
  rw [if_neg h6]
  obtain ⟨_, _, hsc⟩ := q0.sl.cap
  simp (disch := omega) only [dm_t, wA, wB, wL, wW, wY, Int.fdiv_eq_ediv_of_nonneg, Int.tdiv_eq_ediv_of_nonneg, Int.tmod_eq_emod_of_nonneg, chk_pos, decT, decF, br_pos, br_neg, wX, ↓reduceIte, Nat.reduceEqDiff, Nat.reduceAdd, Nat.reduceSub, Nat.reduceMul, Nat.reduceLeDiff, Nat.reduceLT, Nat.reduceMod, Nat.reduceDiv, Int.reduceToNat, Nat.min_eq_left, IntKind.bits, Int.reducePow, Int.reduceLT, Int.reduceLE, Int.reduceEq, Int.reduceNe, Int.reduceAdd, Int.reduceSub, and_self, reduceCtorEq, decide_eq_true_eq, decide_eq_false_iff_not, eq_self, implies_true, exists_const, Option.isNone_some, Option.isNone_none, Option.isSome_some, Option.isSome_none, Option.getD_some, cellAt_of q1]
  have hsb : ∀ x, x = b → S x := fun x hx => by rw [hx]; exact hS
  refine By.cutK (rs.fr f1 hsb) (k + 4) (k + 4 + n) sc (by simp) (by simp) rfl (by omega) (.inr rfl) ?_
  intro w hw
  rw [Nat.add_sub_cancel_left] at hw
  simp (disch := omega) only [dm_t, wA, wB, wL, wW, wY, Int.fdiv_eq_ediv_of_nonneg, Int.tdiv_eq_ediv_of_nonneg, Int.tmod_eq_emod_of_nonneg, chk_pos, decT, decF, br_pos, br_neg, wX, ↓reduceIte, Nat.reduceEqDiff, Nat.reduceAdd, Nat.reduceSub, Nat.reduceMul, Nat.reduceLeDiff, Nat.reduceLT, Nat.reduceMod, Nat.reduceDiv, Int.reduceToNat, Nat.min_eq_left, IntKind.bits, Int.reducePow, Int.reduceLT, Int.reduceLE, Int.reduceEq, Int.reduceNe, Int.reduceAdd, Int.reduceSub, and_self, reduceCtorEq, decide_eq_true_eq, decide_eq_false_iff_not, eq_self, implies_true, exists_const, Option.isNone_some, Option.isNone_none, Option.isSome_some, Option.isSome_none, Option.getD_some, cellAt_of q1, storeH_0 q1]
  exact ⟨⟨w, rfl, hw.fr (Fr.upd (S := fun y => y = b) rfl _) hsb, q0.move (by omega) _ (by simp)⟩, f1.trans (Fr.upd (S := fun y => y = b) rfl _)⟩
theorem RList_neg (h : H) (b : Value) (items most : Int) (hm : items < 0 ∨ most < 0) :
    Ok Try.prog 49 #[b, .int .i64 items, .int .i64 most] h fun v h' => v = .tuple #[.slice none 0 0, .int .i64 2] ∧ h = h' := by
  refine c49_ok (args := [_, _, _]) (by simp) ?_
  by_cases h1 : items < 0
  · simp (disch := omega) only [dm_t, wA, wB, wL, wW, wY, Int.fdiv_eq_ediv_of_nonneg, Int.tdiv_eq_ediv_of_nonneg, Int.tmod_eq_emod_of_nonneg, chk_pos, decT, decF, br_pos, br_neg, wX, ↓reduceIte, Nat.reduceEqDiff, Nat.reduceAdd, Nat.reduceSub, Nat.reduceMul, Nat.reduceLeDiff, Nat.reduceLT, Nat.reduceMod, Nat.reduceDiv, Int.reduceToNat, Nat.min_eq_left, IntKind.bits, Int.reducePow, Int.reduceLT, Int.reduceLE, Int.reduceEq, Int.reduceNe, Int.reduceAdd, Int.reduceSub, and_self, reduceCtorEq, decide_eq_true_eq, decide_eq_false_iff_not, eq_self, implies_true, exists_const, Option.isNone_some, Option.isNone_none, Option.isSome_some, Option.isSome_none, Option.getD_some]
  · simp (disch := omega) only [dm_t, wA, wB, wL, wW, wY, Int.fdiv_eq_ediv_of_nonneg, Int.tdiv_eq_ediv_of_nonneg, Int.tmod_eq_emod_of_nonneg, chk_pos, decT, decF, br_pos, br_neg, wX, ↓reduceIte, Nat.reduceEqDiff, Nat.reduceAdd, Nat.reduceSub, Nat.reduceMul, Nat.reduceLeDiff, Nat.reduceLT, Nat.reduceMod, Nat.reduceDiv, Int.reduceToNat, Nat.min_eq_left, IntKind.bits, Int.reducePow, Int.reduceLT, Int.reduceLE, Int.reduceEq, Int.reduceNe, Int.reduceAdd, Int.reduceSub, and_self, reduceCtorEq, decide_eq_true_eq, decide_eq_false_iff_not, eq_self, implies_true, exists_const, Option.isNone_some, Option.isNone_none, Option.isSome_some, Option.isSome_none, Option.getD_some]
theorem RList_ok {S : Nat → Prop} {h : H} {b : Nat} {s : Value} {l : List UInt8} {k : Nat} (r : Rr h b s l k) (rs0 : By S h s l) (hS : S b) (items most : Int) (hi : 0 ≤ items) (hm : 0 ≤ most) (hi' : items ≤ 9223372036854775807) (hm' : most ≤ 9223372036854775807) :
    Ok Try.prog 49 #[.pointer (some ⟨b, 0, none⟩), .int .i64 items, .int .i64 most] h fun v h' => (match rdList l k items most with
      | .ok (ss, k') => ∃ w, v = .tuple #[w, .int .i64 0] ∧ OwL S (.sl .byte) (fun y => h y = none) h' 22 w ss ∧ Rr h' b s l k'
      | .error e => v = .tuple #[.slice none 0 0, .int .i64 e] ∧ Rr h' b s l k) ∧ Fr (fun y => y = b) h h' := by
  have r1 := r.obj
  have r4 := r.big
  have r3 := r.le
  obtain ⟨sa, sc, rfl⟩ := r.sl.len
  refine c49_ok (args := [_, _, _]) (by simp) ?_
  by_cases h4 : l.length < k + 4
  · simp (disch := omega) only [dm_t, wA, wB, wL, wW, wY, Int.fdiv_eq_ediv_of_nonneg, Int.tdiv_eq_ediv_of_nonneg, Int.tmod_eq_emod_of_nonneg, chk_pos, decT, decF, br_pos, br_neg, wX, ↓reduceIte, Nat.reduceEqDiff, Nat.reduceAdd, Nat.reduceSub, Nat.reduceMul, Nat.reduceLeDiff, Nat.reduceLT, Nat.reduceMod, Nat.reduceDiv, Int.reduceToNat, Nat.min_eq_left, IntKind.bits, Int.reducePow, Int.reduceLT, Int.reduceLE, Int.reduceEq, Int.reduceNe, Int.reduceAdd, Int.reduceSub, and_self, reduceCtorEq, decide_eq_true_eq, decide_eq_false_iff_not, eq_self, implies_true, exists_const, Option.isNone_some, Option.isNone_none, Option.isSome_some, Option.isSome_none, Option.getD_some, cellAt_of r1]
    refine (Word_more r 4 (by omega) h4).k ?_
    rintro _ _ ⟨rfl, rfl⟩
    simp (disch := omega) only [dm_t, wA, wB, wL, wW, wY, Int.fdiv_eq_ediv_of_nonneg, Int.tdiv_eq_ediv_of_nonneg, Int.tmod_eq_emod_of_nonneg, chk_pos, decT, decF, br_pos, br_neg, wX, ↓reduceIte, Nat.reduceEqDiff, Nat.reduceAdd, Nat.reduceSub, Nat.reduceMul, Nat.reduceLeDiff, Nat.reduceLT, Nat.reduceMod, Nat.reduceDiv, Int.reduceToNat, Nat.min_eq_left, IntKind.bits, Int.reducePow, Int.reduceLT, Int.reduceLE, Int.reduceEq, Int.reduceNe, Int.reduceAdd, Int.reduceSub, and_self, reduceCtorEq, decide_eq_true_eq, decide_eq_false_iff_not, eq_self, implies_true, exists_const, Option.isNone_some, Option.isNone_none, Option.isSome_some, Option.isSome_none, Option.getD_some]
    rw [rdList, if_pos h4]
    exact ⟨⟨rfl, r⟩, Fr.refl _ _⟩
  simp (disch := omega) only [dm_t, wA, wB, wL, wW, wY, Int.fdiv_eq_ediv_of_nonneg, Int.tdiv_eq_ediv_of_nonneg, Int.tmod_eq_emod_of_nonneg, chk_pos, decT, decF, br_pos, br_neg, wX, ↓reduceIte, Nat.reduceEqDiff, Nat.reduceAdd, Nat.reduceSub, Nat.reduceMul, Nat.reduceLeDiff, Nat.reduceLT, Nat.reduceMod, Nat.reduceDiv, Int.reduceToNat, Nat.min_eq_left, IntKind.bits, Int.reducePow, Int.reduceLT, Int.reduceLE, Int.reduceEq, Int.reduceNe, Int.reduceAdd, Int.reduceSub, and_self, reduceCtorEq, decide_eq_true_eq, decide_eq_false_iff_not, eq_self, implies_true, exists_const, Option.isNone_some, Option.isNone_none, Option.isSome_some, Option.isSome_none, Option.getD_some, cellAt_of r1]
  refine (Word_ok r 4 (by omega) (by omega)).k ?_
  rintro _ h1 ⟨rfl, q0, f1⟩
  have hx := num_lt ((l.drop k).take 4)
  rw [show ((l.drop k).take 4).length = 4 by rw [List.length_take, List.length_drop]; omega] at hx
  rw [rdList, if_neg h4]
  generalize num ((l.drop k).take 4) = n at hx ⊢
  have q1 := q0.obj
  by_cases h5 : items < n
  · simp (disch := omega) only [dm_t, wA, wB, wL, wW, wY, Int.fdiv_eq_ediv_of_nonneg, Int.tdiv_eq_ediv_of_nonneg, Int.tmod_eq_emod_of_nonneg, chk_pos, decT, decF, br_pos, br_neg, wX, ↓reduceIte, Nat.reduceEqDiff, Nat.reduceAdd, Nat.reduceSub, Nat.reduceMul, Nat.reduceLeDiff, Nat.reduceLT, Nat.reduceMod, Nat.reduceDiv, Int.reduceToNat, Nat.min_eq_left, IntKind.bits, Int.reducePow, Int.reduceLT, Int.reduceLE, Int.reduceEq, Int.reduceNe, Int.reduceAdd, Int.reduceSub, and_self, reduceCtorEq, decide_eq_true_eq, decide_eq_false_iff_not, eq_self, implies_true, exists_const, Option.isNone_some, Option.isNone_none, Option.isSome_some, Option.isSome_none, Option.getD_some, storeH_0 q1]
    rw [if_pos h5]
    exact ⟨⟨rfl, q0.move (by omega) _ rfl⟩, f1.trans (Fr.upd (S := fun y => y = b) rfl _)⟩
  rw [if_neg h5]
  have hOb : ∀ y, y = b → h y ≠ none := by rintro y rfl; rw [r1]; simp
  simp (disch := omega) only [dm_t, wA, wB, wL, wW, wY, Int.fdiv_eq_ediv_of_nonneg, Int.tdiv_eq_ediv_of_nonneg, Int.tmod_eq_emod_of_nonneg, chk_pos, decT, decF, br_pos, br_neg, wX, ↓reduceIte, Nat.reduceEqDiff, Nat.reduceAdd, Nat.reduceSub, Nat.reduceMul, Nat.reduceLeDiff, Nat.reduceLT, Nat.reduceMod, Nat.reduceDiv, Int.reduceToNat, Nat.min_eq_left, IntKind.bits, Int.reducePow, Int.reduceLT, Int.reduceLE, Int.reduceEq, Int.reduceNe, Int.reduceAdd, Int.reduceSub, and_self, reduceCtorEq, decide_eq_true_eq, decide_eq_false_iff_not, eq_self, implies_true, exists_const, Option.isNone_some, Option.isNone_none, Option.isSome_some, Option.isSome_none, Option.getD_some]
  refine vc_loop2 (fun vl vi h' => ∃ (j kk : Nat) (ss : List (List UInt8)), vi = .int .u64 (j : Int) ∧ j ≤ n ∧ ss.length = j ∧ Fr (fun y => y = b) h h' ∧ Rr h' b (.slice sa l.length sc) l kk ∧ OwL S (.sl .byte) (fun y => h y = none) h' 22 vl ss ∧
      rdStrs l most n (k + 4) = (match rdStrs l most (n - j) kk with | .ok (r, k'') => .ok (ss ++ r, k'') | .error e => .error e)) (fun _ vi _ => n - m1 vi) ?_ ?_
  · simp (disch := omega) only [dm_t, wA, wB, wL, wW, wY, Int.fdiv_eq_ediv_of_nonneg, Int.tdiv_eq_ediv_of_nonneg, Int.tmod_eq_emod_of_nonneg, chk_pos, decT, decF, br_pos, br_neg, wX, ↓reduceIte, Nat.reduceEqDiff, Nat.reduceAdd, Nat.reduceSub, Nat.reduceMul, Nat.reduceLeDiff, Nat.reduceLT, Nat.reduceMod, Nat.reduceDiv, Int.reduceToNat, Nat.min_eq_left, IntKind.bits, Int.reducePow, Int.reduceLT, Int.reduceLE, Int.reduceEq, Int.reduceNe, Int.reduceAdd, Int.reduceSub, and_self, reduceCtorEq, decide_eq_true_eq, decide_eq_false_iff_not, eq_self, implies_true, exists_const, Option.isNone_some, Option.isNone_none, Option.isSome_some, Option.isSome_none, Option.getD_some]
    refine ⟨0, k + 4, [], rfl, by omega, rfl, f1, q0, OwL.nil, ?_⟩
    rw [Nat.sub_zero]
    cases rdStrs l most n (k + 4) <;> rfl
  rintro vl _ h2 ⟨j, kk, ss, rfl, hj, hss, f2, q2, o2, e2⟩
  by_cases hjn : j < n
  · simp (disch := omega) only [dm_t, wA, wB, wL, wW, wY, Int.fdiv_eq_ediv_of_nonneg, Int.tdiv_eq_ediv_of_nonneg, Int.tmod_eq_emod_of_nonneg, chk_pos, decT, decF, br_pos, br_neg, wX, ↓reduceIte, Nat.reduceEqDiff, Nat.reduceAdd, Nat.reduceSub, Nat.reduceMul, Nat.reduceLeDiff, Nat.reduceLT, Nat.reduceMod, Nat.reduceDiv, Int.reduceToNat, Nat.min_eq_left, IntKind.bits, Int.reducePow, Int.reduceLT, Int.reduceLE, Int.reduceEq, Int.reduceNe, Int.reduceAdd, Int.reduceSub, and_self, reduceCtorEq, decide_eq_true_eq, decide_eq_false_iff_not, eq_self, implies_true, exists_const, Option.isNone_some, Option.isNone_none, Option.isSome_some, Option.isSome_none, Option.getD_some]
    have rs : By (fun y => S y ∨ h y = none) h (.slice sa l.length sc) l := SlK.mono rs0 fun x o hx hh => hh.elim id fun hn => by rw [hn] at hx; cases hx
    refine (RString_ok q2 (rs.fr f2 fun x hx => .inl (by rw [hx]; exact hS)) (.inl hS) most hm hm').k ?_
    rintro _ h3 ⟨hm3, f3⟩
    have f23 := f2.trans f3
    have o3 := o2.fr f3 (fun x hx => by rw [hx]; exact hS) (fun y hy hO _ => hOb y hy hO)
    rw [show n - j = (n - (j + 1)) + 1 by omega, rdStrs] at e2
    cases hr : rdStr l kk most with
    | error e =>
      rw [hr] at hm3 e2
      obtain ⟨rfl, q3⟩ := hm3
      have he : e ≠ 0 := by
        unfold rdStr at hr
        repeat' split at hr
        all_goals first | (simp only [Except.error.injEq] at hr; omega) | (cases hr)
      have q31 := q3.obj
      simp (disch := omega) only [dm_t, wA, wB, wL, wW, wY, Int.fdiv_eq_ediv_of_nonneg, Int.tdiv_eq_ediv_of_nonneg, Int.tmod_eq_emod_of_nonneg, chk_pos, decT, decF, br_pos, br_neg, wX, ↓reduceIte, Nat.reduceEqDiff, Nat.reduceAdd, Nat.reduceSub, Nat.reduceMul, Nat.reduceLeDiff, Nat.reduceLT, Nat.reduceMod, Nat.reduceDiv, Int.reduceToNat, Nat.min_eq_left, IntKind.bits, Int.reducePow, Int.reduceLT, Int.reduceLE, Int.reduceEq, Int.reduceNe, Int.reduceAdd, Int.reduceSub, and_self, reduceCtorEq, decide_eq_true_eq, decide_eq_false_iff_not, eq_self, implies_true, exists_const, Option.isNone_some, Option.isNone_none, Option.isSome_some, Option.isSome_none, Option.getD_some, storeH_0 q31]
      rw [e2]
      exact ⟨⟨rfl, q3.move (by omega) _ rfl⟩, f23.trans (Fr.upd (S := fun y => y = b) rfl _)⟩
    | ok p =>
      obtain ⟨x, k'⟩ := p
      rw [hr] at hm3 e2
      obtain ⟨w, rfl, hw, q3⟩ := hm3
      obtain ⟨wa, wc, rfl⟩ := hw.len
      have hO : ∀ y, h3 y = none → h y = none := fun y hy => f23.back hy fun z hz => by subst hz; rw [q3.obj]; simp
      simp (disch := omega) only [dm_t, wA, wB, wL, wW, wY, Int.fdiv_eq_ediv_of_nonneg, Int.tdiv_eq_ediv_of_nonneg, Int.tmod_eq_emod_of_nonneg, chk_pos, decT, decF, br_pos, br_neg, wX, ↓reduceIte, Nat.reduceEqDiff, Nat.reduceAdd, Nat.reduceSub, Nat.reduceMul, Nat.reduceLeDiff, Nat.reduceLT, Nat.reduceMod, Nat.reduceDiv, Int.reduceToNat, Nat.min_eq_left, IntKind.bits, Int.reducePow, Int.reduceLT, Int.reduceLE, Int.reduceEq, Int.reduceNe, Int.reduceAdd, Int.reduceSub, and_self, reduceCtorEq, decide_eq_true_eq, decide_eq_false_iff_not, eq_self, implies_true, exists_const, Option.isNone_some, Option.isNone_none, Option.isSome_some, Option.isSome_none, Option.getD_some]
      refine OwL.push (bytes := 24) (z := #[.slice none 0 0]) (x := x) 1 rfl o3 hO (repB.2 (SlK.mono hw ?_)) rfl (by omega) (by omega) ?_
      · rintro y o hy (hat | hs)
        · exact .inr (OwL.own o3 hat)
        · exact .inl hs
      intro _ vl' h4 _ o4 f4
      have f5 := f23.step f4
      have q4 : Rr h4 b (.slice sa l.length sc) l k' := ⟨f4 _ _ q3.obj fun hx => hOb b rfl hx.1, (r.sl).fr f5 fun _ h => h, q3.le, q3.big⟩
      simp (disch := omega) only [dm_t, wA, wB, wL, wW, wY, Int.fdiv_eq_ediv_of_nonneg, Int.tdiv_eq_ediv_of_nonneg, Int.tmod_eq_emod_of_nonneg, chk_pos, decT, decF, br_pos, br_neg, wX, ↓reduceIte, Nat.reduceEqDiff, Nat.reduceAdd, Nat.reduceSub, Nat.reduceMul, Nat.reduceLeDiff, Nat.reduceLT, Nat.reduceMod, Nat.reduceDiv, Int.reduceToNat, Nat.min_eq_left, IntKind.bits, Int.reducePow, Int.reduceLT, Int.reduceLE, Int.reduceEq, Int.reduceNe, Int.reduceAdd, Int.reduceSub, and_self, reduceCtorEq, decide_eq_true_eq, decide_eq_false_iff_not, eq_self, implies_true, exists_const, Option.isNone_some, Option.isNone_none, Option.isSome_some, Option.isSome_none, Option.getD_some]
      refine ⟨⟨j + 1, k', ss ++ [x], by simp, by omega, by simp [hss], f5, q4, o4, ?_⟩, by simp [m1]; omega⟩
      rw [e2]
      simp only []
      cases rdStrs l most (n - (j + 1)) k' with
      | error e => rfl
      | ok p => simp
  · obtain rfl : j = n := by omega
    simp (disch := omega) only [dm_t, wA, wB, wL, wW, wY, Int.fdiv_eq_ediv_of_nonneg, Int.tdiv_eq_ediv_of_nonneg, Int.tmod_eq_emod_of_nonneg, chk_pos, decT, decF, br_pos, br_neg, wX, ↓reduceIte, Nat.reduceEqDiff, Nat.reduceAdd, Nat.reduceSub, Nat.reduceMul, Nat.reduceLeDiff, Nat.reduceLT, Nat.reduceMod, Nat.reduceDiv, Int.reduceToNat, Nat.min_eq_left, IntKind.bits, Int.reducePow, Int.reduceLT, Int.reduceLE, Int.reduceEq, Int.reduceNe, Int.reduceAdd, Int.reduceSub, and_self, reduceCtorEq, decide_eq_true_eq, decide_eq_false_iff_not, eq_self, implies_true, exists_const, Option.isNone_some, Option.isNone_none, Option.isSome_some, Option.isSome_none, Option.getD_some]
    rw [e2, Nat.sub_self, rdStrs]
    simp only [List.append_nil]
    exact ⟨⟨vl, rfl, o2, q2⟩, f2⟩
end Go.Proofs.Ytcncclkglcmpnaa.wr
