/-
  wire: what a reader's calls do.
-/
import Derived.Test.YtmjbgfflbeibnaaWi1
namespace Go.Proofs.Ytmjbgfflbeibnaa.wi
open Go.Proofs.Ytmjbgfflbeibnaa
set_option linter.unusedVariables false
set_option linter.unusedSimpArgs false

/-- A reader in memory: its block, its slice, its bytes, where it stands. -/
structure Rd (h : H) (b : Nat) (s : Value) (l : List UInt8) (at' : Nat) : Prop where
  obj : h b = some (.cells #[s, .int .i64 at', .bool true] 99)
  sl : By (fun y => y = b) h s l
  le : at' ≤ l.length
  big : l.length ≤ 140737488355328
theorem Rd.ext {h h' : H} {b : Nat} {s : Value} {l : List UInt8} {k : Nat} (r : Rd h b s l k) (e : Ext h h') : Rd h' b s l k := ⟨e.at r.1, r.2.ext e, r.3, r.4⟩
/-- What was done since it was there touched nothing of it but where it stands. -/
theorem Rd.step {h h' h'' : H} {b : Nat} {s : Value} {l : List UInt8} {k k0 : Nat} {T : Nat → Prop} (r0 : Rd h b s l k0) (r : Rd h' b s l k) (f : Fr (fun y => y = b) h h'') (g : Fr T h' h'') (hb : ¬ T b) : Rd h'' b s l k :=
  ⟨g _ _ r.1 hb, r0.2.fr f fun _ h => h, r.3, r.4⟩
theorem Rd.there {h : H} {b : Nat} {s : Value} {l : List UInt8} {k : Nat} (r : Rd h b s l k) : h b ≠ none := by rw [r.1]; simp
/-- It stands elsewhere. -/
theorem Rd.move {h : H} {b : Nat} {l : List UInt8} {k k' : Nat} {s : Value} (hb : h b = some (.cells #[s, .int .i64 k, .bool true] 99)) (hs : By (fun y => y = b) h s l) (hk : k' ≤ l.length) (hl : l.length ≤ 140737488355328) (v : Int) (hv : v = k') :
    Rd (hupd h b (.cells #[s, .int .i64 v, .bool true] 99)) b s l k' := by
  subst hv
  exact ⟨hupd_same _ _ _, hs.fr (Fr.upd (S := fun y => y = b) rfl _) fun _ h => h, hk, hl⟩
/-- There is none. -/
def NoRd (h : H) (v : Value) : Prop := v = .pointer none ∨ ∃ b s a, v = .pointer (some ⟨b, 0, none⟩) ∧ h b = some (.cells #[s, a, .bool false] 99)
theorem NoRd.ext {h h' : H} {v : Value} (r : NoRd h v) (e : Ext h h') : NoRd h' v := r.imp id fun ⟨b, s, a, h1, h2⟩ => ⟨b, s, a, h1, e.at h2⟩

theorem none_ok {h : H} {b : Nat} {s : Value} {k : Int} (r : h b = some (.cells #[s, .int .i64 k, .bool true] 99)) : Ok Try.prog 65 #[.pointer (some ⟨b, 0, none⟩)] h fun v h' => v = .bool false ∧ h = h' := by
  refine c65_ok (args := [_]) (by simp) ?_
  simp (disch := omega) only [dm_t, wA, wB, wL, wW, wY, Int.fdiv_eq_ediv_of_nonneg, Int.tdiv_eq_ediv_of_nonneg, Int.tmod_eq_emod_of_nonneg, chk_pos, decT, decF, br_pos, br_neg, wX, ↓reduceIte, Nat.reduceEqDiff, Nat.reduceAdd, Nat.reduceSub, Nat.reduceMul, Nat.reduceLeDiff, Nat.reduceLT, Nat.reduceMod, Nat.reduceDiv, Int.reduceToNat, Nat.min_eq_left, IntKind.bits, Int.reducePow, Int.reduceLT, Int.reduceLE, Int.reduceEq, Int.reduceNe, Int.reduceAdd, Int.reduceSub, and_self, reduceCtorEq, decide_eq_true_eq, decide_eq_false_iff_not, eq_self, implies_true, exists_const, Option.isNone_some, Option.isNone_none, Option.isSome_some, Option.isSome_none, Option.getD_some, cellAt_of r]
theorem none_no {h : H} {v : Value} (r : NoRd h v) : Ok Try.prog 65 #[v] h fun v h' => v = .bool true ∧ h = h' := by
  rcases r with rfl | ⟨b, s, a, rfl, r⟩
  · refine c65_ok (args := [_]) (by simp) ?_
    simp (disch := omega) only [dm_t, wA, wB, wL, wW, wY, Int.fdiv_eq_ediv_of_nonneg, Int.tdiv_eq_ediv_of_nonneg, Int.tmod_eq_emod_of_nonneg, chk_pos, decT, decF, br_pos, br_neg, wX, ↓reduceIte, Nat.reduceEqDiff, Nat.reduceAdd, Nat.reduceSub, Nat.reduceMul, Nat.reduceLeDiff, Nat.reduceLT, Nat.reduceMod, Nat.reduceDiv, Int.reduceToNat, Nat.min_eq_left, IntKind.bits, Int.reducePow, Int.reduceLT, Int.reduceLE, Int.reduceEq, Int.reduceNe, Int.reduceAdd, Int.reduceSub, and_self, reduceCtorEq, decide_eq_true_eq, decide_eq_false_iff_not, eq_self, implies_true, exists_const, Option.isNone_some, Option.isNone_none, Option.isSome_some, Option.isSome_none, Option.getD_some]
  · refine c65_ok (args := [_]) (by simp) ?_
    simp (disch := omega) only [dm_t, wA, wB, wL, wW, wY, Int.fdiv_eq_ediv_of_nonneg, Int.tdiv_eq_ediv_of_nonneg, Int.tmod_eq_emod_of_nonneg, chk_pos, decT, decF, br_pos, br_neg, wX, ↓reduceIte, Nat.reduceEqDiff, Nat.reduceAdd, Nat.reduceSub, Nat.reduceMul, Nat.reduceLeDiff, Nat.reduceLT, Nat.reduceMod, Nat.reduceDiv, Int.reduceToNat, Nat.min_eq_left, IntKind.bits, Int.reducePow, Int.reduceLT, Int.reduceLE, Int.reduceEq, Int.reduceNe, Int.reduceAdd, Int.reduceSub, and_self, reduceCtorEq, decide_eq_true_eq, decide_eq_false_iff_not, eq_self, implies_true, exists_const, Option.isNone_some, Option.isNone_none, Option.isSome_some, Option.isSome_none, Option.getD_some, cellAt_of r]

theorem number_ok {h : H} {b : Nat} {s : Value} {l : List UInt8} {k : Nat} (r : Rd h b s l k) (n : Nat) (hn : n ≤ 8) (hl : k + n ≤ l.length) :
    Ok Try.prog 64 #[.pointer (some ⟨b, 0, none⟩), .int .i64 (n : Int)] h fun v h' => v = .tuple #[.int .u64 (num ((l.drop k).take n) : Nat), .int .i64 0] ∧ Rd h' b s l (k + n) ∧ Fr (fun y => y = b) h h' := by
  obtain ⟨r1, r2, r3, r4⟩ := r
  obtain ⟨sa, sc, rfl⟩ := r2.len
  refine c64_ok (args := [_, _]) (by simp) ?_
  simp (disch := omega) only [dm_t, wA, wB, wL, wW, wY, Int.fdiv_eq_ediv_of_nonneg, Int.tdiv_eq_ediv_of_nonneg, Int.tmod_eq_emod_of_nonneg, chk_pos, decT, decF, br_pos, br_neg, wX, ↓reduceIte, Nat.reduceEqDiff, Nat.reduceAdd, Nat.reduceSub, Nat.reduceMul, Nat.reduceLeDiff, Nat.reduceLT, Nat.reduceMod, Nat.reduceDiv, Int.reduceToNat, Nat.min_eq_left, IntKind.bits, Int.reducePow, Int.reduceLT, Int.reduceLE, Int.reduceEq, Int.reduceNe, Int.reduceAdd, Int.reduceSub, and_self, reduceCtorEq, decide_eq_true_eq, decide_eq_false_iff_not, eq_self, implies_true, exists_const, Option.isNone_some, Option.isNone_none, Option.isSome_some, Option.isSome_none, Option.getD_some]
  refine (none_ok r1).k ?_
  rintro _ _ ⟨rfl, rfl⟩
  simp (disch := omega) only [dm_t, wA, wB, wL, wW, wY, Int.fdiv_eq_ediv_of_nonneg, Int.tdiv_eq_ediv_of_nonneg, Int.tmod_eq_emod_of_nonneg, chk_pos, decT, decF, br_pos, br_neg, wX, ↓reduceIte, Nat.reduceEqDiff, Nat.reduceAdd, Nat.reduceSub, Nat.reduceMul, Nat.reduceLeDiff, Nat.reduceLT, Nat.reduceMod, Nat.reduceDiv, Int.reduceToNat, Nat.min_eq_left, IntKind.bits, Int.reducePow, Int.reduceLT, Int.reduceLE, Int.reduceEq, Int.reduceNe, Int.reduceAdd, Int.reduceSub, and_self, reduceCtorEq, decide_eq_true_eq, decide_eq_false_iff_not, eq_self, implies_true, exists_const, Option.isNone_some, Option.isNone_none, Option.isSome_some, Option.isSome_none, Option.getD_some, cellAt_of r1]
  have hw : ((l.drop k).take n).length = n := by rw [List.length_take, List.length_drop]; omega
  refine vc_loop2 (fun vx vi h' => h' = h ∧ ∃ i : Nat, i ≤ n ∧ vx = .int .u64 (num (((l.drop k).take n).drop i) : Nat) ∧ vi = .int .i64 ((i : Int) - 1)) (fun _ vi _ => mp vi) ?_ ?_
  · simp (disch := omega) only [dm_t, wA, wB, wL, wW, wY, Int.fdiv_eq_ediv_of_nonneg, Int.tdiv_eq_ediv_of_nonneg, Int.tmod_eq_emod_of_nonneg, chk_pos, decT, decF, br_pos, br_neg, wX, ↓reduceIte, Nat.reduceEqDiff, Nat.reduceAdd, Nat.reduceSub, Nat.reduceMul, Nat.reduceLeDiff, Nat.reduceLT, Nat.reduceMod, Nat.reduceDiv, Int.reduceToNat, Nat.min_eq_left, IntKind.bits, Int.reducePow, Int.reduceLT, Int.reduceLE, Int.reduceEq, Int.reduceNe, Int.reduceAdd, Int.reduceSub, and_self, reduceCtorEq, decide_eq_true_eq, decide_eq_false_iff_not, eq_self, implies_true, exists_const, Option.isNone_some, Option.isNone_none, Option.isSome_some, Option.isSome_none, Option.getD_some]
    exact ⟨n, by omega, by rw [List.drop_eq_nil_of_le (by omega)]; rfl, rfl⟩
  rintro _ _ _ ⟨rfl, i, hi, rfl, rfl⟩
  by_cases hi0 : 0 < i
  · obtain ⟨j, rfl⟩ : ∃ j, i = j + 1 := ⟨i - 1, by omega⟩
    have hnum : num (((l.drop k).take n).drop j) = l[k + j].toNat + 256 * num (((l.drop k).take n).drop (j + 1)) := by
      rw [List.drop_eq_getElem_cons (by omega), num]
      simp
    have hx := num_lt (((l.drop k).take n).drop (j + 1))
    have hlen : (((l.drop k).take n).drop (j + 1)).length ≤ 7 := by rw [List.length_drop]; omega
    have hx7 : num (((l.drop k).take n).drop (j + 1)) < 256 ^ 7 := Nat.lt_of_lt_of_le hx (Nat.pow_le_pow_right (by decide) hlen)
    have hbl := (l[k + j]).toNat_lt
    generalize num (((l.drop k).take n).drop (j + 1)) = x at hnum hx7 ⊢
    simp (disch := omega) only [dm_t, wA, wB, wL, wW, wY, Int.fdiv_eq_ediv_of_nonneg, Int.tdiv_eq_ediv_of_nonneg, Int.tmod_eq_emod_of_nonneg, chk_pos, decT, decF, br_pos, br_neg, wX, ↓reduceIte, Nat.reduceEqDiff, Nat.reduceAdd, Nat.reduceSub, Nat.reduceMul, Nat.reduceLeDiff, Nat.reduceLT, Nat.reduceMod, Nat.reduceDiv, Int.reduceToNat, Nat.min_eq_left, IntKind.bits, Int.reducePow, Int.reduceLT, Int.reduceLE, Int.reduceEq, Int.reduceNe, Int.reduceAdd, Int.reduceSub, and_self, reduceCtorEq, decide_eq_true_eq, decide_eq_false_iff_not, eq_self, implies_true, exists_const, Option.isNone_some, Option.isNone_none, Option.isSome_some, Option.isSome_none, Option.getD_some, cellAt_of r1]
    refine r2.at (k + j) (by omega) (by omega) ?_
    intro pb po g2
    simp (disch := omega) only [dm_t, wA, wB, wL, wW, wY, Int.fdiv_eq_ediv_of_nonneg, Int.tdiv_eq_ediv_of_nonneg, Int.tmod_eq_emod_of_nonneg, chk_pos, decT, decF, br_pos, br_neg, wX, ↓reduceIte, Nat.reduceEqDiff, Nat.reduceAdd, Nat.reduceSub, Nat.reduceMul, Nat.reduceLeDiff, Nat.reduceLT, Nat.reduceMod, Nat.reduceDiv, Int.reduceToNat, Nat.min_eq_left, IntKind.bits, Int.reducePow, Int.reduceLT, Int.reduceLE, Int.reduceEq, Int.reduceNe, Int.reduceAdd, Int.reduceSub, and_self, reduceCtorEq, decide_eq_true_eq, decide_eq_false_iff_not, eq_self, implies_true, exists_const, Option.isNone_some, Option.isNone_none, Option.isSome_some, Option.isSome_none, Option.getD_some, g2]
    refine ⟨⟨j, by omega, by rw [hnum]; exact congrArg (fun n : Nat => Value.int .u64 (n : Int)) (or_byte x _ hbl hx7), by simp⟩, by simp [mp]⟩
  · obtain rfl : i = 0 := by omega
    simp (disch := omega) only [dm_t, wA, wB, wL, wW, wY, Int.fdiv_eq_ediv_of_nonneg, Int.tdiv_eq_ediv_of_nonneg, Int.tmod_eq_emod_of_nonneg, chk_pos, decT, decF, br_pos, br_neg, wX, ↓reduceIte, Nat.reduceEqDiff, Nat.reduceAdd, Nat.reduceSub, Nat.reduceMul, Nat.reduceLeDiff, Nat.reduceLT, Nat.reduceMod, Nat.reduceDiv, Int.reduceToNat, Nat.min_eq_left, IntKind.bits, Int.reducePow, Int.reduceLT, Int.reduceLE, Int.reduceEq, Int.reduceNe, Int.reduceAdd, Int.reduceSub, and_self, reduceCtorEq, decide_eq_true_eq, decide_eq_false_iff_not, eq_self, implies_true, exists_const, Option.isNone_some, Option.isNone_none, Option.isSome_some, Option.isSome_none, Option.getD_some, cellAt_of r1, storeH_0 r1]
    refine ⟨rfl, Rd.move r1 r2 (by omega) r4 _ (by simp), Fr.upd (S := fun y => y = b) rfl _⟩
theorem number_more {h : H} {b : Nat} {s : Value} {l : List UInt8} {k : Nat} (r : Rd h b s l k) (n : Nat) (hn : n ≤ 8) (hl : l.length < k + n) :
    Ok Try.prog 64 #[.pointer (some ⟨b, 0, none⟩), .int .i64 (n : Int)] h fun v h' => v = .tuple #[.int .u64 0, .int .i64 111] ∧ h = h' := by
  obtain ⟨r1, r2, r3, r4⟩ := r
  obtain ⟨sa, sc, rfl⟩ := r2.len
  refine c64_ok (args := [_, _]) (by simp) ?_
  simp (disch := omega) only [dm_t, wA, wB, wL, wW, wY, Int.fdiv_eq_ediv_of_nonneg, Int.tdiv_eq_ediv_of_nonneg, Int.tmod_eq_emod_of_nonneg, chk_pos, decT, decF, br_pos, br_neg, wX, ↓reduceIte, Nat.reduceEqDiff, Nat.reduceAdd, Nat.reduceSub, Nat.reduceMul, Nat.reduceLeDiff, Nat.reduceLT, Nat.reduceMod, Nat.reduceDiv, Int.reduceToNat, Nat.min_eq_left, IntKind.bits, Int.reducePow, Int.reduceLT, Int.reduceLE, Int.reduceEq, Int.reduceNe, Int.reduceAdd, Int.reduceSub, and_self, reduceCtorEq, decide_eq_true_eq, decide_eq_false_iff_not, eq_self, implies_true, exists_const, Option.isNone_some, Option.isNone_none, Option.isSome_some, Option.isSome_none, Option.getD_some]
  refine (none_ok r1).k ?_
  rintro _ _ ⟨rfl, rfl⟩
  simp (disch := omega) only [dm_t, wA, wB, wL, wW, wY, Int.fdiv_eq_ediv_of_nonneg, Int.tdiv_eq_ediv_of_nonneg, Int.tmod_eq_emod_of_nonneg, chk_pos, decT, decF, br_pos, br_neg, wX, ↓reduceIte, Nat.reduceEqDiff, Nat.reduceAdd, Nat.reduceSub, Nat.reduceMul, Nat.reduceLeDiff, Nat.reduceLT, Nat.reduceMod, Nat.reduceDiv, Int.reduceToNat, Nat.min_eq_left, IntKind.bits, Int.reducePow, Int.reduceLT, Int.reduceLE, Int.reduceEq, Int.reduceNe, Int.reduceAdd, Int.reduceSub, and_self, reduceCtorEq, decide_eq_true_eq, decide_eq_false_iff_not, eq_self, implies_true, exists_const, Option.isNone_some, Option.isNone_none, Option.isSome_some, Option.isSome_none, Option.getD_some, cellAt_of r1]
theorem number_no {h : H} {v : Value} (r : NoRd h v) (n : Value) : Ok Try.prog 64 #[v, n] h fun v h' => v = .tuple #[.int .u64 0, .int .i64 1] ∧ h = h' := by
  refine c64_ok (args := [_, _]) (by simp) ?_
  simp (disch := omega) only [dm_t, wA, wB, wL, wW, wY, Int.fdiv_eq_ediv_of_nonneg, Int.tdiv_eq_ediv_of_nonneg, Int.tmod_eq_emod_of_nonneg, chk_pos, decT, decF, br_pos, br_neg, wX, ↓reduceIte, Nat.reduceEqDiff, Nat.reduceAdd, Nat.reduceSub, Nat.reduceMul, Nat.reduceLeDiff, Nat.reduceLT, Nat.reduceMod, Nat.reduceDiv, Int.reduceToNat, Nat.min_eq_left, IntKind.bits, Int.reducePow, Int.reduceLT, Int.reduceLE, Int.reduceEq, Int.reduceNe, Int.reduceAdd, Int.reduceSub, and_self, reduceCtorEq, decide_eq_true_eq, decide_eq_false_iff_not, eq_self, implies_true, exists_const, Option.isNone_some, Option.isNone_none, Option.isSome_some, Option.isSome_none, Option.getD_some]
  refine (none_no r).k ?_
  rintro _ _ ⟨rfl, rfl⟩
  simp (disch := omega) only [dm_t, wA, wB, wL, wW, wY, Int.fdiv_eq_ediv_of_nonneg, Int.tdiv_eq_ediv_of_nonneg, Int.tmod_eq_emod_of_nonneg, chk_pos, decT, decF, br_pos, br_neg, wX, ↓reduceIte, Nat.reduceEqDiff, Nat.reduceAdd, Nat.reduceSub, Nat.reduceMul, Nat.reduceLeDiff, Nat.reduceLT, Nat.reduceMod, Nat.reduceDiv, Int.reduceToNat, Nat.min_eq_left, IntKind.bits, Int.reducePow, Int.reduceLT, Int.reduceLE, Int.reduceEq, Int.reduceNe, Int.reduceAdd, Int.reduceSub, and_self, reduceCtorEq, decide_eq_true_eq, decide_eq_false_iff_not, eq_self, implies_true, exists_const, Option.isNone_some, Option.isNone_none, Option.isSome_some, Option.isSome_none, Option.getD_some]
theorem U32_ok {h : H} {b : Nat} {s : Value} {l : List UInt8} {k : Nat} (r : Rd h b s l k) (hl : k + 4 ≤ l.length) :
    Ok Try.prog 32 #[.pointer (some ⟨b, 0, none⟩)] h fun v h' => v = .tuple #[.int .u32 (num ((l.drop k).take 4) : Nat), .int .i64 0] ∧ Rd h' b s l (k + 4) ∧ Fr (fun y => y = b) h h' := by
  refine c32_ok (args := [_]) (by simp) ?_
  have hx := num_lt ((l.drop k).take 4)
  have hw : ((l.drop k).take 4).length = 4 := by rw [List.length_take, List.length_drop]; omega
  rw [hw] at hx
  simp (disch := omega) only [dm_t, wA, wB, wL, wW, wY, Int.fdiv_eq_ediv_of_nonneg, Int.tdiv_eq_ediv_of_nonneg, Int.tmod_eq_emod_of_nonneg, chk_pos, decT, decF, br_pos, br_neg, wX, ↓reduceIte, Nat.reduceEqDiff, Nat.reduceAdd, Nat.reduceSub, Nat.reduceMul, Nat.reduceLeDiff, Nat.reduceLT, Nat.reduceMod, Nat.reduceDiv, Int.reduceToNat, Nat.min_eq_left, IntKind.bits, Int.reducePow, Int.reduceLT, Int.reduceLE, Int.reduceEq, Int.reduceNe, Int.reduceAdd, Int.reduceSub, and_self, reduceCtorEq, decide_eq_true_eq, decide_eq_false_iff_not, eq_self, implies_true, exists_const, Option.isNone_some, Option.isNone_none, Option.isSome_some, Option.isSome_none, Option.getD_some]
  refine (number_ok r 4 (by omega) hl).k ?_
  rintro _ h' ⟨rfl, h1, h2⟩
  simp (disch := omega) only [dm_t, wA, wB, wL, wW, wY, Int.fdiv_eq_ediv_of_nonneg, Int.tdiv_eq_ediv_of_nonneg, Int.tmod_eq_emod_of_nonneg, chk_pos, decT, decF, br_pos, br_neg, wX, ↓reduceIte, Nat.reduceEqDiff, Nat.reduceAdd, Nat.reduceSub, Nat.reduceMul, Nat.reduceLeDiff, Nat.reduceLT, Nat.reduceMod, Nat.reduceDiv, Int.reduceToNat, Nat.min_eq_left, IntKind.bits, Int.reducePow, Int.reduceLT, Int.reduceLE, Int.reduceEq, Int.reduceNe, Int.reduceAdd, Int.reduceSub, and_self, reduceCtorEq, decide_eq_true_eq, decide_eq_false_iff_not, eq_self, implies_true, exists_const, Option.isNone_some, Option.isNone_none, Option.isSome_some, Option.isSome_none, Option.getD_some]
  exact ⟨h1, h2⟩
def sgn64 (x : Nat) : Int := if x < 9223372036854775808 then (x : Int) else (x : Int) - 18446744073709551616
theorem wrap_sgn (x : Nat) (hx : x < 2 ^ 64) : IntKind.i64.wrap (x : Int) = sgn64 x := by
  rw [wrap64i, sgn64]; split <;> split <;> omega
theorem bits_wrap (x : Nat) (hx : x < 2 ^ 64) : bits64 (IntKind.i64.wrap (x : Int)) = x := by
  rw [wrap64i]; unfold bits64; split <;> omega
theorem bits_sgn (x : Nat) (hx : x < 2 ^ 64) : bits64 (sgn64 x) = x := by rw [← wrap_sgn x hx, bits_wrap x hx]
theorem I64_ok {h : H} {b : Nat} {s : Value} {l : List UInt8} {k : Nat} (r : Rd h b s l k) (hl : k + 8 ≤ l.length) :
    Ok Try.prog 31 #[.pointer (some ⟨b, 0, none⟩)] h fun v h' => v = .tuple #[.int .i64 (sgn64 (num ((l.drop k).take 8))), .int .i64 0] ∧ Rd h' b s l (k + 8) ∧ Fr (fun y => y = b) h h' := by
  refine c31_ok (args := [_]) (by simp) ?_
  have hx := num_lt ((l.drop k).take 8)
  have hw : ((l.drop k).take 8).length = 8 := by rw [List.length_take, List.length_drop]; omega
  rw [hw] at hx
  simp (disch := omega) only [dm_t, wA, wB, wL, wW, wY, Int.fdiv_eq_ediv_of_nonneg, Int.tdiv_eq_ediv_of_nonneg, Int.tmod_eq_emod_of_nonneg, chk_pos, decT, decF, br_pos, br_neg, wX, ↓reduceIte, Nat.reduceEqDiff, Nat.reduceAdd, Nat.reduceSub, Nat.reduceMul, Nat.reduceLeDiff, Nat.reduceLT, Nat.reduceMod, Nat.reduceDiv, Int.reduceToNat, Nat.min_eq_left, IntKind.bits, Int.reducePow, Int.reduceLT, Int.reduceLE, Int.reduceEq, Int.reduceNe, Int.reduceAdd, Int.reduceSub, and_self, reduceCtorEq, decide_eq_true_eq, decide_eq_false_iff_not, eq_self, implies_true, exists_const, Option.isNone_some, Option.isNone_none, Option.isSome_some, Option.isSome_none, Option.getD_some]
  refine (number_ok r 8 (by omega) hl).k ?_
  rintro _ h' ⟨rfl, h1, h2⟩
  simp (disch := omega) only [dm_t, wA, wB, wL, wW, wY, Int.fdiv_eq_ediv_of_nonneg, Int.tdiv_eq_ediv_of_nonneg, Int.tmod_eq_emod_of_nonneg, chk_pos, decT, decF, br_pos, br_neg, wX, ↓reduceIte, Nat.reduceEqDiff, Nat.reduceAdd, Nat.reduceSub, Nat.reduceMul, Nat.reduceLeDiff, Nat.reduceLT, Nat.reduceMod, Nat.reduceDiv, Int.reduceToNat, Nat.min_eq_left, IntKind.bits, Int.reducePow, Int.reduceLT, Int.reduceLE, Int.reduceEq, Int.reduceNe, Int.reduceAdd, Int.reduceSub, and_self, reduceCtorEq, decide_eq_true_eq, decide_eq_false_iff_not, eq_self, implies_true, exists_const, Option.isNone_some, Option.isNone_none, Option.isSome_some, Option.isSome_none, Option.getD_some, wrap_sgn _ hx]
  exact ⟨h1, h2⟩
theorem Left_ok {h : H} {b : Nat} {s : Value} {l : List UInt8} {k : Nat} (r : Rd h b s l k) :
    Ok Try.prog 33 #[.pointer (some ⟨b, 0, none⟩)] h fun v h' => v = .int .i64 ((l.length : Int) - k) ∧ h = h' := by
  obtain ⟨r1, r2, r3, r4⟩ := r
  obtain ⟨sa, sc, rfl⟩ := r2.len
  refine c33_ok (args := [_]) (by simp) ?_
  simp (disch := omega) only [dm_t, wA, wB, wL, wW, wY, Int.fdiv_eq_ediv_of_nonneg, Int.tdiv_eq_ediv_of_nonneg, Int.tmod_eq_emod_of_nonneg, chk_pos, decT, decF, br_pos, br_neg, wX, ↓reduceIte, Nat.reduceEqDiff, Nat.reduceAdd, Nat.reduceSub, Nat.reduceMul, Nat.reduceLeDiff, Nat.reduceLT, Nat.reduceMod, Nat.reduceDiv, Int.reduceToNat, Nat.min_eq_left, IntKind.bits, Int.reducePow, Int.reduceLT, Int.reduceLE, Int.reduceEq, Int.reduceNe, Int.reduceAdd, Int.reduceSub, and_self, reduceCtorEq, decide_eq_true_eq, decide_eq_false_iff_not, eq_self, implies_true, exists_const, Option.isNone_some, Option.isNone_none, Option.isSome_some, Option.isSome_none, Option.getD_some]
  refine (none_ok r1).k ?_
  rintro _ _ ⟨rfl, rfl⟩
  simp (disch := omega) only [dm_t, wA, wB, wL, wW, wY, Int.fdiv_eq_ediv_of_nonneg, Int.tdiv_eq_ediv_of_nonneg, Int.tmod_eq_emod_of_nonneg, chk_pos, decT, decF, br_pos, br_neg, wX, ↓reduceIte, Nat.reduceEqDiff, Nat.reduceAdd, Nat.reduceSub, Nat.reduceMul, Nat.reduceLeDiff, Nat.reduceLT, Nat.reduceMod, Nat.reduceDiv, Int.reduceToNat, Nat.min_eq_left, IntKind.bits, Int.reducePow, Int.reduceLT, Int.reduceLE, Int.reduceEq, Int.reduceNe, Int.reduceAdd, Int.reduceSub, and_self, reduceCtorEq, decide_eq_true_eq, decide_eq_false_iff_not, eq_self, implies_true, exists_const, Option.isNone_some, Option.isNone_none, Option.isSome_some, Option.isSome_none, Option.getD_some, cellAt_of r1]
theorem New_ok {h : H} {v : Value} {l : List UInt8} (hv : By nos h v l) (hl : l.length ≤ 140737488355328) :
    Ok Try.prog 30 #[v] h fun v h' => ∃ c s, v = .pointer (some ⟨c, 0, none⟩) ∧ h c = none ∧ Rd h' c s l 0 ∧ Ext h h' := by
  refine c30_ok (args := [_]) (by simp) ?_
  simp (disch := omega) only [dm_t, wA, wB, wL, wW, wY, Int.fdiv_eq_ediv_of_nonneg, Int.tdiv_eq_ediv_of_nonneg, Int.tmod_eq_emod_of_nonneg, chk_pos, decT, decF, br_pos, br_neg, wX, ↓reduceIte, Nat.reduceEqDiff, Nat.reduceAdd, Nat.reduceSub, Nat.reduceMul, Nat.reduceLeDiff, Nat.reduceLT, Nat.reduceMod, Nat.reduceDiv, Int.reduceToNat, Nat.min_eq_left, IntKind.bits, Int.reducePow, Int.reduceLT, Int.reduceLE, Int.reduceEq, Int.reduceNe, Int.reduceAdd, Int.reduceSub, and_self, reduceCtorEq, decide_eq_true_eq, decide_eq_false_iff_not, eq_self, implies_true, exists_const, Option.isNone_some, Option.isNone_none, Option.isSome_some, Option.isSome_none, Option.getD_some]
  refine (clone_ok hv hl).k ?_
  rintro w h1 ⟨ho, e⟩
  obtain ⟨sa, sc, rfl⟩ := ho.s0.len
  simp (disch := omega) only [dm_t, wA, wB, wL, wW, wY, Int.fdiv_eq_ediv_of_nonneg, Int.tdiv_eq_ediv_of_nonneg, Int.tmod_eq_emod_of_nonneg, chk_pos, decT, decF, br_pos, br_neg, wX, ↓reduceIte, Nat.reduceEqDiff, Nat.reduceAdd, Nat.reduceSub, Nat.reduceMul, Nat.reduceLeDiff, Nat.reduceLT, Nat.reduceMod, Nat.reduceDiv, Int.reduceToNat, Nat.min_eq_left, IntKind.bits, Int.reducePow, Int.reduceLT, Int.reduceLE, Int.reduceEq, Int.reduceNe, Int.reduceAdd, Int.reduceSub, and_self, reduceCtorEq, decide_eq_true_eq, decide_eq_false_iff_not, eq_self, implies_true, exists_const, Option.isNone_some, Option.isNone_none, Option.isSome_some, Option.isSome_none, Option.getD_some]
  intro c hc
  have hs := ho.s0.mono (T := fun y => y = c) (fun x o hx hxc => by rw [hxc, hc] at hx; cases hx)
  exact ⟨c, _, rfl, e.bk hc, ⟨hupd_same _ _ _, hs.fr (Fr.upd (S := fun y => y = c) rfl _) fun _ h => h, by omega, hl⟩, e.trans (Ext.new hc _)⟩
end Go.Proofs.Ytmjbgfflbeibnaa.wi
