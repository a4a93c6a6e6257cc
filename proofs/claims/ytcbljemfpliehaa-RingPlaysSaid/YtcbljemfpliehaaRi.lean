/-
  The queue (elements: whole numbers): what each of its calls does.
-/
import Derived.Test.YtcbljemfpliehaaK20
import Derived.Test.YtcbljemfpliehaaC1
namespace Go.Proofs.Ytcbljemfpliehaa.ri
open Go.Proofs.Ytcbljemfpliehaa
set_option linter.unusedVariables false
set_option linter.unusedSimpArgs false

/-- A queue in memory: its block, its list's block, room, the first one's place, what is in it. -/
structure Ring (h : H) (b lb cap first : Nat) (xs : List Value) : Prop where
  obj : h b = some (.cells #[.slice (some ⟨lb, 0, none⟩) cap cap, .int .i64 first, .int .i64 xs.length] 72)
  arr : ∃ c, h lb = some (.cells c 3) ∧ c.size = cap ∧ ∀ i (hi : i < xs.length), c[(first + i) % cap]? = some xs[i]
  ne : b ≠ lb
  first : first < cap
  room : xs.length ≤ cap
  cap : cap ≤ 256
  ic : ∃ c, h lb = some (.cells c 3) ∧ c.toList.all isCell = true

theorem modE {f i cap : Nat} (hf : f < cap) (hi : i < cap) : (f + i) % cap = if f + i < cap then f + i else f + i - cap := by
  split
  · exact Nat.mod_eq_of_lt ‹_›
  · rw [Nat.mod_eq_sub_mod (by omega), Nat.mod_eq_of_lt (by omega)]

theorem Ring.ext {h h' : H} {b lb cap first : Nat} {xs : List Value} (r : Ring h b lb cap first xs) (e : Ext h h') : Ring h' b lb cap first xs := by
  obtain ⟨c, c1, c2⟩ := r.arr
  obtain ⟨c', d1, d2⟩ := r.ic
  exact ⟨e.at r.obj, ⟨c, e.at c1, c2⟩, r.ne, r.first, r.room, r.cap, c', e.at d1, d2⟩
theorem Ring.fr {S : Nat → Prop} {h h' : H} {b lb cap first : Nat} {xs : List Value} (r : Ring h b lb cap first xs) (e : Fr S h h') (h1 : ¬ S b) (h2 : ¬ S lb) : Ring h' b lb cap first xs := by
  obtain ⟨c, c1, c2⟩ := r.arr
  obtain ⟨c', d1, d2⟩ := r.ic
  exact ⟨e _ _ r.obj h1, ⟨c, e _ _ c1 h2, c2⟩, r.ne, r.first, r.room, r.cap, c', e _ _ d1 h2, d2⟩

theorem Ring.there {h : H} {b lb cap first : Nat} {xs : List Value} (r : Ring h b lb cap first xs) : h b ≠ none ∧ h lb ≠ none := by
  obtain ⟨c, c1, c2⟩ := r.arr
  rw [r.obj, c1]; simp
theorem set_cells {c : Array Value} (h : c.toList.all isCell = true) (i : Nat) {x : Value} (hx : isCell x = true) : (c.setIfInBounds i x).toList.all isCell = true := by
  rw [List.all_eq_true] at *
  intro y hy
  rw [Array.toList_setIfInBounds] at hy
  rcases List.mem_or_eq_of_mem_set hy with hy | rfl
  · exact h y hy
  · exact hx
theorem Ring.pushed {h : H} {b lb cap first : Nat} {xs : List Value} (r : Ring h b lb cap first xs) {c : Array Value} (c1 : h lb = some (.cells c 3)) (x : Value) (hx : xs.length < cap) (hxc : isCell x = true) :
    Ring (hupd (hupd h lb (.cells (c.setIfInBounds ((first + xs.length) % cap) x) 3)) b (.cells #[.slice (some ⟨lb, 0, none⟩) cap cap, .int .i64 first, .int .i64 ((xs.length : Int) + 1)] 72)) b lb cap first (xs ++ [x]) := by
  obtain ⟨c', c1', c2, c3⟩ := r.arr
  obtain rfl : c' = c := by rw [c1] at c1'; simpa using c1'.symm
  have hf := r.first
  obtain ⟨c'', d1, d2⟩ := r.ic
  obtain rfl : c'' = c' := by rw [c1] at d1; simpa using d1.symm
  refine ⟨?_, ⟨_, by rw [hupd_ne _ _ r.ne.symm, hupd_same], by simp [c2], ?_⟩, r.ne, hf, by simp; omega, r.cap, _, by rw [hupd_ne _ _ r.ne.symm, hupd_same], set_cells d2 _ hxc⟩
  · rw [hupd_same]; simp
  · intro i hi
    have hi' : i < xs.length + 1 := by simpa using hi
    have hq := Nat.mod_lt (first + i) (by omega : cap > 0)
    by_cases hx' : i < xs.length
    · rw [Array.getElem?_setIfInBounds_ne, c3 i hx']
      · simp [hx']
      · rw [modE hf (by omega), modE hf (by omega)]
        split <;> split <;> omega
    · obtain rfl : i = xs.length := by omega
      simp [c2, hq]

theorem Ring.popped {h : H} {b lb cap first : Nat} {x : Value} {xs : List Value} (r : Ring h b lb cap first (x :: xs)) {c : Array Value} (c1 : h lb = some (.cells c 3)) (z : Value) (hz : isCell z = true) {h' : H}
    (hb : h' b = some (.cells #[.slice (some ⟨lb, 0, none⟩) cap cap, .int .i64 ((first + 1) % cap : Nat), .int .i64 xs.length] 72)) (hl : h' lb = some (.cells (c.setIfInBounds first z) 3)) : Ring h' b lb cap ((first + 1) % cap) xs := by
  obtain ⟨c', c1', c2, c3⟩ := r.arr
  obtain rfl : c' = c := by rw [c1] at c1'; simpa using c1'.symm
  have hf := r.first
  have hroom : xs.length + 1 ≤ cap := by simpa using r.room
  obtain ⟨c'', d1, d2⟩ := r.ic
  obtain rfl : c'' = c' := by rw [c1] at d1; simpa using d1.symm
  refine ⟨hb, ⟨_, hl, by simp [c2], ?_⟩, r.ne, Nat.mod_lt _ (by omega), by omega, r.cap, _, hl, set_cells d2 _ hz⟩
  intro i hi
  have h1 := c3 (i + 1) (by simpa using hi)
  have h2 : ((first + 1) % cap + i) % cap = (first + (i + 1)) % cap := by
    rw [Nat.mod_add_mod]
    congr 1; omega
  rw [h2, Array.getElem?_setIfInBounds_ne, h1]
  · simp
  · rw [modE hf (by omega)]
    split <;> omega

theorem none_ok {h : H} {b lb cap : Nat} {f n : Value} (r : h b = some (.cells #[.slice (some ⟨lb, 0, none⟩) cap cap, f, n] 72)) : Ok Try.prog 31 #[.pointer (some ⟨b, 0, none⟩)] h fun v h' => v = .bool false ∧ h = h' := by
  refine c31_ok (args := [_]) (by simp) ?_
  simp (disch := omega) only [dm_t, wA, wB, wL, wW, wY, Int.fdiv_eq_ediv_of_nonneg, Int.tdiv_eq_ediv_of_nonneg, Int.tmod_eq_emod_of_nonneg, chk_pos, decT, decF, br_pos, br_neg, wX, ↓reduceIte, Nat.reduceEqDiff, Nat.reduceAdd, Nat.reduceSub, Nat.reduceMul, Nat.reduceLeDiff, Nat.reduceLT, Nat.reduceMod, Nat.reduceDiv, Int.reduceToNat, Nat.min_eq_left, IntKind.bits, Int.reducePow, Int.reduceLT, Int.reduceLE, Int.reduceEq, Int.reduceNe, Int.reduceAdd, Int.reduceSub, and_self, reduceCtorEq, decide_eq_true_eq, decide_eq_false_iff_not, eq_self, implies_true, exists_const, Option.isNone_some, Option.isNone_none, Option.isSome_some, Option.isSome_none, Option.getD_some, cellAt_of r]

theorem at_ok {h : H} {b lb cap first : Nat} {n : Value} (r : h b = some (.cells #[.slice (some ⟨lb, 0, none⟩) cap cap, .int .i64 first, n] 72)) (h1 : first < cap) (h2 : cap ≤ 256) (i : Nat) (hi : i ≤ 1000) : Ok Try.prog 32 #[.pointer (some ⟨b, 0, none⟩), .int .i64 i] h fun v h' => v = .int .i64 ((first + i) % cap : Nat) ∧ h = h' := by
  refine c32_ok (args := [_, _]) (by simp) ?_
  simp (disch := omega) only [dm_t, wA, wB, wL, wW, wY, Int.fdiv_eq_ediv_of_nonneg, Int.tdiv_eq_ediv_of_nonneg, Int.tmod_eq_emod_of_nonneg, chk_pos, decT, decF, br_pos, br_neg, wX, ↓reduceIte, Nat.reduceEqDiff, Nat.reduceAdd, Nat.reduceSub, Nat.reduceMul, Nat.reduceLeDiff, Nat.reduceLT, Nat.reduceMod, Nat.reduceDiv, Int.reduceToNat, Nat.min_eq_left, IntKind.bits, Int.reducePow, Int.reduceLT, Int.reduceLE, Int.reduceEq, Int.reduceNe, Int.reduceAdd, Int.reduceSub, and_self, reduceCtorEq, decide_eq_true_eq, decide_eq_false_iff_not, eq_self, implies_true, exists_const, Option.isNone_some, Option.isNone_none, Option.isSome_some, Option.isSome_none, Option.getD_some, cellAt_of r]
  rw [Nat.add_comm, Int.natCast_emod, Int.natCast_add]

theorem len_ok {h : H} {b lb cap first : Nat} {xs : List Value} (r : Ring h b lb cap first xs) : Ok Try.prog 18 #[.pointer (some ⟨b, 0, none⟩)] h fun v h' => v = .int .i64 xs.length ∧ h = h' := by
  refine c18_ok (args := [_]) (by simp) ?_
  simp (disch := omega) only [dm_t, wA, wB, wL, wW, wY, Int.fdiv_eq_ediv_of_nonneg, Int.tdiv_eq_ediv_of_nonneg, Int.tmod_eq_emod_of_nonneg, chk_pos, decT, decF, br_pos, br_neg, wX, ↓reduceIte, Nat.reduceEqDiff, Nat.reduceAdd, Nat.reduceSub, Nat.reduceMul, Nat.reduceLeDiff, Nat.reduceLT, Nat.reduceMod, Nat.reduceDiv, Int.reduceToNat, Nat.min_eq_left, IntKind.bits, Int.reducePow, Int.reduceLT, Int.reduceLE, Int.reduceEq, Int.reduceNe, Int.reduceAdd, Int.reduceSub, and_self, reduceCtorEq, decide_eq_true_eq, decide_eq_false_iff_not, eq_self, implies_true, exists_const, Option.isNone_some, Option.isNone_none, Option.isSome_some, Option.isSome_none, Option.getD_some]
  refine (none_ok r.obj).k ?_
  rintro _ _ ⟨rfl, rfl⟩
  simp (disch := omega) only [dm_t, wA, wB, wL, wW, wY, Int.fdiv_eq_ediv_of_nonneg, Int.tdiv_eq_ediv_of_nonneg, Int.tmod_eq_emod_of_nonneg, chk_pos, decT, decF, br_pos, br_neg, wX, ↓reduceIte, Nat.reduceEqDiff, Nat.reduceAdd, Nat.reduceSub, Nat.reduceMul, Nat.reduceLeDiff, Nat.reduceLT, Nat.reduceMod, Nat.reduceDiv, Int.reduceToNat, Nat.min_eq_left, IntKind.bits, Int.reducePow, Int.reduceLT, Int.reduceLE, Int.reduceEq, Int.reduceNe, Int.reduceAdd, Int.reduceSub, and_self, reduceCtorEq, decide_eq_true_eq, decide_eq_false_iff_not, eq_self, implies_true, exists_const, Option.isNone_some, Option.isNone_none, Option.isSome_some, Option.isSome_none, Option.getD_some, cellAt_of r.obj]

theorem new_ok (h : H) (bound : Int) (h1 : 1 ≤ bound) (h2 : bound ≤ 256) : Ok Try.prog 13 #[.int .i64 bound] h fun v h' =>
    ∃ b lb, v = .tuple #[.pointer (some ⟨b, 0, none⟩), .int .i64 0] ∧ Ring h' b lb bound.toNat 0 [] ∧ Ext h h' ∧ h b = none ∧ h lb = none := by
  refine c13_ok (args := [_]) (by simp) ?_
  simp (disch := omega) only [dm_t, wA, wB, wL, wW, wY, Int.fdiv_eq_ediv_of_nonneg, Int.tdiv_eq_ediv_of_nonneg, Int.tmod_eq_emod_of_nonneg, chk_pos, decT, decF, br_pos, br_neg, wX, ↓reduceIte, Nat.reduceEqDiff, Nat.reduceAdd, Nat.reduceSub, Nat.reduceMul, Nat.reduceLeDiff, Nat.reduceLT, Nat.reduceMod, Nat.reduceDiv, Int.reduceToNat, Nat.min_eq_left, IntKind.bits, Int.reducePow, Int.reduceLT, Int.reduceLE, Int.reduceEq, Int.reduceNe, Int.reduceAdd, Int.reduceSub, and_self, reduceCtorEq, decide_eq_true_eq, decide_eq_false_iff_not, eq_self, implies_true, exists_const, Option.isNone_some, Option.isNone_none, Option.isSome_some, Option.isSome_none, Option.getD_some]
  refine ⟨by omega, fun lb hlb b hb => ?_⟩
  have hne : b ≠ lb := by
    rintro rfl
    rw [hupd_same] at hb; cases hb
  rw [hupd_ne _ _ hne] at hb
  refine ⟨b, lb, rfl, ⟨hupd_same _ _ _, ⟨_, by rw [hupd_ne _ _ hne.symm, hupd_same], by simp [Builtin.zeroCells], fun i hi => by simp at hi⟩, hne, by simp; omega, by simp, by omega, _, by rw [hupd_ne _ _ hne.symm, hupd_same], by simp [Builtin.zeroCells, isCell, Nat.mod_one]⟩, (Ext.new hlb _).trans (Ext.new (by rw [hupd_ne _ _ hne]; exact hb) _), hb, hlb⟩

theorem put_ok {h : H} {b lb cap first : Nat} {xs ys : List Value} {l : Value} (r : Ring h b lb cap first xs) (hl : SlF (fun x => x = b ∨ x = lb) h l ys) (hfit : xs.length + ys.length ≤ cap) (hc : ys.all isCell = true) :
    Ok Try.prog 14 #[.pointer (some ⟨b, 0, none⟩), l] h fun v h' => v = .int .i64 0 ∧ Ring h' b lb cap first (xs ++ ys) ∧ Fr (fun x => x = b ∨ x = lb) h h' := by
  have hcap := r.cap
  have hfirst := r.first
  obtain ⟨vl, vc, rfl⟩ := hl.sl.len
  refine c14_ok (args := [_, _]) (by simp) ?_
  simp (disch := omega) only [dm_t, wA, wB, wL, wW, wY, Int.fdiv_eq_ediv_of_nonneg, Int.tdiv_eq_ediv_of_nonneg, Int.tmod_eq_emod_of_nonneg, chk_pos, decT, decF, br_pos, br_neg, wX, ↓reduceIte, Nat.reduceEqDiff, Nat.reduceAdd, Nat.reduceSub, Nat.reduceMul, Nat.reduceLeDiff, Nat.reduceLT, Nat.reduceMod, Nat.reduceDiv, Int.reduceToNat, Nat.min_eq_left, IntKind.bits, Int.reducePow, Int.reduceLT, Int.reduceLE, Int.reduceEq, Int.reduceNe, Int.reduceAdd, Int.reduceSub, and_self, reduceCtorEq, decide_eq_true_eq, decide_eq_false_iff_not, eq_self, implies_true, exists_const, Option.isNone_some, Option.isNone_none, Option.isSome_some, Option.isSome_none, Option.getD_some]
  refine (none_ok r.obj).k ?_
  rintro _ _ ⟨rfl, rfl⟩
  simp (disch := omega) only [dm_t, wA, wB, wL, wW, wY, Int.fdiv_eq_ediv_of_nonneg, Int.tdiv_eq_ediv_of_nonneg, Int.tmod_eq_emod_of_nonneg, chk_pos, decT, decF, br_pos, br_neg, wX, ↓reduceIte, Nat.reduceEqDiff, Nat.reduceAdd, Nat.reduceSub, Nat.reduceMul, Nat.reduceLeDiff, Nat.reduceLT, Nat.reduceMod, Nat.reduceDiv, Int.reduceToNat, Nat.min_eq_left, IntKind.bits, Int.reducePow, Int.reduceLT, Int.reduceLE, Int.reduceEq, Int.reduceNe, Int.reduceAdd, Int.reduceSub, and_self, reduceCtorEq, decide_eq_true_eq, decide_eq_false_iff_not, eq_self, implies_true, exists_const, Option.isNone_some, Option.isNone_none, Option.isSome_some, Option.isSome_none, Option.getD_some, cellAt_of r.obj]
  simp (disch := omega) only [dm_t, wA, wB, wL, wW, wY, Int.fdiv_eq_ediv_of_nonneg, Int.tdiv_eq_ediv_of_nonneg, Int.tmod_eq_emod_of_nonneg, chk_pos, decT, decF, br_pos, br_neg, wX, ↓reduceIte, Nat.reduceEqDiff, Nat.reduceAdd, Nat.reduceSub, Nat.reduceMul, Nat.reduceLeDiff, Nat.reduceLT, Nat.reduceMod, Nat.reduceDiv, Int.reduceToNat, Nat.min_eq_left, IntKind.bits, Int.reducePow, Int.reduceLT, Int.reduceLE, Int.reduceEq, Int.reduceNe, Int.reduceAdd, Int.reduceSub, and_self, reduceCtorEq, decide_eq_true_eq, decide_eq_false_iff_not, eq_self, implies_true, exists_const, Option.isNone_some, Option.isNone_none, Option.isSome_some, Option.isSome_none, Option.getD_some]
  refine vc_loop1 (fun v h' => ∃ k : Nat, v = .int .i64 k ∧ k ≤ ys.length ∧ Ring h' b lb cap first (xs ++ ys.take k) ∧ Fr (fun x => x = b ∨ x = lb) h h') (fun v _ => ys.length - m1 v) ?_ ?_
  · simp (disch := omega) only [dm_t, wA, wB, wL, wW, wY, Int.fdiv_eq_ediv_of_nonneg, Int.tdiv_eq_ediv_of_nonneg, Int.tmod_eq_emod_of_nonneg, chk_pos, decT, decF, br_pos, br_neg, wX, ↓reduceIte, Nat.reduceEqDiff, Nat.reduceAdd, Nat.reduceSub, Nat.reduceMul, Nat.reduceLeDiff, Nat.reduceLT, Nat.reduceMod, Nat.reduceDiv, Int.reduceToNat, Nat.min_eq_left, IntKind.bits, Int.reducePow, Int.reduceLT, Int.reduceLE, Int.reduceEq, Int.reduceNe, Int.reduceAdd, Int.reduceSub, and_self, reduceCtorEq, decide_eq_true_eq, decide_eq_false_iff_not, eq_self, implies_true, exists_const, Option.isNone_some, Option.isNone_none, Option.isSome_some, Option.isSome_none, Option.getD_some]
    exact ⟨0, rfl, by omega, by simpa using r, Fr.refl _ _⟩
  rintro v h1 ⟨k, rfl, hk, r1, hf⟩
  by_cases hlt : k < ys.length
  · obtain ⟨p, g1, g2⟩ := (hl.fr hf).sl.load hlt .i64
    simp (disch := omega) only [dm_t, wA, wB, wL, wW, wY, Int.fdiv_eq_ediv_of_nonneg, Int.tdiv_eq_ediv_of_nonneg, Int.tmod_eq_emod_of_nonneg, chk_pos, decT, decF, br_pos, br_neg, wX, ↓reduceIte, Nat.reduceEqDiff, Nat.reduceAdd, Nat.reduceSub, Nat.reduceMul, Nat.reduceLeDiff, Nat.reduceLT, Nat.reduceMod, Nat.reduceDiv, Int.reduceToNat, Nat.min_eq_left, IntKind.bits, Int.reducePow, Int.reduceLT, Int.reduceLE, Int.reduceEq, Int.reduceNe, Int.reduceAdd, Int.reduceSub, and_self, reduceCtorEq, decide_eq_true_eq, decide_eq_false_iff_not, eq_self, implies_true, exists_const, Option.isNone_some, Option.isNone_none, Option.isSome_some, Option.isSome_none, Option.getD_some, g1, g2]
    simp (disch := omega) only [dm_t, wA, wB, wL, wW, wY, Int.fdiv_eq_ediv_of_nonneg, Int.tdiv_eq_ediv_of_nonneg, Int.tmod_eq_emod_of_nonneg, chk_pos, decT, decF, br_pos, br_neg, wX, ↓reduceIte, Nat.reduceEqDiff, Nat.reduceAdd, Nat.reduceSub, Nat.reduceMul, Nat.reduceLeDiff, Nat.reduceLT, Nat.reduceMod, Nat.reduceDiv, Int.reduceToNat, Nat.min_eq_left, IntKind.bits, Int.reducePow, Int.reduceLT, Int.reduceLE, Int.reduceEq, Int.reduceNe, Int.reduceAdd, Int.reduceSub, and_self, reduceCtorEq, decide_eq_true_eq, decide_eq_false_iff_not, eq_self, implies_true, exists_const, Option.isNone_some, Option.isNone_none, Option.isSome_some, Option.isSome_none, Option.getD_some, cellAt_of r1.obj]
    refine (at_ok r1.obj r1.first r1.cap _ (by simp; omega)).k ?_
    rintro _ _ ⟨rfl, rfl⟩
    simp (disch := omega) only [dm_t, wA, wB, wL, wW, wY, Int.fdiv_eq_ediv_of_nonneg, Int.tdiv_eq_ediv_of_nonneg, Int.tmod_eq_emod_of_nonneg, chk_pos, decT, decF, br_pos, br_neg, wX, ↓reduceIte, Nat.reduceEqDiff, Nat.reduceAdd, Nat.reduceSub, Nat.reduceMul, Nat.reduceLeDiff, Nat.reduceLT, Nat.reduceMod, Nat.reduceDiv, Int.reduceToNat, Nat.min_eq_left, IntKind.bits, Int.reducePow, Int.reduceLT, Int.reduceLE, Int.reduceEq, Int.reduceNe, Int.reduceAdd, Int.reduceSub, and_self, reduceCtorEq, decide_eq_true_eq, decide_eq_false_iff_not, eq_self, implies_true, exists_const, Option.isNone_some, Option.isNone_none, Option.isSome_some, Option.isSome_none, Option.getD_some, cellAt_of r1.obj]
    have hq : (first + (xs ++ List.take k ys).length) % cap < cap := Nat.mod_lt _ (by omega)
    obtain ⟨c, c1, c2, c3⟩ := r1.arr
    have hb1 := r1.obj
    have hl1 : (xs ++ List.take k ys).length = xs.length + k := by simp; omega
    rw [hl1] at hq hb1 ⊢
    generalize hqe : (first + (xs.length + k)) % cap = q at hq ⊢
    have hck : isCell ys[k] = true := List.all_eq_true.1 hc _ (List.getElem_mem hlt)
    simp (disch := omega) only [dm_t, wA, wB, wL, wW, wY, Int.fdiv_eq_ediv_of_nonneg, Int.tdiv_eq_ediv_of_nonneg, Int.tmod_eq_emod_of_nonneg, chk_pos, decT, decF, br_pos, br_neg, wX, ↓reduceIte, Nat.reduceEqDiff, Nat.reduceAdd, Nat.reduceSub, Nat.reduceMul, Nat.reduceLeDiff, Nat.reduceLT, Nat.reduceMod, Nat.reduceDiv, Int.reduceToNat, Nat.min_eq_left, IntKind.bits, Int.reducePow, Int.reduceLT, Int.reduceLE, Int.reduceEq, Int.reduceNe, Int.reduceAdd, Int.reduceSub, and_self, reduceCtorEq, decide_eq_true_eq, decide_eq_false_iff_not, eq_self, implies_true, exists_const, Option.isNone_some, Option.isNone_none, Option.isSome_some, Option.isSome_none, Option.getD_some, storeH_0 c1, hck]
    refine ⟨by omega, ?_⟩
    have hb2 : hupd h1 lb (.cells (c.setIfInBounds q ys[k]) 3) b = some (.cells #[.slice (some ⟨lb, 0, none⟩) cap cap, .int .i64 first, .int .i64 (xs.length + k : Nat)] 72) := by rw [hupd_ne _ _ r1.ne]; exact hb1
    simp (disch := omega) only [dm_t, wA, wB, wL, wW, wY, Int.fdiv_eq_ediv_of_nonneg, Int.tdiv_eq_ediv_of_nonneg, Int.tmod_eq_emod_of_nonneg, chk_pos, decT, decF, br_pos, br_neg, wX, ↓reduceIte, Nat.reduceEqDiff, Nat.reduceAdd, Nat.reduceSub, Nat.reduceMul, Nat.reduceLeDiff, Nat.reduceLT, Nat.reduceMod, Nat.reduceDiv, Int.reduceToNat, Nat.min_eq_left, IntKind.bits, Int.reducePow, Int.reduceLT, Int.reduceLE, Int.reduceEq, Int.reduceNe, Int.reduceAdd, Int.reduceSub, and_self, reduceCtorEq, decide_eq_true_eq, decide_eq_false_iff_not, eq_self, implies_true, exists_const, Option.isNone_some, Option.isNone_none, Option.isSome_some, Option.isSome_none, Option.getD_some, cellAt_of hb2, storeH_0 hb2]
    refine ⟨⟨k + 1, by simp, by omega, ?_, ?_⟩, by simp [m1]; omega⟩
    · have hp := r1.pushed c1 ys[k] (by simp; omega) hck
      rw [hl1, hqe] at hp
      rw [List.take_succ_eq_append_getElem hlt, ← List.append_assoc]
      exact hp
    · exact hf.trans ((Fr.upd (.inr rfl) _).trans (Fr.upd (.inl rfl) _))
  · simp (disch := omega) only [dm_t, wA, wB, wL, wW, wY, Int.fdiv_eq_ediv_of_nonneg, Int.tdiv_eq_ediv_of_nonneg, Int.tmod_eq_emod_of_nonneg, chk_pos, decT, decF, br_pos, br_neg, wX, ↓reduceIte, Nat.reduceEqDiff, Nat.reduceAdd, Nat.reduceSub, Nat.reduceMul, Nat.reduceLeDiff, Nat.reduceLT, Nat.reduceMod, Nat.reduceDiv, Int.reduceToNat, Nat.min_eq_left, IntKind.bits, Int.reducePow, Int.reduceLT, Int.reduceLE, Int.reduceEq, Int.reduceNe, Int.reduceAdd, Int.reduceSub, and_self, reduceCtorEq, decide_eq_true_eq, decide_eq_false_iff_not, eq_self, implies_true, exists_const, Option.isNone_some, Option.isNone_none, Option.isSome_some, Option.isSome_none, Option.getD_some]
    have : k = ys.length := by omega
    subst this
    rw [List.take_length] at r1
    exact ⟨r1, hf⟩

theorem put_full {h : H} {b lb cap first : Nat} {xs ys : List Value} {l : Value} (r : Ring h b lb cap first xs) (hl : Sl h l ys) (hfit : cap < xs.length + ys.length) :
    Ok Try.prog 14 #[.pointer (some ⟨b, 0, none⟩), l] h fun v h' => v = .int .i64 6 ∧ h = h' := by
  have hcap := r.cap
  have hroom := r.room
  obtain ⟨vl, vc, rfl⟩ := hl.len
  refine c14_ok (args := [_, _]) (by simp) ?_
  simp (disch := omega) only [dm_t, wA, wB, wL, wW, wY, Int.fdiv_eq_ediv_of_nonneg, Int.tdiv_eq_ediv_of_nonneg, Int.tmod_eq_emod_of_nonneg, chk_pos, decT, decF, br_pos, br_neg, wX, ↓reduceIte, Nat.reduceEqDiff, Nat.reduceAdd, Nat.reduceSub, Nat.reduceMul, Nat.reduceLeDiff, Nat.reduceLT, Nat.reduceMod, Nat.reduceDiv, Int.reduceToNat, Nat.min_eq_left, IntKind.bits, Int.reducePow, Int.reduceLT, Int.reduceLE, Int.reduceEq, Int.reduceNe, Int.reduceAdd, Int.reduceSub, and_self, reduceCtorEq, decide_eq_true_eq, decide_eq_false_iff_not, eq_self, implies_true, exists_const, Option.isNone_some, Option.isNone_none, Option.isSome_some, Option.isSome_none, Option.getD_some]
  refine (none_ok r.obj).k ?_
  rintro _ _ ⟨rfl, rfl⟩
  simp (disch := omega) only [dm_t, wA, wB, wL, wW, wY, Int.fdiv_eq_ediv_of_nonneg, Int.tdiv_eq_ediv_of_nonneg, Int.tmod_eq_emod_of_nonneg, chk_pos, decT, decF, br_pos, br_neg, wX, ↓reduceIte, Nat.reduceEqDiff, Nat.reduceAdd, Nat.reduceSub, Nat.reduceMul, Nat.reduceLeDiff, Nat.reduceLT, Nat.reduceMod, Nat.reduceDiv, Int.reduceToNat, Nat.min_eq_left, IntKind.bits, Int.reducePow, Int.reduceLT, Int.reduceLE, Int.reduceEq, Int.reduceNe, Int.reduceAdd, Int.reduceSub, and_self, reduceCtorEq, decide_eq_true_eq, decide_eq_false_iff_not, eq_self, implies_true, exists_const, Option.isNone_some, Option.isNone_none, Option.isSome_some, Option.isSome_none, Option.getD_some, cellAt_of r.obj]

theorem drop_ok {h : H} {b lb cap first : Nat} {xs : List Value} (r : Ring h b lb cap first xs) (n : Nat) (hn : n ≤ xs.length) (hc : xs.all isCell = true) :
    Ok Try.prog 15 #[.pointer (some ⟨b, 0, none⟩), .int .i64 n] h fun v h' => ∃ l, v = .tuple #[l, .int .i64 0] ∧ Own h h' 3 l (xs.take n) ∧ Ring h' b lb cap ((first + n) % cap) (xs.drop n) ∧ Fr (fun x => x = b ∨ x = lb) h h' := by
  have hcap := r.cap
  have hroom := r.room
  have hfirst := r.first
  refine c15_ok (args := [_, _]) (by simp) ?_
  simp (disch := omega) only [dm_t, wA, wB, wL, wW, wY, Int.fdiv_eq_ediv_of_nonneg, Int.tdiv_eq_ediv_of_nonneg, Int.tmod_eq_emod_of_nonneg, chk_pos, decT, decF, br_pos, br_neg, wX, ↓reduceIte, Nat.reduceEqDiff, Nat.reduceAdd, Nat.reduceSub, Nat.reduceMul, Nat.reduceLeDiff, Nat.reduceLT, Nat.reduceMod, Nat.reduceDiv, Int.reduceToNat, Nat.min_eq_left, IntKind.bits, Int.reducePow, Int.reduceLT, Int.reduceLE, Int.reduceEq, Int.reduceNe, Int.reduceAdd, Int.reduceSub, and_self, reduceCtorEq, decide_eq_true_eq, decide_eq_false_iff_not, eq_self, implies_true, exists_const, Option.isNone_some, Option.isNone_none, Option.isSome_some, Option.isSome_none, Option.getD_some]
  refine (none_ok r.obj).k ?_
  rintro _ _ ⟨rfl, rfl⟩
  simp (disch := omega) only [dm_t, wA, wB, wL, wW, wY, Int.fdiv_eq_ediv_of_nonneg, Int.tdiv_eq_ediv_of_nonneg, Int.tmod_eq_emod_of_nonneg, chk_pos, decT, decF, br_pos, br_neg, wX, ↓reduceIte, Nat.reduceEqDiff, Nat.reduceAdd, Nat.reduceSub, Nat.reduceMul, Nat.reduceLeDiff, Nat.reduceLT, Nat.reduceMod, Nat.reduceDiv, Int.reduceToNat, Nat.min_eq_left, IntKind.bits, Int.reducePow, Int.reduceLT, Int.reduceLE, Int.reduceEq, Int.reduceNe, Int.reduceAdd, Int.reduceSub, and_self, reduceCtorEq, decide_eq_true_eq, decide_eq_false_iff_not, eq_self, implies_true, exists_const, Option.isNone_some, Option.isNone_none, Option.isSome_some, Option.isSome_none, Option.getD_some, cellAt_of r.obj]
  simp (disch := omega) only [dm_t, wA, wB, wL, wW, wY, Int.fdiv_eq_ediv_of_nonneg, Int.tdiv_eq_ediv_of_nonneg, Int.tmod_eq_emod_of_nonneg, chk_pos, decT, decF, br_pos, br_neg, wX, ↓reduceIte, Nat.reduceEqDiff, Nat.reduceAdd, Nat.reduceSub, Nat.reduceMul, Nat.reduceLeDiff, Nat.reduceLT, Nat.reduceMod, Nat.reduceDiv, Int.reduceToNat, Nat.min_eq_left, IntKind.bits, Int.reducePow, Int.reduceLT, Int.reduceLE, Int.reduceEq, Int.reduceNe, Int.reduceAdd, Int.reduceSub, and_self, reduceCtorEq, decide_eq_true_eq, decide_eq_false_iff_not, eq_self, implies_true, exists_const, Option.isNone_some, Option.isNone_none, Option.isSome_some, Option.isSome_none, Option.getD_some]
  refine vc_loop2 (fun out kv h' => ∃ k : Nat, kv = .int .i64 k ∧ k ≤ n ∧ Ring h' b lb cap ((first + k) % cap) (xs.drop k) ∧ Own h h' 3 out (xs.take k) ∧ Fr (fun x => x = b ∨ x = lb) h h') (fun _ kv _ => n - m1 kv) ?_ ?_
  · simp (disch := omega) only [dm_t, wA, wB, wL, wW, wY, Int.fdiv_eq_ediv_of_nonneg, Int.tdiv_eq_ediv_of_nonneg, Int.tmod_eq_emod_of_nonneg, chk_pos, decT, decF, br_pos, br_neg, wX, ↓reduceIte, Nat.reduceEqDiff, Nat.reduceAdd, Nat.reduceSub, Nat.reduceMul, Nat.reduceLeDiff, Nat.reduceLT, Nat.reduceMod, Nat.reduceDiv, Int.reduceToNat, Nat.min_eq_left, IntKind.bits, Int.reducePow, Int.reduceLT, Int.reduceLE, Int.reduceEq, Int.reduceNe, Int.reduceAdd, Int.reduceSub, and_self, reduceCtorEq, decide_eq_true_eq, decide_eq_false_iff_not, eq_self, implies_true, exists_const, Option.isNone_some, Option.isNone_none, Option.isSome_some, Option.isSome_none, Option.getD_some]
    exact ⟨0, rfl, by omega, by simpa [Nat.mod_eq_of_lt hfirst] using r, .inl ⟨rfl, rfl⟩, Fr.refl _ _⟩
  rintro out v h1 ⟨k, rfl, hk, r1, hown, hf⟩
  by_cases hlt : k < n
  · obtain ⟨x, tl, hxs⟩ : ∃ x tl, xs.drop k = x :: tl := by
      cases hd : xs.drop k with
      | nil => rw [List.drop_eq_nil_iff] at hd; omega
      | cons x tl => exact ⟨x, tl, rfl⟩
    have htl : tl = xs.drop (k + 1) := by rw [← List.drop_drop, hxs]; rfl
    rw [hxs] at r1
    obtain ⟨c, c1, c2, c3⟩ := r1.arr
    have hf1 := r1.first
    generalize hqe : (first + k) % cap = q at r1 hf1 c3
    have hx : c[q]? = some x := by
      have := c3 0 (by simp)
      rw [Nat.add_zero, Nat.mod_eq_of_lt hf1] at this
      simpa using this
    have hxc : isCell x = true := List.all_eq_true.1 hc x (by rw [← List.take_append_drop k xs, hxs]; simp)
    have hxv := (isCell_one hxc).2
    simp (disch := omega) only [dm_t, wA, wB, wL, wW, wY, Int.fdiv_eq_ediv_of_nonneg, Int.tdiv_eq_ediv_of_nonneg, Int.tmod_eq_emod_of_nonneg, chk_pos, decT, decF, br_pos, br_neg, wX, ↓reduceIte, Nat.reduceEqDiff, Nat.reduceAdd, Nat.reduceSub, Nat.reduceMul, Nat.reduceLeDiff, Nat.reduceLT, Nat.reduceMod, Nat.reduceDiv, Int.reduceToNat, Nat.min_eq_left, IntKind.bits, Int.reducePow, Int.reduceLT, Int.reduceLE, Int.reduceEq, Int.reduceNe, Int.reduceAdd, Int.reduceSub, and_self, reduceCtorEq, decide_eq_true_eq, decide_eq_false_iff_not, eq_self, implies_true, exists_const, Option.isNone_some, Option.isNone_none, Option.isSome_some, Option.isSome_none, Option.getD_some]
    simp (disch := omega) only [dm_t, wA, wB, wL, wW, wY, Int.fdiv_eq_ediv_of_nonneg, Int.tdiv_eq_ediv_of_nonneg, Int.tmod_eq_emod_of_nonneg, chk_pos, decT, decF, br_pos, br_neg, wX, ↓reduceIte, Nat.reduceEqDiff, Nat.reduceAdd, Nat.reduceSub, Nat.reduceMul, Nat.reduceLeDiff, Nat.reduceLT, Nat.reduceMod, Nat.reduceDiv, Int.reduceToNat, Nat.min_eq_left, IntKind.bits, Int.reducePow, Int.reduceLT, Int.reduceLE, Int.reduceEq, Int.reduceNe, Int.reduceAdd, Int.reduceSub, and_self, reduceCtorEq, decide_eq_true_eq, decide_eq_false_iff_not, eq_self, implies_true, exists_const, Option.isNone_some, Option.isNone_none, Option.isSome_some, Option.isSome_none, Option.getD_some, cellAt_of r1.obj, cellAt_of c1, hx, hxv]
    rintro b2 hb2
    have hb2b := ne_of r1.obj hb2
    have hb2l := ne_of c1 hb2
    refine app_own (new := [x]) (h0 := h) (hown.ext (Ext.new hb2 _)) (fun y hy => (hf.trans (Fr.new hb2 _)).back hy ?_) rfl (srcCells_lit (hupd_same _ _ _) (by simp)) (by simp [hxc]) rfl (by simp; omega) (by simp; omega) ?_
    · rintro y (rfl | rfl)
      · rw [hupd_ne _ _ hb2b, r1.obj]; simp
      · rw [hupd_ne _ _ hb2l, c1]; simp
    intro out' h2 hown2 hfa hfb
    have hob2 := hfa b _ (by rw [hupd_ne _ _ hb2b]; exact r1.obj) (hown.notAt r.obj)
    have hl2 := hfa lb _ (by rw [hupd_ne _ _ hb2l]; exact c1) (hown.notAt r.arr.choose_spec.1)
    simp (disch := omega) only [dm_t, wA, wB, wL, wW, wY, Int.fdiv_eq_ediv_of_nonneg, Int.tdiv_eq_ediv_of_nonneg, Int.tmod_eq_emod_of_nonneg, chk_pos, decT, decF, br_pos, br_neg, wX, ↓reduceIte, Nat.reduceEqDiff, Nat.reduceAdd, Nat.reduceSub, Nat.reduceMul, Nat.reduceLeDiff, Nat.reduceLT, Nat.reduceMod, Nat.reduceDiv, Int.reduceToNat, Nat.min_eq_left, IntKind.bits, Int.reducePow, Int.reduceLT, Int.reduceLE, Int.reduceEq, Int.reduceNe, Int.reduceAdd, Int.reduceSub, and_self, reduceCtorEq, decide_eq_true_eq, decide_eq_false_iff_not, eq_self, implies_true, exists_const, Option.isNone_some, Option.isNone_none, Option.isSome_some, Option.isSome_none, Option.getD_some, cellAt_of hob2, storeH_0 hl2]
    refine ⟨by omega, ?_⟩
    have hob3 : hupd h2 lb (.cells (c.setIfInBounds q (.int .i64 0)) 3) b = _ := (hupd_ne _ _ r.ne).trans hob2
    simp (disch := omega) only [dm_t, wA, wB, wL, wW, wY, Int.fdiv_eq_ediv_of_nonneg, Int.tdiv_eq_ediv_of_nonneg, Int.tmod_eq_emod_of_nonneg, chk_pos, decT, decF, br_pos, br_neg, wX, ↓reduceIte, Nat.reduceEqDiff, Nat.reduceAdd, Nat.reduceSub, Nat.reduceMul, Nat.reduceLeDiff, Nat.reduceLT, Nat.reduceMod, Nat.reduceDiv, Int.reduceToNat, Nat.min_eq_left, IntKind.bits, Int.reducePow, Int.reduceLT, Int.reduceLE, Int.reduceEq, Int.reduceNe, Int.reduceAdd, Int.reduceSub, and_self, reduceCtorEq, decide_eq_true_eq, decide_eq_false_iff_not, eq_self, implies_true, exists_const, Option.isNone_some, Option.isNone_none, Option.isSome_some, Option.isSome_none, Option.getD_some]
    refine (at_ok hob3 hf1 hcap 1 (by omega)).k ?_
    rintro _ _ ⟨rfl, rfl⟩
    have htlr : tl.length + 1 ≤ cap := r1.room
    simp (disch := omega) only [dm_t, wA, wB, wL, wW, wY, Int.fdiv_eq_ediv_of_nonneg, Int.tdiv_eq_ediv_of_nonneg, Int.tmod_eq_emod_of_nonneg, chk_pos, decT, decF, br_pos, br_neg, wX, ↓reduceIte, Nat.reduceEqDiff, Nat.reduceAdd, Nat.reduceSub, Nat.reduceMul, Nat.reduceLeDiff, Nat.reduceLT, Nat.reduceMod, Nat.reduceDiv, Int.reduceToNat, Nat.min_eq_left, IntKind.bits, Int.reducePow, Int.reduceLT, Int.reduceLE, Int.reduceEq, Int.reduceNe, Int.reduceAdd, Int.reduceSub, and_self, reduceCtorEq, decide_eq_true_eq, decide_eq_false_iff_not, eq_self, implies_true, exists_const, Option.isNone_some, Option.isNone_none, Option.isSome_some, Option.isSome_none, Option.getD_some, storeH_0 hob3]
    simp (disch := omega) only [dm_t, wA, wB, wL, wW, wY, Int.fdiv_eq_ediv_of_nonneg, Int.tdiv_eq_ediv_of_nonneg, Int.tmod_eq_emod_of_nonneg, chk_pos, decT, decF, br_pos, br_neg, wX, ↓reduceIte, Nat.reduceEqDiff, Nat.reduceAdd, Nat.reduceSub, Nat.reduceMul, Nat.reduceLeDiff, Nat.reduceLT, Nat.reduceMod, Nat.reduceDiv, Int.reduceToNat, Nat.min_eq_left, IntKind.bits, Int.reducePow, Int.reduceLT, Int.reduceLE, Int.reduceEq, Int.reduceNe, Int.reduceAdd, Int.reduceSub, and_self, reduceCtorEq, decide_eq_true_eq, decide_eq_false_iff_not, eq_self, implies_true, exists_const, Option.isNone_some, Option.isNone_none, Option.isSome_some, Option.isSome_none, Option.getD_some, cellAt_same, storeH_same, List.length_cons]
    refine ⟨⟨k + 1, by simp, by omega, ?_, ?_, ?_⟩, by simp [m1]; omega⟩
    · rw [← htl, show (first + (k + 1)) % cap = (q + 1) % cap by rw [← hqe, Nat.mod_add_mod]; rfl]
      exact r1.popped c1 _ rfl (by rw [hupd_same]; simp) (by rw [hupd_ne _ _ r.ne.symm, hupd_same])
    · have ht : xs.take (k + 1) = xs.take k ++ [x] := by
        rw [List.take_add_one, ← List.head?_drop, hxs]; rfl
      rw [ht]
      refine hown2.fr fun y o hy hat => ?_
      rw [hupd_ne _ _ (by rintro rfl; exact hown2.notAt r.obj hat), hupd_ne _ _ (by rintro rfl; exact hown2.notAt r.arr.choose_spec.1 hat)]
      exact hy
    · intro y o hy hs
      rw [hupd_ne _ _ (fun h => hs (.inl h)), hupd_ne _ _ (fun h => hs (.inr h))]
      exact hfb y o hy ((hf.trans (Fr.new hb2 _)) y o hy hs)
  · simp (disch := omega) only [dm_t, wA, wB, wL, wW, wY, Int.fdiv_eq_ediv_of_nonneg, Int.tdiv_eq_ediv_of_nonneg, Int.tmod_eq_emod_of_nonneg, chk_pos, decT, decF, br_pos, br_neg, wX, ↓reduceIte, Nat.reduceEqDiff, Nat.reduceAdd, Nat.reduceSub, Nat.reduceMul, Nat.reduceLeDiff, Nat.reduceLT, Nat.reduceMod, Nat.reduceDiv, Int.reduceToNat, Nat.min_eq_left, IntKind.bits, Int.reducePow, Int.reduceLT, Int.reduceLE, Int.reduceEq, Int.reduceNe, Int.reduceAdd, Int.reduceSub, and_self, reduceCtorEq, decide_eq_true_eq, decide_eq_false_iff_not, eq_self, implies_true, exists_const, Option.isNone_some, Option.isNone_none, Option.isSome_some, Option.isSome_none, Option.getD_some]
    have : k = n := by omega
    subst this
    exact ⟨_, rfl, hown, r1, hf⟩


theorem drop_few {h : H} {b lb cap first : Nat} {xs : List Value} (r : Ring h b lb cap first xs) (n : Nat) (hn : xs.length < n) :
    Ok Try.prog 15 #[.pointer (some ⟨b, 0, none⟩), .int .i64 n] h fun v h' => v = .tuple #[.slice none 0 0, .int .i64 4] ∧ h = h' := by
  refine c15_ok (args := [_, _]) (by simp) ?_
  simp (disch := omega) only [dm_t, wA, wB, wL, wW, wY, Int.fdiv_eq_ediv_of_nonneg, Int.tdiv_eq_ediv_of_nonneg, Int.tmod_eq_emod_of_nonneg, chk_pos, decT, decF, br_pos, br_neg, wX, ↓reduceIte, Nat.reduceEqDiff, Nat.reduceAdd, Nat.reduceSub, Nat.reduceMul, Nat.reduceLeDiff, Nat.reduceLT, Nat.reduceMod, Nat.reduceDiv, Int.reduceToNat, Nat.min_eq_left, IntKind.bits, Int.reducePow, Int.reduceLT, Int.reduceLE, Int.reduceEq, Int.reduceNe, Int.reduceAdd, Int.reduceSub, and_self, reduceCtorEq, decide_eq_true_eq, decide_eq_false_iff_not, eq_self, implies_true, exists_const, Option.isNone_some, Option.isNone_none, Option.isSome_some, Option.isSome_none, Option.getD_some]
  refine (none_ok r.obj).k ?_
  rintro _ _ ⟨rfl, rfl⟩
  simp (disch := omega) only [dm_t, wA, wB, wL, wW, wY, Int.fdiv_eq_ediv_of_nonneg, Int.tdiv_eq_ediv_of_nonneg, Int.tmod_eq_emod_of_nonneg, chk_pos, decT, decF, br_pos, br_neg, wX, ↓reduceIte, Nat.reduceEqDiff, Nat.reduceAdd, Nat.reduceSub, Nat.reduceMul, Nat.reduceLeDiff, Nat.reduceLT, Nat.reduceMod, Nat.reduceDiv, Int.reduceToNat, Nat.min_eq_left, IntKind.bits, Int.reducePow, Int.reduceLT, Int.reduceLE, Int.reduceEq, Int.reduceNe, Int.reduceAdd, Int.reduceSub, and_self, reduceCtorEq, decide_eq_true_eq, decide_eq_false_iff_not, eq_self, implies_true, exists_const, Option.isNone_some, Option.isNone_none, Option.isSome_some, Option.isSome_none, Option.getD_some, cellAt_of r.obj]

theorem drop_neg {h : H} {b lb cap first : Nat} {xs : List Value} (r : Ring h b lb cap first xs) (n : Int) (hn : n < 0) :
    Ok Try.prog 15 #[.pointer (some ⟨b, 0, none⟩), .int .i64 n] h fun v h' => v = .tuple #[.slice none 0 0, .int .i64 2] ∧ h = h' := by
  refine c15_ok (args := [_, _]) (by simp) ?_
  simp (disch := omega) only [dm_t, wA, wB, wL, wW, wY, Int.fdiv_eq_ediv_of_nonneg, Int.tdiv_eq_ediv_of_nonneg, Int.tmod_eq_emod_of_nonneg, chk_pos, decT, decF, br_pos, br_neg, wX, ↓reduceIte, Nat.reduceEqDiff, Nat.reduceAdd, Nat.reduceSub, Nat.reduceMul, Nat.reduceLeDiff, Nat.reduceLT, Nat.reduceMod, Nat.reduceDiv, Int.reduceToNat, Nat.min_eq_left, IntKind.bits, Int.reducePow, Int.reduceLT, Int.reduceLE, Int.reduceEq, Int.reduceNe, Int.reduceAdd, Int.reduceSub, and_self, reduceCtorEq, decide_eq_true_eq, decide_eq_false_iff_not, eq_self, implies_true, exists_const, Option.isNone_some, Option.isNone_none, Option.isSome_some, Option.isSome_none, Option.getD_some]
  refine (none_ok r.obj).k ?_
  rintro _ _ ⟨rfl, rfl⟩
  simp (disch := omega) only [dm_t, wA, wB, wL, wW, wY, Int.fdiv_eq_ediv_of_nonneg, Int.tdiv_eq_ediv_of_nonneg, Int.tmod_eq_emod_of_nonneg, chk_pos, decT, decF, br_pos, br_neg, wX, ↓reduceIte, Nat.reduceEqDiff, Nat.reduceAdd, Nat.reduceSub, Nat.reduceMul, Nat.reduceLeDiff, Nat.reduceLT, Nat.reduceMod, Nat.reduceDiv, Int.reduceToNat, Nat.min_eq_left, IntKind.bits, Int.reducePow, Int.reduceLT, Int.reduceLE, Int.reduceEq, Int.reduceNe, Int.reduceAdd, Int.reduceSub, and_self, reduceCtorEq, decide_eq_true_eq, decide_eq_false_iff_not, eq_self, implies_true, exists_const, Option.isNone_some, Option.isNone_none, Option.isSome_some, Option.isSome_none, Option.getD_some]

theorem clear_ok {h : H} {b lb cap first : Nat} {xs : List Value} (r : Ring h b lb cap first xs) (hc : xs.all isCell = true) :
    Ok Try.prog 38 #[.pointer (some ⟨b, 0, none⟩)] h fun l h' => Own h h' 3 l xs ∧ Ring h' b lb cap ((first + xs.length) % cap) [] ∧ Fr (fun x => x = b ∨ x = lb) h h' := by
  refine c38_ok (args := [_]) (by simp) ?_
  simp (disch := omega) only [dm_t, wA, wB, wL, wW, wY, Int.fdiv_eq_ediv_of_nonneg, Int.tdiv_eq_ediv_of_nonneg, Int.tmod_eq_emod_of_nonneg, chk_pos, decT, decF, br_pos, br_neg, wX, ↓reduceIte, Nat.reduceEqDiff, Nat.reduceAdd, Nat.reduceSub, Nat.reduceMul, Nat.reduceLeDiff, Nat.reduceLT, Nat.reduceMod, Nat.reduceDiv, Int.reduceToNat, Nat.min_eq_left, IntKind.bits, Int.reducePow, Int.reduceLT, Int.reduceLE, Int.reduceEq, Int.reduceNe, Int.reduceAdd, Int.reduceSub, and_self, reduceCtorEq, decide_eq_true_eq, decide_eq_false_iff_not, eq_self, implies_true, exists_const, Option.isNone_some, Option.isNone_none, Option.isSome_some, Option.isSome_none, Option.getD_some]
  refine (len_ok r).k ?_
  rintro _ _ ⟨rfl, rfl⟩
  refine (drop_ok r xs.length (by omega) hc).k ?_
  rintro _ h' ⟨l, rfl, h1, h2, h3⟩
  simp (disch := omega) only [dm_t, wA, wB, wL, wW, wY, Int.fdiv_eq_ediv_of_nonneg, Int.tdiv_eq_ediv_of_nonneg, Int.tmod_eq_emod_of_nonneg, chk_pos, decT, decF, br_pos, br_neg, wX, ↓reduceIte, Nat.reduceEqDiff, Nat.reduceAdd, Nat.reduceSub, Nat.reduceMul, Nat.reduceLeDiff, Nat.reduceLT, Nat.reduceMod, Nat.reduceDiv, Int.reduceToNat, Nat.min_eq_left, IntKind.bits, Int.reducePow, Int.reduceLT, Int.reduceLE, Int.reduceEq, Int.reduceNe, Int.reduceAdd, Int.reduceSub, and_self, reduceCtorEq, decide_eq_true_eq, decide_eq_false_iff_not, eq_self, implies_true, exists_const, Option.isNone_some, Option.isNone_none, Option.isSome_some, Option.isSome_none, Option.getD_some]
  exact ⟨by simpa using h1, by simpa using h2, h3⟩

theorem take_ok {h : H} {b lb cap first : Nat} {x : Value} {xs : List Value} (r : Ring h b lb cap first (x :: xs)) (hc : (x :: xs).all isCell = true) :
    Ok Try.prog 36 #[.pointer (some ⟨b, 0, none⟩)] h fun v h' => v = .tuple #[x, .int .i64 0] ∧ Ring h' b lb cap ((first + 1) % cap) xs ∧ Fr (fun x => x = b ∨ x = lb) h h' := by
  refine c36_ok (args := [_]) (by simp) ?_
  simp (disch := omega) only [dm_t, wA, wB, wL, wW, wY, Int.fdiv_eq_ediv_of_nonneg, Int.tdiv_eq_ediv_of_nonneg, Int.tmod_eq_emod_of_nonneg, chk_pos, decT, decF, br_pos, br_neg, wX, ↓reduceIte, Nat.reduceEqDiff, Nat.reduceAdd, Nat.reduceSub, Nat.reduceMul, Nat.reduceLeDiff, Nat.reduceLT, Nat.reduceMod, Nat.reduceDiv, Int.reduceToNat, Nat.min_eq_left, IntKind.bits, Int.reducePow, Int.reduceLT, Int.reduceLE, Int.reduceEq, Int.reduceNe, Int.reduceAdd, Int.reduceSub, and_self, reduceCtorEq, decide_eq_true_eq, decide_eq_false_iff_not, eq_self, implies_true, exists_const, Option.isNone_some, Option.isNone_none, Option.isSome_some, Option.isSome_none, Option.getD_some]
  refine (drop_ok r 1 (by simp) hc).k ?_
  rintro _ h' ⟨l, rfl, h1, h2, h3⟩
  obtain ⟨p, g1, g2⟩ := h1.sl.load0 .i64
  simp (disch := omega) only [dm_t, wA, wB, wL, wW, wY, Int.fdiv_eq_ediv_of_nonneg, Int.tdiv_eq_ediv_of_nonneg, Int.tmod_eq_emod_of_nonneg, chk_pos, decT, decF, br_pos, br_neg, wX, ↓reduceIte, Nat.reduceEqDiff, Nat.reduceAdd, Nat.reduceSub, Nat.reduceMul, Nat.reduceLeDiff, Nat.reduceLT, Nat.reduceMod, Nat.reduceDiv, Int.reduceToNat, Nat.min_eq_left, IntKind.bits, Int.reducePow, Int.reduceLT, Int.reduceLE, Int.reduceEq, Int.reduceNe, Int.reduceAdd, Int.reduceSub, and_self, reduceCtorEq, decide_eq_true_eq, decide_eq_false_iff_not, eq_self, implies_true, exists_const, Option.isNone_some, Option.isNone_none, Option.isSome_some, Option.isSome_none, Option.getD_some, g1, g2]
  exact ⟨by simpa using h2, h3⟩

theorem take_none {h : H} {b lb cap first : Nat} (r : Ring h b lb cap first []) :
    Ok Try.prog 36 #[.pointer (some ⟨b, 0, none⟩)] h fun v h' => v = .tuple #[(.int .i64 0), .int .i64 4] ∧ h = h' := by
  refine c36_ok (args := [_]) (by simp) ?_
  simp (disch := omega) only [dm_t, wA, wB, wL, wW, wY, Int.fdiv_eq_ediv_of_nonneg, Int.tdiv_eq_ediv_of_nonneg, Int.tmod_eq_emod_of_nonneg, chk_pos, decT, decF, br_pos, br_neg, wX, ↓reduceIte, Nat.reduceEqDiff, Nat.reduceAdd, Nat.reduceSub, Nat.reduceMul, Nat.reduceLeDiff, Nat.reduceLT, Nat.reduceMod, Nat.reduceDiv, Int.reduceToNat, Nat.min_eq_left, IntKind.bits, Int.reducePow, Int.reduceLT, Int.reduceLE, Int.reduceEq, Int.reduceNe, Int.reduceAdd, Int.reduceSub, and_self, reduceCtorEq, decide_eq_true_eq, decide_eq_false_iff_not, eq_self, implies_true, exists_const, Option.isNone_some, Option.isNone_none, Option.isSome_some, Option.isSome_none, Option.getD_some]
  refine (drop_few r 1 (by simp)).k ?_
  rintro _ _ ⟨rfl, rfl⟩
  simp (disch := omega) only [dm_t, wA, wB, wL, wW, wY, Int.fdiv_eq_ediv_of_nonneg, Int.tdiv_eq_ediv_of_nonneg, Int.tmod_eq_emod_of_nonneg, chk_pos, decT, decF, br_pos, br_neg, wX, ↓reduceIte, Nat.reduceEqDiff, Nat.reduceAdd, Nat.reduceSub, Nat.reduceMul, Nat.reduceLeDiff, Nat.reduceLT, Nat.reduceMod, Nat.reduceDiv, Int.reduceToNat, Nat.min_eq_left, IntKind.bits, Int.reducePow, Int.reduceLT, Int.reduceLE, Int.reduceEq, Int.reduceNe, Int.reduceAdd, Int.reduceSub, and_self, reduceCtorEq, decide_eq_true_eq, decide_eq_false_iff_not, eq_self, implies_true, exists_const, Option.isNone_some, Option.isNone_none, Option.isSome_some, Option.isSome_none, Option.getD_some]

theorem full_ok {h : H} {b lb cap first : Nat} {xs : List Value} (r : Ring h b lb cap first xs) :
    Ok Try.prog 23 #[.pointer (some ⟨b, 0, none⟩)] h fun v h' => v = .bool (decide (xs.length = cap)) ∧ h = h' := by
  refine c23_ok (args := [_]) (by simp) ?_
  simp (disch := omega) only [dm_t, wA, wB, wL, wW, wY, Int.fdiv_eq_ediv_of_nonneg, Int.tdiv_eq_ediv_of_nonneg, Int.tmod_eq_emod_of_nonneg, chk_pos, decT, decF, br_pos, br_neg, wX, ↓reduceIte, Nat.reduceEqDiff, Nat.reduceAdd, Nat.reduceSub, Nat.reduceMul, Nat.reduceLeDiff, Nat.reduceLT, Nat.reduceMod, Nat.reduceDiv, Int.reduceToNat, Nat.min_eq_left, IntKind.bits, Int.reducePow, Int.reduceLT, Int.reduceLE, Int.reduceEq, Int.reduceNe, Int.reduceAdd, Int.reduceSub, and_self, reduceCtorEq, decide_eq_true_eq, decide_eq_false_iff_not, eq_self, implies_true, exists_const, Option.isNone_some, Option.isNone_none, Option.isSome_some, Option.isSome_none, Option.getD_some]
  refine (none_ok r.obj).k ?_
  rintro _ _ ⟨rfl, rfl⟩
  simp (disch := omega) only [dm_t, wA, wB, wL, wW, wY, Int.fdiv_eq_ediv_of_nonneg, Int.tdiv_eq_ediv_of_nonneg, Int.tmod_eq_emod_of_nonneg, chk_pos, decT, decF, br_pos, br_neg, wX, ↓reduceIte, Nat.reduceEqDiff, Nat.reduceAdd, Nat.reduceSub, Nat.reduceMul, Nat.reduceLeDiff, Nat.reduceLT, Nat.reduceMod, Nat.reduceDiv, Int.reduceToNat, Nat.min_eq_left, IntKind.bits, Int.reducePow, Int.reduceLT, Int.reduceLE, Int.reduceEq, Int.reduceNe, Int.reduceAdd, Int.reduceSub, and_self, reduceCtorEq, decide_eq_true_eq, decide_eq_false_iff_not, eq_self, implies_true, exists_const, Option.isNone_some, Option.isNone_none, Option.isSome_some, Option.isSome_none, Option.getD_some, cellAt_of r.obj]
  simp only [Value.bool.injEq, decide_eq_decide]; omega

theorem list_ok {h : H} {b lb cap first : Nat} {xs : List Value} (r : Ring h b lb cap first xs) (hc : xs.all isCell = true) :
    Ok Try.prog 16 #[.pointer (some ⟨b, 0, none⟩)] h fun l h' => Own h h' 3 l xs ∧ Ext h h' := by
  have hcap := r.cap
  have hroom := r.room
  have hfirst := r.first
  refine c16_ok (args := [_]) (by simp) ?_
  simp (disch := omega) only [dm_t, wA, wB, wL, wW, wY, Int.fdiv_eq_ediv_of_nonneg, Int.tdiv_eq_ediv_of_nonneg, Int.tmod_eq_emod_of_nonneg, chk_pos, decT, decF, br_pos, br_neg, wX, ↓reduceIte, Nat.reduceEqDiff, Nat.reduceAdd, Nat.reduceSub, Nat.reduceMul, Nat.reduceLeDiff, Nat.reduceLT, Nat.reduceMod, Nat.reduceDiv, Int.reduceToNat, Nat.min_eq_left, IntKind.bits, Int.reducePow, Int.reduceLT, Int.reduceLE, Int.reduceEq, Int.reduceNe, Int.reduceAdd, Int.reduceSub, and_self, reduceCtorEq, decide_eq_true_eq, decide_eq_false_iff_not, eq_self, implies_true, exists_const, Option.isNone_some, Option.isNone_none, Option.isSome_some, Option.isSome_none, Option.getD_some]
  refine (len_ok r).k ?_
  rintro _ _ ⟨rfl, rfl⟩
  simp (disch := omega) only [dm_t, wA, wB, wL, wW, wY, Int.fdiv_eq_ediv_of_nonneg, Int.tdiv_eq_ediv_of_nonneg, Int.tmod_eq_emod_of_nonneg, chk_pos, decT, decF, br_pos, br_neg, wX, ↓reduceIte, Nat.reduceEqDiff, Nat.reduceAdd, Nat.reduceSub, Nat.reduceMul, Nat.reduceLeDiff, Nat.reduceLT, Nat.reduceMod, Nat.reduceDiv, Int.reduceToNat, Nat.min_eq_left, IntKind.bits, Int.reducePow, Int.reduceLT, Int.reduceLE, Int.reduceEq, Int.reduceNe, Int.reduceAdd, Int.reduceSub, and_self, reduceCtorEq, decide_eq_true_eq, decide_eq_false_iff_not, eq_self, implies_true, exists_const, Option.isNone_some, Option.isNone_none, Option.isSome_some, Option.isSome_none, Option.getD_some]
  refine vc_loop2 (fun out kv h' => ∃ k : Nat, kv = .int .i64 k ∧ k ≤ xs.length ∧ Own h h' 3 out (xs.take k) ∧ Ext h h') (fun _ kv _ => xs.length - m1 kv) ?_ ?_
  · simp (disch := omega) only [dm_t, wA, wB, wL, wW, wY, Int.fdiv_eq_ediv_of_nonneg, Int.tdiv_eq_ediv_of_nonneg, Int.tmod_eq_emod_of_nonneg, chk_pos, decT, decF, br_pos, br_neg, wX, ↓reduceIte, Nat.reduceEqDiff, Nat.reduceAdd, Nat.reduceSub, Nat.reduceMul, Nat.reduceLeDiff, Nat.reduceLT, Nat.reduceMod, Nat.reduceDiv, Int.reduceToNat, Nat.min_eq_left, IntKind.bits, Int.reducePow, Int.reduceLT, Int.reduceLE, Int.reduceEq, Int.reduceNe, Int.reduceAdd, Int.reduceSub, and_self, reduceCtorEq, decide_eq_true_eq, decide_eq_false_iff_not, eq_self, implies_true, exists_const, Option.isNone_some, Option.isNone_none, Option.isSome_some, Option.isSome_none, Option.getD_some]
    exact ⟨0, rfl, by omega, .inl ⟨rfl, rfl⟩, Fr.refl _ _⟩
  rintro out v h1 ⟨k, rfl, hk, hown, hf⟩
  by_cases hlt : k < xs.length
  · have hb1 := hf.at r.obj
    obtain ⟨c, c1, c2, c3⟩ := r.arr
    have hc1 := hf.at c1
    have hx := c3 k hlt
    have hxc : isCell xs[k] = true := List.all_eq_true.1 hc _ (List.getElem_mem hlt)
    have hxv := (isCell_one hxc).2
    have hq : (first + k) % cap < cap := Nat.mod_lt _ (by omega)
    simp (disch := omega) only [dm_t, wA, wB, wL, wW, wY, Int.fdiv_eq_ediv_of_nonneg, Int.tdiv_eq_ediv_of_nonneg, Int.tmod_eq_emod_of_nonneg, chk_pos, decT, decF, br_pos, br_neg, wX, ↓reduceIte, Nat.reduceEqDiff, Nat.reduceAdd, Nat.reduceSub, Nat.reduceMul, Nat.reduceLeDiff, Nat.reduceLT, Nat.reduceMod, Nat.reduceDiv, Int.reduceToNat, Nat.min_eq_left, IntKind.bits, Int.reducePow, Int.reduceLT, Int.reduceLE, Int.reduceEq, Int.reduceNe, Int.reduceAdd, Int.reduceSub, and_self, reduceCtorEq, decide_eq_true_eq, decide_eq_false_iff_not, eq_self, implies_true, exists_const, Option.isNone_some, Option.isNone_none, Option.isSome_some, Option.isSome_none, Option.getD_some, cellAt_of hb1]
    refine (at_ok hb1 hfirst hcap k (by omega)).k ?_
    rintro _ _ ⟨rfl, rfl⟩
    generalize (first + k) % cap = q at hx hq ⊢
    simp (disch := omega) only [dm_t, wA, wB, wL, wW, wY, Int.fdiv_eq_ediv_of_nonneg, Int.tdiv_eq_ediv_of_nonneg, Int.tmod_eq_emod_of_nonneg, chk_pos, decT, decF, br_pos, br_neg, wX, ↓reduceIte, Nat.reduceEqDiff, Nat.reduceAdd, Nat.reduceSub, Nat.reduceMul, Nat.reduceLeDiff, Nat.reduceLT, Nat.reduceMod, Nat.reduceDiv, Int.reduceToNat, Nat.min_eq_left, IntKind.bits, Int.reducePow, Int.reduceLT, Int.reduceLE, Int.reduceEq, Int.reduceNe, Int.reduceAdd, Int.reduceSub, and_self, reduceCtorEq, decide_eq_true_eq, decide_eq_false_iff_not, eq_self, implies_true, exists_const, Option.isNone_some, Option.isNone_none, Option.isSome_some, Option.isSome_none, Option.getD_some, cellAt_of hb1, cellAt_of hc1, hx, hxv]
    rintro b2 hb2
    refine app_own (new := [xs[k]]) (h0 := h) (hown.ext (Ext.new hb2 _)) (fun y hy => (hf.trans (Ext.new hb2 _)).back hy (fun _ h => h.elim)) rfl (srcCells_lit (hupd_same _ _ _) (by simp)) (by simp [hxc]) rfl (by simp; omega) (by simp; omega) ?_
    intro out' h2 hown2 hfa hfb
    simp (disch := omega) only [dm_t, wA, wB, wL, wW, wY, Int.fdiv_eq_ediv_of_nonneg, Int.tdiv_eq_ediv_of_nonneg, Int.tmod_eq_emod_of_nonneg, chk_pos, decT, decF, br_pos, br_neg, wX, ↓reduceIte, Nat.reduceEqDiff, Nat.reduceAdd, Nat.reduceSub, Nat.reduceMul, Nat.reduceLeDiff, Nat.reduceLT, Nat.reduceMod, Nat.reduceDiv, Int.reduceToNat, Nat.min_eq_left, IntKind.bits, Int.reducePow, Int.reduceLT, Int.reduceLE, Int.reduceEq, Int.reduceNe, Int.reduceAdd, Int.reduceSub, and_self, reduceCtorEq, decide_eq_true_eq, decide_eq_false_iff_not, eq_self, implies_true, exists_const, Option.isNone_some, Option.isNone_none, Option.isSome_some, Option.isSome_none, Option.getD_some]
    refine ⟨⟨k + 1, by simp, by omega, ?_, ?_⟩, by simp [m1]; omega⟩
    · rw [List.take_succ_eq_append_getElem hlt]
      exact hown2
    · intro y o hy hs
      exact hfb y o hy ((hf.trans (Ext.new hb2 _)) y o hy hs)
  · simp (disch := omega) only [dm_t, wA, wB, wL, wW, wY, Int.fdiv_eq_ediv_of_nonneg, Int.tdiv_eq_ediv_of_nonneg, Int.tmod_eq_emod_of_nonneg, chk_pos, decT, decF, br_pos, br_neg, wX, ↓reduceIte, Nat.reduceEqDiff, Nat.reduceAdd, Nat.reduceSub, Nat.reduceMul, Nat.reduceLeDiff, Nat.reduceLT, Nat.reduceMod, Nat.reduceDiv, Int.reduceToNat, Nat.min_eq_left, IntKind.bits, Int.reducePow, Int.reduceLT, Int.reduceLE, Int.reduceEq, Int.reduceNe, Int.reduceAdd, Int.reduceSub, and_self, reduceCtorEq, decide_eq_true_eq, decide_eq_false_iff_not, eq_self, implies_true, exists_const, Option.isNone_some, Option.isNone_none, Option.isSome_some, Option.isSome_none, Option.getD_some]
    have : k = xs.length := by omega
    subst this
    rw [List.take_length] at hown
    exact ⟨hown, hf⟩

theorem all_ok {h : H} {b lb cap first : Nat} {xs : List Value} (r : Ring h b lb cap first xs) (hc : xs.all isCell = true) :
    Ok Try.prog 17 #[.pointer (some ⟨b, 0, none⟩)] h fun v h' => (∃ lc l, v = .func (.func 33) #[] #[.pointer (some ⟨lc, 0, none⟩)] ∧ h' lc = some (.cells #[l] 23) ∧ h lc = none ∧ Own h h' 3 l xs) ∧ Ext h h' := by
  refine c17_ok (args := [_]) (by simp) ?_
  simp (disch := omega) only [dm_t, wA, wB, wL, wW, wY, Int.fdiv_eq_ediv_of_nonneg, Int.tdiv_eq_ediv_of_nonneg, Int.tmod_eq_emod_of_nonneg, chk_pos, decT, decF, br_pos, br_neg, wX, ↓reduceIte, Nat.reduceEqDiff, Nat.reduceAdd, Nat.reduceSub, Nat.reduceMul, Nat.reduceLeDiff, Nat.reduceLT, Nat.reduceMod, Nat.reduceDiv, Int.reduceToNat, Nat.min_eq_left, IntKind.bits, Int.reducePow, Int.reduceLT, Int.reduceLE, Int.reduceEq, Int.reduceNe, Int.reduceAdd, Int.reduceSub, and_self, reduceCtorEq, decide_eq_true_eq, decide_eq_false_iff_not, eq_self, implies_true, exists_const, Option.isNone_some, Option.isNone_none, Option.isSome_some, Option.isSome_none, Option.getD_some]
  refine (list_ok r hc).k ?_
  rintro l h1 ⟨ho, he⟩
  simp (disch := omega) only [dm_t, wA, wB, wL, wW, wY, Int.fdiv_eq_ediv_of_nonneg, Int.tdiv_eq_ediv_of_nonneg, Int.tmod_eq_emod_of_nonneg, chk_pos, decT, decF, br_pos, br_neg, wX, ↓reduceIte, Nat.reduceEqDiff, Nat.reduceAdd, Nat.reduceSub, Nat.reduceMul, Nat.reduceLeDiff, Nat.reduceLT, Nat.reduceMod, Nat.reduceDiv, Int.reduceToNat, Nat.min_eq_left, IntKind.bits, Int.reducePow, Int.reduceLT, Int.reduceLE, Int.reduceEq, Int.reduceNe, Int.reduceAdd, Int.reduceSub, and_self, reduceCtorEq, decide_eq_true_eq, decide_eq_false_iff_not, eq_self, implies_true, exists_const, Option.isNone_some, Option.isNone_none, Option.isSome_some, Option.isSome_none, Option.getD_some]
  rintro lc hlc
  obtain ⟨a, c, rfl⟩ := ho.sl.len
  simp (disch := omega) only [dm_t, wA, wB, wL, wW, wY, Int.fdiv_eq_ediv_of_nonneg, Int.tdiv_eq_ediv_of_nonneg, Int.tmod_eq_emod_of_nonneg, chk_pos, decT, decF, br_pos, br_neg, wX, ↓reduceIte, Nat.reduceEqDiff, Nat.reduceAdd, Nat.reduceSub, Nat.reduceMul, Nat.reduceLeDiff, Nat.reduceLT, Nat.reduceMod, Nat.reduceDiv, Int.reduceToNat, Nat.min_eq_left, IntKind.bits, Int.reducePow, Int.reduceLT, Int.reduceLE, Int.reduceEq, Int.reduceNe, Int.reduceAdd, Int.reduceSub, and_self, reduceCtorEq, decide_eq_true_eq, decide_eq_false_iff_not, eq_self, implies_true, exists_const, Option.isNone_some, Option.isNone_none, Option.isSome_some, Option.isSome_none, Option.getD_some, storeH_same]
  exact ⟨⟨lc, _, rfl, hupd_same _ _ _, he.back hlc (fun _ h => h.elim), ho.ext (Ext.new hlc _)⟩, he.trans (Ext.new hlc _)⟩
end Go.Proofs.Ytcbljemfpliehaa.ri
