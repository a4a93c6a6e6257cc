/-
  The document's queue of whole numbers, and what the statements do with lists.
-/
import Derived.Test.YtcbljemfpliehaaRj
import Derived.Test.YtcbljemfpliehaaR2
namespace Go.Proofs.Ytcbljemfpliehaa.ri
open Go.Proofs.Ytcbljemfpliehaa
set_option linter.unusedVariables false
set_option linter.unusedSimpArgs false

abbrev i6 (l : List Int) : List Value := l.map (.int .i64)
abbrev pv (b : Nat) : Value := .pointer (some ⟨b, 0, none⟩)
theorem i6_len (l : List Int) : (i6 l).length = l.length := by simp [i6]
theorem Same_ok {S T : Nat → Prop} {h : H} {a b : Value} {xs ys : List Int} (ha : S1 S h a (i6 xs)) (hb : S1 T h b (i6 ys)) (hl : xs.length ≤ 4611686018427387904) : Ok Try.prog 24 #[a, b] h fun v h' => v = .bool (decide (xs = ys)) ∧ h = h' := by
  obtain ⟨aa, ac, rfl⟩ := S1.len ha
  obtain ⟨ba, bc, rfl⟩ := S1.len hb
  rw [i6_len] at ha hb ⊢
  rw [i6_len]
  refine c24_ok (args := [_, _]) (by simp) ?_
  by_cases hxy : xs.length = ys.length
  · simp (disch := omega) only [dm_t, wA, wB, wL, wW, wY, Int.fdiv_eq_ediv_of_nonneg, Int.tdiv_eq_ediv_of_nonneg, Int.tmod_eq_emod_of_nonneg, chk_pos, decT, decF, br_pos, br_neg, wX, ↓reduceIte, Nat.reduceEqDiff, Nat.reduceAdd, Nat.reduceSub, Nat.reduceMul, Nat.reduceLeDiff, Nat.reduceLT, Nat.reduceMod, Nat.reduceDiv, Int.reduceToNat, Nat.min_eq_left, IntKind.bits, Int.reducePow, Int.reduceLT, Int.reduceLE, Int.reduceEq, Int.reduceNe, Int.reduceAdd, Int.reduceSub, and_self, reduceCtorEq, decide_eq_true_eq, decide_eq_false_iff_not, eq_self, implies_true, exists_const, Option.isNone_some, Option.isNone_none, Option.isSome_some, Option.isSome_none, Option.getD_some]
    refine vc_loop1 (fun vi h' => h' = h ∧ ∃ i : Nat, vi = .int .i64 (i : Int) ∧ i ≤ xs.length ∧ xs.take i = ys.take i) (fun vi _ => xs.length - m1 vi) ?_ ?_
    · simp (disch := omega) only [dm_t, wA, wB, wL, wW, wY, Int.fdiv_eq_ediv_of_nonneg, Int.tdiv_eq_ediv_of_nonneg, Int.tmod_eq_emod_of_nonneg, chk_pos, decT, decF, br_pos, br_neg, wX, ↓reduceIte, Nat.reduceEqDiff, Nat.reduceAdd, Nat.reduceSub, Nat.reduceMul, Nat.reduceLeDiff, Nat.reduceLT, Nat.reduceMod, Nat.reduceDiv, Int.reduceToNat, Nat.min_eq_left, IntKind.bits, Int.reducePow, Int.reduceLT, Int.reduceLE, Int.reduceEq, Int.reduceNe, Int.reduceAdd, Int.reduceSub, and_self, reduceCtorEq, decide_eq_true_eq, decide_eq_false_iff_not, eq_self, implies_true, exists_const, Option.isNone_some, Option.isNone_none, Option.isSome_some, Option.isSome_none, Option.getD_some]
      exact ⟨0, rfl, by omega, by simp⟩
    rintro _ _ ⟨rfl, i, rfl, hi, he⟩
    by_cases hil : i < xs.length
    · obtain ⟨b1, o1, i1, g1⟩ := S1.load ha (i := i) (by rw [i6_len]; exact hil) .i64
      obtain ⟨b2, o2, i2, g2⟩ := S1.load hb (i := i) (by rw [i6_len]; omega) .i64
      rw [List.getElem_map] at g1 g2
      by_cases hv : xs[i] = ys[i]
      · simp (disch := omega) only [dm_t, wA, wB, wL, wW, wY, Int.fdiv_eq_ediv_of_nonneg, Int.tdiv_eq_ediv_of_nonneg, Int.tmod_eq_emod_of_nonneg, chk_pos, decT, decF, br_pos, br_neg, wX, ↓reduceIte, Nat.reduceEqDiff, Nat.reduceAdd, Nat.reduceSub, Nat.reduceMul, Nat.reduceLeDiff, Nat.reduceLT, Nat.reduceMod, Nat.reduceDiv, Int.reduceToNat, Nat.min_eq_left, IntKind.bits, Int.reducePow, Int.reduceLT, Int.reduceLE, Int.reduceEq, Int.reduceNe, Int.reduceAdd, Int.reduceSub, and_self, reduceCtorEq, decide_eq_true_eq, decide_eq_false_iff_not, eq_self, implies_true, exists_const, Option.isNone_some, Option.isNone_none, Option.isSome_some, Option.isSome_none, Option.getD_some, i1, i2, g1, g2]
        refine ⟨⟨i + 1, by simp, by omega, ?_⟩, by simp [m1]; omega⟩
        rw [List.take_succ_eq_append_getElem hil, List.take_succ_eq_append_getElem (by omega), he, hv]
      · simp (disch := omega) only [dm_t, wA, wB, wL, wW, wY, Int.fdiv_eq_ediv_of_nonneg, Int.tdiv_eq_ediv_of_nonneg, Int.tmod_eq_emod_of_nonneg, chk_pos, decT, decF, br_pos, br_neg, wX, ↓reduceIte, Nat.reduceEqDiff, Nat.reduceAdd, Nat.reduceSub, Nat.reduceMul, Nat.reduceLeDiff, Nat.reduceLT, Nat.reduceMod, Nat.reduceDiv, Int.reduceToNat, Nat.min_eq_left, IntKind.bits, Int.reducePow, Int.reduceLT, Int.reduceLE, Int.reduceEq, Int.reduceNe, Int.reduceAdd, Int.reduceSub, and_self, reduceCtorEq, decide_eq_true_eq, decide_eq_false_iff_not, eq_self, implies_true, exists_const, Option.isNone_some, Option.isNone_none, Option.isSome_some, Option.isSome_none, Option.getD_some, i1, i2, g1, g2]
        simp only [Value.bool.injEq]
        symm
        rw [decide_eq_false_iff_not]
        rintro rfl; exact hv rfl
    · obtain rfl : i = xs.length := by omega
      rw [List.take_length, List.take_of_length_le (by omega)] at he
      simp (disch := omega) only [dm_t, wA, wB, wL, wW, wY, Int.fdiv_eq_ediv_of_nonneg, Int.tdiv_eq_ediv_of_nonneg, Int.tmod_eq_emod_of_nonneg, chk_pos, decT, decF, br_pos, br_neg, wX, ↓reduceIte, Nat.reduceEqDiff, Nat.reduceAdd, Nat.reduceSub, Nat.reduceMul, Nat.reduceLeDiff, Nat.reduceLT, Nat.reduceMod, Nat.reduceDiv, Int.reduceToNat, Nat.min_eq_left, IntKind.bits, Int.reducePow, Int.reduceLT, Int.reduceLE, Int.reduceEq, Int.reduceNe, Int.reduceAdd, Int.reduceSub, and_self, reduceCtorEq, decide_eq_true_eq, decide_eq_false_iff_not, eq_self, implies_true, exists_const, Option.isNone_some, Option.isNone_none, Option.isSome_some, Option.isSome_none, Option.getD_some, he]
  · simp (disch := omega) only [dm_t, wA, wB, wL, wW, wY, Int.fdiv_eq_ediv_of_nonneg, Int.tdiv_eq_ediv_of_nonneg, Int.tmod_eq_emod_of_nonneg, chk_pos, decT, decF, br_pos, br_neg, wX, ↓reduceIte, Nat.reduceEqDiff, Nat.reduceAdd, Nat.reduceSub, Nat.reduceMul, Nat.reduceLeDiff, Nat.reduceLT, Nat.reduceMod, Nat.reduceDiv, Int.reduceToNat, Nat.min_eq_left, IntKind.bits, Int.reducePow, Int.reduceLT, Int.reduceLE, Int.reduceEq, Int.reduceNe, Int.reduceAdd, Int.reduceSub, and_self, reduceCtorEq, decide_eq_true_eq, decide_eq_false_iff_not, eq_self, implies_true, exists_const, Option.isNone_some, Option.isNone_none, Option.isSome_some, Option.isSome_none, Option.getD_some]
    simp only [Value.bool.injEq]
    symm
    rw [decide_eq_false_iff_not]
    rintro rfl; exact hxy rfl
theorem spoil_ok {O : Nat → Prop} {h : H} {v : Value} {xs : List Value} (o : O1 O h 3 v xs) (hl : xs.length ≤ 4611686018427387904) : Ok Try.prog 35 #[v] h fun w h' => w = .bool true ∧ Fr (fun y => O y ∧ isAt v y) h h' := by
  obtain ⟨aa, ac, rfl⟩ := S1.len o.s0
  refine c35_ok (args := [_]) (by simp) ?_
  simp (disch := omega) only [dm_t, wA, wB, wL, wW, wY, Int.fdiv_eq_ediv_of_nonneg, Int.tdiv_eq_ediv_of_nonneg, Int.tmod_eq_emod_of_nonneg, chk_pos, decT, decF, br_pos, br_neg, wX, ↓reduceIte, Nat.reduceEqDiff, Nat.reduceAdd, Nat.reduceSub, Nat.reduceMul, Nat.reduceLeDiff, Nat.reduceLT, Nat.reduceMod, Nat.reduceDiv, Int.reduceToNat, Nat.min_eq_left, IntKind.bits, Int.reducePow, Int.reduceLT, Int.reduceLE, Int.reduceEq, Int.reduceNe, Int.reduceAdd, Int.reduceSub, and_self, reduceCtorEq, decide_eq_true_eq, decide_eq_false_iff_not, eq_self, implies_true, exists_const, Option.isNone_some, Option.isNone_none, Option.isSome_some, Option.isSome_none, Option.getD_some]
  refine vc_loop1 (fun vk h' => ∃ (k : Nat) (zs : List Value), vk = .int .i64 (k : Int) ∧ k ≤ xs.length ∧ zs.length = xs.length ∧ O1 O h' 3 (.slice aa xs.length ac) zs ∧ Fr (fun y => O y ∧ isAt (.slice aa xs.length ac) y) h h') (fun vk _ => xs.length - m1 vk) ?_ ?_
  · simp (disch := omega) only [dm_t, wA, wB, wL, wW, wY, Int.fdiv_eq_ediv_of_nonneg, Int.tdiv_eq_ediv_of_nonneg, Int.tmod_eq_emod_of_nonneg, chk_pos, decT, decF, br_pos, br_neg, wX, ↓reduceIte, Nat.reduceEqDiff, Nat.reduceAdd, Nat.reduceSub, Nat.reduceMul, Nat.reduceLeDiff, Nat.reduceLT, Nat.reduceMod, Nat.reduceDiv, Int.reduceToNat, Nat.min_eq_left, IntKind.bits, Int.reducePow, Int.reduceLT, Int.reduceLE, Int.reduceEq, Int.reduceNe, Int.reduceAdd, Int.reduceSub, and_self, reduceCtorEq, decide_eq_true_eq, decide_eq_false_iff_not, eq_self, implies_true, exists_const, Option.isNone_some, Option.isNone_none, Option.isSome_some, Option.isSome_none, Option.getD_some]
    exact ⟨0, xs, rfl, by omega, rfl, o, Fr.refl _ _⟩
  rintro _ h1 ⟨k, zs, rfl, hk, hz, oz, f1⟩
  by_cases hkl : k < xs.length
  · obtain ⟨bk, ok, ix, hat, hc, hst⟩ := O1.put oz (i := k) (by omega) .i64
    have hO := OwK.own oz hat
    simp (disch := omega) only [dm_t, wA, wB, wL, wW, wY, Int.fdiv_eq_ediv_of_nonneg, Int.tdiv_eq_ediv_of_nonneg, Int.tmod_eq_emod_of_nonneg, chk_pos, decT, decF, br_pos, br_neg, wX, ↓reduceIte, Nat.reduceEqDiff, Nat.reduceAdd, Nat.reduceSub, Nat.reduceMul, Nat.reduceLeDiff, Nat.reduceLT, Nat.reduceMod, Nat.reduceDiv, Int.reduceToNat, Nat.min_eq_left, IntKind.bits, Int.reducePow, Int.reduceLT, Int.reduceLE, Int.reduceEq, Int.reduceNe, Int.reduceAdd, Int.reduceSub, and_self, reduceCtorEq, decide_eq_true_eq, decide_eq_false_iff_not, eq_self, implies_true, exists_const, Option.isNone_some, Option.isNone_none, Option.isSome_some, Option.isSome_none, Option.getD_some, ix]
    refine hst _ _ rfl ?_
    intro h2 o2 f2
    simp (disch := omega) only [dm_t, wA, wB, wL, wW, wY, Int.fdiv_eq_ediv_of_nonneg, Int.tdiv_eq_ediv_of_nonneg, Int.tmod_eq_emod_of_nonneg, chk_pos, decT, decF, br_pos, br_neg, wX, ↓reduceIte, Nat.reduceEqDiff, Nat.reduceAdd, Nat.reduceSub, Nat.reduceMul, Nat.reduceLeDiff, Nat.reduceLT, Nat.reduceMod, Nat.reduceDiv, Int.reduceToNat, Nat.min_eq_left, IntKind.bits, Int.reducePow, Int.reduceLT, Int.reduceLE, Int.reduceEq, Int.reduceNe, Int.reduceAdd, Int.reduceSub, and_self, reduceCtorEq, decide_eq_true_eq, decide_eq_false_iff_not, eq_self, implies_true, exists_const, Option.isNone_some, Option.isNone_none, Option.isSome_some, Option.isSome_none, Option.getD_some]
    exact ⟨⟨k + 1, _, by simp, by omega, by simpa using hz, o2, f1.trans (f2.mono fun x hx => by rw [hx]; exact ⟨hO, hat⟩)⟩, by simp [m1]; omega⟩
  · obtain rfl : k = xs.length := by omega
    simp (disch := omega) only [dm_t, wA, wB, wL, wW, wY, Int.fdiv_eq_ediv_of_nonneg, Int.tdiv_eq_ediv_of_nonneg, Int.tmod_eq_emod_of_nonneg, chk_pos, decT, decF, br_pos, br_neg, wX, ↓reduceIte, Nat.reduceEqDiff, Nat.reduceAdd, Nat.reduceSub, Nat.reduceMul, Nat.reduceLeDiff, Nat.reduceLT, Nat.reduceMod, Nat.reduceDiv, Int.reduceToNat, Nat.min_eq_left, IntKind.bits, Int.reducePow, Int.reduceLT, Int.reduceLE, Int.reduceEq, Int.reduceNe, Int.reduceAdd, Int.reduceSub, and_self, reduceCtorEq, decide_eq_true_eq, decide_eq_false_iff_not, eq_self, implies_true, exists_const, Option.isNone_some, Option.isNone_none, Option.isSome_some, Option.isSome_none, Option.getD_some]
    exact f1
theorem RPut_ok {O S : Nat → Prop} {h : H} {wb cap : Nat} {wl lv : Value} {xs ys : List Int} (q : h wb = some (.cells #[wl, .int .i64 (cap : Int)] 54)) (o : O1 O h 3 wl (i6 xs)) (s : S1 S h lv (i6 ys)) (hx : xs.length ≤ cap) (hc : cap ≤ 256) (hf : xs.length + ys.length ≤ cap) :
    Ok Try.prog 34 #[pv wb, lv] h fun v h' => v = .int .i64 0 ∧ (∃ wl', h' wb = some (.cells #[wl', .int .i64 (cap : Int)] 54) ∧ O1 (fun y => h y = none) h' 3 wl' (i6 (xs ++ ys))) ∧ Fr (fun y => y = wb) h h' := by
  obtain ⟨aa, ac, rfl⟩ := S1.len o.s0
  obtain ⟨ba, bc, rfl⟩ := S1.len s
  have h1 := i6_len xs
  have h2 := i6_len ys
  refine c34_ok (args := [_, _]) (by simp) ?_
  simp (disch := omega) only [dm_t, wA, wB, wL, wW, wY, Int.fdiv_eq_ediv_of_nonneg, Int.tdiv_eq_ediv_of_nonneg, Int.tmod_eq_emod_of_nonneg, chk_pos, decT, decF, br_pos, br_neg, wX, ↓reduceIte, Nat.reduceEqDiff, Nat.reduceAdd, Nat.reduceSub, Nat.reduceMul, Nat.reduceLeDiff, Nat.reduceLT, Nat.reduceMod, Nat.reduceDiv, Int.reduceToNat, Nat.min_eq_left, IntKind.bits, Int.reducePow, Int.reduceLT, Int.reduceLE, Int.reduceEq, Int.reduceNe, Int.reduceAdd, Int.reduceSub, and_self, reduceCtorEq, decide_eq_true_eq, decide_eq_false_iff_not, eq_self, implies_true, exists_const, Option.isNone_some, Option.isNone_none, Option.isSome_some, Option.isSome_none, Option.getD_some, cellAt_of q]
  intro n hn
  have e1 := Ext.new hn (.cells #[] 3)
  have q1 := e1.at q
  have ol : O1 (fun y => h y = none) (hupd h n (.cells #[] 3)) 3 (.slice (some ⟨n, 0, none⟩) 0 0) [] := olit1 (xs := []) rfl hn
  simp (disch := omega) only [dm_t, wA, wB, wL, wW, wY, Int.fdiv_eq_ediv_of_nonneg, Int.tdiv_eq_ediv_of_nonneg, Int.tmod_eq_emod_of_nonneg, chk_pos, decT, decF, br_pos, br_neg, wX, ↓reduceIte, Nat.reduceEqDiff, Nat.reduceAdd, Nat.reduceSub, Nat.reduceMul, Nat.reduceLeDiff, Nat.reduceLT, Nat.reduceMod, Nat.reduceDiv, Int.reduceToNat, Nat.min_eq_left, IntKind.bits, Int.reducePow, Int.reduceLT, Int.reduceLE, Int.reduceEq, Int.reduceNe, Int.reduceAdd, Int.reduceSub, and_self, reduceCtorEq, decide_eq_true_eq, decide_eq_false_iff_not, eq_self, implies_true, exists_const, Option.isNone_some, Option.isNone_none, Option.isSome_some, Option.isSome_none, Option.getD_some, cellAt_of q1]
  refine app1 (bytes := 8) ol (fun y hy => e1.bk hy) (OwK.ext o e1).s0 (cells_ints _ _) (by simp; omega) (by simp; omega) ?_
  intro v1 g1 o1 f1
  have e2 := Ext.step e1 f1
  rw [List.nil_append] at o1
  simp (disch := omega) only [dm_t, wA, wB, wL, wW, wY, Int.fdiv_eq_ediv_of_nonneg, Int.tdiv_eq_ediv_of_nonneg, Int.tmod_eq_emod_of_nonneg, chk_pos, decT, decF, br_pos, br_neg, wX, ↓reduceIte, Nat.reduceEqDiff, Nat.reduceAdd, Nat.reduceSub, Nat.reduceMul, Nat.reduceLeDiff, Nat.reduceLT, Nat.reduceMod, Nat.reduceDiv, Int.reduceToNat, Nat.min_eq_left, IntKind.bits, Int.reducePow, Int.reduceLT, Int.reduceLE, Int.reduceEq, Int.reduceNe, Int.reduceAdd, Int.reduceSub, and_self, reduceCtorEq, decide_eq_true_eq, decide_eq_false_iff_not, eq_self, implies_true, exists_const, Option.isNone_some, Option.isNone_none, Option.isSome_some, Option.isSome_none, Option.getD_some]
  refine app1 (bytes := 8) o1 (fun y hy => e2.bk hy) (SlK.ext s e2) (cells_ints _ _) (by rw [i6_len, i6_len]; omega) (by rw [i6_len, i6_len]; omega) ?_
  intro v2 g2 o2 f2
  have e3 := Ext.step e2 f2
  have q3 := e3.at q
  have hv2 : isCell v2 = true := by obtain ⟨x, y, rfl⟩ := S1.len o2.s0; rfl
  have hsp : i6 xs ++ i6 ys = i6 (xs ++ ys) := by simp [i6]
  rw [hsp] at o2
  simp (disch := omega) only [dm_t, wA, wB, wL, wW, wY, Int.fdiv_eq_ediv_of_nonneg, Int.tdiv_eq_ediv_of_nonneg, Int.tmod_eq_emod_of_nonneg, chk_pos, decT, decF, br_pos, br_neg, wX, ↓reduceIte, Nat.reduceEqDiff, Nat.reduceAdd, Nat.reduceSub, Nat.reduceMul, Nat.reduceLeDiff, Nat.reduceLT, Nat.reduceMod, Nat.reduceDiv, Int.reduceToNat, Nat.min_eq_left, IntKind.bits, Int.reducePow, Int.reduceLT, Int.reduceLE, Int.reduceEq, Int.reduceNe, Int.reduceAdd, Int.reduceSub, and_self, reduceCtorEq, decide_eq_true_eq, decide_eq_false_iff_not, eq_self, implies_true, exists_const, Option.isNone_some, Option.isNone_none, Option.isSome_some, Option.isSome_none, Option.getD_some, storeH_0 q3, hv2]
  exact ⟨⟨v2, hupd_same _ _ _, OwK.fr o2 (Fr.upd (S := fun y => y = wb) rfl _) fun x hx _ => by rw [hx]; exact OwK.tyno o2 q3 (by decide)⟩, (e3.mono fun _ h => h.elim).trans (Fr.upd (S := fun y => y = wb) rfl _)⟩
theorem RPut_full {S : Nat → Prop} {h : H} {wb cap : Nat} {lv : Value} {wl : Value} {xs : List Int} {ys : List Value} {T : Nat → Prop} (q : h wb = some (.cells #[wl, .int .i64 (cap : Int)] 54)) (o : S1 T h wl (i6 xs)) (s : S1 S h lv ys) (hx : xs.length ≤ cap) (hc : cap ≤ 256) (hf : cap < xs.length + ys.length) :
    Ok Try.prog 34 #[pv wb, lv] h fun v h' => v = .int .i64 6 ∧ h = h' := by
  obtain ⟨aa, ac, rfl⟩ := S1.len o
  obtain ⟨ba, bc, rfl⟩ := S1.len s
  have h1 := i6_len xs
  refine c34_ok (args := [_, _]) (by simp) ?_
  simp (disch := omega) only [dm_t, wA, wB, wL, wW, wY, Int.fdiv_eq_ediv_of_nonneg, Int.tdiv_eq_ediv_of_nonneg, Int.tmod_eq_emod_of_nonneg, chk_pos, decT, decF, br_pos, br_neg, wX, ↓reduceIte, Nat.reduceEqDiff, Nat.reduceAdd, Nat.reduceSub, Nat.reduceMul, Nat.reduceLeDiff, Nat.reduceLT, Nat.reduceMod, Nat.reduceDiv, Int.reduceToNat, Nat.min_eq_left, IntKind.bits, Int.reducePow, Int.reduceLT, Int.reduceLE, Int.reduceEq, Int.reduceNe, Int.reduceAdd, Int.reduceSub, and_self, reduceCtorEq, decide_eq_true_eq, decide_eq_false_iff_not, eq_self, implies_true, exists_const, Option.isNone_some, Option.isNone_none, Option.isSome_some, Option.isSome_none, Option.getD_some, cellAt_of q]
theorem RDrop_neg (h : H) (w : Value) (n : Int) (hn : n < 0) : Ok Try.prog 37 #[w, .int .i64 n] h fun v h' => v = .tuple #[.slice none 0 0, .int .i64 2] ∧ h = h' := by
  refine c37_ok (args := [_, _]) (by simp) ?_
  simp (disch := omega) only [dm_t, wA, wB, wL, wW, wY, Int.fdiv_eq_ediv_of_nonneg, Int.tdiv_eq_ediv_of_nonneg, Int.tmod_eq_emod_of_nonneg, chk_pos, decT, decF, br_pos, br_neg, wX, ↓reduceIte, Nat.reduceEqDiff, Nat.reduceAdd, Nat.reduceSub, Nat.reduceMul, Nat.reduceLeDiff, Nat.reduceLT, Nat.reduceMod, Nat.reduceDiv, Int.reduceToNat, Nat.min_eq_left, IntKind.bits, Int.reducePow, Int.reduceLT, Int.reduceLE, Int.reduceEq, Int.reduceNe, Int.reduceAdd, Int.reduceSub, and_self, reduceCtorEq, decide_eq_true_eq, decide_eq_false_iff_not, eq_self, implies_true, exists_const, Option.isNone_some, Option.isNone_none, Option.isSome_some, Option.isSome_none, Option.getD_some]
theorem RDrop_few {h : H} {wb cap : Nat} {wl : Value} {xs : List Int} {T : Nat → Prop} (q : h wb = some (.cells #[wl, .int .i64 (cap : Int)] 54)) (o : S1 T h wl (i6 xs)) (n : Int) (hn : (xs.length : Int) < n) : Ok Try.prog 37 #[pv wb, .int .i64 n] h fun v h' => v = .tuple #[.slice none 0 0, .int .i64 4] ∧ h = h' := by
  obtain ⟨aa, ac, rfl⟩ := S1.len o
  have h1 := i6_len xs
  refine c37_ok (args := [_, _]) (by simp) ?_
  simp (disch := omega) only [dm_t, wA, wB, wL, wW, wY, Int.fdiv_eq_ediv_of_nonneg, Int.tdiv_eq_ediv_of_nonneg, Int.tmod_eq_emod_of_nonneg, chk_pos, decT, decF, br_pos, br_neg, wX, ↓reduceIte, Nat.reduceEqDiff, Nat.reduceAdd, Nat.reduceSub, Nat.reduceMul, Nat.reduceLeDiff, Nat.reduceLT, Nat.reduceMod, Nat.reduceDiv, Int.reduceToNat, Nat.min_eq_left, IntKind.bits, Int.reducePow, Int.reduceLT, Int.reduceLE, Int.reduceEq, Int.reduceNe, Int.reduceAdd, Int.reduceSub, and_self, reduceCtorEq, decide_eq_true_eq, decide_eq_false_iff_not, eq_self, implies_true, exists_const, Option.isNone_some, Option.isNone_none, Option.isSome_some, Option.isSome_none, Option.getD_some, cellAt_of q]
theorem RDrop_ok {O : Nat → Prop} {h : H} {wb cap : Nat} {wl : Value} {xs : List Int} (q : h wb = some (.cells #[wl, .int .i64 (cap : Int)] 54)) (o : O1 O h 3 wl (i6 xs)) (n : Nat) (hn : n ≤ xs.length) (hc : xs.length ≤ 256) :
    Ok Try.prog 37 #[pv wb, .int .i64 (n : Int)] h fun v h' => ∃ l wl', v = .tuple #[l, .int .i64 0] ∧ O1 O h' 3 l (i6 (xs.take n)) ∧ h' wb = some (.cells #[wl', .int .i64 (cap : Int)] 54) ∧ O1 (fun y => h y = none) h' 3 wl' (i6 (xs.drop n)) ∧ Fr (fun y => y = wb) h h' := by
  obtain ⟨aa, ac, rfl⟩ := S1.len o.s0
  have h1 := i6_len xs
  obtain ⟨_, hcap, _⟩ := SlK.cap o.s0
  rw [h1] at o hcap q
  refine c37_ok (args := [_, _]) (by simp) ?_
  obtain ⟨l, i1, ol, _⟩ := O1.cut o (m3 := false) (lo := ((0 : Nat) : Int)) (hi := n) (mx := ac) (l := 0) (u := n) (m := ac) rfl rfl rfl (by omega) (by omega) (by omega) (by omega) (.inr rfl)
  obtain ⟨r, i2, or', _⟩ := O1.cut o (m3 := false) (lo := n) (hi := xs.length) (mx := ac) (l := n) (u := xs.length) (m := ac) rfl rfl rfl (by omega) (by omega) (by omega) (by omega) (.inr rfl)
  rw [List.drop_zero, Nat.sub_zero, ← List.map_take] at ol
  rw [List.take_of_length_le (by simp), ← List.map_drop] at or'
  have hlv : isCell l = true := by obtain ⟨x, y, rfl⟩ := S1.len ol.s0; rfl
  simp (disch := omega) only [dm_t, wA, wB, wL, wW, wY, Int.fdiv_eq_ediv_of_nonneg, Int.tdiv_eq_ediv_of_nonneg, Int.tmod_eq_emod_of_nonneg, chk_pos, decT, decF, br_pos, br_neg, wX, ↓reduceIte, Nat.reduceEqDiff, Nat.reduceAdd, Nat.reduceSub, Nat.reduceMul, Nat.reduceLeDiff, Nat.reduceLT, Nat.reduceMod, Nat.reduceDiv, Int.reduceToNat, Nat.min_eq_left, IntKind.bits, Int.reducePow, Int.reduceLT, Int.reduceLE, Int.reduceEq, Int.reduceNe, Int.reduceAdd, Int.reduceSub, and_self, reduceCtorEq, decide_eq_true_eq, decide_eq_false_iff_not, eq_self, implies_true, exists_const, Option.isNone_some, Option.isNone_none, Option.isSome_some, Option.isSome_none, Option.getD_some, cellAt_of q, i1]
  intro b hb
  have e1 := Ext.new hb (.cells #[] 3)
  have q1 := e1.at q
  have obl : O1 (fun y => h y = none) (hupd h b (.cells #[] 3)) 3 (.slice (some ⟨b, 0, none⟩) 0 0) [] := olit1 (xs := []) rfl hb
  simp (disch := omega) only [dm_t, wA, wB, wL, wW, wY, Int.fdiv_eq_ediv_of_nonneg, Int.tdiv_eq_ediv_of_nonneg, Int.tmod_eq_emod_of_nonneg, chk_pos, decT, decF, br_pos, br_neg, wX, ↓reduceIte, Nat.reduceEqDiff, Nat.reduceAdd, Nat.reduceSub, Nat.reduceMul, Nat.reduceLeDiff, Nat.reduceLT, Nat.reduceMod, Nat.reduceDiv, Int.reduceToNat, Nat.min_eq_left, IntKind.bits, Int.reducePow, Int.reduceLT, Int.reduceLE, Int.reduceEq, Int.reduceNe, Int.reduceAdd, Int.reduceSub, and_self, reduceCtorEq, decide_eq_true_eq, decide_eq_false_iff_not, eq_self, implies_true, exists_const, Option.isNone_some, Option.isNone_none, Option.isSome_some, Option.isSome_none, Option.getD_some, cellAt_of q1, i2]
  refine app1 (bytes := 8) obl (fun y hy => e1.bk hy) (OwK.ext or' e1).s0 (cells_ints _ _) (by simp; omega) (by simp; omega) ?_
  intro v1 g1 o1 f1
  have e2 := Ext.step e1 f1
  have q2 := e2.at q
  rw [List.nil_append] at o1
  have hv1 : isCell v1 = true := by obtain ⟨x, y, rfl⟩ := S1.len o1.s0; rfl
  simp (disch := omega) only [dm_t, wA, wB, wL, wW, wY, Int.fdiv_eq_ediv_of_nonneg, Int.tdiv_eq_ediv_of_nonneg, Int.tmod_eq_emod_of_nonneg, chk_pos, decT, decF, br_pos, br_neg, wX, ↓reduceIte, Nat.reduceEqDiff, Nat.reduceAdd, Nat.reduceSub, Nat.reduceMul, Nat.reduceLeDiff, Nat.reduceLT, Nat.reduceMod, Nat.reduceDiv, Int.reduceToNat, Nat.min_eq_left, IntKind.bits, Int.reducePow, Int.reduceLT, Int.reduceLE, Int.reduceEq, Int.reduceNe, Int.reduceAdd, Int.reduceSub, and_self, reduceCtorEq, decide_eq_true_eq, decide_eq_false_iff_not, eq_self, implies_true, exists_const, Option.isNone_some, Option.isNone_none, Option.isSome_some, Option.isSome_none, Option.getD_some, storeH_0 q2, hv1]
  exact ⟨l, v1, rfl, OwK.fr (OwK.ext ol e2) (Fr.upd (S := fun y => y = wb) rfl _) fun x hx _ => by rw [hx]; exact OwK.tyno (OwK.ext ol e2) q2 (by decide), hupd_same _ _ _, OwK.fr o1 (Fr.upd (S := fun y => y = wb) rfl _) fun x hx _ => by rw [hx]; exact OwK.tyno o1 q2 (by decide), (e2.mono fun _ h => h.elim).trans (Fr.upd (S := fun y => y = wb) rfl _)⟩
/-- A going over tells the list, left behind some or not. -/
theorem goes_ok {S : Nat → Prop} {h : H} {lc : Nat} {va lv : Value} {xs : List Int} (leave : Int) (qa : h lc = some (.cells #[va] 23)) (sa : Sl h va (i6 xs)) (sl : S1 S h lv (i6 xs)) (hx : xs.length ≤ 1000) :
    Ok Try.prog 39 #[.func (.func 33) #[] #[pv lc], lv, .int .i64 leave] h fun v h' => v = .bool true ∧ Ext h h' := by
  obtain ⟨la, lcp, rfl⟩ := S1.len sl
  have hl6 := i6_len xs
  rw [hl6] at sl ⊢
  refine c39_ok (args := [_, _, _]) (by simp) ?_
  simp (disch := omega) only [dm_t, wA, wB, wL, wW, wY, Int.fdiv_eq_ediv_of_nonneg, Int.tdiv_eq_ediv_of_nonneg, Int.tmod_eq_emod_of_nonneg, chk_pos, decT, decF, br_pos, br_neg, wX, ↓reduceIte, Nat.reduceEqDiff, Nat.reduceAdd, Nat.reduceSub, Nat.reduceMul, Nat.reduceLeDiff, Nat.reduceLT, Nat.reduceMod, Nat.reduceDiv, Int.reduceToNat, Nat.min_eq_left, IntKind.bits, Int.reducePow, Int.reduceLT, Int.reduceLE, Int.reduceEq, Int.reduceNe, Int.reduceAdd, Int.reduceSub, and_self, reduceCtorEq, decide_eq_true_eq, decide_eq_false_iff_not, eq_self, implies_true, exists_const, Option.isNone_some, Option.isNone_none, Option.isSome_some, Option.isSome_none, Option.getD_some]
  intro c4 hc4
  generalize hG : hupd _ c4 _ = g1
  obtain ⟨e1, q4⟩ := new_ext hG hc4
  clear hG
  simp (disch := omega) only [dm_t, wA, wB, wL, wW, wY, Int.fdiv_eq_ediv_of_nonneg, Int.tdiv_eq_ediv_of_nonneg, Int.tmod_eq_emod_of_nonneg, chk_pos, decT, decF, br_pos, br_neg, wX, ↓reduceIte, Nat.reduceEqDiff, Nat.reduceAdd, Nat.reduceSub, Nat.reduceMul, Nat.reduceLeDiff, Nat.reduceLT, Nat.reduceMod, Nat.reduceDiv, Int.reduceToNat, Nat.min_eq_left, IntKind.bits, Int.reducePow, Int.reduceLT, Int.reduceLE, Int.reduceEq, Int.reduceNe, Int.reduceAdd, Int.reduceSub, and_self, reduceCtorEq, decide_eq_true_eq, decide_eq_false_iff_not, eq_self, implies_true, exists_const, Option.isNone_some, Option.isNone_none, Option.isSome_some, Option.isSome_none, Option.getD_some]
  intro c5 hc5
  generalize hG : hupd _ c5 _ = g2
  obtain ⟨e2, q5⟩ := new_ext hG hc5
  clear hG
  simp (disch := omega) only [dm_t, wA, wB, wL, wW, wY, Int.fdiv_eq_ediv_of_nonneg, Int.tdiv_eq_ediv_of_nonneg, Int.tmod_eq_emod_of_nonneg, chk_pos, decT, decF, br_pos, br_neg, wX, ↓reduceIte, Nat.reduceEqDiff, Nat.reduceAdd, Nat.reduceSub, Nat.reduceMul, Nat.reduceLeDiff, Nat.reduceLT, Nat.reduceMod, Nat.reduceDiv, Int.reduceToNat, Nat.min_eq_left, IntKind.bits, Int.reducePow, Int.reduceLT, Int.reduceLE, Int.reduceEq, Int.reduceNe, Int.reduceAdd, Int.reduceSub, and_self, reduceCtorEq, decide_eq_true_eq, decide_eq_false_iff_not, eq_self, implies_true, exists_const, Option.isNone_some, Option.isNone_none, Option.isSome_some, Option.isSome_none, Option.getD_some]
  intro c6 hc6
  generalize hG : hupd _ c6 _ = g3
  obtain ⟨e3, q6⟩ := new_ext hG hc6
  clear hG
  simp (disch := omega) only [dm_t, wA, wB, wL, wW, wY, Int.fdiv_eq_ediv_of_nonneg, Int.tdiv_eq_ediv_of_nonneg, Int.tmod_eq_emod_of_nonneg, chk_pos, decT, decF, br_pos, br_neg, wX, ↓reduceIte, Nat.reduceEqDiff, Nat.reduceAdd, Nat.reduceSub, Nat.reduceMul, Nat.reduceLeDiff, Nat.reduceLT, Nat.reduceMod, Nat.reduceDiv, Int.reduceToNat, Nat.min_eq_left, IntKind.bits, Int.reducePow, Int.reduceLT, Int.reduceLE, Int.reduceEq, Int.reduceNe, Int.reduceAdd, Int.reduceSub, and_self, reduceCtorEq, decide_eq_true_eq, decide_eq_false_iff_not, eq_self, implies_true, exists_const, Option.isNone_some, Option.isNone_none, Option.isSome_some, Option.isSome_none, Option.getD_some]
  intro c7 hc7
  generalize hG : hupd _ c7 _ = g4
  obtain ⟨e4, q7⟩ := new_ext hG hc7
  clear hG
  have E := ((e1.trans e2).trans e3).trans e4
  have hn7 := ((e1.trans e2).trans e3).bk hc7
  have hn6 := (e1.trans e2).bk hc6
  have n67 := ne_of q6 hc7
  have n57 := ne_of (e3.at q5) hc7
  have n47 := ne_of ((e2.trans e3).at q4) hc7
  have n56 := ne_of q5 hc6
  have n46 := ne_of (e2.at q4) hc6
  replace q4 := ((e2.trans e3).trans e4).at q4
  replace q5 := (e3.trans e4).at q5
  replace q6 := e4.at q6
  simp (disch := omega) only [dm_t, wA, wB, wL, wW, wY, Int.fdiv_eq_ediv_of_nonneg, Int.tdiv_eq_ediv_of_nonneg, Int.tmod_eq_emod_of_nonneg, chk_pos, decT, decF, br_pos, br_neg, wX, ↓reduceIte, Nat.reduceEqDiff, Nat.reduceAdd, Nat.reduceSub, Nat.reduceMul, Nat.reduceLeDiff, Nat.reduceLT, Nat.reduceMod, Nat.reduceDiv, Int.reduceToNat, Nat.min_eq_left, IntKind.bits, Int.reducePow, Int.reduceLT, Int.reduceLE, Int.reduceEq, Int.reduceNe, Int.reduceAdd, Int.reduceSub, and_self, reduceCtorEq, decide_eq_true_eq, decide_eq_false_iff_not, eq_self, implies_true, exists_const, Option.isNone_some, Option.isNone_none, Option.isSome_some, Option.isSome_none, Option.getD_some, storeH_0 q7]
  obtain ⟨g5, hg5⟩ : ∃ g, g = hupd g4 c7 (.cells #[.int .i64 0] 3) := ⟨_, rfl⟩
  rw [← hg5]
  have f5 : Fr (fun y => y = c7) g4 g5 := by rw [hg5]; exact Fr.upd (S := fun y => y = c7) rfl _
  have r4 := f5 _ _ q4 n47
  have r5 := f5 _ _ q5 n57
  have r6 := f5 _ _ q6 n67
  have r7 : g5 c7 = some (.cells #[.int .i64 0] 3) := by rw [hg5]; exact hupd_same _ _ _
  have E5 : Ext h g5 := Ext.step' E f5 fun x hx => by rw [hx]; exact hn7
  clear hg5 f5 q4 q5 q6 q7 E e1 e2 e3 e4 hc4 hc5 hc6 hc7
  clear g1 g2 g3 g4
  refine vc_rng rfl rfl (All_it (l := va) (xs := i6 xs) (cells_ints _ _) (by omega)) ?_
    (fun i h' => Fr (fun y => y = c7) g5 h' ∧ h' c7 = some (.cells #[.int .i64 (i : Int)] 3)) (fun h' => Ext h h' ∧ h' c6 = some (.cells #[.bool true] 4)) (fun _ _ => False) ?_ ?_ ?_ ?_ ?_ ?_ ?_ (fun _ _ h => h.elim)
  · rintro h b o hb ⟨h1, h2⟩
    exact ⟨(Ext.new hb o).at h1, h2.ext (Ext.new hb o)⟩
  · rintro i h' ⟨f, _⟩
    have e : Ext h h' := Ext.step' E5 f fun x hx => by rw [hx]; exact hn7
    exact ⟨e.at qa, sa.ext e⟩
  · rintro i h' h'' ⟨f, q⟩ e
    exact ⟨f.trans (e.mono fun _ h => h.elim), e.at q⟩
  · exact ⟨Fr.refl _ _, r7⟩
  · intro i hi; rfl
  · rintro L i h1 hi ⟨r, hr⟩ ⟨f, q7⟩
    rw [hl6] at hi
    have hgd : (i6 xs).getD i undef = .int .i64 xs[i] := by
      rw [List.getD_eq_getElem?_getD, List.getElem?_map, List.getElem?_eq_getElem (by omega)]; rfl
    rw [hgd]
    simp (disch := omega) only [dm_t, wA, wB, wL, wW, wY, Int.fdiv_eq_ediv_of_nonneg, Int.tdiv_eq_ediv_of_nonneg, Int.tmod_eq_emod_of_nonneg, chk_pos, decT, decF, br_pos, br_neg, wX, ↓reduceIte, Nat.reduceEqDiff, Nat.reduceAdd, Nat.reduceSub, Nat.reduceMul, Nat.reduceLeDiff, Nat.reduceLT, Nat.reduceMod, Nat.reduceDiv, Int.reduceToNat, Nat.min_eq_left, IntKind.bits, Int.reducePow, Int.reduceLT, Int.reduceLE, Int.reduceEq, Int.reduceNe, Int.reduceAdd, Int.reduceSub, and_self, reduceCtorEq, decide_eq_true_eq, decide_eq_false_iff_not, eq_self, implies_true, exists_const, Option.isNone_some, Option.isNone_none, Option.isSome_some, Option.isSome_none, Option.getD_some, List.zip_cons_cons, List.zip_nil_right, List.cons_append, List.nil_append]
    have s4 := f _ _ r4 n47
    have s5 := f _ _ r5 n57
    have s6 := f _ _ r6 n67
    have ex : Ext h (hdel h1 L) := Ext.step' E5 f fun x hx => by rw [hx]; exact hn7
    obtain ⟨b1, o1, i1, g1⟩ := S1.load (SlK.ext sl ex) (i := i) (by omega) .i64
    rw [List.getElem_map] at g1
    simp (disch := omega) only [dm_t, wA, wB, wL, wW, wY, Int.fdiv_eq_ediv_of_nonneg, Int.tdiv_eq_ediv_of_nonneg, Int.tmod_eq_emod_of_nonneg, chk_pos, decT, decF, br_pos, br_neg, wX, ↓reduceIte, Nat.reduceEqDiff, Nat.reduceAdd, Nat.reduceSub, Nat.reduceMul, Nat.reduceLeDiff, Nat.reduceLT, Nat.reduceMod, Nat.reduceDiv, Int.reduceToNat, Nat.min_eq_left, IntKind.bits, Int.reducePow, Int.reduceLT, Int.reduceLE, Int.reduceEq, Int.reduceNe, Int.reduceAdd, Int.reduceSub, and_self, reduceCtorEq, decide_eq_true_eq, decide_eq_false_iff_not, eq_self, implies_true, exists_const, Option.isNone_some, Option.isNone_none, Option.isSome_some, Option.isSome_none, Option.getD_some, cellAt_of q7, cellAt_of s4, i1, g1, storeH_0 q7]
    generalize hdel h1 L = g at *
    have n7g : h1 L = h1 L := rfl
    simp (disch := omega) only [dm_t, wA, wB, wL, wW, wY, Int.fdiv_eq_ediv_of_nonneg, Int.tdiv_eq_ediv_of_nonneg, Int.tmod_eq_emod_of_nonneg, chk_pos, decT, decF, br_pos, br_neg, wX, ↓reduceIte, Nat.reduceEqDiff, Nat.reduceAdd, Nat.reduceSub, Nat.reduceMul, Nat.reduceLeDiff, Nat.reduceLT, Nat.reduceMod, Nat.reduceDiv, Int.reduceToNat, Nat.min_eq_left, IntKind.bits, Int.reducePow, Int.reduceLT, Int.reduceLE, Int.reduceEq, Int.reduceNe, Int.reduceAdd, Int.reduceSub, and_self, reduceCtorEq, decide_eq_true_eq, decide_eq_false_iff_not, eq_self, implies_true, exists_const, Option.isNone_some, Option.isNone_none, Option.isSome_some, Option.isSome_none, Option.getD_some, cellAt_same, cellAt_ne, cellAt_of s5]
    by_cases hle : (i : Int) + 1 = leave
    · have s6' : hupd g c7 (.cells #[.int .i64 ((i : Int) + 1)] 3) c6 = _ := (hupd_ne _ _ n67).trans s6
      simp (disch := omega) only [dm_t, wA, wB, wL, wW, wY, Int.fdiv_eq_ediv_of_nonneg, Int.tdiv_eq_ediv_of_nonneg, Int.tmod_eq_emod_of_nonneg, chk_pos, decT, decF, br_pos, br_neg, wX, ↓reduceIte, Nat.reduceEqDiff, Nat.reduceAdd, Nat.reduceSub, Nat.reduceMul, Nat.reduceLeDiff, Nat.reduceLT, Nat.reduceMod, Nat.reduceDiv, Int.reduceToNat, Nat.min_eq_left, IntKind.bits, Int.reducePow, Int.reduceLT, Int.reduceLE, Int.reduceEq, Int.reduceNe, Int.reduceAdd, Int.reduceSub, and_self, reduceCtorEq, decide_eq_true_eq, decide_eq_false_iff_not, eq_self, implies_true, exists_const, Option.isNone_some, Option.isNone_none, Option.isSome_some, Option.isSome_none, Option.getD_some, storeH_0 s6']
      exact fun _ => ⟨Ext.upd (Ext.upd ex hn7) hn6, hupd_same _ _ _⟩
    · simp (disch := omega) only [dm_t, wA, wB, wL, wW, wY, Int.fdiv_eq_ediv_of_nonneg, Int.tdiv_eq_ediv_of_nonneg, Int.tmod_eq_emod_of_nonneg, chk_pos, decT, decF, br_pos, br_neg, wX, ↓reduceIte, Nat.reduceEqDiff, Nat.reduceAdd, Nat.reduceSub, Nat.reduceMul, Nat.reduceLeDiff, Nat.reduceLT, Nat.reduceMod, Nat.reduceDiv, Int.reduceToNat, Nat.min_eq_left, IntKind.bits, Int.reducePow, Int.reduceLT, Int.reduceLE, Int.reduceEq, Int.reduceNe, Int.reduceAdd, Int.reduceSub, and_self, reduceCtorEq, decide_eq_true_eq, decide_eq_false_iff_not, eq_self, implies_true, exists_const, Option.isNone_some, Option.isNone_none, Option.isSome_some, Option.isSome_none, Option.getD_some]
      exact fun _ => ⟨f.trans (Fr.upd (S := fun y => y = c7) rfl _), by rw [hupd_same]; simp⟩
  · rintro h' ⟨f, q7⟩
    rw [hl6] at q7
    have s4 := f _ _ r4 n47
    have s6 := f _ _ r6 n67
    have n67' : c6 ≠ c7 := n67
    simp (disch := omega) only [dm_t, wA, wB, wL, wW, wY, Int.fdiv_eq_ediv_of_nonneg, Int.tdiv_eq_ediv_of_nonneg, Int.tmod_eq_emod_of_nonneg, chk_pos, decT, decF, br_pos, br_neg, wX, ↓reduceIte, Nat.reduceEqDiff, Nat.reduceAdd, Nat.reduceSub, Nat.reduceMul, Nat.reduceLeDiff, Nat.reduceLT, Nat.reduceMod, Nat.reduceDiv, Int.reduceToNat, Nat.min_eq_left, IntKind.bits, Int.reducePow, Int.reduceLT, Int.reduceLE, Int.reduceEq, Int.reduceNe, Int.reduceAdd, Int.reduceSub, and_self, reduceCtorEq, decide_eq_true_eq, decide_eq_false_iff_not, eq_self, implies_true, exists_const, Option.isNone_some, Option.isNone_none, Option.isSome_some, Option.isSome_none, Option.getD_some, cellAt_of q7, cellAt_of s4, storeH_0 s6, cellAt_same]
    exact Ext.upd (Ext.step' E5 f fun x hx => by rw [hx]; exact hn7) hn6
  · rintro h' ⟨e, q⟩
    simp (disch := omega) only [dm_t, wA, wB, wL, wW, wY, Int.fdiv_eq_ediv_of_nonneg, Int.tdiv_eq_ediv_of_nonneg, Int.tmod_eq_emod_of_nonneg, chk_pos, decT, decF, br_pos, br_neg, wX, ↓reduceIte, Nat.reduceEqDiff, Nat.reduceAdd, Nat.reduceSub, Nat.reduceMul, Nat.reduceLeDiff, Nat.reduceLT, Nat.reduceMod, Nat.reduceDiv, Int.reduceToNat, Nat.min_eq_left, IntKind.bits, Int.reducePow, Int.reduceLT, Int.reduceLE, Int.reduceEq, Int.reduceNe, Int.reduceAdd, Int.reduceSub, and_self, reduceCtorEq, decide_eq_true_eq, decide_eq_false_iff_not, eq_self, implies_true, exists_const, Option.isNone_some, Option.isNone_none, Option.isSome_some, Option.isSome_none, Option.getD_some, cellAt_of q]
    exact e
end Go.Proofs.Ytcbljemfpliehaa.ri
