/-
  Boards: the statement MarksBoard walked.
-/
import Derived.Test.YtdncjknimfemkaaM1
namespace Go.Proofs.Ytdncjknimfemkaa.mk
open Go.Proofs.Ytdncjknimfemkaa
set_option linter.unusedVariables false
set_option linter.unusedSimpArgs false

abbrev i6 (l : List Int) : List Value := l.map (.int .i64)
theorem i6_len (l : List Int) : (i6 l).length = l.length := by simp [i6]
theorem i6_inj {a b : List Int} (h : i6 a = i6 b) : a = b := by
  induction a generalizing b with
  | nil => cases b with | nil => rfl | cons => simp [i6] at h
  | cons x t ih =>
    cases b with
    | nil => simp [i6] at h
    | cons y u => simp [i6] at h; rw [h.1, ih (by simpa [i6] using h.2)]
theorem same_ok {S T : Nat → Prop} {h : H} {a b : Value} {xs ys : List Int} (ha : S1 S h a (i6 xs)) (hb : S1 T h b (i6 ys)) (hl : xs.length ≤ 4611686018427387904) : Ok Try.prog 12 #[a, b] h fun v h' => v = .bool (decide (xs = ys)) ∧ h = h' := by
  obtain ⟨aa, ac, rfl⟩ := S1.len ha
  obtain ⟨ba, bc, rfl⟩ := S1.len hb
  rw [i6_len] at ha hb ⊢
  rw [i6_len]
  refine c12_ok (args := [_, _]) (by simp) ?_
  by_cases hxy : xs.length = ys.length
  · simp (disch := omega) only [dm_t, wA, wB, wL, wW, wY, Int.fdiv_eq_ediv_of_nonneg, Int.tdiv_eq_ediv_of_nonneg, Int.tmod_eq_emod_of_nonneg, chk_pos, decT, decF, br_pos, br_neg, wX, ↓reduceIte, Nat.reduceEqDiff, Nat.reduceAdd, Nat.reduceSub, Nat.reduceMul, Nat.reduceLeDiff, Nat.reduceLT, Nat.reduceMod, Nat.reduceDiv, Int.reduceToNat, Nat.min_eq_left, IntKind.bits, Int.reducePow, Int.reduceLT, Int.reduceLE, Int.reduceEq, Int.reduceNe, Int.reduceAdd, Int.reduceSub, and_self, reduceCtorEq, decide_eq_true_eq, decide_eq_false_iff_not, eq_self, implies_true, exists_const, Option.isNone_some, Option.isNone_none, Option.isSome_some, Option.isSome_none, Option.getD_some]
    refine vc_loop1 (fun vi h' => h' = h ∧ ∃ i : Nat, vi = .int .i64 (i : Int) ∧ i ≤ xs.length ∧ xs.take i = ys.take i) (fun vi _ => xs.length - m1 vi) ?_ ?_
    · simp (disch := omega) only [dm_t, wA, wB, wL, wW, wY, Int.fdiv_eq_ediv_of_nonneg, Int.tdiv_eq_ediv_of_nonneg, Int.tmod_eq_emod_of_nonneg, chk_pos, decT, decF, br_pos, br_neg, wX, ↓reduceIte, Nat.reduceEqDiff, Nat.reduceAdd, Nat.reduceSub, Nat.reduceMul, Nat.reduceLeDiff, Nat.reduceLT, Nat.reduceMod, Nat.reduceDiv, Int.reduceToNat, Nat.min_eq_left, IntKind.bits, Int.reducePow, Int.reduceLT, Int.reduceLE, Int.reduceEq, Int.reduceNe, Int.reduceAdd, Int.reduceSub, and_self, reduceCtorEq, decide_eq_true_eq, decide_eq_false_iff_not, eq_self, implies_true, exists_const, Option.isNone_some, Option.isNone_none, Option.isSome_some, Option.isSome_none, Option.getD_some]
      exact ⟨0, rfl, by omega, by simp⟩
    rintro _ _ ⟨rfl, i, rfl, hi, he⟩
    by_cases hil : i < xs.length
    · obtain ⟨b1, o1, i1, g1⟩ := S1.load ha (i := i) (by rw [i6_len]; exact hil) .i64
      obtain ⟨b2, o2, i2, g2⟩ := S1.load hb (i := i) (by rw [i6_len]; omega) .i64
      rw [List.getElem_map] at g1 g2
      by_cases hv : xs[i] = ys[i]
      · simp (disch := omega) only [dm_t, wA, wB, wL, wW, wY, Int.fdiv_eq_ediv_of_nonneg, Int.tdiv_eq_ediv_of_nonneg, Int.tmod_eq_emod_of_nonneg, chk_pos, decT, decF, br_pos, br_neg, wX, ↓reduceIte, Nat.reduceEqDiff, Nat.reduceAdd, Nat.reduceSub, Nat.reduceMul, Nat.reduceLeDiff, Nat.reduceLT, Nat.reduceMod, Nat.reduceDiv, Int.reduceToNat, Nat.min_eq_left, IntKind.bits, Int.reducePow, Int.reduceLT, Int.reduceLE, Int.reduceEq, Int.reduceNe, Int.reduceAdd, Int.reduceSub, and_self, reduceCtorEq, decide_eq_true_eq, decide_eq_false_iff_not, eq_self, implies_true, exists_const, Option.isNone_some, Option.isNone_none, Option.isSome_some, Option.isSome_none, Option.getD_some, i1, i2, g1, g2]
        refine ⟨⟨i + 1, by simp, by omega, ?_⟩, by simp [m1]; omega⟩
        rw [List.take_succ_eq_append_getElem hil, List.take_succ_eq_append_getElem (by omega), he, hv]
      · simp (disch := omega) only [dm_t, wA, wB, wL, wW, wY, Int.fdiv_eq_ediv_of_nonneg, Int.tdiv_eq_ediv_of_nonneg, Int.tmod_eq_emod_of_nonneg, chk_pos, decT, decF, br_pos, br_neg, wX, ↓reduceIte, Nat.reduceEqDiff, Nat.reduceAdd, Nat.reduceSub, Nat.reduceMul, Nat.reduceLeDiff, Nat.reduceLT, Nat.reduceMod, Nat.reduceDiv, Int.reduceToNat, Nat.min_eq_left, IntKind.bits, Int.reducePow, Int.reduceLT, Int.reduceLE, Int.reduceEq, Int.reduceNe, Int.reduceAdd, Int.reduceSub, and_self, reduceCtorEq, decide_eq_true_eq, decide_eq_false_iff_not, eq_self, implies_true, exists_const, Option.isNone_some, Option.isNone_none, Option.isSome_some, Option.isSome_none, Option.getD_some, i1, i2, g1, g2]
        simp only [Value.bool.injEq]
        symm
        rw [decide_eq_false_iff_not]
        rintro rfl; exact hv rfl
    · obtain rfl : i = xs.length := by omega
      rw [List.take_length, List.take_of_length_le (by omega)] at he
      simp (disch := omega) only [dm_t, wA, wB, wL, wW, wY, Int.fdiv_eq_ediv_of_nonneg, Int.tdiv_eq_ediv_of_nonneg, Int.tmod_eq_emod_of_nonneg, chk_pos, decT, decF, br_pos, br_neg, wX, ↓reduceIte, Nat.reduceEqDiff, Nat.reduceAdd, Nat.reduceSub, Nat.reduceMul, Nat.reduceLeDiff, Nat.reduceLT, Nat.reduceMod, Nat.reduceDiv, Int.reduceToNat, Nat.min_eq_left, IntKind.bits, Int.reducePow, Int.reduceLT, Int.reduceLE, Int.reduceEq, Int.reduceNe, Int.reduceAdd, Int.reduceSub, and_self, reduceCtorEq, decide_eq_true_eq, decide_eq_false_iff_not, eq_self, implies_true, exists_const, Option.isNone_some, Option.isNone_none, Option.isSome_some, Option.isSome_none, Option.getD_some, he]
  · simp (disch := omega) only [dm_t, wA, wB, wL, wW, wY, Int.fdiv_eq_ediv_of_nonneg, Int.tdiv_eq_ediv_of_nonneg, Int.tmod_eq_emod_of_nonneg, chk_pos, decT, decF, br_pos, br_neg, wX, ↓reduceIte, Nat.reduceEqDiff, Nat.reduceAdd, Nat.reduceSub, Nat.reduceMul, Nat.reduceLeDiff, Nat.reduceLT, Nat.reduceMod, Nat.reduceDiv, Int.reduceToNat, Nat.min_eq_left, IntKind.bits, Int.reducePow, Int.reduceLT, Int.reduceLE, Int.reduceEq, Int.reduceNe, Int.reduceAdd, Int.reduceSub, and_self, reduceCtorEq, decide_eq_true_eq, decide_eq_false_iff_not, eq_self, implies_true, exists_const, Option.isNone_some, Option.isNone_none, Option.isSome_some, Option.isSome_none, Option.getD_some]
    simp only [Value.bool.injEq]
    symm
    rw [decide_eq_false_iff_not]
    rintro rfl; exact hxy rfl

theorem no_at {a b x : Nat} (h : isAt (.slice none a b) x) : False := by
  obtain ⟨o, n, c, h⟩ := h; simp at h
theorem ty_no {k T' : Nat} {O' : Nat → Prop} {g : H} {v : Value} {rows : List (List Value)} {y : Nat} {c : Array Value} {T : TypeId} (s : OwK k O' g T' v rows) (hy : g y = some (.cells c T)) (hT : T ≠ T') : ¬ isAt v y := by
  intro hat
  obtain ⟨c', fr, h'⟩ := s.ty hat
  rw [hy] at h'
  simp only [Option.some.injEq, Obj.cells.injEq] at h'
  exact hT h'.2.1
/-- The closure that is turned by. -/
theorem does_ok {h : H} {l wv av ov : Value} {c1 c2 c3 c4 c5 : Nat} {g : Bool} {xs ws ad : List Int} {i : Nat} {O : Nat → Prop} (ho : O1 O h 2 l (i6 xs)) (q1 : h c1 = some (.cells #[.bool g] 4)) (q2 : h c2 = some (.cells #[wv] 22)) (q3 : h c3 = some (.cells #[av] 22)) (q4 : h c4 = some (.cells #[.int .i64 (i : Int)] 3)) (q5 : h c5 = some (.cells #[ov] 22))
    (sw : S1 nos h wv (i6 ws)) (sa : S1 nos h av (i6 ad)) (hi : i < ad.length) (hxl : xs.length ≤ 1000) (hwl : ws.length ≤ 1000) (hal : ad.length ≤ 1000) (h23 : c2 ≠ c5) (h35 : c3 ≠ c5) :
    Ok Try.prog 14 #[l, .pointer (some ⟨c1, 0, none⟩), .pointer (some ⟨c2, 0, none⟩), .pointer (some ⟨c3, 0, none⟩), .pointer (some ⟨c4, 0, none⟩), .pointer (some ⟨c5, 0, none⟩)] h fun v h' =>
      O1 (fun y => h y = none) h' 2 v (i6 (xs ++ [ad[i]])) ∧ h' c1 = some (.cells #[.bool (g && decide (xs = ws))] 4) ∧ h' c5 = some (.cells #[v] 22) ∧ Fr (fun y => (y = c1 ∨ y = c5) ∨ isAt l y) h h' := by
  obtain ⟨la, lc, rfl⟩ := S1.len ho.s0
  obtain ⟨aa, ac, rfl⟩ := S1.len sa
  have t1 : ∀ {k : Nat} {O' : Nat → Prop} {g : H} {v : Value} {rows : List (List Value)} {y : Nat} {c : Array Value} {T : TypeId}, OwK k O' g 2 v rows → g y = some (.cells c T) → T ≠ 2 → ¬ isAt v y := by
    intro k O' g v rows y c T s hy hT hat
    obtain ⟨c', fr, h'⟩ := s.ty hat
    rw [hy] at h'
    simp only [Option.some.injEq, Obj.cells.injEq] at h'
    exact hT h'.2.1
  have n12 : c1 ≠ c2 := by rintro rfl; rw [q1] at q2; simp at q2
  have n13 : c1 ≠ c3 := by rintro rfl; rw [q1] at q3; simp at q3
  have n14 : c1 ≠ c4 := by rintro rfl; rw [q1] at q4; simp at q4
  have n15 : c1 ≠ c5 := by rintro rfl; rw [q1] at q5; simp at q5
  have n45 : c4 ≠ c5 := by rintro rfl; rw [q4] at q5; simp at q5
  refine c14_ok (args := [_, _, _, _, _, _]) (by simp) ?_
  -- behind the first line
  have key : ∀ x, x = (g && decide (xs = ws)) → vc Try.prog c14_s1 (retQ [7] (okR fun v h' => O1 (fun y => h y = none) h' 2 v (i6 (xs ++ [ad[i]])) ∧ h' c1 = some (.cells #[.bool (g && decide (xs = ws))] 4) ∧ h' c5 = some (.cells #[v] 22) ∧ Fr (fun y => (y = c1 ∨ y = c5) ∨ isAt (.slice la (i6 xs).length lc) y) h h'))
      [(0, .slice la (i6 xs).length lc), (3, .pointer (some ⟨c3, 0, none⟩)), (4, .pointer (some ⟨c4, 0, none⟩)), (5, .pointer (some ⟨c5, 0, none⟩))] (hupd h c1 (.cells #[.bool x] 4)) := by
    intro x hx
    subst hx
    obtain ⟨hA, hhA⟩ : ∃ g', g' = hupd h c1 (.cells #[.bool (g && decide (xs = ws))] 4) := ⟨_, rfl⟩
    rw [← hhA]
    have fA : Fr (fun y => y = c1) h hA := by rw [hhA]; exact Fr.upd (S := fun y => y = c1) rfl _
    have p1 : hA c1 = some (.cells #[.bool (g && decide (xs = ws))] 4) := by rw [hhA]; exact hupd_same _ _ _
    have p3 := fA _ _ q3 n13.symm
    have p4 := fA _ _ q4 n14.symm
    have p5 := fA _ _ q5 n15.symm
    have oA := OwK.fr ho fA fun x hx _ => by rw [hx]; exact t1 ho q1 (by decide)
    have sA : S1 nos hA (.slice aa (i6 ad).length ac) (i6 ad) := by
      rw [hhA]
      refine (Sl.over1 (SlK.to1 sa) q1 ?_).to1
      intro x hx; obtain ⟨n, _, rfl⟩ := List.mem_map.1 hx; simp
    have hnn : ∀ y, hA y = none → h y = none := by
      intro y hy; rw [hhA] at hy; exact (hupd_none.1 hy).2
    have key2 : ∀ (gC : H) (v : Value), O1 (fun y => hA y = none) gC 2 v (i6 (xs ++ [ad[i]])) → Ext hA gC → vc Try.prog c14_s2 (retQ [7] (okR fun v h' => O1 (fun y => h y = none) h' 2 v (i6 (xs ++ [ad[i]])) ∧ h' c1 = some (.cells #[.bool (g && decide (xs = ws))] 4) ∧ h' c5 = some (.cells #[v] 22) ∧ Fr (fun y => (y = c1 ∨ y = c5) ∨ isAt (.slice la (i6 xs).length lc) y) h h'))
        [(0, .slice la (i6 xs).length lc), (5, .pointer (some ⟨c5, 0, none⟩))] (hupd gC c5 (.cells #[v] 22)) := by
      intro gC v oC eC
      obtain ⟨gD, hgD⟩ : ∃ g', g' = hupd gC c5 (.cells #[v] 22) := ⟨_, rfl⟩
      rw [← hgD]
      have fD : Fr (fun y => y = c5) gC gD := by rw [hgD]; exact Fr.upd (S := fun y => y = c5) rfl _
      have r5 : gD c5 = some (.cells #[v] 22) := by rw [hgD]; exact hupd_same _ _ _
      have r1 := fD _ _ (eC.at p1) n15
      have oC5 := eC.at p5
      have oD := OwK.fr (OwK.ext oA eC) fD fun x hx _ => by rw [hx]; exact t1 (OwK.ext oA eC) oC5 (by decide)
      have oV := OwK.fr oC fD fun x hx _ => by rw [hx]; exact t1 oC oC5 (by decide)
      have hvl : ∀ y, isAt (.slice la (i6 xs).length lc) y → ¬ isAt v y := fun y hy hv => (OwK.there oA hy) (OwK.own oC hv)
      have fE : Fr (fun y => (y = c1 ∨ y = c5) ∨ isAt (.slice la (i6 xs).length lc) y) h gD := ((fA.mono fun x hx => .inl (.inl hx)).trans (eC.mono fun _ h => h.elim)).trans (fD.mono fun x hx => .inl (.inr hx))
      simp (disch := omega) only [dm_t, wA, wB, wL, wW, wY, Int.fdiv_eq_ediv_of_nonneg, Int.tdiv_eq_ediv_of_nonneg, Int.tmod_eq_emod_of_nonneg, chk_pos, decT, decF, br_pos, br_neg, wX, ↓reduceIte, Nat.reduceEqDiff, Nat.reduceAdd, Nat.reduceSub, Nat.reduceMul, Nat.reduceLeDiff, Nat.reduceLT, Nat.reduceMod, Nat.reduceDiv, Int.reduceToNat, Nat.min_eq_left, IntKind.bits, Int.reducePow, Int.reduceLT, Int.reduceLE, Int.reduceEq, Int.reduceNe, Int.reduceAdd, Int.reduceSub, and_self, reduceCtorEq, decide_eq_true_eq, decide_eq_false_iff_not, eq_self, implies_true, exists_const, Option.isNone_some, Option.isNone_none, Option.isSome_some, Option.isSome_none, Option.getD_some]
      refine vc_loop1 (fun vk h' => ∃ (k : Nat) (zs : List Value), vk = .int .i64 (k : Int) ∧ k ≤ (i6 xs).length ∧ O1 O h' 2 (.slice la (i6 xs).length lc) zs ∧ zs.length = (i6 xs).length ∧ Fr (isAt (.slice la (i6 xs).length lc)) gD h') (fun vk _ => (i6 xs).length - m1 vk) ?_ ?_
      · simp (disch := omega) only [dm_t, wA, wB, wL, wW, wY, Int.fdiv_eq_ediv_of_nonneg, Int.tdiv_eq_ediv_of_nonneg, Int.tmod_eq_emod_of_nonneg, chk_pos, decT, decF, br_pos, br_neg, wX, ↓reduceIte, Nat.reduceEqDiff, Nat.reduceAdd, Nat.reduceSub, Nat.reduceMul, Nat.reduceLeDiff, Nat.reduceLT, Nat.reduceMod, Nat.reduceDiv, Int.reduceToNat, Nat.min_eq_left, IntKind.bits, Int.reducePow, Int.reduceLT, Int.reduceLE, Int.reduceEq, Int.reduceNe, Int.reduceAdd, Int.reduceSub, and_self, reduceCtorEq, decide_eq_true_eq, decide_eq_false_iff_not, eq_self, implies_true, exists_const, Option.isNone_some, Option.isNone_none, Option.isSome_some, Option.isSome_none, Option.getD_some]
        exact ⟨0, _, rfl, by omega, oD, rfl, Fr.refl _ _⟩
      rintro _ h1 ⟨k, zs, rfl, hk, oz, hz, f1⟩
      have hxl6 := i6_len xs
      by_cases hkx : k < (i6 xs).length
      · obtain ⟨b, o, ix, hat, hc, hst⟩ := O1.put oz (i := k) (by omega) .i64
        simp (disch := omega) only [dm_t, wA, wB, wL, wW, wY, Int.fdiv_eq_ediv_of_nonneg, Int.tdiv_eq_ediv_of_nonneg, Int.tmod_eq_emod_of_nonneg, chk_pos, decT, decF, br_pos, br_neg, wX, ↓reduceIte, Nat.reduceEqDiff, Nat.reduceAdd, Nat.reduceSub, Nat.reduceMul, Nat.reduceLeDiff, Nat.reduceLT, Nat.reduceMod, Nat.reduceDiv, Int.reduceToNat, Nat.min_eq_left, IntKind.bits, Int.reducePow, Int.reduceLT, Int.reduceLE, Int.reduceEq, Int.reduceNe, Int.reduceAdd, Int.reduceSub, and_self, reduceCtorEq, decide_eq_true_eq, decide_eq_false_iff_not, eq_self, implies_true, exists_const, Option.isNone_some, Option.isNone_none, Option.isSome_some, Option.isSome_none, Option.getD_some, ix]
        refine hst _ _ rfl ?_
        intro h2 o2 f2
        simp (disch := omega) only [dm_t, wA, wB, wL, wW, wY, Int.fdiv_eq_ediv_of_nonneg, Int.tdiv_eq_ediv_of_nonneg, Int.tmod_eq_emod_of_nonneg, chk_pos, decT, decF, br_pos, br_neg, wX, ↓reduceIte, Nat.reduceEqDiff, Nat.reduceAdd, Nat.reduceSub, Nat.reduceMul, Nat.reduceLeDiff, Nat.reduceLT, Nat.reduceMod, Nat.reduceDiv, Int.reduceToNat, Nat.min_eq_left, IntKind.bits, Int.reducePow, Int.reduceLT, Int.reduceLE, Int.reduceEq, Int.reduceNe, Int.reduceAdd, Int.reduceSub, and_self, reduceCtorEq, decide_eq_true_eq, decide_eq_false_iff_not, eq_self, implies_true, exists_const, Option.isNone_some, Option.isNone_none, Option.isSome_some, Option.isSome_none, Option.getD_some]
        exact ⟨⟨k + 1, _, by simp, by omega, o2, by simpa using hz, f1.trans (f2.mono fun x hx => by rw [hx]; exact hat)⟩, by simp [m1]; omega⟩
      · obtain rfl : k = (i6 xs).length := by omega
        have s5 := f1 _ _ r5 (t1 oD r5 (by decide))
        have s1 := f1 _ _ r1 (t1 oD r1 (by decide))
        simp (disch := omega) only [dm_t, wA, wB, wL, wW, wY, Int.fdiv_eq_ediv_of_nonneg, Int.tdiv_eq_ediv_of_nonneg, Int.tmod_eq_emod_of_nonneg, chk_pos, decT, decF, br_pos, br_neg, wX, ↓reduceIte, Nat.reduceEqDiff, Nat.reduceAdd, Nat.reduceSub, Nat.reduceMul, Nat.reduceLeDiff, Nat.reduceLT, Nat.reduceMod, Nat.reduceDiv, Int.reduceToNat, Nat.min_eq_left, IntKind.bits, Int.reducePow, Int.reduceLT, Int.reduceLE, Int.reduceEq, Int.reduceNe, Int.reduceAdd, Int.reduceSub, and_self, reduceCtorEq, decide_eq_true_eq, decide_eq_false_iff_not, eq_self, implies_true, exists_const, Option.isNone_some, Option.isNone_none, Option.isSome_some, Option.isSome_none, Option.getD_some, cellAt_of s5]
        exact ⟨(OwK.fr oV f1 fun x hx _ => hvl x hx).mono fun x o _ hx => hnn x hx, s1, s5, fE.trans (f1.mono fun x hx => .inr hx)⟩
    obtain ⟨b1, o1, ix, gx⟩ := S1.load sA (i := i) (by rw [i6_len]; exact hi) .i64
    rw [List.getElem_map] at gx
    have hxc : (i6 xs).all isCell = true := cells_ints _ _
    have hxl6 := i6_len xs
    have hsp : i6 (xs ++ [ad[i]]) = i6 xs ++ [.int .i64 ad[i]] := by simp [i6]
    simp (disch := omega) only [dm_t, wA, wB, wL, wW, wY, Int.fdiv_eq_ediv_of_nonneg, Int.tdiv_eq_ediv_of_nonneg, Int.tmod_eq_emod_of_nonneg, chk_pos, decT, decF, br_pos, br_neg, wX, ↓reduceIte, Nat.reduceEqDiff, Nat.reduceAdd, Nat.reduceSub, Nat.reduceMul, Nat.reduceLeDiff, Nat.reduceLT, Nat.reduceMod, Nat.reduceDiv, Int.reduceToNat, Nat.min_eq_left, IntKind.bits, Int.reducePow, Int.reduceLT, Int.reduceLE, Int.reduceEq, Int.reduceNe, Int.reduceAdd, Int.reduceSub, and_self, reduceCtorEq, decide_eq_true_eq, decide_eq_false_iff_not, eq_self, implies_true, exists_const, Option.isNone_some, Option.isNone_none, Option.isSome_some, Option.isSome_none, Option.getD_some, cellAt_of p3, cellAt_of p4, ix, gx]
    refine ⟨?_, ?_⟩
    · refine app1 (O := fun y => hA y = none) (xs := []) OwK.nil (fun y hy => hy) oA.s0 hxc (by simp; omega) (by simp; omega) ?_
      intro v1 gB oB fB
      have eB : Ext hA gB := Ext.step (Ext.refl hA) fB
      simp (disch := omega) only [dm_t, wV, wB, wL, wW, wU, Int.fdiv_eq_ediv_of_nonneg, Int.tdiv_eq_ediv_of_nonneg, Int.tmod_eq_emod_of_nonneg, chk_pos, decT, decF, br_pos, br_neg, wX, ↓reduceIte, Nat.reduceEqDiff, Nat.reduceAdd, Nat.reduceSub, Nat.reduceMul, Nat.reduceLeDiff, Nat.reduceLT, Nat.reduceMod, Nat.reduceDiv, Int.reduceToNat, Nat.min_eq_left, IntKind.bits, Int.reducePow, Int.reduceLT, Int.reduceLE, Int.reduceEq, Int.reduceNe, Int.reduceAdd, Int.reduceSub, and_self, reduceCtorEq, decide_eq_true_eq, decide_eq_false_iff_not, eq_self, implies_true, exists_const, Option.isNone_some, Option.isNone_none, Option.isSome_some, Option.isSome_none, Option.getD_some, cellAt_of (eB.at p3), cellAt_of (eB.at p4), ix, cellAt_ext eB gx]
      refine push1 oB (fun y hy => eB.bk hy) (by rfl) (by simp; omega) (by simp; omega) ?_
      intro _ v2 gC _ oC fC
      have eC : Ext hA gC := Ext.step eB fC
      rw [List.nil_append, ← hsp] at oC
      obtain ⟨va, vc, rfl⟩ := S1.len oC.s0
      have k2 := key2 gC _ oC eC
      simp (disch := omega) only [dm_t, wV, wB, wL, wW, wU, Int.fdiv_eq_ediv_of_nonneg, Int.tdiv_eq_ediv_of_nonneg, Int.tmod_eq_emod_of_nonneg, chk_pos, decT, decF, br_pos, br_neg, wX, ↓reduceIte, Nat.reduceEqDiff, Nat.reduceAdd, Nat.reduceSub, Nat.reduceMul, Nat.reduceLeDiff, Nat.reduceLT, Nat.reduceMod, Nat.reduceDiv, Int.reduceToNat, Nat.min_eq_left, IntKind.bits, Int.reducePow, Int.reduceLT, Int.reduceLE, Int.reduceEq, Int.reduceNe, Int.reduceAdd, Int.reduceSub, and_self, reduceCtorEq, decide_eq_true_eq, decide_eq_false_iff_not, eq_self, implies_true, exists_const, Option.isNone_some, Option.isNone_none, Option.isSome_some, Option.isSome_none, Option.getD_some, storeH_0 (eC.at p5), k2]
    · intro b hb
      have e1 := Ext.new hb (.cells #[.int .i64 ad[i]] 2)
      simp (disch := omega) only [dm_t, wV, wB, wL, wW, wU, Int.fdiv_eq_ediv_of_nonneg, Int.tdiv_eq_ediv_of_nonneg, Int.tmod_eq_emod_of_nonneg, chk_pos, decT, decF, br_pos, br_neg, wX, ↓reduceIte, Nat.reduceEqDiff, Nat.reduceAdd, Nat.reduceSub, Nat.reduceMul, Nat.reduceLeDiff, Nat.reduceLT, Nat.reduceMod, Nat.reduceDiv, Int.reduceToNat, Nat.min_eq_left, IntKind.bits, Int.reducePow, Int.reduceLT, Int.reduceLE, Int.reduceEq, Int.reduceNe, Int.reduceAdd, Int.reduceSub, and_self, reduceCtorEq, decide_eq_true_eq, decide_eq_false_iff_not, eq_self, implies_true, exists_const, Option.isNone_some, Option.isNone_none, Option.isSome_some, Option.isSome_none, Option.getD_some, cellAt_of (e1.at p3), cellAt_of (e1.at p4), ix, cellAt_ext e1 gx]
      refine app1 (O := fun y => hA y = none) (xs := []) OwK.nil (fun y hy => e1.bk hy) (OwK.ext oA e1).s0 hxc (by simp; omega) (by simp; omega) ?_
      intro v1 gB oB fB
      have eB : Ext hA gB := Ext.step e1 fB
      have sl : S1 nos (hupd hA b (.cells #[.int .i64 ad[i]] 2)) (.slice (some ⟨b, 0, none⟩) 1 1) [.int .i64 ad[i]] := slit1 [.int .i64 ad[i]] rfl
      have sl2 : S1 nos gB (.slice (some ⟨b, 0, none⟩) 1 1) [.int .i64 ad[i]] := sl.fr fB fun x hx => (no_at hx.2).elim
      simp (disch := omega) only [dm_t, wV, wB, wL, wW, wU, Int.fdiv_eq_ediv_of_nonneg, Int.tdiv_eq_ediv_of_nonneg, Int.tmod_eq_emod_of_nonneg, chk_pos, decT, decF, br_pos, br_neg, wX, ↓reduceIte, Nat.reduceEqDiff, Nat.reduceAdd, Nat.reduceSub, Nat.reduceMul, Nat.reduceLeDiff, Nat.reduceLT, Nat.reduceMod, Nat.reduceDiv, Int.reduceToNat, Nat.min_eq_left, IntKind.bits, Int.reducePow, Int.reduceLT, Int.reduceLE, Int.reduceEq, Int.reduceNe, Int.reduceAdd, Int.reduceSub, and_self, reduceCtorEq, decide_eq_true_eq, decide_eq_false_iff_not, eq_self, implies_true, exists_const, Option.isNone_some, Option.isNone_none, Option.isSome_some, Option.isSome_none, Option.getD_some, cellAt_of (eB.at p3), cellAt_of (eB.at p4), ix, cellAt_ext eB gx]
      refine app1 (bytes := 8) (new := [.int .i64 ad[i]]) oB (fun y hy => eB.bk hy) sl2 rfl (by rw [List.nil_append, i6_len, show ([Value.int .i64 ad[i]] : List Value).length = 1 from rfl]; omega) (by rw [List.nil_append, i6_len, show ([Value.int .i64 ad[i]] : List Value).length = 1 from rfl]; omega) ?_
      intro v2 gC oC fC
      have eC : Ext hA gC := Ext.step eB fC
      rw [List.nil_append, ← hsp] at oC
      obtain ⟨va, vc, rfl⟩ := S1.len oC.s0
      have k2 := key2 gC _ oC eC
      simp (disch := omega) only [dm_t, wV, wB, wL, wW, wU, Int.fdiv_eq_ediv_of_nonneg, Int.tdiv_eq_ediv_of_nonneg, Int.tmod_eq_emod_of_nonneg, chk_pos, decT, decF, br_pos, br_neg, wX, ↓reduceIte, Nat.reduceEqDiff, Nat.reduceAdd, Nat.reduceSub, Nat.reduceMul, Nat.reduceLeDiff, Nat.reduceLT, Nat.reduceMod, Nat.reduceDiv, Int.reduceToNat, Nat.min_eq_left, IntKind.bits, Int.reducePow, Int.reduceLT, Int.reduceLE, Int.reduceEq, Int.reduceNe, Int.reduceAdd, Int.reduceSub, and_self, reduceCtorEq, decide_eq_true_eq, decide_eq_false_iff_not, eq_self, implies_true, exists_const, Option.isNone_some, Option.isNone_none, Option.isSome_some, Option.isSome_none, Option.getD_some, storeH_0 (eC.at p5), k2]
  cases g with
  | false =>
    have k1 := key false rfl
    simp (disch := omega) only [dm_t, wA, wB, wL, wW, wY, Int.fdiv_eq_ediv_of_nonneg, Int.tdiv_eq_ediv_of_nonneg, Int.tmod_eq_emod_of_nonneg, chk_pos, decT, decF, br_pos, br_neg, wX, ↓reduceIte, Nat.reduceEqDiff, Nat.reduceAdd, Nat.reduceSub, Nat.reduceMul, Nat.reduceLeDiff, Nat.reduceLT, Nat.reduceMod, Nat.reduceDiv, Int.reduceToNat, Nat.min_eq_left, IntKind.bits, Int.reducePow, Int.reduceLT, Int.reduceLE, Int.reduceEq, Int.reduceNe, Int.reduceAdd, Int.reduceSub, and_self, reduceCtorEq, decide_eq_true_eq, decide_eq_false_iff_not, eq_self, implies_true, exists_const, Option.isNone_some, Option.isNone_none, Option.isSome_some, Option.isSome_none, Option.getD_some, cellAt_of q1, storeH_0 q1, k1]
  | true =>
    have k1 := key (decide (xs = ws)) (by simp)
    simp (disch := omega) only [dm_t, wA, wB, wL, wW, wY, Int.fdiv_eq_ediv_of_nonneg, Int.tdiv_eq_ediv_of_nonneg, Int.tmod_eq_emod_of_nonneg, chk_pos, decT, decF, br_pos, br_neg, wX, ↓reduceIte, Nat.reduceEqDiff, Nat.reduceAdd, Nat.reduceSub, Nat.reduceMul, Nat.reduceLeDiff, Nat.reduceLT, Nat.reduceMod, Nat.reduceDiv, Int.reduceToNat, Nat.min_eq_left, IntKind.bits, Int.reducePow, Int.reduceLT, Int.reduceLE, Int.reduceEq, Int.reduceNe, Int.reduceAdd, Int.reduceSub, and_self, reduceCtorEq, decide_eq_true_eq, decide_eq_false_iff_not, eq_self, implies_true, exists_const, Option.isNone_some, Option.isNone_none, Option.isSome_some, Option.isSome_none, Option.getD_some, cellAt_of q1, cellAt_of q2]
    refine (same_ok ho.s0 sw (by omega)).k ?_
    rintro _ _ ⟨rfl, rfl⟩
    simp (disch := omega) only [dm_t, wA, wB, wL, wW, wY, Int.fdiv_eq_ediv_of_nonneg, Int.tdiv_eq_ediv_of_nonneg, Int.tmod_eq_emod_of_nonneg, chk_pos, decT, decF, br_pos, br_neg, wX, ↓reduceIte, Nat.reduceEqDiff, Nat.reduceAdd, Nat.reduceSub, Nat.reduceMul, Nat.reduceLeDiff, Nat.reduceLT, Nat.reduceMod, Nat.reduceDiv, Int.reduceToNat, Nat.min_eq_left, IntKind.bits, Int.reducePow, Int.reduceLT, Int.reduceLE, Int.reduceEq, Int.reduceNe, Int.reduceAdd, Int.reduceSub, and_self, reduceCtorEq, decide_eq_true_eq, decide_eq_false_iff_not, eq_self, implies_true, exists_const, Option.isNone_some, Option.isNone_none, Option.isSome_some, Option.isSome_none, Option.getD_some, storeH_0 q1, k1]

theorem Board.newS {T : Nat → Prop} {h h' : H} {b ver : Nat} {xs : List Value} (hB : Board h b ver xs) (e : Ext h h') (hT : ∀ y, T y → h y = none) : BoardS T h' b ver xs := by
  rcases hB with ⟨h1, h2, h3⟩ | ⟨pg, l, h1, h2, h3, h4⟩
  · exact .inl ⟨h1, h2, e.at h3, fun h => (by rw [hT _ h] at h3; cases h3)⟩
  · exact .inr ⟨pg, l, e.at h1, e.at h2, h3, (h4.toF hT).ext e, fun h => (by rw [hT _ h] at h1; cases h1), fun h => (by rw [hT _ h] at h2; cases h2)⟩
theorem Board.at {h : H} {b ver : Nat} {xs : List Value} (hB : Board h b ver xs) : ∃ p, h b = some (boardO p) := by
  rcases hB with ⟨h1, h2, h3⟩ | ⟨pg, l, h1, h2, h3, h4⟩
  · exact ⟨_, h3⟩
  · exact ⟨_, h1⟩
/-- What stands through the rounds: the board, the list wanted, the added ones; T may be written. -/
structure MS (T : Nat → Prop) (h g : H) (b c3 c6 ci : Nat) (av wv : Value) (ws : List Int) (i ver : Nat) : Prop where
  E : Ext h g
  q3 : g c3 = some (.cells #[av] 22)
  q6 : g c6 = some (.cells #[wv] 22)
  qi : g ci = some (.cells #[.int .i64 (i : Int)] 3)
  bd : BoardS T g b ver (i6 ws)
  ow : O1 (fun y => h y = none ∧ ¬ T y) g 2 wv (i6 ws)
  n : ¬ T c3 ∧ ¬ T c6 ∧ ¬ T ci
  t : ∀ y, T y → h y = none
theorem MS.fr {T S : Nat → Prop} {h g g' : H} {b c3 c6 ci : Nat} {av wv : Value} {ws : List Int} {i ver : Nat} (m : MS T h g b c3 c6 ci av wv ws i ver) (f : Fr S g g') (hs : ∀ y, S y → T y) : MS T h g' b c3 c6 ci av wv ws i ver :=
  ⟨Ext.step' m.E f fun x hx => m.t x (hs x hx), f _ _ m.q3 fun h => m.n.1 (hs _ h), f _ _ m.q6 fun h => m.n.2.1 (hs _ h), f _ _ m.qi fun h => m.n.2.2 (hs _ h), m.bd.fr f hs, OwK.fr m.ow f fun x hx hx' => absurd (hs x hx) hx'.2, m.n, m.t⟩
theorem MS.sub {T T' : Nat → Prop} {h g : H} {b c3 c6 ci : Nat} {av wv : Value} {ws : List Int} {i ver : Nat} (m : MS T h g b c3 c6 ci av wv ws i ver) (hs : ∀ y, T' y → T y) : MS T' h g b c3 c6 ci av wv ws i ver :=
  ⟨m.E, m.q3, m.q6, m.qi, m.bd.sub hs, m.ow.mono fun x _ _ hx => ⟨hx.1, fun h => hx.2 (hs x h)⟩, ⟨fun h => m.n.1 (hs _ h), fun h => m.n.2.1 (hs _ h), fun h => m.n.2.2 (hs _ h)⟩, fun y hy => m.t y (hs y hy)⟩
theorem MS.new {T T' : Nat → Prop} {h g g' : H} {b c3 c6 ci : Nat} {av wv : Value} {ws : List Int} {i ver : Nat} (m : MS T h g b c3 c6 ci av wv ws i ver) (e : Ext g g') (hT : ∀ y, T' y → g y = none) : MS T' h g' b c3 c6 ci av wv ws i ver :=
  ⟨m.E.trans e, e.at m.q3, e.at m.q6, e.at m.qi, Board.newS m.bd.b e hT, OwK.ext (m.ow.mono fun x o hx hx' => ⟨hx'.1, fun ht => by rw [hT x ht] at hx; cases hx⟩) e,
    ⟨fun h => (by have := hT _ h; rw [m.q3] at this; cases this), fun h => (by have := hT _ h; rw [m.q6] at this; cases this), fun h => (by have := hT _ h; rw [m.qi] at this; cases this)⟩, fun y hy => m.E.bk (hT y hy)⟩

theorem MS.next {h g g' Gf : H} {b c3 c6 ci c8 : Nat} {av wv : Value} {ws : List Int} {i j ver : Nat} (m : MS (fun _ => False) h g b c3 c6 ci av wv ws i ver) (e : Ext g g') (h8 : g c8 = none) (f : Fr (fun y => y = c8) g' Gf) (q : Gf c8 = some (.cells #[.int .i64 (j : Int)] 3)) : MS (fun _ => False) h Gf b c3 c6 c8 av wv ws j ver := by
  have m1 := (m.new (T' := fun y => y = c8) e fun y hy => by rw [hy]; exact h8).fr f fun _ h => h
  exact ⟨m1.E, m1.q3, m1.q6, q, m1.bd.sub fun _ h => h.elim, m1.ow.mono fun x _ _ hx => ⟨hx.1, id⟩, ⟨id, id, id⟩, fun _ h => h.elim⟩
theorem Turn_k {b : Nat} {f : Value} {h : H} {R : Value → H → Prop} (hf : ∃ F first cap, f = .func (.func F) first cap) (ho : Ok Try.prog 19 #[.pointer (some ⟨b, 0, none⟩), f] h R) : Ok Try.prog 13 #[.pointer (some ⟨b, 0, none⟩), f] h fun v h' => ∃ w, v = .tuple #[w, .int .i64 0] ∧ R w h' := by
  obtain ⟨F, first, cap, rfl⟩ := hf
  refine c13_ok (args := [_, _]) (by simp) ?_
  simp (disch := omega) only [dm_t, wA, wB, wL, wW, wY, Int.fdiv_eq_ediv_of_nonneg, Int.tdiv_eq_ediv_of_nonneg, Int.tmod_eq_emod_of_nonneg, chk_pos, decT, decF, br_pos, br_neg, wX, ↓reduceIte, Nat.reduceEqDiff, Nat.reduceAdd, Nat.reduceSub, Nat.reduceMul, Nat.reduceLeDiff, Nat.reduceLT, Nat.reduceMod, Nat.reduceDiv, Int.reduceToNat, Nat.min_eq_left, IntKind.bits, Int.reducePow, Int.reduceLT, Int.reduceLE, Int.reduceEq, Int.reduceNe, Int.reduceAdd, Int.reduceSub, and_self, reduceCtorEq, decide_eq_true_eq, decide_eq_false_iff_not, eq_self, implies_true, exists_const, Option.isNone_some, Option.isNone_none, Option.isSome_some, Option.isSome_none, Option.getD_some]
  refine ho.k ?_
  intro v h' hR
  simp (disch := omega) only [dm_t, wA, wB, wL, wW, wY, Int.fdiv_eq_ediv_of_nonneg, Int.tdiv_eq_ediv_of_nonneg, Int.tmod_eq_emod_of_nonneg, chk_pos, decT, decF, br_pos, br_neg, wX, ↓reduceIte, Nat.reduceEqDiff, Nat.reduceAdd, Nat.reduceSub, Nat.reduceMul, Nat.reduceLeDiff, Nat.reduceLT, Nat.reduceMod, Nat.reduceDiv, Int.reduceToNat, Nat.min_eq_left, IntKind.bits, Int.reducePow, Int.reduceLT, Int.reduceLE, Int.reduceEq, Int.reduceNe, Int.reduceAdd, Int.reduceSub, and_self, reduceCtorEq, decide_eq_true_eq, decide_eq_false_iff_not, eq_self, implies_true, exists_const, Option.isNone_some, Option.isNone_none, Option.isSome_some, Option.isSome_none, Option.getD_some]
  exact ⟨_, rfl, hR⟩
theorem bget_no (h : H) : Ok Try.prog 11 #[.pointer none] h fun v h' => v = .tuple #[.slice none 0 0, .int .i64 0] ∧ h = h' := by
  refine c11_ok (args := [_]) (by simp) ?_
  simp (disch := omega) only [dm_t, wA, wB, wL, wW, wY, Int.fdiv_eq_ediv_of_nonneg, Int.tdiv_eq_ediv_of_nonneg, Int.tmod_eq_emod_of_nonneg, chk_pos, decT, decF, br_pos, br_neg, wX, ↓reduceIte, Nat.reduceEqDiff, Nat.reduceAdd, Nat.reduceSub, Nat.reduceMul, Nat.reduceLeDiff, Nat.reduceLT, Nat.reduceMod, Nat.reduceDiv, Int.reduceToNat, Nat.min_eq_left, IntKind.bits, Int.reducePow, Int.reduceLT, Int.reduceLE, Int.reduceEq, Int.reduceNe, Int.reduceAdd, Int.reduceSub, and_self, reduceCtorEq, decide_eq_true_eq, decide_eq_false_iff_not, eq_self, implies_true, exists_const, Option.isNone_some, Option.isNone_none, Option.isSome_some, Option.isSome_none, Option.getD_some]
theorem publish_no (h : H) (l : Value) : Ok Try.prog 10 #[.pointer none, l] h fun v h' => v = .tuple #[.int .i64 0, .int .i64 1] ∧ Ext h h' := by
  refine c10_ok (args := [_, _]) (by simp) ?_
  simp (disch := omega) only [dm_t, wA, wB, wL, wW, wY, Int.fdiv_eq_ediv_of_nonneg, Int.tdiv_eq_ediv_of_nonneg, Int.tmod_eq_emod_of_nonneg, chk_pos, decT, decF, br_pos, br_neg, wX, ↓reduceIte, Nat.reduceEqDiff, Nat.reduceAdd, Nat.reduceSub, Nat.reduceMul, Nat.reduceLeDiff, Nat.reduceLT, Nat.reduceMod, Nat.reduceDiv, Int.reduceToNat, Nat.min_eq_left, IntKind.bits, Int.reducePow, Int.reduceLT, Int.reduceLE, Int.reduceEq, Int.reduceNe, Int.reduceAdd, Int.reduceSub, and_self, reduceCtorEq, decide_eq_true_eq, decide_eq_false_iff_not, eq_self, implies_true, exists_const, Option.isNone_some, Option.isNone_none, Option.isSome_some, Option.isSome_none, Option.getD_some]
  intro c hc
  exact Ext.new hc _
theorem turn_no (h : H) (l : Value) : Ok Try.prog 13 #[.pointer none, l] h fun v h' => v = .tuple #[.int .i64 0, .int .i64 1] ∧ h = h' := by
  refine c13_ok (args := [_, _]) (by simp) ?_
  simp (disch := omega) only [dm_t, wA, wB, wL, wW, wY, Int.fdiv_eq_ediv_of_nonneg, Int.tdiv_eq_ediv_of_nonneg, Int.tmod_eq_emod_of_nonneg, chk_pos, decT, decF, br_pos, br_neg, wX, ↓reduceIte, Nat.reduceEqDiff, Nat.reduceAdd, Nat.reduceSub, Nat.reduceMul, Nat.reduceLeDiff, Nat.reduceLT, Nat.reduceMod, Nat.reduceDiv, Int.reduceToNat, Nat.min_eq_left, IntKind.bits, Int.reducePow, Int.reduceLT, Int.reduceLE, Int.reduceEq, Int.reduceNe, Int.reduceAdd, Int.reduceSub, and_self, reduceCtorEq, decide_eq_true_eq, decide_eq_false_iff_not, eq_self, implies_true, exists_const, Option.isNone_some, Option.isNone_none, Option.isSome_some, Option.isSome_none, Option.getD_some]
theorem turn_nil (h : H) (b : Nat) : Ok Try.prog 13 #[.pointer (some ⟨b, 0, none⟩), .nilFunc] h fun v h' => v = .tuple #[.int .i64 0, .int .i64 1] ∧ h = h' := by
  refine c13_ok (args := [_, _]) (by simp) ?_
  simp (disch := omega) only [dm_t, wA, wB, wL, wW, wY, Int.fdiv_eq_ediv_of_nonneg, Int.tdiv_eq_ediv_of_nonneg, Int.tmod_eq_emod_of_nonneg, chk_pos, decT, decF, br_pos, br_neg, wX, ↓reduceIte, Nat.reduceEqDiff, Nat.reduceAdd, Nat.reduceSub, Nat.reduceMul, Nat.reduceLeDiff, Nat.reduceLT, Nat.reduceMod, Nat.reduceDiv, Int.reduceToNat, Nat.min_eq_left, IntKind.bits, Int.reducePow, Int.reduceLT, Int.reduceLE, Int.reduceEq, Int.reduceNe, Int.reduceAdd, Int.reduceSub, and_self, reduceCtorEq, decide_eq_true_eq, decide_eq_false_iff_not, eq_self, implies_true, exists_const, Option.isNone_some, Option.isNone_none, Option.isSome_some, Option.isSome_none, Option.getD_some]
theorem turn_step {h g : H} {b c3 c6 ci : Nat} {lv wv : Value} {aa : Option Addr} {ac : Nat} {ad ws : List Int} {i ver : Nat} {v7 : Int} {Q : Post} (hv7 : v7 = (ver : Int)) (ha : S1 nos h (.slice aa ad.length ac) (i6 ad)) (hia : i < ad.length) (had : ad.length ≤ 200) (hwl : ws.length ≤ 100) (hver : ver ≤ 1000) (h36 : c3 ≠ c6) (hnb : h b = none) (hn6 : h c6 = none) (m : MS (fun _ => False) h g b c3 c6 ci (.slice aa ad.length ac) wv ws i ver)
    (hQ : ∀ (G : H) (wv' : Value) (ws' : List Int), ws'.length ≤ 101 → MS (fun _ => False) h G b c3 c6 ci (.slice aa ad.length ac) wv' ws' i (ver + 1) → ∀ e, e.keep [0, 3, 5, 6, 7, 8] = [(0, lv), (3, .pointer (some ⟨c3, 0, none⟩)), (5, .pointer (some ⟨b, 0, none⟩)), (6, .pointer (some ⟨c6, 0, none⟩)), (7, .int .i64 (v7 + 1)), (8, .pointer (some ⟨ci, 0, none⟩))] → Q .normal e G) :
    vc Try.prog c4_t4 Q [(0, lv), (3, .pointer (some ⟨c3, 0, none⟩)), (5, .pointer (some ⟨b, 0, none⟩)), (6, .pointer (some ⟨c6, 0, none⟩)), (7, .int .i64 v7), (8, .pointer (some ⟨ci, 0, none⟩))] g := by
  subst hv7
  simp (disch := omega) only [dm_t, wA, wB, wL, wW, wY, Int.fdiv_eq_ediv_of_nonneg, Int.tdiv_eq_ediv_of_nonneg, Int.tmod_eq_emod_of_nonneg, chk_pos, decT, decF, br_pos, br_neg, wX, ↓reduceIte, Nat.reduceEqDiff, Nat.reduceAdd, Nat.reduceSub, Nat.reduceMul, Nat.reduceLeDiff, Nat.reduceLT, Nat.reduceMod, Nat.reduceDiv, Int.reduceToNat, Nat.min_eq_left, IntKind.bits, Int.reducePow, Int.reduceLT, Int.reduceLE, Int.reduceEq, Int.reduceNe, Int.reduceAdd, Int.reduceSub, and_self, reduceCtorEq, decide_eq_true_eq, decide_eq_false_iff_not, eq_self, implies_true, exists_const, Option.isNone_some, Option.isNone_none, Option.isSome_some, Option.isSome_none, Option.getD_some]
  intro c16 hc16
  generalize hG : hupd _ c16 _ = g1
  obtain ⟨e1, q16⟩ := new_ext hG hc16
  clear hG
  simp (disch := omega) only [dm_t, wA, wB, wL, wW, wY, Int.fdiv_eq_ediv_of_nonneg, Int.tdiv_eq_ediv_of_nonneg, Int.tmod_eq_emod_of_nonneg, chk_pos, decT, decF, br_pos, br_neg, wX, ↓reduceIte, Nat.reduceEqDiff, Nat.reduceAdd, Nat.reduceSub, Nat.reduceMul, Nat.reduceLeDiff, Nat.reduceLT, Nat.reduceMod, Nat.reduceDiv, Int.reduceToNat, Nat.min_eq_left, IntKind.bits, Int.reducePow, Int.reduceLT, Int.reduceLE, Int.reduceEq, Int.reduceNe, Int.reduceAdd, Int.reduceSub, and_self, reduceCtorEq, decide_eq_true_eq, decide_eq_false_iff_not, eq_self, implies_true, exists_const, Option.isNone_some, Option.isNone_none, Option.isSome_some, Option.isSome_none, Option.getD_some, storeH_0 q16]
  have mA := m.new (T' := fun y => y = c16) e1 fun y hy => by rw [hy]; exact hc16
  obtain ⟨g2, hg2⟩ : ∃ g', g' = hupd g1 c16 (.cells #[.bool true] 4) := ⟨_, rfl⟩
  rw [← hg2]
  have f2 : Fr (fun y => y = c16) g1 g2 := by rw [hg2]; exact Fr.upd (S := fun y => y = c16) rfl _
  have mB := (mA.fr f2 fun _ h => h).sub (T' := fun _ => False) fun _ h => h.elim
  have r16 : g2 c16 = some (.cells #[.bool true] 4) := by rw [hg2]; exact hupd_same _ _ _
  have hn16 := m.E.bk hc16
  clear hg2 mA e1 q16 hc16 f2
  simp (disch := omega) only [dm_t, wA, wB, wL, wW, wY, Int.fdiv_eq_ediv_of_nonneg, Int.tdiv_eq_ediv_of_nonneg, Int.tmod_eq_emod_of_nonneg, chk_pos, decT, decF, br_pos, br_neg, wX, ↓reduceIte, Nat.reduceEqDiff, Nat.reduceAdd, Nat.reduceSub, Nat.reduceMul, Nat.reduceLeDiff, Nat.reduceLT, Nat.reduceMod, Nat.reduceDiv, Int.reduceToNat, Nat.min_eq_left, IntKind.bits, Int.reducePow, Int.reduceLT, Int.reduceLE, Int.reduceEq, Int.reduceNe, Int.reduceAdd, Int.reduceSub, and_self, reduceCtorEq, decide_eq_true_eq, decide_eq_false_iff_not, eq_self, implies_true, exists_const, Option.isNone_some, Option.isNone_none, Option.isSome_some, Option.isSome_none, Option.getD_some]
  intro cl hcl
  generalize hG : hupd _ cl _ = g3
  obtain ⟨e3, ql⟩ := new_ext hG hcl
  clear hG
  simp (disch := omega) only [dm_t, wA, wB, wL, wW, wY, Int.fdiv_eq_ediv_of_nonneg, Int.tdiv_eq_ediv_of_nonneg, Int.tmod_eq_emod_of_nonneg, chk_pos, decT, decF, br_pos, br_neg, wX, ↓reduceIte, Nat.reduceEqDiff, Nat.reduceAdd, Nat.reduceSub, Nat.reduceMul, Nat.reduceLeDiff, Nat.reduceLT, Nat.reduceMod, Nat.reduceDiv, Int.reduceToNat, Nat.min_eq_left, IntKind.bits, Int.reducePow, Int.reduceLT, Int.reduceLE, Int.reduceEq, Int.reduceNe, Int.reduceAdd, Int.reduceSub, and_self, reduceCtorEq, decide_eq_true_eq, decide_eq_false_iff_not, eq_self, implies_true, exists_const, Option.isNone_some, Option.isNone_none, Option.isSome_some, Option.isSome_none, Option.getD_some]
  intro c17 hc17
  generalize hG : hupd _ c17 _ = g4
  obtain ⟨e4, q17⟩ := new_ext hG hc17
  clear hG
  simp (disch := omega) only [dm_t, wA, wB, wL, wW, wY, Int.fdiv_eq_ediv_of_nonneg, Int.tdiv_eq_ediv_of_nonneg, Int.tmod_eq_emod_of_nonneg, chk_pos, decT, decF, br_pos, br_neg, wX, ↓reduceIte, Nat.reduceEqDiff, Nat.reduceAdd, Nat.reduceSub, Nat.reduceMul, Nat.reduceLeDiff, Nat.reduceLT, Nat.reduceMod, Nat.reduceDiv, Int.reduceToNat, Nat.min_eq_left, IntKind.bits, Int.reducePow, Int.reduceLT, Int.reduceLE, Int.reduceEq, Int.reduceNe, Int.reduceAdd, Int.reduceSub, and_self, reduceCtorEq, decide_eq_true_eq, decide_eq_false_iff_not, eq_self, implies_true, exists_const, Option.isNone_some, Option.isNone_none, Option.isSome_some, Option.isSome_none, Option.getD_some, storeH_0 q17]
  have e34 := e3.trans e4
  have h17 := (mB.E.trans e3).bk hc17
  have g2c17 := e3.bk hc17
  have mC := mB.new (T' := fun y => y = c17) e34 fun y hy => by rw [hy]; exact g2c17
  obtain ⟨g5, hg5⟩ : ∃ g', g' = hupd g4 c17 (.cells #[.slice (some ⟨cl, 0, none⟩) 0 0] 22) := ⟨_, rfl⟩
  rw [← hg5]
  have f5 : Fr (fun y => y = c17) g4 g5 := by rw [hg5]; exact Fr.upd (S := fun y => y = c17) rfl _
  have mD := (mC.fr f5 fun _ h => h).sub (T' := fun _ => False) fun _ h => h.elim
  have r17 : g5 c17 = some (.cells #[.slice (some ⟨cl, 0, none⟩) 0 0] 22) := by rw [hg5]; exact hupd_same _ _ _
  have s16 := f5 _ _ (e34.at r16) (by rintro rfl; rw [g2c17] at r16; cases r16)
  have n67 : c6 ≠ c17 := by rintro rfl; have := mB.q6; rw [g2c17] at this; cases this
  have n37 : c3 ≠ c17 := by rintro rfl; have := mB.q3; rw [g2c17] at this; cases this
  clear hg5 f5 mC q17 e34 e4 e3 hc17 ql hcl mB r16 g2c17 m
  clear g1 g2 g3 g4
  obtain ⟨pb, qb⟩ := mD.bd.b.at
  have nb16 : b ≠ c16 := by rintro rfl; rw [qb] at s16; simp at s16
  have nb17 : b ≠ c17 := by rintro rfl; rw [qb] at r17; simp at r17
  have hwc : (i6 ws).all isCell = true := cells_ints _ _
  have hal : (ad.length : Nat) ≤ 1000 := by omega
  refine (Turn_k ⟨_, _, _, rfl⟩ (turn_ok (S := fun y => y = c16 ∨ y = c17) (R := fun h1 ys h2 => ys = i6 (ws ++ [ad[i]]) ∧ h2 c16 = some (.cells #[.bool true] 4) ∧ ∃ ov, h2 c17 = some (.cells #[ov] 22) ∧ O1 (fun y => h1 y = none) h2 2 ov (i6 (ws ++ [ad[i]]))) mD.bd.b hwc (by rw [i6_len]; omega) (by kernel_rfl) ?_ ?_ ?_ (by omega) ?_)).k ?_
  · rintro y (rfl | rfl)
    · rw [s16]; simp
    · rw [r17]; simp
  · rintro (h | h)
    · exact nb16 h
    · exact nb17 h
  · intro pg hpg hs
    rcases mD.bd.b with ⟨_, _, h3⟩ | ⟨pg', l', h1, h2, _⟩
    · rw [hpg] at h3; simp at h3
    · rw [hpg] at h1
      simp only [Option.some.injEq, Obj.cells.injEq, Array.mk.injEq, List.cons.injEq, Value.pointer.injEq, Addr.mk.injEq, and_true, true_and] at h1
      subst h1
      rcases hs with rfl | rfl
      · rw [h2] at s16; simp at s16
      · rw [h2] at r17; simp at r17
  · intro h1 old e1 ho
    have hd := does_ok (g := true) (xs := ws) (ws := ws) (ad := ad) (i := i) (Own.o1 ho) (e1.at s16) (e1.at mD.q6) (e1.at mD.q3) (e1.at mD.qi) (e1.at r17) (OwK.ext mD.ow e1).s0 (SlK.ext (SlK.ext ha mD.E) e1) hia (by omega) (by omega) hal n67 n37
    refine Ok.mono hd ?_
    rintro v h2 ⟨o2, t1, t2, f2⟩
    refine ⟨_, SlK.to1 o2.s0, cells_ints _ _, by rw [i6_len]; simp; omega, f2, rfl, by simpa using t1, _, t2, o2⟩
  · rintro _ h3 ⟨w, rfl, ys, h1, h2, nw, rfl, bd3, e1, ⟨rfl, t16, ov, t17, oo⟩, hnw, hnw1, f2, f3⟩
    have f13 : Fr (fun y => y = b ∨ y = c16 ∨ y = c17) g5 h3 := by
      have u1 : Fr (fun y => (y = b ∨ y = c16 ∨ y = c17) ∨ g5 y = none) g5 h2 := (e1.mono fun _ h => h.elim).trans (f2.mono fun y hy => hy.elim (fun h => .inl (.inr h)) fun h => .inr h.1)
      exact (u1.trans (f3.mono fun y hy => hy.elim (fun h => .inl (.inl h)) fun h => .inr (by rw [h]; exact hnw))).less fun y hy => hy
    have f12 : Fr (fun y => y = c16 ∨ y = c17) g5 h2 := ((e1.mono (T := fun y => (y = c16 ∨ y = c17) ∨ g5 y = none) fun _ h => h.elim).trans (f2.mono fun y hy => hy.imp id fun h => h.1)).less fun y hy => hy
    have n3b : c3 ≠ b := by rintro rfl; rw [mD.q3] at qb; simp at qb
    have n6b : c6 ≠ b := by rintro rfl; rw [mD.q6] at qb; simp at qb
    have nib : ci ≠ b := by rintro rfl; rw [mD.qi] at qb; simp at qb
    have n316 : c3 ≠ c16 := by rintro rfl; rw [mD.q3] at s16; simp at s16
    have n616 : c6 ≠ c16 := by rintro rfl; rw [mD.q6] at s16; simp at s16
    have ni16 : ci ≠ c16 := by rintro rfl; rw [mD.qi] at s16; simp at s16
    have ni17 : ci ≠ c17 := by rintro rfl; rw [mD.qi] at r17; simp at r17
    have n36 : c3 ≠ c6 := h36
    have ni6 : ci ≠ c6 := by rintro rfl; have h1 := mD.q6; rw [mD.qi] at h1; simp at h1
    have u3 := f13 _ _ mD.q3 (by omega)
    have u6 := f13 _ _ mD.q6 (by omega)
    have ui := f13 _ _ mD.qi (by omega)
    have w6 := f12 _ _ mD.q6 (by omega)
    have v16 := f3 _ _ t16 (by rintro (h | h); exact nb16 h.symm; subst h; rw [s16] at hnw; cases hnw)
    have v17 := f3 _ _ t17 (by rintro (h | h); exact nb17 h.symm; subst h; rw [r17] at hnw; cases hnw)
    have n1617 : c16 ≠ c17 := by rintro rfl; rw [s16] at r17; simp at r17
    have hE3 : Ext h h3 := Ext.step' mD.E f13 (by rintro x (rfl | rfl | rfl) <;> assumption)
    have ww : ∀ y, isAt wv y → y ≠ b ∧ y ≠ c16 ∧ y ≠ c17 := fun y hy => ⟨by rintro rfl; exact ty_no mD.ow qb (by decide) hy, by rintro rfl; exact ty_no mD.ow s16 (by decide) hy, by rintro rfl; exact ty_no mD.ow r17 (by decide) hy⟩
    have ow3 : O1 (fun y => h y = none ∧ ¬ isAt ov y) h3 2 wv (i6 ws) := (OwK.fr (mD.ow.mono fun x o hx hx' => (⟨hx'.1, fun hat => by have := OwK.own oo hat; rw [e1.at hx] at this; cases this⟩ : h x = none ∧ ¬ isAt ov x)) f13 fun x hx _ hat => by have := ww x hat; omega)
    have oo3 : O1 (fun y => h1 y = none) h3 2 ov (i6 (ws ++ [ad[i]])) := OwK.fr oo f3 fun x hx hn => by
      rcases hx with rfl | rfl
      · exact ty_no oo (f12 _ _ qb (by omega)) (by decide)
      · exact absurd hn hnw1
    have bd3' : BoardS (fun y => isAt ov y ∨ isAt wv y ∨ y = c6) h3 b (ver + 1) (i6 (ws ++ [ad[i]])) := bd3.sub (by
      rintro y (hy | hy | rfl)
      · refine ⟨OwK.there oo hy, ?_, ?_⟩
        · rintro rfl; exact ty_no oo (f12 _ _ qb (by omega)) (by decide) hy
        · rintro rfl; exact hnw1 (OwK.own oo hy)
      · have h5 := OwK.there mD.ow hy
        obtain ⟨o, ho⟩ : ∃ o, g5 y = some o := by cases hh : g5 y with | none => exact absurd hh h5 | some o => exact ⟨o, rfl⟩
        have h6 := ww y hy
        refine ⟨by rw [f12 _ _ ho (by omega)]; simp, h6.1, ?_⟩
        rintro rfl; exact h5 hnw
      · exact ⟨by rw [w6]; simp, n6b, by rintro rfl; rw [mD.q6] at hnw; cases hnw⟩)
    have sa3 := SlK.ext ha hE3
    obtain ⟨ba, oa, ia, ga⟩ := S1.load (SlK.ext ha hE3) (i := i) (by rw [i6_len]; omega) .i64
    rw [List.getElem_map] at ga
    have hE1 : Ext h h1 := mD.E.trans e1
    clear f3 f2 f12 f13 bd3 e1 hnw hnw1 t16 t17 oo w6
    simp (disch := omega) only [dm_t, wA, wB, wL, wW, wY, Int.fdiv_eq_ediv_of_nonneg, Int.tdiv_eq_ediv_of_nonneg, Int.tmod_eq_emod_of_nonneg, chk_pos, decT, decF, br_pos, br_neg, wX, ↓reduceIte, Nat.reduceEqDiff, Nat.reduceAdd, Nat.reduceSub, Nat.reduceMul, Nat.reduceLeDiff, Nat.reduceLT, Nat.reduceMod, Nat.reduceDiv, Int.reduceToNat, Nat.min_eq_left, IntKind.bits, Int.reducePow, Int.reduceLT, Int.reduceLE, Int.reduceEq, Int.reduceNe, Int.reduceAdd, Int.reduceSub, and_self, reduceCtorEq, decide_eq_true_eq, decide_eq_false_iff_not, eq_self, implies_true, exists_const, Option.isNone_some, Option.isNone_none, Option.isSome_some, Option.isSome_none, Option.getD_some, cellAt_of u6, cellAt_of u3, cellAt_of ui, ia, ga]
    intro bl hbl
    refine ⟨cellAt_of ((Ext.new hbl _).at u6) 0, ?_⟩
    refine push1 (V := fun _ => _) (bytes := 8) (v := .int .i64 ad[i]) ow3 (fun y hy => ⟨hE3.bk hy, fun hat => OwK.there oo3 hat hy⟩) (by rfl) (by rw [i6_len]; omega) (by rw [i6_len]; omega) ?_ bl hbl
    intro _ wv4 h4 _ ow4 f4
    have hsp : i6 ws ++ [.int .i64 ad[i]] = i6 (ws ++ [ad[i]]) := by simp [i6]
    rw [hsp] at ow4
    have hw4 : isCell wv4 = true := by obtain ⟨x, y, rfl⟩ := S1.len ow4.s0; rfl
    have tw : ∀ {y c T}, h3 y = some (.cells c T) → T ≠ 2 → ¬ ((h y = none ∧ ¬ isAt ov y) ∧ isAt wv y) := fun hy hT hx => ty_no ow3 hy hT hx.2
    have y6 := f4 _ _ u6 (tw u6 (by decide))
    have y3 := f4 _ _ u3 (tw u3 (by decide))
    have yi := f4 _ _ ui (tw ui (by decide))
    have y16 := f4 _ _ v16 (tw v16 (by decide))
    have y17 := f4 _ _ v17 (tw v17 (by decide))
    have oo4 := OwK.fr oo3 f4 fun x hx _ => hx.1.2
    have bd4 := bd3'.fr f4 fun x hx => .inr (.inl hx.2)
    have E4 := Ext.step hE3 (f4.mono (T := fun y => h y = none ∧ isAt wv y) fun x hx => ⟨hx.1.1, hx.2⟩)
    have onone : ∀ y, isAt ov y → h y = none := fun y hy => hE1.bk (OwK.own oo3 hy)
    clear f4 u6 u3 ui v16 v17 ow3 oo3 bd3' hE3 tw ga
    simp (disch := omega) only [dm_t, wA, wB, wL, wW, wY, Int.fdiv_eq_ediv_of_nonneg, Int.tdiv_eq_ediv_of_nonneg, Int.tmod_eq_emod_of_nonneg, chk_pos, decT, decF, br_pos, br_neg, wX, ↓reduceIte, Nat.reduceEqDiff, Nat.reduceAdd, Nat.reduceSub, Nat.reduceMul, Nat.reduceLeDiff, Nat.reduceLT, Nat.reduceMod, Nat.reduceDiv, Int.reduceToNat, Nat.min_eq_left, IntKind.bits, Int.reducePow, Int.reduceLT, Int.reduceLE, Int.reduceEq, Int.reduceNe, Int.reduceAdd, Int.reduceSub, and_self, reduceCtorEq, decide_eq_true_eq, decide_eq_false_iff_not, eq_self, implies_true, exists_const, Option.isNone_some, Option.isNone_none, Option.isSome_some, Option.isSome_none, Option.getD_some, storeH_0 y6, hw4]
    obtain ⟨h5, hh5⟩ : ∃ g', g' = hupd h4 c6 (.cells #[wv4] 22) := ⟨_, rfl⟩
    rw [← hh5]
    have f5 : Fr (fun y => y = c6) h4 h5 := by rw [hh5]; exact Fr.upd (S := fun y => y = c6) rfl _
    have z16 := f5 _ _ y16 n616.symm
    have z17 := f5 _ _ y17 n67.symm
    have oo5 := OwK.fr oo4 f5 fun x hx _ => by rw [hx]; exact ty_no oo4 y6 (by decide)
    have m5 : MS (isAt ov) h h5 b c3 c6 ci (.slice aa ad.length ac) wv4 (ws ++ [ad[i]]) i (ver + 1) :=
      ⟨Ext.step' E4 f5 fun x hx => by rw [hx]; exact hn6, f5 _ _ y3 n36, by rw [hh5]; exact hupd_same _ _ _, f5 _ _ yi ni6, (bd4.fr f5 fun x hx => .inr (.inr hx)).sub fun y hy => .inl hy, OwK.fr ow4 f5 fun x hx _ => by rw [hx]; exact ty_no ow4 y6 (by decide), ⟨ty_no oo4 y3 (by decide), ty_no oo4 y6 (by decide), ty_no oo4 yi (by decide)⟩, onone⟩
    clear hh5 f5 oo4 y16 y17 y6 y3 yi E4 bd4 ow4 onone
    have hll : (i6 (ws ++ [ad[i]])).length = ws.length + 1 := by simp [i6]
    obtain ⟨oa2, oc2, rfl⟩ := S1.len oo5.s0
    rw [hll] at oo5 z17 m5
    simp (disch := omega) only [dm_t, wA, wB, wL, wW, wY, Int.fdiv_eq_ediv_of_nonneg, Int.tdiv_eq_ediv_of_nonneg, Int.tmod_eq_emod_of_nonneg, chk_pos, decT, decF, br_pos, br_neg, wX, ↓reduceIte, Nat.reduceEqDiff, Nat.reduceAdd, Nat.reduceSub, Nat.reduceMul, Nat.reduceLeDiff, Nat.reduceLT, Nat.reduceMod, Nat.reduceDiv, Int.reduceToNat, Nat.min_eq_left, IntKind.bits, Int.reducePow, Int.reduceLT, Int.reduceLE, Int.reduceEq, Int.reduceNe, Int.reduceAdd, Int.reduceSub, and_self, reduceCtorEq, decide_eq_true_eq, decide_eq_false_iff_not, eq_self, implies_true, exists_const, Option.isNone_some, Option.isNone_none, Option.isSome_some, Option.isSome_none, Option.getD_some]
    refine vc_loop1 (fun vk h' => ∃ (k : Nat) (zs : List Int), vk = .int .i64 (k : Int) ∧ k ≤ ws.length + 1 ∧ O1 (fun y => h1 y = none) h' 2 (.slice oa2 (ws.length + 1) oc2) (i6 zs) ∧ zs.length = ws.length + 1 ∧ Fr (isAt (.slice oa2 (ws.length + 1) oc2)) h5 h') (fun vk _ => ws.length + 1 - m1 vk) ?_ ?_
    · simp (disch := omega) only [dm_t, wA, wB, wL, wW, wY, Int.fdiv_eq_ediv_of_nonneg, Int.tdiv_eq_ediv_of_nonneg, Int.tmod_eq_emod_of_nonneg, chk_pos, decT, decF, br_pos, br_neg, wX, ↓reduceIte, Nat.reduceEqDiff, Nat.reduceAdd, Nat.reduceSub, Nat.reduceMul, Nat.reduceLeDiff, Nat.reduceLT, Nat.reduceMod, Nat.reduceDiv, Int.reduceToNat, Nat.min_eq_left, IntKind.bits, Int.reducePow, Int.reduceLT, Int.reduceLE, Int.reduceEq, Int.reduceNe, Int.reduceAdd, Int.reduceSub, and_self, reduceCtorEq, decide_eq_true_eq, decide_eq_false_iff_not, eq_self, implies_true, exists_const, Option.isNone_some, Option.isNone_none, Option.isSome_some, Option.isSome_none, Option.getD_some]
      exact ⟨0, _, rfl, by omega, oo5, by simp, Fr.refl _ _⟩
    rintro _ h6 ⟨k, zs, rfl, hk, oz, hz, f6⟩
    have a17 := f6 _ _ z17 (ty_no oo5 z17 (by decide))
    by_cases hkl : k < ws.length + 1
    · obtain ⟨bk, ok, ix, hat, hc, hst⟩ := O1.put oz (i := k) (by rw [i6_len]; omega) .i64
      rw [List.getElem_map] at hc
      simp (disch := omega) only [dm_t, wA, wB, wL, wW, wY, Int.fdiv_eq_ediv_of_nonneg, Int.tdiv_eq_ediv_of_nonneg, Int.tmod_eq_emod_of_nonneg, chk_pos, decT, decF, br_pos, br_neg, wX, ↓reduceIte, Nat.reduceEqDiff, Nat.reduceAdd, Nat.reduceSub, Nat.reduceMul, Nat.reduceLeDiff, Nat.reduceLT, Nat.reduceMod, Nat.reduceDiv, Int.reduceToNat, Nat.min_eq_left, IntKind.bits, Int.reducePow, Int.reduceLT, Int.reduceLE, Int.reduceEq, Int.reduceNe, Int.reduceAdd, Int.reduceSub, and_self, reduceCtorEq, decide_eq_true_eq, decide_eq_false_iff_not, eq_self, implies_true, exists_const, Option.isNone_some, Option.isNone_none, Option.isSome_some, Option.isSome_none, Option.getD_some, cellAt_of a17, ix, hc]
      refine hst _ _ rfl ?_
      intro h7 o7 f7
      simp (disch := omega) only [dm_t, wA, wB, wL, wW, wY, Int.fdiv_eq_ediv_of_nonneg, Int.tdiv_eq_ediv_of_nonneg, Int.tmod_eq_emod_of_nonneg, chk_pos, decT, decF, br_pos, br_neg, wX, ↓reduceIte, Nat.reduceEqDiff, Nat.reduceAdd, Nat.reduceSub, Nat.reduceMul, Nat.reduceLeDiff, Nat.reduceLT, Nat.reduceMod, Nat.reduceDiv, Int.reduceToNat, Nat.min_eq_left, IntKind.bits, Int.reducePow, Int.reduceLT, Int.reduceLE, Int.reduceEq, Int.reduceNe, Int.reduceAdd, Int.reduceSub, and_self, reduceCtorEq, decide_eq_true_eq, decide_eq_false_iff_not, eq_self, implies_true, exists_const, Option.isNone_some, Option.isNone_none, Option.isSome_some, Option.isSome_none, Option.getD_some]
      refine ⟨⟨k + 1, zs.set k (IntKind.i64.wrap (zs[k]'(by omega) + 1)), by simp, by omega, ?_, by simpa using hz, f6.trans (f7.mono fun x hx => by rw [hx]; exact hat)⟩, by simp [m1]; omega⟩
      rw [i6, List.map_set]; exact o7
    obtain rfl : k = ws.length + 1 := by omega
    have a16 := f6 _ _ z16 (ty_no oo5 z16 (by decide))
    have m6 := (m5.fr f6 fun _ h => h).sub (T' := fun _ => False) fun _ h => h.elim
    clear m5 f6 oz oo5 z16 z17
    simp (disch := omega) only [dm_t, wA, wB, wL, wW, wY, Int.fdiv_eq_ediv_of_nonneg, Int.tdiv_eq_ediv_of_nonneg, Int.tmod_eq_emod_of_nonneg, chk_pos, decT, decF, br_pos, br_neg, wX, ↓reduceIte, Nat.reduceEqDiff, Nat.reduceAdd, Nat.reduceSub, Nat.reduceMul, Nat.reduceLeDiff, Nat.reduceLT, Nat.reduceMod, Nat.reduceDiv, Int.reduceToNat, Nat.min_eq_left, IntKind.bits, Int.reducePow, Int.reduceLT, Int.reduceLE, Int.reduceEq, Int.reduceNe, Int.reduceAdd, Int.reduceSub, and_self, reduceCtorEq, decide_eq_true_eq, decide_eq_false_iff_not, eq_self, implies_true, exists_const, Option.isNone_some, Option.isNone_none, Option.isSome_some, Option.isSome_none, Option.getD_some, cellAt_of a17]
    refine (bget_ok m6.bd.b (cells_ints _ _) (by rw [hll]; omega)).k ?_
    rintro _ h7 ⟨lv7, rfl, ol7, e7⟩
    have m7 := m6.new (T' := fun _ => False) e7 fun _ h => h.elim
    have ol := ol7.o1
    obtain ⟨l7a, l7c, rfl⟩ := S1.len ol.s0
    simp (disch := omega) only [dm_t, wA, wB, wL, wW, wY, Int.fdiv_eq_ediv_of_nonneg, Int.tdiv_eq_ediv_of_nonneg, Int.tmod_eq_emod_of_nonneg, chk_pos, decT, decF, br_pos, br_neg, wX, ↓reduceIte, Nat.reduceEqDiff, Nat.reduceAdd, Nat.reduceSub, Nat.reduceMul, Nat.reduceLeDiff, Nat.reduceLT, Nat.reduceMod, Nat.reduceDiv, Int.reduceToNat, Nat.min_eq_left, IntKind.bits, Int.reducePow, Int.reduceLT, Int.reduceLE, Int.reduceEq, Int.reduceNe, Int.reduceAdd, Int.reduceSub, and_self, reduceCtorEq, decide_eq_true_eq, decide_eq_false_iff_not, eq_self, implies_true, exists_const, Option.isNone_some, Option.isNone_none, Option.isSome_some, Option.isSome_none, Option.getD_some, cellAt_of m7.q6]
    refine (same_ok ol.s0 m7.ow.s0 (by simp; omega)).k ?_
    rintro _ _ ⟨rfl, rfl⟩
    simp (disch := omega) only [dm_t, wA, wB, wL, wW, wY, Int.fdiv_eq_ediv_of_nonneg, Int.tdiv_eq_ediv_of_nonneg, Int.tmod_eq_emod_of_nonneg, chk_pos, decT, decF, br_pos, br_neg, wX, ↓reduceIte, Nat.reduceEqDiff, Nat.reduceAdd, Nat.reduceSub, Nat.reduceMul, Nat.reduceLeDiff, Nat.reduceLT, Nat.reduceMod, Nat.reduceDiv, Int.reduceToNat, Nat.min_eq_left, IntKind.bits, Int.reducePow, Int.reduceLT, Int.reduceLE, Int.reduceEq, Int.reduceNe, Int.reduceAdd, Int.reduceSub, and_self, reduceCtorEq, decide_eq_true_eq, decide_eq_false_iff_not, eq_self, implies_true, exists_const, Option.isNone_some, Option.isNone_none, Option.isSome_some, Option.isSome_none, Option.getD_some, cellAt_of (e7.at a16)]
    exact hQ _ _ _ (by simp; omega) m7 _ (by simp (disch := omega) only [dm_t, wA, wB, wL, wW, wY, Int.fdiv_eq_ediv_of_nonneg, Int.tdiv_eq_ediv_of_nonneg, Int.tmod_eq_emod_of_nonneg, chk_pos, decT, decF, br_pos, br_neg, wX, ↓reduceIte, Nat.reduceEqDiff, Nat.reduceAdd, Nat.reduceSub, Nat.reduceMul, Nat.reduceLeDiff, Nat.reduceLT, Nat.reduceMod, Nat.reduceDiv, Int.reduceToNat, Nat.min_eq_left, IntKind.bits, Int.reducePow, Int.reduceLT, Int.reduceLE, Int.reduceEq, Int.reduceNe, Int.reduceAdd, Int.reduceSub, and_self, reduceCtorEq, decide_eq_true_eq, decide_eq_false_iff_not, eq_self, implies_true, exists_const, Option.isNone_some, Option.isNone_none, Option.isSome_some, Option.isSome_none, Option.getD_some])
theorem board_ok {h : H} {lv av : Value} {ls : List (List Int)} {ad : List Int} (hl : RepL nos (.sl (.int .i64)) h lv ls) (ha : S1 nos h av (i6 ad)) : Ok Try.prog 4 #[lv, av] h fun v h' => v = .bool true ∧ Ext h h' := by
  obtain ⟨la, lc, rfl⟩ := hl.len
  obtain ⟨aa, ac, rfl⟩ := S1.len ha
  rw [i6_len] at ha ⊢
  refine c4_ok (args := [_, _]) (by simp) ?_
  simp (disch := omega) only [dm_t, wA, wB, wL, wW, wY, Int.fdiv_eq_ediv_of_nonneg, Int.tdiv_eq_ediv_of_nonneg, Int.tmod_eq_emod_of_nonneg, chk_pos, decT, decF, br_pos, br_neg, wX, ↓reduceIte, Nat.reduceEqDiff, Nat.reduceAdd, Nat.reduceSub, Nat.reduceMul, Nat.reduceLeDiff, Nat.reduceLT, Nat.reduceMod, Nat.reduceDiv, Int.reduceToNat, Nat.min_eq_left, IntKind.bits, Int.reducePow, Int.reduceLT, Int.reduceLE, Int.reduceEq, Int.reduceNe, Int.reduceAdd, Int.reduceSub, and_self, reduceCtorEq, decide_eq_true_eq, decide_eq_false_iff_not, eq_self, implies_true, exists_const, Option.isNone_some, Option.isNone_none, Option.isSome_some, Option.isSome_none, Option.getD_some]
  intro c3 hc3
  generalize hG : hupd _ c3 _ = g0
  obtain ⟨e0, q3⟩ := new_ext hG hc3
  clear hG
  by_cases b1 : 200 < ls.length
  · simp (disch := omega) only [dm_t, wA, wB, wL, wW, wY, Int.fdiv_eq_ediv_of_nonneg, Int.tdiv_eq_ediv_of_nonneg, Int.tmod_eq_emod_of_nonneg, chk_pos, decT, decF, br_pos, br_neg, wX, ↓reduceIte, Nat.reduceEqDiff, Nat.reduceAdd, Nat.reduceSub, Nat.reduceMul, Nat.reduceLeDiff, Nat.reduceLT, Nat.reduceMod, Nat.reduceDiv, Int.reduceToNat, Nat.min_eq_left, IntKind.bits, Int.reducePow, Int.reduceLT, Int.reduceLE, Int.reduceEq, Int.reduceNe, Int.reduceAdd, Int.reduceSub, and_self, reduceCtorEq, decide_eq_true_eq, decide_eq_false_iff_not, eq_self, implies_true, exists_const, Option.isNone_some, Option.isNone_none, Option.isSome_some, Option.isSome_none, Option.getD_some, cellAt_of q3]
    refine known_k fun h' e' => ?_
    simp (disch := omega) only [dm_t, wA, wB, wL, wW, wY, Int.fdiv_eq_ediv_of_nonneg, Int.tdiv_eq_ediv_of_nonneg, Int.tmod_eq_emod_of_nonneg, chk_pos, decT, decF, br_pos, br_neg, wX, ↓reduceIte, Nat.reduceEqDiff, Nat.reduceAdd, Nat.reduceSub, Nat.reduceMul, Nat.reduceLeDiff, Nat.reduceLT, Nat.reduceMod, Nat.reduceDiv, Int.reduceToNat, Nat.min_eq_left, IntKind.bits, Int.reducePow, Int.reduceLT, Int.reduceLE, Int.reduceEq, Int.reduceNe, Int.reduceAdd, Int.reduceSub, and_self, reduceCtorEq, decide_eq_true_eq, decide_eq_false_iff_not, eq_self, implies_true, exists_const, Option.isNone_some, Option.isNone_none, Option.isSome_some, Option.isSome_none, Option.getD_some]
    exact e0.trans e'
  by_cases b2 : 200 < ad.length
  · simp (disch := omega) only [dm_t, wA, wB, wL, wW, wY, Int.fdiv_eq_ediv_of_nonneg, Int.tdiv_eq_ediv_of_nonneg, Int.tmod_eq_emod_of_nonneg, chk_pos, decT, decF, br_pos, br_neg, wX, ↓reduceIte, Nat.reduceEqDiff, Nat.reduceAdd, Nat.reduceSub, Nat.reduceMul, Nat.reduceLeDiff, Nat.reduceLT, Nat.reduceMod, Nat.reduceDiv, Int.reduceToNat, Nat.min_eq_left, IntKind.bits, Int.reducePow, Int.reduceLT, Int.reduceLE, Int.reduceEq, Int.reduceNe, Int.reduceAdd, Int.reduceSub, and_self, reduceCtorEq, decide_eq_true_eq, decide_eq_false_iff_not, eq_self, implies_true, exists_const, Option.isNone_some, Option.isNone_none, Option.isSome_some, Option.isSome_none, Option.getD_some, cellAt_of q3]
    refine known_k fun h' e' => ?_
    simp (disch := omega) only [dm_t, wA, wB, wL, wW, wY, Int.fdiv_eq_ediv_of_nonneg, Int.tdiv_eq_ediv_of_nonneg, Int.tmod_eq_emod_of_nonneg, chk_pos, decT, decF, br_pos, br_neg, wX, ↓reduceIte, Nat.reduceEqDiff, Nat.reduceAdd, Nat.reduceSub, Nat.reduceMul, Nat.reduceLeDiff, Nat.reduceLT, Nat.reduceMod, Nat.reduceDiv, Int.reduceToNat, Nat.min_eq_left, IntKind.bits, Int.reducePow, Int.reduceLT, Int.reduceLE, Int.reduceEq, Int.reduceNe, Int.reduceAdd, Int.reduceSub, and_self, reduceCtorEq, decide_eq_true_eq, decide_eq_false_iff_not, eq_self, implies_true, exists_const, Option.isNone_some, Option.isNone_none, Option.isSome_some, Option.isSome_none, Option.getD_some]
    exact e0.trans e'
  simp (disch := omega) only [dm_t, wA, wB, wL, wW, wY, Int.fdiv_eq_ediv_of_nonneg, Int.tdiv_eq_ediv_of_nonneg, Int.tmod_eq_emod_of_nonneg, chk_pos, decT, decF, br_pos, br_neg, wX, ↓reduceIte, Nat.reduceEqDiff, Nat.reduceAdd, Nat.reduceSub, Nat.reduceMul, Nat.reduceLeDiff, Nat.reduceLT, Nat.reduceMod, Nat.reduceDiv, Int.reduceToNat, Nat.min_eq_left, IntKind.bits, Int.reducePow, Int.reduceLT, Int.reduceLE, Int.reduceEq, Int.reduceNe, Int.reduceAdd, Int.reduceSub, and_self, reduceCtorEq, decide_eq_true_eq, decide_eq_false_iff_not, eq_self, implies_true, exists_const, Option.isNone_some, Option.isNone_none, Option.isSome_some, Option.isSome_none, Option.getD_some, cellAt_of q3]
  refine (nboard_ok g0).k ?_
  rintro _ _ ⟨b, rfl, rfl, hb⟩
  generalize hG : hupd _ b _ = g1
  obtain ⟨e1, qb⟩ := new_ext hG hb
  clear hG
  simp (disch := omega) only [dm_t, wA, wB, wL, wW, wY, Int.fdiv_eq_ediv_of_nonneg, Int.tdiv_eq_ediv_of_nonneg, Int.tmod_eq_emod_of_nonneg, chk_pos, decT, decF, br_pos, br_neg, wX, ↓reduceIte, Nat.reduceEqDiff, Nat.reduceAdd, Nat.reduceSub, Nat.reduceMul, Nat.reduceLeDiff, Nat.reduceLT, Nat.reduceMod, Nat.reduceDiv, Int.reduceToNat, Nat.min_eq_left, IntKind.bits, Int.reducePow, Int.reduceLT, Int.reduceLE, Int.reduceEq, Int.reduceNe, Int.reduceAdd, Int.reduceSub, and_self, reduceCtorEq, decide_eq_true_eq, decide_eq_false_iff_not, eq_self, implies_true, exists_const, Option.isNone_some, Option.isNone_none, Option.isSome_some, Option.isSome_none, Option.getD_some]
  intro c6 hc6
  generalize hG : hupd _ c6 _ = g2
  obtain ⟨e2, q6⟩ := new_ext hG hc6
  clear hG
  simp (disch := omega) only [dm_t, wA, wB, wL, wW, wY, Int.fdiv_eq_ediv_of_nonneg, Int.tdiv_eq_ediv_of_nonneg, Int.tmod_eq_emod_of_nonneg, chk_pos, decT, decF, br_pos, br_neg, wX, ↓reduceIte, Nat.reduceEqDiff, Nat.reduceAdd, Nat.reduceSub, Nat.reduceMul, Nat.reduceLeDiff, Nat.reduceLT, Nat.reduceMod, Nat.reduceDiv, Int.reduceToNat, Nat.min_eq_left, IntKind.bits, Int.reducePow, Int.reduceLT, Int.reduceLE, Int.reduceEq, Int.reduceNe, Int.reduceAdd, Int.reduceSub, and_self, reduceCtorEq, decide_eq_true_eq, decide_eq_false_iff_not, eq_self, implies_true, exists_const, Option.isNone_some, Option.isNone_none, Option.isSome_some, Option.isSome_none, Option.getD_some]
  intro c8 hc8
  generalize hG : hupd _ c8 _ = g3
  obtain ⟨e3, q8⟩ := new_ext hG hc8
  clear hG
  simp (disch := omega) only [dm_t, wA, wB, wL, wW, wY, Int.fdiv_eq_ediv_of_nonneg, Int.tdiv_eq_ediv_of_nonneg, Int.tmod_eq_emod_of_nonneg, chk_pos, decT, decF, br_pos, br_neg, wX, ↓reduceIte, Nat.reduceEqDiff, Nat.reduceAdd, Nat.reduceSub, Nat.reduceMul, Nat.reduceLeDiff, Nat.reduceLT, Nat.reduceMod, Nat.reduceDiv, Int.reduceToNat, Nat.min_eq_left, IntKind.bits, Int.reducePow, Int.reduceLT, Int.reduceLE, Int.reduceEq, Int.reduceNe, Int.reduceAdd, Int.reduceSub, and_self, reduceCtorEq, decide_eq_true_eq, decide_eq_false_iff_not, eq_self, implies_true, exists_const, Option.isNone_some, Option.isNone_none, Option.isSome_some, Option.isSome_none, Option.getD_some, storeH_0 q8]
  have e03 := ((e0.trans e1).trans e2).trans e3
  have hn8 := ((e0.trans e1).trans e2).bk hc8
  have hn6 := (e0.trans e1).bk hc6
  have hnb := e0.bk hb
  have hn3 := hc3
  have n36 := ne_of (e1.at q3) hc6
  have n8 : ∀ x o, g2 x = some o → x ≠ c8 := fun x o hx => ne_of hx hc8
  obtain ⟨g4, hg4⟩ : ∃ g, g = hupd g3 c8 (.cells #[.int .i64 0] 3) := ⟨_, rfl⟩
  rw [← hg4]
  have f4 : Fr (fun y => y = c8) g3 g4 := by rw [hg4]; exact Fr.upd (S := fun y => y = c8) rfl _
  have M0 : MS (fun _ => False) h g4 b c3 c6 c8 (.slice aa ad.length ac) (.slice none 0 0) [] 0 0 := by
    refine ⟨Ext.step' e03 f4 fun x hx => by rw [hx]; exact hn8, f4 _ _ (e3.at (e2.at (e1.at q3))) (n8 _ _ (e2.at (e1.at q3))), f4 _ _ (e3.at q6) (n8 _ _ q6), by rw [hg4]; exact hupd_same _ _ _, .inl ⟨rfl, rfl, f4 _ _ (e3.at (e2.at qb)) (n8 _ _ (e2.at qb)), id⟩, OwK.nil, ⟨id, id, id⟩, fun _ h => h.elim⟩
  clear hg4 f4 q8 q6 qb q3 e3 e2 e1 e0 e03 n8 hc8 hc6 hb hc3
  clear g3 g2 g1 g0
  refine vc_loop2 (fun v7 v8 h' => ∃ (i ver ci : Nat) (wv : Value) (ws : List Int), v7 = .int .i64 (ver : Int) ∧ v8 = .pointer (some ⟨ci, 0, none⟩) ∧ i ≤ ls.length ∧ ver ≤ 2 * i ∧ ws.length ≤ 101 ∧ h ci = none ∧ MS (fun _ => False) h h' b c3 c6 ci (.slice aa ad.length ac) wv ws i ver) (fun _ v8 h' => match v8 with | .pointer (some a) => (match cellAt h' a with | some (.int _ n) => ls.length - n.toNat | _ => 0) | _ => 0) ?_ ?_
  · simp (disch := omega) only [dm_t, wA, wB, wL, wW, wY, Int.fdiv_eq_ediv_of_nonneg, Int.tdiv_eq_ediv_of_nonneg, Int.tmod_eq_emod_of_nonneg, chk_pos, decT, decF, br_pos, br_neg, wX, ↓reduceIte, Nat.reduceEqDiff, Nat.reduceAdd, Nat.reduceSub, Nat.reduceMul, Nat.reduceLeDiff, Nat.reduceLT, Nat.reduceMod, Nat.reduceDiv, Int.reduceToNat, Nat.min_eq_left, IntKind.bits, Int.reducePow, Int.reduceLT, Int.reduceLE, Int.reduceEq, Int.reduceNe, Int.reduceAdd, Int.reduceSub, and_self, reduceCtorEq, decide_eq_true_eq, decide_eq_false_iff_not, eq_self, implies_true, exists_const, Option.isNone_some, Option.isNone_none, Option.isSome_some, Option.isSome_none, Option.getD_some]
    exact ⟨0, 0, c8, _, [], rfl, rfl, by omega, by omega, by simp, hn8, M0⟩
  clear M0 hn8
  rintro _ _ g ⟨i, ver, ci, wv, ws, rfl, rfl, hi, hver, hwl, hci, m⟩
  have hmu : cellAt g ⟨ci, 0, none⟩ = some (.int .i64 (i : Int)) := cellAt_of m.qi 0
  by_cases hil : i < ls.length
  · obtain ⟨b1', o1', w, i1, g1, r1⟩ := hl.load1 hil .i64 (by rfl)
    have r1' : RepL nos (.int .i64) h w ls[i] := r1
    obtain ⟨sw, _⟩ := repI r1'
    change S1 nos h w (i6 ls[i]) at sw
    obtain ⟨wa, wc, rfl⟩ := S1.len sw
    rw [i6_len] at sw g1
    generalize ls[i] = li at *
    by_cases b3 : 100 < li.length
    · simp (disch := omega) only [dm_t, wA, wB, wL, wW, wY, Int.fdiv_eq_ediv_of_nonneg, Int.tdiv_eq_ediv_of_nonneg, Int.tmod_eq_emod_of_nonneg, chk_pos, decT, decF, br_pos, br_neg, wX, ↓reduceIte, Nat.reduceEqDiff, Nat.reduceAdd, Nat.reduceSub, Nat.reduceMul, Nat.reduceLeDiff, Nat.reduceLT, Nat.reduceMod, Nat.reduceDiv, Int.reduceToNat, Nat.min_eq_left, IntKind.bits, Int.reducePow, Int.reduceLT, Int.reduceLE, Int.reduceEq, Int.reduceNe, Int.reduceAdd, Int.reduceSub, and_self, reduceCtorEq, decide_eq_true_eq, decide_eq_false_iff_not, eq_self, implies_true, exists_const, Option.isNone_some, Option.isNone_none, Option.isSome_some, Option.isSome_none, Option.getD_some, cellAt_of m.qi, i1, cellAt_ext m.E g1]
      refine known_k fun h' e' => ?_
      simp (disch := omega) only [dm_t, wA, wB, wL, wW, wY, Int.fdiv_eq_ediv_of_nonneg, Int.tdiv_eq_ediv_of_nonneg, Int.tmod_eq_emod_of_nonneg, chk_pos, decT, decF, br_pos, br_neg, wX, ↓reduceIte, Nat.reduceEqDiff, Nat.reduceAdd, Nat.reduceSub, Nat.reduceMul, Nat.reduceLeDiff, Nat.reduceLT, Nat.reduceMod, Nat.reduceDiv, Int.reduceToNat, Nat.min_eq_left, IntKind.bits, Int.reducePow, Int.reduceLT, Int.reduceLE, Int.reduceEq, Int.reduceNe, Int.reduceAdd, Int.reduceSub, and_self, reduceCtorEq, decide_eq_true_eq, decide_eq_false_iff_not, eq_self, implies_true, exists_const, Option.isNone_some, Option.isNone_none, Option.isSome_some, Option.isSome_none, Option.getD_some]
      exact m.E.trans e'
    have hlc : (i6 li).all isCell = true := cells_ints _ _
    have hl6 := i6_len li
    simp (disch := omega) only [dm_t, wA, wB, wL, wW, wY, Int.fdiv_eq_ediv_of_nonneg, Int.tdiv_eq_ediv_of_nonneg, Int.tmod_eq_emod_of_nonneg, chk_pos, decT, decF, br_pos, br_neg, wX, ↓reduceIte, Nat.reduceEqDiff, Nat.reduceAdd, Nat.reduceSub, Nat.reduceMul, Nat.reduceLeDiff, Nat.reduceLT, Nat.reduceMod, Nat.reduceDiv, Int.reduceToNat, Nat.min_eq_left, IntKind.bits, Int.reducePow, Int.reduceLT, Int.reduceLE, Int.reduceEq, Int.reduceNe, Int.reduceAdd, Int.reduceSub, and_self, reduceCtorEq, decide_eq_true_eq, decide_eq_false_iff_not, eq_self, implies_true, exists_const, Option.isNone_some, Option.isNone_none, Option.isSome_some, Option.isSome_none, Option.getD_some, cellAt_of m.qi, i1, cellAt_ext m.E g1]
    -- m
    refine app1 (bytes := 8) (O := fun y => g y = none) (xs := []) OwK.nil (fun y hy => hy) (SlK.ext sw m.E) hlc (by simp; omega) (by simp; omega) ?_
    intro mv h1 om f1
    rw [List.nil_append] at om
    have e1 : Ext g h1 := Ext.step (Ext.refl g) f1
    have m1 := m.new (T' := fun _ => False) e1 fun _ h => h.elim
    obtain ⟨ma, mc, rfl⟩ := S1.len om.s0
    rw [hl6] at om ⊢
    obtain ⟨pb, qb⟩ := m1.bd.b.at
    simp (disch := omega) only [dm_t, wA, wB, wL, wW, wY, Int.fdiv_eq_ediv_of_nonneg, Int.tdiv_eq_ediv_of_nonneg, Int.tmod_eq_emod_of_nonneg, chk_pos, decT, decF, br_pos, br_neg, wX, ↓reduceIte, Nat.reduceEqDiff, Nat.reduceAdd, Nat.reduceSub, Nat.reduceMul, Nat.reduceLeDiff, Nat.reduceLT, Nat.reduceMod, Nat.reduceDiv, Int.reduceToNat, Nat.min_eq_left, IntKind.bits, Int.reducePow, Int.reduceLT, Int.reduceLE, Int.reduceEq, Int.reduceNe, Int.reduceAdd, Int.reduceSub, and_self, reduceCtorEq, decide_eq_true_eq, decide_eq_false_iff_not, eq_self, implies_true, exists_const, Option.isNone_some, Option.isNone_none, Option.isSome_some, Option.isSome_none, Option.getD_some]
    refine (publish_ok m1.bd.b (cells_ints _ _) (by rw [i6_len]; omega) (SlK.to1 om.s0) hlc (by omega) (by omega)).k ?_
    rintro _ h2 ⟨rfl, bd2, f2⟩
    have nbm : ∀ y, isAt (.slice ma li.length mc) y → y ≠ b := fun y hy h => by subst h; exact ty_no om qb (by decide) hy
    have n3 : c3 ≠ b := by rintro rfl; rw [m1.q3] at qb; simp at qb
    have n6 : c6 ≠ b := by rintro rfl; rw [m1.q6] at qb; simp at qb
    have ni : ci ≠ b := by rintro rfl; rw [m1.qi] at qb; simp at qb
    have E2 : Ext h h2 := Ext.step' m1.E f2 fun x hx => by rw [hx]; exact hnb
    have om2 := OwK.fr om f2 fun x hx _ hat => nbm x hat hx
    have q32 := f2 _ _ m1.q3 n3
    have q62 := f2 _ _ m1.q6 n6
    have q6n : h1 c6 ≠ none := by rw [m1.q6]; simp
    have qi2 := f2 _ _ m1.qi ni
    have mnone : ∀ y, isAt (.slice ma li.length mc) y → h y = none := fun y hy => m.E.bk (OwK.own om hy)
    have mthere : ∀ y, isAt (.slice ma li.length mc) y → h1 y ≠ none := fun y hy => OwK.there om hy
    clear m m1 om f1 e1
    -- want
    simp (disch := omega) only [dm_t, wA, wB, wL, wW, wY, Int.fdiv_eq_ediv_of_nonneg, Int.tdiv_eq_ediv_of_nonneg, Int.tmod_eq_emod_of_nonneg, chk_pos, decT, decF, br_pos, br_neg, wX, ↓reduceIte, Nat.reduceEqDiff, Nat.reduceAdd, Nat.reduceSub, Nat.reduceMul, Nat.reduceLeDiff, Nat.reduceLT, Nat.reduceMod, Nat.reduceDiv, Int.reduceToNat, Nat.min_eq_left, IntKind.bits, Int.reducePow, Int.reduceLT, Int.reduceLE, Int.reduceEq, Int.reduceNe, Int.reduceAdd, Int.reduceSub, and_self, reduceCtorEq, decide_eq_true_eq, decide_eq_false_iff_not, eq_self, implies_true, exists_const, Option.isNone_some, Option.isNone_none, Option.isSome_some, Option.isSome_none, Option.getD_some, cellAt_of qi2, i1, cellAt_ext E2 g1]
    refine app1 (bytes := 8) (O := fun y => h2 y = none) (xs := []) OwK.nil (fun y hy => hy) (SlK.ext sw E2) hlc (by simp; omega) (by simp; omega) ?_
    intro wv3 h3 ow3 f3
    rw [List.nil_append] at ow3
    have e3 : Ext h2 h3 := Ext.step (Ext.refl h2) f3
    have hwc : isCell wv3 = true := by obtain ⟨x, y, rfl⟩ := S1.len ow3.s0; rfl
    have q63 := e3.at q62
    simp (disch := omega) only [dm_t, wA, wB, wL, wW, wY, Int.fdiv_eq_ediv_of_nonneg, Int.tdiv_eq_ediv_of_nonneg, Int.tmod_eq_emod_of_nonneg, chk_pos, decT, decF, br_pos, br_neg, wX, ↓reduceIte, Nat.reduceEqDiff, Nat.reduceAdd, Nat.reduceSub, Nat.reduceMul, Nat.reduceLeDiff, Nat.reduceLT, Nat.reduceMod, Nat.reduceDiv, Int.reduceToNat, Nat.min_eq_left, IntKind.bits, Int.reducePow, Int.reduceLT, Int.reduceLE, Int.reduceEq, Int.reduceNe, Int.reduceAdd, Int.reduceSub, and_self, reduceCtorEq, decide_eq_true_eq, decide_eq_false_iff_not, eq_self, implies_true, exists_const, Option.isNone_some, Option.isNone_none, Option.isSome_some, Option.isSome_none, Option.getD_some, storeH_0 q63, hwc]
    obtain ⟨h4, hh4⟩ : ∃ g', g' = hupd h3 c6 (.cells #[wv3] 22) := ⟨_, rfl⟩
    rw [← hh4]
    have f4 : Fr (fun y => y = c6) h3 h4 := by rw [hh4]; exact Fr.upd (S := fun y => y = c6) rfl _
    have n36 : c3 ≠ c6 := n36
    have ni6 : ci ≠ c6 := by rintro rfl; rw [q62] at qi2; simp at qi2
    have m4 : MS (isAt (.slice ma li.length mc)) h h4 b c3 c6 ci (.slice aa ad.length ac) wv3 li i (ver + 1) := by
      refine ⟨Ext.step' (E2.trans e3) f4 fun x hx => by rw [hx]; exact hn6, f4 _ _ (e3.at q32) n36, by rw [hh4]; exact hupd_same _ _ _, f4 _ _ (e3.at qi2) ni6, ?_, ?_, ?_, mnone⟩
      · have := (bd2.sub (S := fun y => isAt (.slice ma li.length mc) y ∨ y = c6) (by
          rintro y (hy | rfl)
          · exact ⟨mthere y hy, nbm y hy⟩
          · exact ⟨q6n, n6⟩)).fr (e3.mono (T := fun _ => False) fun _ h => h.elim) fun _ h => h.elim
        exact (this.fr f4 fun x hx => .inr hx).sub fun x hx => .inl hx
      · exact (OwK.fr ow3 f4 fun x hx _ => by rw [hx]; exact ty_no ow3 q63 (by decide)).mono fun x o hx hn => ⟨E2.bk hn, fun hat => OwK.there om2 hat hn⟩
      · exact ⟨ty_no om2 q32 (by decide), ty_no om2 q62 (by decide), ty_no om2 qi2 (by decide)⟩
    have om4 : O1 (fun _ => True) h4 2 (.slice ma li.length mc) (i6 li) := ((OwK.ext om2 e3).fr f4 fun x hx _ => by rw [hx]; exact ty_no (OwK.ext om2 e3) q63 (by decide)).mono fun _ _ _ _ => trivial
    clear hh4 f4 ow3 f3 e3 q63 om2 E2 f2 bd2 mnone mthere nbm
    simp (disch := omega) only [dm_t, wA, wB, wL, wW, wY, Int.fdiv_eq_ediv_of_nonneg, Int.tdiv_eq_ediv_of_nonneg, Int.tmod_eq_emod_of_nonneg, chk_pos, decT, decF, br_pos, br_neg, wX, ↓reduceIte, Nat.reduceEqDiff, Nat.reduceAdd, Nat.reduceSub, Nat.reduceMul, Nat.reduceLeDiff, Nat.reduceLT, Nat.reduceMod, Nat.reduceDiv, Int.reduceToNat, Nat.min_eq_left, IntKind.bits, Int.reducePow, Int.reduceLT, Int.reduceLE, Int.reduceEq, Int.reduceNe, Int.reduceAdd, Int.reduceSub, and_self, reduceCtorEq, decide_eq_true_eq, decide_eq_false_iff_not, eq_self, implies_true, exists_const, Option.isNone_some, Option.isNone_none, Option.isSome_some, Option.isSome_none, Option.getD_some]
    refine vc_loop1 (fun vk h' => ∃ (k : Nat) (zs : List Int), vk = .int .i64 (k : Int) ∧ k ≤ li.length ∧ O1 (fun _ => True) h' 2 (.slice ma li.length mc) (i6 zs) ∧ zs.length = li.length ∧ Fr (isAt (.slice ma li.length mc)) h4 h') (fun vk _ => li.length - m1 vk) ?_ ?_
    · simp (disch := omega) only [dm_t, wA, wB, wL, wW, wY, Int.fdiv_eq_ediv_of_nonneg, Int.tdiv_eq_ediv_of_nonneg, Int.tmod_eq_emod_of_nonneg, chk_pos, decT, decF, br_pos, br_neg, wX, ↓reduceIte, Nat.reduceEqDiff, Nat.reduceAdd, Nat.reduceSub, Nat.reduceMul, Nat.reduceLeDiff, Nat.reduceLT, Nat.reduceMod, Nat.reduceDiv, Int.reduceToNat, Nat.min_eq_left, IntKind.bits, Int.reducePow, Int.reduceLT, Int.reduceLE, Int.reduceEq, Int.reduceNe, Int.reduceAdd, Int.reduceSub, and_self, reduceCtorEq, decide_eq_true_eq, decide_eq_false_iff_not, eq_self, implies_true, exists_const, Option.isNone_some, Option.isNone_none, Option.isSome_some, Option.isSome_none, Option.getD_some]
      exact ⟨0, _, rfl, by omega, om4, rfl, Fr.refl _ _⟩
    rintro _ h5 ⟨k, zs, rfl, hk, oz, hz, f5⟩
    by_cases hkl : k < li.length
    · obtain ⟨bk, ok, ix, hat, hc, hst⟩ := O1.put oz (i := k) (by rw [i6_len]; omega) .i64
      rw [List.getElem_map] at hc
      simp (disch := omega) only [dm_t, wA, wB, wL, wW, wY, Int.fdiv_eq_ediv_of_nonneg, Int.tdiv_eq_ediv_of_nonneg, Int.tmod_eq_emod_of_nonneg, chk_pos, decT, decF, br_pos, br_neg, wX, ↓reduceIte, Nat.reduceEqDiff, Nat.reduceAdd, Nat.reduceSub, Nat.reduceMul, Nat.reduceLeDiff, Nat.reduceLT, Nat.reduceMod, Nat.reduceDiv, Int.reduceToNat, Nat.min_eq_left, IntKind.bits, Int.reducePow, Int.reduceLT, Int.reduceLE, Int.reduceEq, Int.reduceNe, Int.reduceAdd, Int.reduceSub, and_self, reduceCtorEq, decide_eq_true_eq, decide_eq_false_iff_not, eq_self, implies_true, exists_const, Option.isNone_some, Option.isNone_none, Option.isSome_some, Option.isSome_none, Option.getD_some, ix, hc]
      refine hst _ _ rfl ?_
      intro h6 o6 f6
      simp (disch := omega) only [dm_t, wA, wB, wL, wW, wY, Int.fdiv_eq_ediv_of_nonneg, Int.tdiv_eq_ediv_of_nonneg, Int.tmod_eq_emod_of_nonneg, chk_pos, decT, decF, br_pos, br_neg, wX, ↓reduceIte, Nat.reduceEqDiff, Nat.reduceAdd, Nat.reduceSub, Nat.reduceMul, Nat.reduceLeDiff, Nat.reduceLT, Nat.reduceMod, Nat.reduceDiv, Int.reduceToNat, Nat.min_eq_left, IntKind.bits, Int.reducePow, Int.reduceLT, Int.reduceLE, Int.reduceEq, Int.reduceNe, Int.reduceAdd, Int.reduceSub, and_self, reduceCtorEq, decide_eq_true_eq, decide_eq_false_iff_not, eq_self, implies_true, exists_const, Option.isNone_some, Option.isNone_none, Option.isSome_some, Option.isSome_none, Option.getD_some]
      refine ⟨⟨k + 1, zs.set k (IntKind.i64.wrap (zs[k]'(by omega) + 1)), by simp, by omega, ?_, by simpa using hz, f5.trans (f6.mono fun x hx => by rw [hx]; exact hat)⟩, by simp [m1]; omega⟩
      rw [i6, List.map_set]; exact o6
    obtain rfl : k = li.length := by omega
    have m5 := m4.fr f5 fun _ h => h
    clear m4 om4 f5 oz
    simp (disch := omega) only [dm_t, wA, wB, wL, wW, wY, Int.fdiv_eq_ediv_of_nonneg, Int.tdiv_eq_ediv_of_nonneg, Int.tmod_eq_emod_of_nonneg, chk_pos, decT, decF, br_pos, br_neg, wX, ↓reduceIte, Nat.reduceEqDiff, Nat.reduceAdd, Nat.reduceSub, Nat.reduceMul, Nat.reduceLeDiff, Nat.reduceLT, Nat.reduceMod, Nat.reduceDiv, Int.reduceToNat, Nat.min_eq_left, IntKind.bits, Int.reducePow, Int.reduceLT, Int.reduceLE, Int.reduceEq, Int.reduceNe, Int.reduceAdd, Int.reduceSub, and_self, reduceCtorEq, decide_eq_true_eq, decide_eq_false_iff_not, eq_self, implies_true, exists_const, Option.isNone_some, Option.isNone_none, Option.isSome_some, Option.isSome_none, Option.getD_some]
    refine (bget_ok m5.bd.b (cells_ints _ _) (by rw [i6_len]; omega)).k ?_
    rintro _ h6 ⟨lv6, rfl, ol6, e6⟩
    have ol := ol6.o1
    have m6 := m5.new (T' := isAt lv6) e6 fun y hy => OwK.own ol hy
    obtain ⟨l6a, l6c, rfl⟩ := S1.len ol.s0
    rw [hl6] at ol m6 ⊢
    clear ol6 m5
    simp (disch := omega) only [dm_t, wA, wB, wL, wW, wY, Int.fdiv_eq_ediv_of_nonneg, Int.tdiv_eq_ediv_of_nonneg, Int.tmod_eq_emod_of_nonneg, chk_pos, decT, decF, br_pos, br_neg, wX, ↓reduceIte, Nat.reduceEqDiff, Nat.reduceAdd, Nat.reduceSub, Nat.reduceMul, Nat.reduceLeDiff, Nat.reduceLT, Nat.reduceMod, Nat.reduceDiv, Int.reduceToNat, Nat.min_eq_left, IntKind.bits, Int.reducePow, Int.reduceLT, Int.reduceLE, Int.reduceEq, Int.reduceNe, Int.reduceAdd, Int.reduceSub, and_self, reduceCtorEq, decide_eq_true_eq, decide_eq_false_iff_not, eq_self, implies_true, exists_const, Option.isNone_some, Option.isNone_none, Option.isSome_some, Option.isSome_none, Option.getD_some, cellAt_of m6.q6]
    refine (same_ok ol.s0 m6.ow.s0 (by omega)).k ?_
    rintro _ _ ⟨rfl, rfl⟩
    simp (disch := omega) only [dm_t, wA, wB, wL, wW, wY, Int.fdiv_eq_ediv_of_nonneg, Int.tdiv_eq_ediv_of_nonneg, Int.tmod_eq_emod_of_nonneg, chk_pos, decT, decF, br_pos, br_neg, wX, ↓reduceIte, Nat.reduceEqDiff, Nat.reduceAdd, Nat.reduceSub, Nat.reduceMul, Nat.reduceLeDiff, Nat.reduceLT, Nat.reduceMod, Nat.reduceDiv, Int.reduceToNat, Nat.min_eq_left, IntKind.bits, Int.reducePow, Int.reduceLT, Int.reduceLE, Int.reduceEq, Int.reduceNe, Int.reduceAdd, Int.reduceSub, and_self, reduceCtorEq, decide_eq_true_eq, decide_eq_false_iff_not, eq_self, implies_true, exists_const, Option.isNone_some, Option.isNone_none, Option.isSome_some, Option.isSome_none, Option.getD_some]
    refine vc_loop1 (fun vk h' => ∃ (k : Nat) (zs : List Int), vk = .int .i64 (k : Int) ∧ k ≤ li.length ∧ O1 (fun y => h5 y = none) h' 2 (.slice l6a li.length l6c) (i6 zs) ∧ zs.length = li.length ∧ Fr (isAt (.slice l6a li.length l6c)) h6 h') (fun vk _ => li.length - m1 vk) ?_ ?_
    · simp (disch := omega) only [dm_t, wA, wB, wL, wW, wY, Int.fdiv_eq_ediv_of_nonneg, Int.tdiv_eq_ediv_of_nonneg, Int.tmod_eq_emod_of_nonneg, chk_pos, decT, decF, br_pos, br_neg, wX, ↓reduceIte, Nat.reduceEqDiff, Nat.reduceAdd, Nat.reduceSub, Nat.reduceMul, Nat.reduceLeDiff, Nat.reduceLT, Nat.reduceMod, Nat.reduceDiv, Int.reduceToNat, Nat.min_eq_left, IntKind.bits, Int.reducePow, Int.reduceLT, Int.reduceLE, Int.reduceEq, Int.reduceNe, Int.reduceAdd, Int.reduceSub, and_self, reduceCtorEq, decide_eq_true_eq, decide_eq_false_iff_not, eq_self, implies_true, exists_const, Option.isNone_some, Option.isNone_none, Option.isSome_some, Option.isSome_none, Option.getD_some]
      exact ⟨0, _, rfl, by omega, ol, rfl, Fr.refl _ _⟩
    rintro _ h7 ⟨k, zs', rfl, hk, oz, hz', f7⟩
    by_cases hkl : k < li.length
    · obtain ⟨bk, ok, ix, hat, hc, hst⟩ := O1.put oz (i := k) (by rw [i6_len]; omega) .i64
      rw [List.getElem_map] at hc
      simp (disch := omega) only [dm_t, wA, wB, wL, wW, wY, Int.fdiv_eq_ediv_of_nonneg, Int.tdiv_eq_ediv_of_nonneg, Int.tmod_eq_emod_of_nonneg, chk_pos, decT, decF, br_pos, br_neg, wX, ↓reduceIte, Nat.reduceEqDiff, Nat.reduceAdd, Nat.reduceSub, Nat.reduceMul, Nat.reduceLeDiff, Nat.reduceLT, Nat.reduceMod, Nat.reduceDiv, Int.reduceToNat, Nat.min_eq_left, IntKind.bits, Int.reducePow, Int.reduceLT, Int.reduceLE, Int.reduceEq, Int.reduceNe, Int.reduceAdd, Int.reduceSub, and_self, reduceCtorEq, decide_eq_true_eq, decide_eq_false_iff_not, eq_self, implies_true, exists_const, Option.isNone_some, Option.isNone_none, Option.isSome_some, Option.isSome_none, Option.getD_some, ix, hc]
      refine hst _ _ rfl ?_
      intro h8 o8 f8
      simp (disch := omega) only [dm_t, wA, wB, wL, wW, wY, Int.fdiv_eq_ediv_of_nonneg, Int.tdiv_eq_ediv_of_nonneg, Int.tmod_eq_emod_of_nonneg, chk_pos, decT, decF, br_pos, br_neg, wX, ↓reduceIte, Nat.reduceEqDiff, Nat.reduceAdd, Nat.reduceSub, Nat.reduceMul, Nat.reduceLeDiff, Nat.reduceLT, Nat.reduceMod, Nat.reduceDiv, Int.reduceToNat, Nat.min_eq_left, IntKind.bits, Int.reducePow, Int.reduceLT, Int.reduceLE, Int.reduceEq, Int.reduceNe, Int.reduceAdd, Int.reduceSub, and_self, reduceCtorEq, decide_eq_true_eq, decide_eq_false_iff_not, eq_self, implies_true, exists_const, Option.isNone_some, Option.isNone_none, Option.isSome_some, Option.isSome_none, Option.getD_some]
      refine ⟨⟨k + 1, zs'.set k (IntKind.i64.wrap (zs'[k]'(by omega) - 1)), by simp, by omega, ?_, by simpa using hz', f7.trans (f8.mono fun x hx => by rw [hx]; exact hat)⟩, by simp [m1]; omega⟩
      rw [i6, List.map_set]; exact o8
    obtain rfl : k = li.length := by omega
    have m7 := (m6.fr f7 fun _ h => h).sub (T' := fun _ => False) fun _ h => h.elim
    clear m6 ol f7 oz hz' hz zs zs'
    simp (disch := omega) only [dm_t, wA, wB, wL, wW, wY, Int.fdiv_eq_ediv_of_nonneg, Int.tdiv_eq_ediv_of_nonneg, Int.tmod_eq_emod_of_nonneg, chk_pos, decT, decF, br_pos, br_neg, wX, ↓reduceIte, Nat.reduceEqDiff, Nat.reduceAdd, Nat.reduceSub, Nat.reduceMul, Nat.reduceLeDiff, Nat.reduceLT, Nat.reduceMod, Nat.reduceDiv, Int.reduceToNat, Nat.min_eq_left, IntKind.bits, Int.reducePow, Int.reduceLT, Int.reduceLE, Int.reduceEq, Int.reduceNe, Int.reduceAdd, Int.reduceSub, and_self, reduceCtorEq, decide_eq_true_eq, decide_eq_false_iff_not, eq_self, implies_true, exists_const, Option.isNone_some, Option.isNone_none, Option.isSome_some, Option.isSome_none, Option.getD_some, cellAt_of m7.qi, cellAt_of m7.q3]
    by_cases hia : (i : Int) < (ad.length : Int)
    · rw [br_pos hia]
      refine turn_step (ver := ver + 1) (by simp) ha (by omega) (by omega) (by omega) (by omega) n36 hnb hn6 m7 ?_
      intro G wv9 ws9 hws9 m9 e9 he9
      simp (disch := omega) only [dm_t, wA, wB, wL, wW, wY, Int.fdiv_eq_ediv_of_nonneg, Int.tdiv_eq_ediv_of_nonneg, Int.tmod_eq_emod_of_nonneg, chk_pos, decT, decF, br_pos, br_neg, wX, ↓reduceIte, Nat.reduceEqDiff, Nat.reduceAdd, Nat.reduceSub, Nat.reduceMul, Nat.reduceLeDiff, Nat.reduceLT, Nat.reduceMod, Nat.reduceDiv, Int.reduceToNat, Nat.min_eq_left, IntKind.bits, Int.reducePow, Int.reduceLT, Int.reduceLE, Int.reduceEq, Int.reduceNe, Int.reduceAdd, Int.reduceSub, and_self, reduceCtorEq, decide_eq_true_eq, decide_eq_false_iff_not, eq_self, implies_true, exists_const, Option.isNone_some, Option.isNone_none, Option.isSome_some, Option.isSome_none, Option.getD_some, he9, cellAt_of m9.qi]
      intro c8' hc8'
      generalize hG : hupd _ c8' _ = G2
      obtain ⟨e8, q8⟩ := new_ext hG hc8'
      clear hG
      simp (disch := omega) only [dm_t, wA, wB, wL, wW, wY, Int.fdiv_eq_ediv_of_nonneg, Int.tdiv_eq_ediv_of_nonneg, Int.tmod_eq_emod_of_nonneg, chk_pos, decT, decF, br_pos, br_neg, wX, ↓reduceIte, Nat.reduceEqDiff, Nat.reduceAdd, Nat.reduceSub, Nat.reduceMul, Nat.reduceLeDiff, Nat.reduceLT, Nat.reduceMod, Nat.reduceDiv, Int.reduceToNat, Nat.min_eq_left, IntKind.bits, Int.reducePow, Int.reduceLT, Int.reduceLE, Int.reduceEq, Int.reduceNe, Int.reduceAdd, Int.reduceSub, and_self, reduceCtorEq, decide_eq_true_eq, decide_eq_false_iff_not, eq_self, implies_true, exists_const, Option.isNone_some, Option.isNone_none, Option.isSome_some, Option.isSome_none, Option.getD_some, storeH_0 q8, cellAt_same, storeH_same]
      have m8 := m9.next (Gf := hupd G2 c8' (.cells #[.int .i64 ((i : Int) + 1)] 3)) (j := i + 1) e8 hc8' (Fr.upd (S := fun y => y = c8') rfl _) (by rw [hupd_same]; simp)
      refine ⟨⟨i + 1, ver + 2, c8', _, ws9, by simp; omega, rfl, by omega, by omega, by omega, m9.E.bk hc8', m8⟩, ?_⟩
      omega
    · rw [br_neg hia]
      simp (disch := omega) only [dm_t, wA, wB, wL, wW, wY, Int.fdiv_eq_ediv_of_nonneg, Int.tdiv_eq_ediv_of_nonneg, Int.tmod_eq_emod_of_nonneg, chk_pos, decT, decF, br_pos, br_neg, wX, ↓reduceIte, Nat.reduceEqDiff, Nat.reduceAdd, Nat.reduceSub, Nat.reduceMul, Nat.reduceLeDiff, Nat.reduceLT, Nat.reduceMod, Nat.reduceDiv, Int.reduceToNat, Nat.min_eq_left, IntKind.bits, Int.reducePow, Int.reduceLT, Int.reduceLE, Int.reduceEq, Int.reduceNe, Int.reduceAdd, Int.reduceSub, and_self, reduceCtorEq, decide_eq_true_eq, decide_eq_false_iff_not, eq_self, implies_true, exists_const, Option.isNone_some, Option.isNone_none, Option.isSome_some, Option.isSome_none, Option.getD_some, cellAt_of m7.qi]
      intro c8' hc8'
      generalize hG : hupd _ c8' _ = G2
      obtain ⟨e8, q8⟩ := new_ext hG hc8'
      clear hG
      simp (disch := omega) only [dm_t, wA, wB, wL, wW, wY, Int.fdiv_eq_ediv_of_nonneg, Int.tdiv_eq_ediv_of_nonneg, Int.tmod_eq_emod_of_nonneg, chk_pos, decT, decF, br_pos, br_neg, wX, ↓reduceIte, Nat.reduceEqDiff, Nat.reduceAdd, Nat.reduceSub, Nat.reduceMul, Nat.reduceLeDiff, Nat.reduceLT, Nat.reduceMod, Nat.reduceDiv, Int.reduceToNat, Nat.min_eq_left, IntKind.bits, Int.reducePow, Int.reduceLT, Int.reduceLE, Int.reduceEq, Int.reduceNe, Int.reduceAdd, Int.reduceSub, and_self, reduceCtorEq, decide_eq_true_eq, decide_eq_false_iff_not, eq_self, implies_true, exists_const, Option.isNone_some, Option.isNone_none, Option.isSome_some, Option.isSome_none, Option.getD_some, storeH_0 q8, cellAt_same, storeH_same]
      have m8 := m7.next (Gf := hupd G2 c8' (.cells #[.int .i64 ((i : Int) + 1)] 3)) (j := i + 1) e8 hc8' (Fr.upd (S := fun y => y = c8') rfl _) (by rw [hupd_same]; simp)
      refine ⟨⟨i + 1, ver + 1, c8', _, li, by simp, rfl, by omega, by omega, by omega, m7.E.bk hc8', m8⟩, ?_⟩
      omega
  · obtain rfl : i = ls.length := by omega
    obtain ⟨pb, qb⟩ := m.bd.b.at
    simp (disch := omega) only [dm_t, wA, wB, wL, wW, wY, Int.fdiv_eq_ediv_of_nonneg, Int.tdiv_eq_ediv_of_nonneg, Int.tmod_eq_emod_of_nonneg, chk_pos, decT, decF, br_pos, br_neg, wX, ↓reduceIte, Nat.reduceEqDiff, Nat.reduceAdd, Nat.reduceSub, Nat.reduceMul, Nat.reduceLeDiff, Nat.reduceLT, Nat.reduceMod, Nat.reduceDiv, Int.reduceToNat, Nat.min_eq_left, IntKind.bits, Int.reducePow, Int.reduceLT, Int.reduceLE, Int.reduceEq, Int.reduceNe, Int.reduceAdd, Int.reduceSub, and_self, reduceCtorEq, decide_eq_true_eq, decide_eq_false_iff_not, eq_self, implies_true, exists_const, Option.isNone_some, Option.isNone_none, Option.isSome_some, Option.isSome_none, Option.getD_some, cellAt_of m.qi]
    refine (bget_no g).k ?_
    rintro _ _ ⟨rfl, rfl⟩
    simp (disch := omega) only [dm_t, wA, wB, wL, wW, wY, Int.fdiv_eq_ediv_of_nonneg, Int.tdiv_eq_ediv_of_nonneg, Int.tmod_eq_emod_of_nonneg, chk_pos, decT, decF, br_pos, br_neg, wX, ↓reduceIte, Nat.reduceEqDiff, Nat.reduceAdd, Nat.reduceSub, Nat.reduceMul, Nat.reduceLeDiff, Nat.reduceLT, Nat.reduceMod, Nat.reduceDiv, Int.reduceToNat, Nat.min_eq_left, IntKind.bits, Int.reducePow, Int.reduceLT, Int.reduceLE, Int.reduceEq, Int.reduceNe, Int.reduceAdd, Int.reduceSub, and_self, reduceCtorEq, decide_eq_true_eq, decide_eq_false_iff_not, eq_self, implies_true, exists_const, Option.isNone_some, Option.isNone_none, Option.isSome_some, Option.isSome_none, Option.getD_some]
    refine (publish_no g _).k ?_
    rintro _ g4 ⟨rfl, e4⟩
    simp (disch := omega) only [dm_t, wA, wB, wL, wW, wY, Int.fdiv_eq_ediv_of_nonneg, Int.tdiv_eq_ediv_of_nonneg, Int.tmod_eq_emod_of_nonneg, chk_pos, decT, decF, br_pos, br_neg, wX, ↓reduceIte, Nat.reduceEqDiff, Nat.reduceAdd, Nat.reduceSub, Nat.reduceMul, Nat.reduceLeDiff, Nat.reduceLT, Nat.reduceMod, Nat.reduceDiv, Int.reduceToNat, Nat.min_eq_left, IntKind.bits, Int.reducePow, Int.reduceLT, Int.reduceLE, Int.reduceEq, Int.reduceNe, Int.reduceAdd, Int.reduceSub, and_self, reduceCtorEq, decide_eq_true_eq, decide_eq_false_iff_not, eq_self, implies_true, exists_const, Option.isNone_some, Option.isNone_none, Option.isSome_some, Option.isSome_none, Option.getD_some]
    refine (turn_no g4 _).k ?_
    rintro _ _ ⟨rfl, rfl⟩
    simp (disch := omega) only [dm_t, wA, wB, wL, wW, wY, Int.fdiv_eq_ediv_of_nonneg, Int.tdiv_eq_ediv_of_nonneg, Int.tmod_eq_emod_of_nonneg, chk_pos, decT, decF, br_pos, br_neg, wX, ↓reduceIte, Nat.reduceEqDiff, Nat.reduceAdd, Nat.reduceSub, Nat.reduceMul, Nat.reduceLeDiff, Nat.reduceLT, Nat.reduceMod, Nat.reduceDiv, Int.reduceToNat, Nat.min_eq_left, IntKind.bits, Int.reducePow, Int.reduceLT, Int.reduceLE, Int.reduceEq, Int.reduceNe, Int.reduceAdd, Int.reduceSub, and_self, reduceCtorEq, decide_eq_true_eq, decide_eq_false_iff_not, eq_self, implies_true, exists_const, Option.isNone_some, Option.isNone_none, Option.isSome_some, Option.isSome_none, Option.getD_some]
    refine (turn_nil g4 _).k ?_
    rintro _ _ ⟨rfl, rfl⟩
    simp (disch := omega) only [dm_t, wA, wB, wL, wW, wY, Int.fdiv_eq_ediv_of_nonneg, Int.tdiv_eq_ediv_of_nonneg, Int.tmod_eq_emod_of_nonneg, chk_pos, decT, decF, br_pos, br_neg, wX, ↓reduceIte, Nat.reduceEqDiff, Nat.reduceAdd, Nat.reduceSub, Nat.reduceMul, Nat.reduceLeDiff, Nat.reduceLT, Nat.reduceMod, Nat.reduceDiv, Int.reduceToNat, Nat.min_eq_left, IntKind.bits, Int.reducePow, Int.reduceLT, Int.reduceLE, Int.reduceEq, Int.reduceNe, Int.reduceAdd, Int.reduceSub, and_self, reduceCtorEq, decide_eq_true_eq, decide_eq_false_iff_not, eq_self, implies_true, exists_const, Option.isNone_some, Option.isNone_none, Option.isSome_some, Option.isSome_none, Option.getD_some]
    intro z hz
    have ez := Ext.new hz (boardO none)
    refine (bget_ok (b := z) (ver := 0) (xs := []) (.inl ⟨rfl, rfl, hupd_same _ _ _⟩) rfl (by simp)).k ?_
    rintro _ g5 ⟨l5, rfl, o5, e5⟩
    obtain ⟨a5, c5, rfl⟩ := o5.sl.len
    simp (disch := omega) only [dm_t, wA, wB, wL, wW, wY, Int.fdiv_eq_ediv_of_nonneg, Int.tdiv_eq_ediv_of_nonneg, Int.tmod_eq_emod_of_nonneg, chk_pos, decT, decF, br_pos, br_neg, wX, ↓reduceIte, Nat.reduceEqDiff, Nat.reduceAdd, Nat.reduceSub, Nat.reduceMul, Nat.reduceLeDiff, Nat.reduceLT, Nat.reduceMod, Nat.reduceDiv, Int.reduceToNat, Nat.min_eq_left, IntKind.bits, Int.reducePow, Int.reduceLT, Int.reduceLE, Int.reduceEq, Int.reduceNe, Int.reduceAdd, Int.reduceSub, and_self, reduceCtorEq, decide_eq_true_eq, decide_eq_false_iff_not, eq_self, implies_true, exists_const, Option.isNone_some, Option.isNone_none, Option.isSome_some, Option.isSome_none, Option.getD_some, List.length_nil]
    refine known_k fun h' e' => ?_
    simp (disch := omega) only [dm_t, wA, wB, wL, wW, wY, Int.fdiv_eq_ediv_of_nonneg, Int.tdiv_eq_ediv_of_nonneg, Int.tmod_eq_emod_of_nonneg, chk_pos, decT, decF, br_pos, br_neg, wX, ↓reduceIte, Nat.reduceEqDiff, Nat.reduceAdd, Nat.reduceSub, Nat.reduceMul, Nat.reduceLeDiff, Nat.reduceLT, Nat.reduceMod, Nat.reduceDiv, Int.reduceToNat, Nat.min_eq_left, IntKind.bits, Int.reducePow, Int.reduceLT, Int.reduceLE, Int.reduceEq, Int.reduceNe, Int.reduceAdd, Int.reduceSub, and_self, reduceCtorEq, decide_eq_true_eq, decide_eq_false_iff_not, eq_self, implies_true, exists_const, Option.isNone_some, Option.isNone_none, Option.isSome_some, Option.isSome_none, Option.getD_some]
    exact (((m.E.trans e4).trans ez).trans e5).trans e'
end Go.Proofs.Ytdncjknimfemkaa.mk
