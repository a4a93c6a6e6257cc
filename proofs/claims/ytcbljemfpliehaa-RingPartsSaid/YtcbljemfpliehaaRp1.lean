/-
  The queue of whole numbers in parts: the statement RingParts walked.
-/
import Derived.Test.YtcbljemfpliehaaRj
import Derived.Test.YtcbljemfpliehaaR2
namespace Go.Proofs.Ytcbljemfpliehaa.ri
open Go.Proofs.Ytcbljemfpliehaa
set_option linter.unusedVariables false
set_option linter.unusedSimpArgs false

/-- What stands through the statement: its variables, its two queues' blocks, the list. -/
structure PB (h g : H) (c2 c3 c5 c6 c9 ba la bb lb : Nat) (lv : Value) (xs : List Value) (n m : Int) : Prop where
  E : Ext h g
  q2 : g c2 = some (.cells #[.bool false] 4)
  q3 : g c3 = some (.cells #[lv] 23)
  q5 : g c5 = some (.cells #[.int .i64 n] 3)
  q6 : g c6 = some (.cells #[.int .i64 m] 3)
  q9 : g c9 = some (.cells #[.pointer (some ⟨bb, 0, none⟩)] 38)
  l : SlF (fun x => (x = ba ∨ x = la) ∨ (x = bb ∨ x = lb)) g lv xs
  n : h c2 = none ∧ ∀ x, (x = ba ∨ x = la) ∨ (x = bb ∨ x = lb) → h x = none ∧ x ≠ c2 ∧ x ≠ c3 ∧ x ≠ c5 ∧ x ≠ c6 ∧ x ≠ c9
  d : ∀ x, x = ba ∨ x = la → ¬ (x = bb ∨ x = lb)
theorem PB.fr {h g g' : H} {c2 c3 c5 c6 c9 ba la bb lb : Nat} {lv : Value} {xs : List Value} {n m : Int} (p : PB h g c2 c3 c5 c6 c9 ba la bb lb lv xs n m) (f : Fr (fun x => (x = ba ∨ x = la) ∨ (x = bb ∨ x = lb)) g g') : PB h g' c2 c3 c5 c6 c9 ba la bb lb lv xs n m := by
  obtain ⟨E, q2, q3, q5, q6, q9, l, n0, d⟩ := p
  exact ⟨Ext.step' E f fun x hx => (n0.2 x hx).1, f _ _ q2 fun hx => (n0.2 _ hx).2.1 rfl, f _ _ q3 fun hx => (n0.2 _ hx).2.2.1 rfl, f _ _ q5 fun hx => (n0.2 _ hx).2.2.2.1 rfl, f _ _ q6 fun hx => (n0.2 _ hx).2.2.2.2.1 rfl, f _ _ q9 fun hx => (n0.2 _ hx).2.2.2.2.2 rfl, l.fr f, n0, d⟩
theorem PB.ext {h g g' : H} {c2 c3 c5 c6 c9 ba la bb lb : Nat} {lv : Value} {xs : List Value} {n m : Int} (p : PB h g c2 c3 c5 c6 c9 ba la bb lb lv xs n m) (e : Ext g g') : PB h g' c2 c3 c5 c6 c9 ba la bb lb lv xs n m := p.fr (e.mono fun _ h => h.elim)
abbrev fin (h : H) : Post := retC [.c 2 4] (okR fun v h' => v = .bool true ∧ Ext h h')
/-- The statement's slots that stand through. -/
abbrev pv (b : Nat) : Value := .pointer (some ⟨b, 0, none⟩)

/-! From the end on. -/
theorem parts_s31 {h g : H} {c2 c3 c5 c6 c9 ba la bb lb : Nat} {lv : Value} {xs : List Value} {n m : Int} (p : PB h g c2 c3 c5 c6 c9 ba la bb lb lv xs n m) : vc Try.prog c4_s31 (fin h) [(2, pv c2)] g := by
  simp (disch := omega) only [dm_t, wA, wB, wL, wW, wY, Int.fdiv_eq_ediv_of_nonneg, Int.tdiv_eq_ediv_of_nonneg, Int.tmod_eq_emod_of_nonneg, chk_pos, decT, decF, br_pos, br_neg, wX, ↓reduceIte, Nat.reduceEqDiff, Nat.reduceAdd, Nat.reduceSub, Nat.reduceMul, Nat.reduceLeDiff, Nat.reduceLT, Nat.reduceMod, Nat.reduceDiv, Int.reduceToNat, Nat.min_eq_left, IntKind.bits, Int.reducePow, Int.reduceLT, Int.reduceLE, Int.reduceEq, Int.reduceNe, Int.reduceAdd, Int.reduceSub, and_self, reduceCtorEq, decide_eq_true_eq, decide_eq_false_iff_not, eq_self, implies_true, exists_const, Option.isNone_some, Option.isNone_none, Option.isSome_some, Option.isSome_none, Option.getD_some]
  refine works_k fun h' e' => ?_
  have p' := p.ext e'
  simp (disch := omega) only [dm_t, wA, wB, wL, wW, wY, Int.fdiv_eq_ediv_of_nonneg, Int.tdiv_eq_ediv_of_nonneg, Int.tmod_eq_emod_of_nonneg, chk_pos, decT, decF, br_pos, br_neg, wX, ↓reduceIte, Nat.reduceEqDiff, Nat.reduceAdd, Nat.reduceSub, Nat.reduceMul, Nat.reduceLeDiff, Nat.reduceLT, Nat.reduceMod, Nat.reduceDiv, Int.reduceToNat, Nat.min_eq_left, IntKind.bits, Int.reducePow, Int.reduceLT, Int.reduceLE, Int.reduceEq, Int.reduceNe, Int.reduceAdd, Int.reduceSub, and_self, reduceCtorEq, decide_eq_true_eq, decide_eq_false_iff_not, eq_self, implies_true, exists_const, Option.isNone_some, Option.isNone_none, Option.isSome_some, Option.isSome_none, Option.getD_some, storeH_0 p'.q2, cellAt_same]
  exact Ext.upd p'.E p.n.1
theorem parts_s27 {h g : H} {c2 c3 c5 c6 c9 ba la bb lb c20 c21 lcc fb : Nat} {lv vl vs va : Value} {xs : List Int} {N M : Nat} (p : PB h g c2 c3 c5 c6 c9 ba la bb lb lv (xs.map (.int .i64)) N M) (hNM : N + M ≤ xs.length) (hx : xs.length ≤ 200)
    (rb : Ring g bb lb 256 fb ((xs.map (.int .i64)).drop (N + M))) (q20 : g c20 = some (.cells #[vl] 23)) (q21 : g c21 = some (.cells #[vs] 23)) (s20 : Sl g vl ((xs.map (.int .i64)).drop (N + M))) (s21 : Sl g vs ((xs.map (.int .i64)).drop (N + M)))
    (qa : g lcc = some (.cells #[va] 23)) (sa : Sl g va ((xs.map (.int .i64)).drop (N + M))) :
    vc Try.prog c4_s27 (fin h) [(2, pv c2), (3, pv c3), (5, pv c5), (6, pv c6), (9, pv c9), (20, pv c20), (21, pv c21), (22, .func (.func 33) #[] #[pv lcc])] g := by
  have hxc : (xs.map (Value.int .i64)).all isCell = true := cells_ints _ _
  have hlen : ((xs.map (Value.int .i64)).drop (N + M)).length = xs.length - (N + M) := by simp
  simp (disch := omega) only [dm_t, wA, wB, wL, wW, wY, Int.fdiv_eq_ediv_of_nonneg, Int.tdiv_eq_ediv_of_nonneg, Int.tmod_eq_emod_of_nonneg, chk_pos, decT, decF, br_pos, br_neg, wX, ↓reduceIte, Nat.reduceEqDiff, Nat.reduceAdd, Nat.reduceSub, Nat.reduceMul, Nat.reduceLeDiff, Nat.reduceLT, Nat.reduceMod, Nat.reduceDiv, Int.reduceToNat, Nat.min_eq_left, IntKind.bits, Int.reducePow, Int.reduceLT, Int.reduceLE, Int.reduceEq, Int.reduceNe, Int.reduceAdd, Int.reduceSub, and_self, reduceCtorEq, decide_eq_true_eq, decide_eq_false_iff_not, eq_self, implies_true, exists_const, Option.isNone_some, Option.isNone_none, Option.isSome_some, Option.isSome_none, Option.getD_some]
  refine vc_rng rfl rfl (All_it (l := va) (xs := (xs.map (.int .i64)).drop (N + M)) (cells_drop hxc _) (by omega)) ?_
    (fun i h' => Ext g h') (fun _ => False) (fun _ _ => False) ?_ ?_ ?_ ?_ ?_ ?_ (fun _ h => h.elim) (fun _ _ h => h.elim)
  · rintro h b o hb ⟨h1, h2⟩
    exact ⟨(Ext.new hb o).at h1, h2.ext (Ext.new hb o)⟩
  · intro i h' e
    exact ⟨e.at qa, sa.ext e⟩
  · intro i h' h'' e e'
    exact e.trans e'
  · exact Ext.refl g
  · intro i hi; rfl
  · rintro L i h1 hi ⟨r, hr⟩ e
    rw [hlen] at hi
    have hgd : ((xs.map (Value.int .i64)).drop (N + M)).getD i undef = .int .i64 (xs[N + M + i]'(by omega)) := by
      rw [List.getD_eq_getElem?_getD, List.getElem?_drop, List.getElem?_map, List.getElem?_eq_getElem (by omega)]; rfl
    rw [hgd]
    have he : ∀ j (hj : j < ((xs.map (Value.int .i64)).drop (N + M)).length), ((xs.map (Value.int .i64)).drop (N + M))[j] = .int .i64 (xs[N + M + j]'(by omega)) := by
      intro j hj; simp
    simp (disch := omega) only [dm_t, wA, wB, wL, wW, wY, Int.fdiv_eq_ediv_of_nonneg, Int.tdiv_eq_ediv_of_nonneg, Int.tmod_eq_emod_of_nonneg, chk_pos, decT, decF, br_pos, br_neg, wX, ↓reduceIte, Nat.reduceEqDiff, Nat.reduceAdd, Nat.reduceSub, Nat.reduceMul, Nat.reduceLeDiff, Nat.reduceLT, Nat.reduceMod, Nat.reduceDiv, Int.reduceToNat, Nat.min_eq_left, IntKind.bits, Int.reducePow, Int.reduceLT, Int.reduceLE, Int.reduceEq, Int.reduceNe, Int.reduceAdd, Int.reduceSub, and_self, reduceCtorEq, decide_eq_true_eq, decide_eq_false_iff_not, eq_self, implies_true, exists_const, Option.isNone_some, Option.isNone_none, Option.isSome_some, Option.isSome_none, Option.getD_some, List.zip_cons_cons, List.zip_nil_right, List.cons_append, List.nil_append]
    have p' := p.ext e
    obtain ⟨va1, vc1, rfl⟩ := s20.len
    obtain ⟨va2, vc2, rfl⟩ := s21.len
    obtain ⟨va3, vc3, rfl⟩ := p.l.sl.len
    have hl2 : (xs.map (Value.int .i64)).length = xs.length := by simp
    simp (disch := omega) only [dm_t, wA, wB, wL, wW, wY, Int.fdiv_eq_ediv_of_nonneg, Int.tdiv_eq_ediv_of_nonneg, Int.tmod_eq_emod_of_nonneg, chk_pos, decT, decF, br_pos, br_neg, wX, ↓reduceIte, Nat.reduceEqDiff, Nat.reduceAdd, Nat.reduceSub, Nat.reduceMul, Nat.reduceLeDiff, Nat.reduceLT, Nat.reduceMod, Nat.reduceDiv, Int.reduceToNat, Nat.min_eq_left, IntKind.bits, Int.reducePow, Int.reduceLT, Int.reduceLE, Int.reduceEq, Int.reduceNe, Int.reduceAdd, Int.reduceSub, and_self, reduceCtorEq, decide_eq_true_eq, decide_eq_false_iff_not, eq_self, implies_true, exists_const, Option.isNone_some, Option.isNone_none, Option.isSome_some, Option.isSome_none, Option.getD_some, cellAt_of p'.q9]
    refine (peek_ok (rb.ext e) (cells_drop hxc _) i (by omega)).k ?_
    rintro _ _ ⟨rfl, rfl⟩
    simp only [he]
    simp (disch := omega) only [dm_t, wA, wB, wL, wW, wY, Int.fdiv_eq_ediv_of_nonneg, Int.tdiv_eq_ediv_of_nonneg, Int.tmod_eq_emod_of_nonneg, chk_pos, decT, decF, br_pos, br_neg, wX, ↓reduceIte, Nat.reduceEqDiff, Nat.reduceAdd, Nat.reduceSub, Nat.reduceMul, Nat.reduceLeDiff, Nat.reduceLT, Nat.reduceMod, Nat.reduceDiv, Int.reduceToNat, Nat.min_eq_left, IntKind.bits, Int.reducePow, Int.reduceLT, Int.reduceLE, Int.reduceEq, Int.reduceNe, Int.reduceAdd, Int.reduceSub, and_self, reduceCtorEq, decide_eq_true_eq, decide_eq_false_iff_not, eq_self, implies_true, exists_const, Option.isNone_some, Option.isNone_none, Option.isSome_some, Option.isSome_none, Option.getD_some]
    refine (num_ok _ _).k ?_
    rintro _ _ ⟨rfl, rfl⟩
    obtain ⟨p1, i1, g1⟩ := (s20.ext e).load (k := i) (by omega) .i64
    obtain ⟨p2, i2, g2⟩ := (s21.ext e).load (k := i) (by omega) .i64
    obtain ⟨p3, i3, g3⟩ := p'.l.sl.load (k := N + M + i) (by simp; omega) .i64
    simp only [he] at g1 g2
    rw [List.getElem_map] at g3
    rw [hlen] at i1 i2
    rw [hl2] at i3
    simp only [Int.natCast_add] at i3
    simp (disch := omega) only [dm_t, wA, wB, wL, wW, wY, Int.fdiv_eq_ediv_of_nonneg, Int.tdiv_eq_ediv_of_nonneg, Int.tmod_eq_emod_of_nonneg, chk_pos, decT, decF, br_pos, br_neg, wX, ↓reduceIte, Nat.reduceEqDiff, Nat.reduceAdd, Nat.reduceSub, Nat.reduceMul, Nat.reduceLeDiff, Nat.reduceLT, Nat.reduceMod, Nat.reduceDiv, Int.reduceToNat, Nat.min_eq_left, IntKind.bits, Int.reducePow, Int.reduceLT, Int.reduceLE, Int.reduceEq, Int.reduceNe, Int.reduceAdd, Int.reduceSub, and_self, reduceCtorEq, decide_eq_true_eq, decide_eq_false_iff_not, eq_self, implies_true, exists_const, Option.isNone_some, Option.isNone_none, Option.isSome_some, Option.isSome_none, Option.getD_some, cellAt_of p'.q3, cellAt_of p'.q5, cellAt_of p'.q6, cellAt_of (e.at q20), cellAt_of (e.at q21), hlen, hl2, i1, i2, i3, g1, g2, g3]
    exact fun _ => e
  · intro h' e
    have p' := p.ext e
    have k31 := parts_s31 p'
    simp (disch := omega) only [dm_t, wA, wB, wL, wW, wY, Int.fdiv_eq_ediv_of_nonneg, Int.tdiv_eq_ediv_of_nonneg, Int.tmod_eq_emod_of_nonneg, chk_pos, decT, decF, br_pos, br_neg, wX, ↓reduceIte, Nat.reduceEqDiff, Nat.reduceAdd, Nat.reduceSub, Nat.reduceMul, Nat.reduceLeDiff, Nat.reduceLT, Nat.reduceMod, Nat.reduceDiv, Int.reduceToNat, Nat.min_eq_left, IntKind.bits, Int.reducePow, Int.reduceLT, Int.reduceLE, Int.reduceEq, Int.reduceNe, Int.reduceAdd, Int.reduceSub, and_self, reduceCtorEq, decide_eq_true_eq, decide_eq_false_iff_not, eq_self, implies_true, exists_const, Option.isNone_some, Option.isNone_none, Option.isSome_some, Option.isSome_none, Option.getD_some, k31]
theorem parts_s23 {h g : H} {c2 c3 c5 c6 c9 ba la bb lb c20 c21 lcc fb : Nat} {lv vl vs va z both : Value} {xs : List Int} {N M : Nat} (p : PB h g c2 c3 c5 c6 c9 ba la bb lb lv (xs.map (.int .i64)) N M) (hNM : N + M ≤ xs.length) (hx : xs.length ≤ 200)
    (rb : Ring g bb lb 256 fb ((xs.map (.int .i64)).drop (N + M))) (q20 : g c20 = some (.cells #[vl] 23)) (q21 : g c21 = some (.cells #[vs] 23)) (s20 : Sl g vl ((xs.map (.int .i64)).drop (N + M))) (s21 : Sl g vs ((xs.map (.int .i64)).drop (N + M)))
    (qa : g lcc = some (.cells #[va] 23)) (sa : Sl g va ((xs.map (.int .i64)).drop (N + M))) (sz : Sl g z ((xs.map (.int .i64)).take (N + M))) (sb : Sl g both ((xs.map (.int .i64)).take (N + M))) :
    vc Try.prog c4_s23 (fin h) [(2, pv c2), (3, pv c3), (5, pv c5), (6, pv c6), (9, pv c9), (17, z), (19, both), (20, pv c20), (21, pv c21), (22, .func (.func 33) #[] #[pv lcc])] g := by
  have hlen : ((xs.map (Value.int .i64)).take (N + M)).length = N + M := by simp; omega
  have hl2 : (xs.map (Value.int .i64)).length = xs.length := by simp
  obtain ⟨za, zc, rfl⟩ := sz.len
  obtain ⟨ba', bc', rfl⟩ := sb.len
  obtain ⟨va3, vc3, rfl⟩ := p.l.sl.len
  rw [hlen] at sz sb ⊢
  rw [hl2] at p
  simp (disch := omega) only [dm_t, wA, wB, wL, wW, wY, Int.fdiv_eq_ediv_of_nonneg, Int.tdiv_eq_ediv_of_nonneg, Int.tmod_eq_emod_of_nonneg, chk_pos, decT, decF, br_pos, br_neg, wX, ↓reduceIte, Nat.reduceEqDiff, Nat.reduceAdd, Nat.reduceSub, Nat.reduceMul, Nat.reduceLeDiff, Nat.reduceLT, Nat.reduceMod, Nat.reduceDiv, Int.reduceToNat, Nat.min_eq_left, IntKind.bits, Int.reducePow, Int.reduceLT, Int.reduceLE, Int.reduceEq, Int.reduceNe, Int.reduceAdd, Int.reduceSub, and_self, reduceCtorEq, decide_eq_true_eq, decide_eq_false_iff_not, eq_self, implies_true, exists_const, Option.isNone_some, Option.isNone_none, Option.isSome_some, Option.isSome_none, Option.getD_some]
  refine vc_loop1 (fun vi h' => h' = g ∧ ∃ i : Nat, vi = .int .i64 (i : Int) ∧ i ≤ N + M) (fun vi _ => N + M - m1 vi) ?_ ?_
  · simp (disch := omega) only [dm_t, wA, wB, wL, wW, wY, Int.fdiv_eq_ediv_of_nonneg, Int.tdiv_eq_ediv_of_nonneg, Int.tmod_eq_emod_of_nonneg, chk_pos, decT, decF, br_pos, br_neg, wX, ↓reduceIte, Nat.reduceEqDiff, Nat.reduceAdd, Nat.reduceSub, Nat.reduceMul, Nat.reduceLeDiff, Nat.reduceLT, Nat.reduceMod, Nat.reduceDiv, Int.reduceToNat, Nat.min_eq_left, IntKind.bits, Int.reducePow, Int.reduceLT, Int.reduceLE, Int.reduceEq, Int.reduceNe, Int.reduceAdd, Int.reduceSub, and_self, reduceCtorEq, decide_eq_true_eq, decide_eq_false_iff_not, eq_self, implies_true, exists_const, Option.isNone_some, Option.isNone_none, Option.isSome_some, Option.isSome_none, Option.getD_some]
    exact ⟨0, rfl, by omega⟩
  rintro _ _ ⟨rfl, i, rfl, hi⟩
  by_cases hin : i < N + M
  · obtain ⟨p1, i1, g1⟩ := sz.load (k := i) (by omega) .i64
    obtain ⟨p2, i2, g2⟩ := sb.load (k := i) (by omega) .i64
    obtain ⟨p3, i3, g3⟩ := p.l.sl.load (k := i) (by simp; omega) .i64
    rw [List.getElem_take] at g1 g2
    rw [List.getElem_map] at g1 g2 g3
    simp (disch := omega) only [dm_t, wA, wB, wL, wW, wY, Int.fdiv_eq_ediv_of_nonneg, Int.tdiv_eq_ediv_of_nonneg, Int.tmod_eq_emod_of_nonneg, chk_pos, decT, decF, br_pos, br_neg, wX, ↓reduceIte, Nat.reduceEqDiff, Nat.reduceAdd, Nat.reduceSub, Nat.reduceMul, Nat.reduceLeDiff, Nat.reduceLT, Nat.reduceMod, Nat.reduceDiv, Int.reduceToNat, Nat.min_eq_left, IntKind.bits, Int.reducePow, Int.reduceLT, Int.reduceLE, Int.reduceEq, Int.reduceNe, Int.reduceAdd, Int.reduceSub, and_self, reduceCtorEq, decide_eq_true_eq, decide_eq_false_iff_not, eq_self, implies_true, exists_const, Option.isNone_some, Option.isNone_none, Option.isSome_some, Option.isSome_none, Option.getD_some, hlen, cellAt_of p.q3, i1, i2, i3, g1, g2, g3]
    exact ⟨⟨i + 1, by simp, by omega⟩, by simp [m1]; omega⟩
  · obtain rfl : i = N + M := by omega
    have k27 := parts_s27 p hNM hx rb q20 q21 s20 s21 qa sa
    simp (disch := omega) only [dm_t, wA, wB, wL, wW, wY, Int.fdiv_eq_ediv_of_nonneg, Int.tdiv_eq_ediv_of_nonneg, Int.tmod_eq_emod_of_nonneg, chk_pos, decT, decF, br_pos, br_neg, wX, ↓reduceIte, Nat.reduceEqDiff, Nat.reduceAdd, Nat.reduceSub, Nat.reduceMul, Nat.reduceLeDiff, Nat.reduceLT, Nat.reduceMod, Nat.reduceDiv, Int.reduceToNat, Nat.min_eq_left, IntKind.bits, Int.reducePow, Int.reduceLT, Int.reduceLE, Int.reduceEq, Int.reduceNe, Int.reduceAdd, Int.reduceSub, and_self, reduceCtorEq, decide_eq_true_eq, decide_eq_false_iff_not, eq_self, implies_true, exists_const, Option.isNone_some, Option.isNone_none, Option.isSome_some, Option.isSome_none, Option.getD_some, hlen, k27]
theorem parts_s22 {h g : H} {c2 c3 c5 c6 c9 ba la bb lb c20 c21 lcc fa fb : Nat} {lv vl vs va z both : Value} {xs : List Int} {N M : Nat} (p : PB h g c2 c3 c5 c6 c9 ba la bb lb lv (xs.map (.int .i64)) N M) (hNM : N + M ≤ xs.length) (hx : xs.length ≤ 200)
    (ra : Ring g ba la 256 fa ((xs.map (.int .i64)).drop (N + M))) (rb : Ring g bb lb 256 fb ((xs.map (.int .i64)).drop (N + M))) (q20 : g c20 = some (.cells #[vl] 23)) (q21 : g c21 = some (.cells #[vs] 23)) (s20 : Sl g vl ((xs.map (.int .i64)).drop (N + M))) (s21 : Sl g vs ((xs.map (.int .i64)).drop (N + M)))
    (qa : g lcc = some (.cells #[va] 23)) (sa : Sl g va ((xs.map (.int .i64)).drop (N + M))) (sz : Sl g z ((xs.map (.int .i64)).take (N + M))) (sb : Sl g both ((xs.map (.int .i64)).take (N + M))) :
    vc Try.prog c4_s22 (fin h) [(2, pv c2), (3, pv c3), (5, pv c5), (6, pv c6), (7, pv ba), (9, pv c9), (17, z), (19, both), (20, pv c20), (21, pv c21), (22, .func (.func 33) #[] #[pv lcc])] g := by
  have hlen : ((xs.map (Value.int .i64)).drop (N + M)).length = xs.length - (N + M) := by simp
  have k23 := parts_s23 p hNM hx rb q20 q21 s20 s21 qa sa sz sb
  obtain ⟨va1, vc1, rfl⟩ := s20.len
  obtain ⟨va2, vc2, rfl⟩ := s21.len
  obtain ⟨va3, vc3, rfl⟩ := p.l.sl.len
  have hl2 : (xs.map (Value.int .i64)).length = xs.length := by simp
  simp (disch := omega) only [dm_t, wA, wB, wL, wW, wY, Int.fdiv_eq_ediv_of_nonneg, Int.tdiv_eq_ediv_of_nonneg, Int.tmod_eq_emod_of_nonneg, chk_pos, decT, decF, br_pos, br_neg, wX, ↓reduceIte, Nat.reduceEqDiff, Nat.reduceAdd, Nat.reduceSub, Nat.reduceMul, Nat.reduceLeDiff, Nat.reduceLT, Nat.reduceMod, Nat.reduceDiv, Int.reduceToNat, Nat.min_eq_left, IntKind.bits, Int.reducePow, Int.reduceLT, Int.reduceLE, Int.reduceEq, Int.reduceNe, Int.reduceAdd, Int.reduceSub, and_self, reduceCtorEq, decide_eq_true_eq, decide_eq_false_iff_not, eq_self, implies_true, exists_const, Option.isNone_some, Option.isNone_none, Option.isSome_some, Option.isSome_none, Option.getD_some, cellAt_of p.q3, cellAt_of p.q5, cellAt_of p.q6, cellAt_of q20, cellAt_of q21, hlen, hl2]
  refine (len_ok ra).k ?_
  rintro _ _ ⟨rfl, rfl⟩
  simp (disch := omega) only [dm_t, wA, wB, wL, wW, wY, Int.fdiv_eq_ediv_of_nonneg, Int.tdiv_eq_ediv_of_nonneg, Int.tmod_eq_emod_of_nonneg, chk_pos, decT, decF, br_pos, br_neg, wX, ↓reduceIte, Nat.reduceEqDiff, Nat.reduceAdd, Nat.reduceSub, Nat.reduceMul, Nat.reduceLeDiff, Nat.reduceLT, Nat.reduceMod, Nat.reduceDiv, Int.reduceToNat, Nat.min_eq_left, IntKind.bits, Int.reducePow, Int.reduceLT, Int.reduceLE, Int.reduceEq, Int.reduceNe, Int.reduceAdd, Int.reduceSub, and_self, reduceCtorEq, decide_eq_true_eq, decide_eq_false_iff_not, eq_self, implies_true, exists_const, Option.isNone_some, Option.isNone_none, Option.isSome_some, Option.isSome_none, Option.getD_some, cellAt_of p.q3, cellAt_of p.q5, cellAt_of p.q6, cellAt_of q20, cellAt_of q21, hlen, hl2, k23]

abbrev QQ (ba la bb lb : Nat) : Nat → Prop := fun x => (x = ba ∨ x = la) ∨ (x = bb ∨ x = lb)
theorem parts_s21 {h g : H} {c2 c3 c5 c6 c9 ba la bb lb fa fb : Nat} {lv z both : Value} {xs : List Int} {N M : Nat} (p : PB h g c2 c3 c5 c6 c9 ba la bb lb lv (xs.map (.int .i64)) N M) (hNM : N + M ≤ xs.length) (hx : xs.length ≤ 200)
    (ra : Ring g ba la 256 fa ((xs.map (.int .i64)).drop (N + M))) (rb : Ring g bb lb 256 fb ((xs.map (.int .i64)).drop (N + M))) (sz : Sl g z ((xs.map (.int .i64)).take (N + M))) (sb : Sl g both ((xs.map (.int .i64)).take (N + M))) :
    vc Try.prog c4_s21 (fin h) [(2, pv c2), (3, pv c3), (5, pv c5), (6, pv c6), (7, pv ba), (9, pv c9), (17, z), (19, both)] g := by
  have hxc : ((xs.map (Value.int .i64)).drop (N + M)).all isCell = true := cells_drop (cells_ints _ _) _
  have key : ∀ (G : H) (c20 c21 lcc : Nat) (vl vs va : Value), Ext g G → G c20 = some (.cells #[vl] 23) → G c21 = some (.cells #[vs] 23) → Sl G vl ((xs.map (.int .i64)).drop (N + M)) → Sl G vs ((xs.map (.int .i64)).drop (N + M)) → G lcc = some (.cells #[va] 23) → Sl G va ((xs.map (.int .i64)).drop (N + M)) →
      vc Try.prog c4_s22 (fin h) [(2, pv c2), (3, pv c3), (5, pv c5), (6, pv c6), (7, pv ba), (9, pv c9), (17, z), (19, both), (20, pv c20), (21, pv c21), (22, .func (.func 33) #[] #[pv lcc])] G :=
    fun G c20 c21 lcc vl vs va e q20 q21 s20 s21 qa sa => parts_s22 (p.ext e) hNM hx (ra.ext e) (rb.ext e) q20 q21 s20 s21 qa sa (sz.ext e) (sb.ext e)
  have hns : ∀ x ∈ (xs.map (Value.int .i64)).drop (N + M), x ≠ .slice none 0 0 := by
    intro x hx
    obtain ⟨n, _, rfl⟩ := List.mem_map.1 (List.mem_of_mem_drop hx)
    simp
  have q9 := p.q9
  have E := Ext.refl g
  simp (disch := omega) only [dm_t, wA, wB, wL, wW, wY, Int.fdiv_eq_ediv_of_nonneg, Int.tdiv_eq_ediv_of_nonneg, Int.tmod_eq_emod_of_nonneg, chk_pos, decT, decF, br_pos, br_neg, wX, ↓reduceIte, Nat.reduceEqDiff, Nat.reduceAdd, Nat.reduceSub, Nat.reduceMul, Nat.reduceLeDiff, Nat.reduceLT, Nat.reduceMod, Nat.reduceDiv, Int.reduceToNat, Nat.min_eq_left, IntKind.bits, Int.reducePow, Int.reduceLT, Int.reduceLE, Int.reduceEq, Int.reduceNe, Int.reduceAdd, Int.reduceSub, and_self, reduceCtorEq, decide_eq_true_eq, decide_eq_false_iff_not, eq_self, implies_true, exists_const, Option.isNone_some, Option.isNone_none, Option.isSome_some, Option.isSome_none, Option.getD_some, cellAt_of q9]
  clear p sz sb
  repeat' (first
    | refine ⟨?_, ?_⟩
    | (refine (list_ok' ra hxc).k ?_
       rintro w1 g' ⟨i1, e'⟩
       replace E := E.trans e'
       replace q9 := e'.at q9
       replace ra := ra.ext e'
       replace rb := rb.ext e'
       (try replace i1 := i1.ext e')
       (try replace i2 := i2.ext e')
       (try replace i3 := i3.ext e')
       (try replace qc := e'.at qc)
       (try replace qn1 := e'.at qn1)
       (try replace qn2 := e'.at qn2)
       simp (disch := omega) only [dm_t, wV, wB, wL, wW, wU, Int.fdiv_eq_ediv_of_nonneg, Int.tdiv_eq_ediv_of_nonneg, Int.tmod_eq_emod_of_nonneg, chk_pos, decT, decF, br_pos, br_neg, wX, ↓reduceIte, Nat.reduceEqDiff, Nat.reduceAdd, Nat.reduceSub, Nat.reduceMul, Nat.reduceLeDiff, Nat.reduceLT, Nat.reduceMod, Nat.reduceDiv, Int.reduceToNat, Nat.min_eq_left, IntKind.bits, Int.reducePow, Int.reduceLT, Int.reduceLE, Int.reduceEq, Int.reduceNe, Int.reduceAdd, Int.reduceSub, and_self, reduceCtorEq, decide_eq_true_eq, decide_eq_false_iff_not, eq_self, implies_true, exists_const, Option.isNone_some, Option.isNone_none, Option.isSome_some, Option.isSome_none, Option.getD_some, cellAt_of q9])
    | (refine (list_ok' rb hxc).k ?_
       rintro w2 g' ⟨i2, e'⟩
       replace E := E.trans e'
       replace q9 := e'.at q9
       replace ra := ra.ext e'
       replace rb := rb.ext e'
       (try replace i1 := i1.ext e')
       (try replace i2 := i2.ext e')
       (try replace i3 := i3.ext e')
       (try replace qc := e'.at qc)
       (try replace qn1 := e'.at qn1)
       (try replace qn2 := e'.at qn2)
       simp (disch := omega) only [dm_t, wV, wB, wL, wW, wU, Int.fdiv_eq_ediv_of_nonneg, Int.tdiv_eq_ediv_of_nonneg, Int.tmod_eq_emod_of_nonneg, chk_pos, decT, decF, br_pos, br_neg, wX, ↓reduceIte, Nat.reduceEqDiff, Nat.reduceAdd, Nat.reduceSub, Nat.reduceMul, Nat.reduceLeDiff, Nat.reduceLT, Nat.reduceMod, Nat.reduceDiv, Int.reduceToNat, Nat.min_eq_left, IntKind.bits, Int.reducePow, Int.reduceLT, Int.reduceLE, Int.reduceEq, Int.reduceNe, Int.reduceAdd, Int.reduceSub, and_self, reduceCtorEq, decide_eq_true_eq, decide_eq_false_iff_not, eq_self, implies_true, exists_const, Option.isNone_some, Option.isNone_none, Option.isSome_some, Option.isSome_none, Option.getD_some, cellAt_of q9])
    | (refine (all_ok' ra hxc).k ?_
       rintro _ g' ⟨⟨lcc, va, rfl, qc, i3, hz⟩, e'⟩
       ((try have mm := ne_of qn1 hz); (try have mm := ne_of qn2 hz); clear hz)
       replace E := E.trans e'
       replace q9 := e'.at q9
       replace ra := ra.ext e'
       replace rb := rb.ext e'
       (try replace i1 := i1.ext e')
       (try replace i2 := i2.ext e')
       (try replace i3 := i3.ext e')
       (try replace qc := e'.at qc)
       (try replace qn1 := e'.at qn1)
       (try replace qn2 := e'.at qn2)
       simp (disch := omega) only [dm_t, wV, wB, wL, wW, wU, Int.fdiv_eq_ediv_of_nonneg, Int.tdiv_eq_ediv_of_nonneg, Int.tmod_eq_emod_of_nonneg, chk_pos, decT, decF, br_pos, br_neg, wX, ↓reduceIte, Nat.reduceEqDiff, Nat.reduceAdd, Nat.reduceSub, Nat.reduceMul, Nat.reduceLeDiff, Nat.reduceLT, Nat.reduceMod, Nat.reduceDiv, Int.reduceToNat, Nat.min_eq_left, IntKind.bits, Int.reducePow, Int.reduceLT, Int.reduceLE, Int.reduceEq, Int.reduceNe, Int.reduceAdd, Int.reduceSub, and_self, reduceCtorEq, decide_eq_true_eq, decide_eq_false_iff_not, eq_self, implies_true, exists_const, Option.isNone_some, Option.isNone_none, Option.isSome_some, Option.isSome_none, Option.getD_some, cellAt_of q9])
    | (intro a ha
       have hnone := E.bk ha
       (try have mm := ne_of qn1 ha)
       have mm := ne_of q9 ha
       (try have mm := ne_of qc ha)
       generalize hG : hupd _ a _ = G
       obtain ⟨e', qa⟩ := new_ext hG ha
       clear hG ha
       replace E := E.trans e'
       replace q9 := e'.at q9
       replace ra := ra.ext e'
       replace rb := rb.ext e'
       (try replace i1 := i1.ext e')
       (try replace i2 := i2.ext e')
       (try replace i3 := i3.ext e')
       (try replace qc := e'.at qc)
       (try replace qn1 := e'.at qn1)
       first
         | (have t := qn1; clear t; have qn2 := qa; have hn2 := hnone)
         | (have qn1 := qa; have hn1 := hnone)
       clear qa hnone
       simp (disch := omega) only [dm_t, wV, wB, wL, wW, wU, Int.fdiv_eq_ediv_of_nonneg, Int.tdiv_eq_ediv_of_nonneg, Int.tmod_eq_emod_of_nonneg, chk_pos, decT, decF, br_pos, br_neg, wX, ↓reduceIte, Nat.reduceEqDiff, Nat.reduceAdd, Nat.reduceSub, Nat.reduceMul, Nat.reduceLeDiff, Nat.reduceLT, Nat.reduceMod, Nat.reduceDiv, Int.reduceToNat, Nat.min_eq_left, IntKind.bits, Int.reducePow, Int.reduceLT, Int.reduceLE, Int.reduceEq, Int.reduceNe, Int.reduceAdd, Int.reduceSub, and_self, reduceCtorEq, decide_eq_true_eq, decide_eq_false_iff_not, eq_self, implies_true, exists_const, Option.isNone_some, Option.isNone_none, Option.isSome_some, Option.isSome_none, Option.getD_some, cellAt_of q9]))
  all_goals (have j1 := i1.isc; have j2 := i2.isc; simp (disch := omega) only [dm_t, wV, wB, wL, wW, wU, Int.fdiv_eq_ediv_of_nonneg, Int.tdiv_eq_ediv_of_nonneg, Int.tmod_eq_emod_of_nonneg, chk_pos, decT, decF, br_pos, br_neg, wX, ↓reduceIte, Nat.reduceEqDiff, Nat.reduceAdd, Nat.reduceSub, Nat.reduceMul, Nat.reduceLeDiff, Nat.reduceLT, Nat.reduceMod, Nat.reduceDiv, Int.reduceToNat, Nat.min_eq_left, IntKind.bits, Int.reducePow, Int.reduceLT, Int.reduceLE, Int.reduceEq, Int.reduceNe, Int.reduceAdd, Int.reduceSub, and_self, reduceCtorEq, decide_eq_true_eq, decide_eq_false_iff_not, eq_self, implies_true, exists_const, Option.isNone_some, Option.isNone_none, Option.isSome_some, Option.isSome_none, Option.getD_some, storeH_look, qn1, qn2, stO_0, hupd_same, hupd_ne, j1, j2])
  all_goals refine key _ _ _ lcc w1 w2 va ?_ ?_ ?_ ?_ ?_ ?_ ?_
  all_goals first
    | (simp (disch := omega) only [hupd_ne, hupd_same, qc]; done)
    | (refine Ext.upd (Ext.upd E ?_) ?_ <;> assumption)
    | (refine Sl.over1 (Sl.over1 (by assumption) ?_ hns) ?_ hns <;> (simp (disch := omega) only [hupd_ne, qn1, qn2]; done))

theorem parts_s16 {h g : H} {c2 c3 c5 c6 c9 ba la bb lb fa fb : Nat} {lv : Value} {xs : List Int} {N M : Nat} (p : PB h g c2 c3 c5 c6 c9 ba la bb lb lv (xs.map (.int .i64)) N M) (hNM : N + M ≤ xs.length) (hx : xs.length ≤ 200)
    (ra : Ring g ba la 256 fa (xs.map (.int .i64))) (rb : Ring g bb lb 256 fb (xs.map (.int .i64))) :
    vc Try.prog c4_s16 (fin h) [(2, pv c2), (3, pv c3), (5, pv c5), (6, pv c6), (7, pv ba), (9, pv c9)] g := by
  have hxc : (xs.map (Value.int .i64)).all isCell = true := cells_ints _ _
  have hxl : (xs.map (Value.int .i64)).length = xs.length := by simp
  simp (disch := omega) only [dm_t, wA, wB, wL, wW, wY, Int.fdiv_eq_ediv_of_nonneg, Int.tdiv_eq_ediv_of_nonneg, Int.tmod_eq_emod_of_nonneg, chk_pos, decT, decF, br_pos, br_neg, wX, ↓reduceIte, Nat.reduceEqDiff, Nat.reduceAdd, Nat.reduceSub, Nat.reduceMul, Nat.reduceLeDiff, Nat.reduceLT, Nat.reduceMod, Nat.reduceDiv, Int.reduceToNat, Nat.min_eq_left, IntKind.bits, Int.reducePow, Int.reduceLT, Int.reduceLE, Int.reduceEq, Int.reduceNe, Int.reduceAdd, Int.reduceSub, and_self, reduceCtorEq, decide_eq_true_eq, decide_eq_false_iff_not, eq_self, implies_true, exists_const, Option.isNone_some, Option.isNone_none, Option.isSome_some, Option.isSome_none, Option.getD_some, cellAt_of p.q5]
  refine (drop_ok ra N (by omega) hxc).k ?_
  rintro _ g1 ⟨x, rfl, ox, ra1, f1⟩
  have p1 := p.fr (f1.mono fun x hx => .inl hx)
  have rb1 := rb.fr f1 (fun hx => p.d _ hx (.inl rfl)) (fun hx => p.d _ hx (.inr rfl))
  have sx : SlF (QQ ba la bb lb) g1 x _ := ox.slF.sub (by
    rintro z ((rfl | rfl) | (rfl | rfl)) _
    · exact ra.there.1
    · exact ra.there.2
    · exact rb.there.1
    · exact rb.there.2)
  clear ra rb ox f1 p
  simp (disch := omega) only [dm_t, wA, wB, wL, wW, wY, Int.fdiv_eq_ediv_of_nonneg, Int.tdiv_eq_ediv_of_nonneg, Int.tmod_eq_emod_of_nonneg, chk_pos, decT, decF, br_pos, br_neg, wX, ↓reduceIte, Nat.reduceEqDiff, Nat.reduceAdd, Nat.reduceSub, Nat.reduceMul, Nat.reduceLeDiff, Nat.reduceLT, Nat.reduceMod, Nat.reduceDiv, Int.reduceToNat, Nat.min_eq_left, IntKind.bits, Int.reducePow, Int.reduceLT, Int.reduceLE, Int.reduceEq, Int.reduceNe, Int.reduceAdd, Int.reduceSub, and_self, reduceCtorEq, decide_eq_true_eq, decide_eq_false_iff_not, eq_self, implies_true, exists_const, Option.isNone_some, Option.isNone_none, Option.isSome_some, Option.isSome_none, Option.getD_some, cellAt_of p1.q6]
  refine (drop_ok ra1 M (by rw [List.length_drop]; omega) (cells_drop hxc _)).k ?_
  rintro _ g2 ⟨y, rfl, oy, ra2, f2⟩
  have p2 := p1.fr (f2.mono fun x hx => .inl hx)
  have rb2 := rb1.fr f2 (fun hx => p1.d _ hx (.inl rfl)) (fun hx => p1.d _ hx (.inr rfl))
  have sy : SlF (QQ ba la bb lb) g2 y _ := oy.slF.sub (by
    rintro z ((rfl | rfl) | (rfl | rfl)) _
    · exact ra1.there.1
    · exact ra1.there.2
    · exact rb1.there.1
    · exact rb1.there.2)
  replace sx := sx.fr (f2.mono fun x hx => .inl hx)
  rw [List.drop_drop] at ra2
  clear ra1 rb1 oy f2 p1
  simp (disch := omega) only [dm_t, wA, wB, wL, wW, wY, Int.fdiv_eq_ediv_of_nonneg, Int.tdiv_eq_ediv_of_nonneg, Int.tmod_eq_emod_of_nonneg, chk_pos, decT, decF, br_pos, br_neg, wX, ↓reduceIte, Nat.reduceEqDiff, Nat.reduceAdd, Nat.reduceSub, Nat.reduceMul, Nat.reduceLeDiff, Nat.reduceLT, Nat.reduceMod, Nat.reduceDiv, Int.reduceToNat, Nat.min_eq_left, IntKind.bits, Int.reducePow, Int.reduceLT, Int.reduceLE, Int.reduceEq, Int.reduceNe, Int.reduceAdd, Int.reduceSub, and_self, reduceCtorEq, decide_eq_true_eq, decide_eq_false_iff_not, eq_self, implies_true, exists_const, Option.isNone_some, Option.isNone_none, Option.isSome_some, Option.isSome_none, Option.getD_some, cellAt_of p2.q5, cellAt_of p2.q6, cellAt_of p2.q9]
  refine (drop_ok rb2 (N + M) (by omega) hxc).k ?_
  rintro _ g3 ⟨z, rfl, oz, rb3, f3⟩
  have p3 := p2.fr (f3.mono fun x hx => .inr hx)
  have ra3 := ra2.fr f3 (fun hx => p2.d _ (.inl rfl) hx) (fun hx => p2.d _ (.inr rfl) hx)
  replace sx := sx.fr (f3.mono fun x hx => .inr hx)
  replace sy := sy.fr (f3.mono fun x hx => .inr hx)
  have sz := oz.sl
  clear ra2 rb2 oz f3 p2
  obtain ⟨xa, xc, rfl⟩ := sx.sl.len
  obtain ⟨ya, yc, rfl⟩ := sy.sl.len
  obtain ⟨za, zc, rfl⟩ := sz.len
  have l1 : ((xs.map (Value.int .i64)).take N).length = N := by simp; omega
  have l2 : (((xs.map (Value.int .i64)).drop N).take M).length = M := by simp; omega
  have l3 : ((xs.map (Value.int .i64)).take (N + M)).length = N + M := by simp; omega
  rw [l1] at sx ⊢
  rw [l2] at sy ⊢
  rw [l3] at sz ⊢
  simp (disch := omega) only [dm_t, wA, wB, wL, wW, wY, Int.fdiv_eq_ediv_of_nonneg, Int.tdiv_eq_ediv_of_nonneg, Int.tmod_eq_emod_of_nonneg, chk_pos, decT, decF, br_pos, br_neg, wX, ↓reduceIte, Nat.reduceEqDiff, Nat.reduceAdd, Nat.reduceSub, Nat.reduceMul, Nat.reduceLeDiff, Nat.reduceLT, Nat.reduceMod, Nat.reduceDiv, Int.reduceToNat, Nat.min_eq_left, IntKind.bits, Int.reducePow, Int.reduceLT, Int.reduceLE, Int.reduceEq, Int.reduceNe, Int.reduceAdd, Int.reduceSub, and_self, reduceCtorEq, decide_eq_true_eq, decide_eq_false_iff_not, eq_self, implies_true, exists_const, Option.isNone_some, Option.isNone_none, Option.isSome_some, Option.isSome_none, Option.getD_some, cellAt_of p3.q5, cellAt_of p3.q6]
  refine (num_ok _ _).k ?_
  rintro _ _ ⟨rfl, rfl⟩
  simp (disch := omega) only [dm_t, wA, wB, wL, wW, wY, Int.fdiv_eq_ediv_of_nonneg, Int.tdiv_eq_ediv_of_nonneg, Int.tmod_eq_emod_of_nonneg, chk_pos, decT, decF, br_pos, br_neg, wX, ↓reduceIte, Nat.reduceEqDiff, Nat.reduceAdd, Nat.reduceSub, Nat.reduceMul, Nat.reduceLeDiff, Nat.reduceLT, Nat.reduceMod, Nat.reduceDiv, Int.reduceToNat, Nat.min_eq_left, IntKind.bits, Int.reducePow, Int.reduceLT, Int.reduceLE, Int.reduceEq, Int.reduceNe, Int.reduceAdd, Int.reduceSub, and_self, reduceCtorEq, decide_eq_true_eq, decide_eq_false_iff_not, eq_self, implies_true, exists_const, Option.isNone_some, Option.isNone_none, Option.isSome_some, Option.isSome_none, Option.getD_some]
  refine (num_ok _ _).k ?_
  rintro _ _ ⟨rfl, rfl⟩
  simp (disch := omega) only [dm_t, wA, wB, wL, wW, wY, Int.fdiv_eq_ediv_of_nonneg, Int.tdiv_eq_ediv_of_nonneg, Int.tmod_eq_emod_of_nonneg, chk_pos, decT, decF, br_pos, br_neg, wX, ↓reduceIte, Nat.reduceEqDiff, Nat.reduceAdd, Nat.reduceSub, Nat.reduceMul, Nat.reduceLeDiff, Nat.reduceLT, Nat.reduceMod, Nat.reduceDiv, Int.reduceToNat, Nat.min_eq_left, IntKind.bits, Int.reducePow, Int.reduceLT, Int.reduceLE, Int.reduceEq, Int.reduceNe, Int.reduceAdd, Int.reduceSub, and_self, reduceCtorEq, decide_eq_true_eq, decide_eq_false_iff_not, eq_self, implies_true, exists_const, Option.isNone_some, Option.isNone_none, Option.isSome_some, Option.isSome_none, Option.getD_some]
  refine (num_ok _ _).k ?_
  rintro _ _ ⟨rfl, rfl⟩
  simp (disch := omega) only [dm_t, wA, wB, wL, wW, wY, Int.fdiv_eq_ediv_of_nonneg, Int.tdiv_eq_ediv_of_nonneg, Int.tmod_eq_emod_of_nonneg, chk_pos, decT, decF, br_pos, br_neg, wX, ↓reduceIte, Nat.reduceEqDiff, Nat.reduceAdd, Nat.reduceSub, Nat.reduceMul, Nat.reduceLeDiff, Nat.reduceLT, Nat.reduceMod, Nat.reduceDiv, Int.reduceToNat, Nat.min_eq_left, IntKind.bits, Int.reducePow, Int.reduceLT, Int.reduceLE, Int.reduceEq, Int.reduceNe, Int.reduceAdd, Int.reduceSub, and_self, reduceCtorEq, decide_eq_true_eq, decide_eq_false_iff_not, eq_self, implies_true, exists_const, Option.isNone_some, Option.isNone_none, Option.isSome_some, Option.isSome_none, Option.getD_some, cellAt_of p3.q5, cellAt_of p3.q6]
  intro b1 hb1
  have o1 : O1 (fun y => g3 y = none) (hupd g3 b1 (.cells #[] 3)) 3 (.slice (some ⟨b1, 0, none⟩) 0 0) [] := olit1 (xs := []) rfl hb1
  have e1 := Ext.new hb1 (.cells #[] 3)
  refine app1 o1 (fun y hy => e1.bk hy) (sx.sl.ext e1).to1 (cells_take hxc _) (by rw [l1]; simp; omega) (by rw [l1]; simp; omega) ?_
  intro v1 g4 o4 f4
  have e4 : Ext g3 g4 := Ext.step e1 f4
  simp (disch := omega) only [dm_t, wA, wB, wL, wW, wY, Int.fdiv_eq_ediv_of_nonneg, Int.tdiv_eq_ediv_of_nonneg, Int.tmod_eq_emod_of_nonneg, chk_pos, decT, decF, br_pos, br_neg, wX, ↓reduceIte, Nat.reduceEqDiff, Nat.reduceAdd, Nat.reduceSub, Nat.reduceMul, Nat.reduceLeDiff, Nat.reduceLT, Nat.reduceMod, Nat.reduceDiv, Int.reduceToNat, Nat.min_eq_left, IntKind.bits, Int.reducePow, Int.reduceLT, Int.reduceLE, Int.reduceEq, Int.reduceNe, Int.reduceAdd, Int.reduceSub, and_self, reduceCtorEq, decide_eq_true_eq, decide_eq_false_iff_not, eq_self, implies_true, exists_const, Option.isNone_some, Option.isNone_none, Option.isSome_some, Option.isSome_none, Option.getD_some]
  refine app1 o4 (fun y hy => e4.bk hy) (sy.sl.ext e4).to1 (cells_take (cells_drop hxc _) _) (by rw [List.length_append, l1, l2]; simp; omega) (by rw [List.length_append, l1, l2]; simp; omega) ?_
  intro v2 g5 o5 f5
  have e5 : Ext g3 g5 := Ext.step e4 f5
  have hsp : [] ++ (xs.map (Value.int .i64)).take N ++ ((xs.map (Value.int .i64)).drop N).take M = (xs.map (Value.int .i64)).take (N + M) := by
    rw [List.nil_append, List.take_add]
  rw [hsp] at o5
  have k21 := parts_s21 (p3.ext e5) hNM hx (ra3.ext e5) (rb3.ext e5) (sz.ext e5) o5.s0.to1
  simp (disch := omega) only [dm_t, wA, wB, wL, wW, wY, Int.fdiv_eq_ediv_of_nonneg, Int.tdiv_eq_ediv_of_nonneg, Int.tmod_eq_emod_of_nonneg, chk_pos, decT, decF, br_pos, br_neg, wX, ↓reduceIte, Nat.reduceEqDiff, Nat.reduceAdd, Nat.reduceSub, Nat.reduceMul, Nat.reduceLeDiff, Nat.reduceLT, Nat.reduceMod, Nat.reduceDiv, Int.reduceToNat, Nat.min_eq_left, IntKind.bits, Int.reducePow, Int.reduceLT, Int.reduceLE, Int.reduceEq, Int.reduceNe, Int.reduceAdd, Int.reduceSub, and_self, reduceCtorEq, decide_eq_true_eq, decide_eq_false_iff_not, eq_self, implies_true, exists_const, Option.isNone_some, Option.isNone_none, Option.isSome_some, Option.isSome_none, Option.getD_some, k21]
theorem parts_s11 {h g : H} {c2 c3 c5 c6 c9 ba la bb lb fa : Nat} {lv : Value} {xs : List Int} {N M : Nat} (p : PB h g c2 c3 c5 c6 c9 ba la bb lb lv (xs.map (.int .i64)) N M) (hNM : N + M ≤ xs.length) (hx : xs.length ≤ 200)
    (ra : Ring g ba la 256 fa []) (rb : Ring g bb lb 256 0 []) :
    vc Try.prog c4_s11 (fin h) [(2, pv c2), (3, pv c3), (5, pv c5), (6, pv c6), (7, pv ba), (9, pv c9)] g := by
  have hxl : (xs.map (Value.int .i64)).length = xs.length := by simp
  simp (disch := omega) only [dm_t, wA, wB, wL, wW, wY, Int.fdiv_eq_ediv_of_nonneg, Int.tdiv_eq_ediv_of_nonneg, Int.tmod_eq_emod_of_nonneg, chk_pos, decT, decF, br_pos, br_neg, wX, ↓reduceIte, Nat.reduceEqDiff, Nat.reduceAdd, Nat.reduceSub, Nat.reduceMul, Nat.reduceLeDiff, Nat.reduceLT, Nat.reduceMod, Nat.reduceDiv, Int.reduceToNat, Nat.min_eq_left, IntKind.bits, Int.reducePow, Int.reduceLT, Int.reduceLE, Int.reduceEq, Int.reduceNe, Int.reduceAdd, Int.reduceSub, and_self, reduceCtorEq, decide_eq_true_eq, decide_eq_false_iff_not, eq_self, implies_true, exists_const, Option.isNone_some, Option.isNone_none, Option.isSome_some, Option.isSome_none, Option.getD_some, cellAt_of p.q3]
  refine (put_ok ra (ys := xs.map (.int .i64)) (p.l.sub fun x hx _ => .inl hx) (by simp; omega) (cells_ints _ _)).k ?_
  rintro _ g1 ⟨rfl, ra1, f1⟩
  have p1 := p.fr (f1.mono fun x hx => .inl hx)
  have rb1 := rb.fr f1 (fun hx => p.d _ hx (.inl rfl)) (fun hx => p.d _ hx (.inr rfl))
  rw [List.nil_append] at ra1
  clear p ra rb f1
  simp (disch := omega) only [dm_t, wA, wB, wL, wW, wY, Int.fdiv_eq_ediv_of_nonneg, Int.tdiv_eq_ediv_of_nonneg, Int.tmod_eq_emod_of_nonneg, chk_pos, decT, decF, br_pos, br_neg, wX, ↓reduceIte, Nat.reduceEqDiff, Nat.reduceAdd, Nat.reduceSub, Nat.reduceMul, Nat.reduceLeDiff, Nat.reduceLT, Nat.reduceMod, Nat.reduceDiv, Int.reduceToNat, Nat.min_eq_left, IntKind.bits, Int.reducePow, Int.reduceLT, Int.reduceLE, Int.reduceEq, Int.reduceNe, Int.reduceAdd, Int.reduceSub, and_self, reduceCtorEq, decide_eq_true_eq, decide_eq_false_iff_not, eq_self, implies_true, exists_const, Option.isNone_some, Option.isNone_none, Option.isSome_some, Option.isSome_none, Option.getD_some]
  refine (num_ok _ _).k ?_
  rintro _ _ ⟨rfl, rfl⟩
  simp (disch := omega) only [dm_t, wA, wB, wL, wW, wY, Int.fdiv_eq_ediv_of_nonneg, Int.tdiv_eq_ediv_of_nonneg, Int.tmod_eq_emod_of_nonneg, chk_pos, decT, decF, br_pos, br_neg, wX, ↓reduceIte, Nat.reduceEqDiff, Nat.reduceAdd, Nat.reduceSub, Nat.reduceMul, Nat.reduceLeDiff, Nat.reduceLT, Nat.reduceMod, Nat.reduceDiv, Int.reduceToNat, Nat.min_eq_left, IntKind.bits, Int.reducePow, Int.reduceLT, Int.reduceLE, Int.reduceEq, Int.reduceNe, Int.reduceAdd, Int.reduceSub, and_self, reduceCtorEq, decide_eq_true_eq, decide_eq_false_iff_not, eq_self, implies_true, exists_const, Option.isNone_some, Option.isNone_none, Option.isSome_some, Option.isSome_none, Option.getD_some]
  refine vc_loop1 (fun vi h' => ∃ i : Nat, vi = .int .i64 (i : Int) ∧ i ≤ xs.length ∧ Ring h' bb lb 256 0 ((xs.map (.int .i64)).take i) ∧ Fr (fun x => x = bb ∨ x = lb) g1 h') (fun vi _ => xs.length - m1 vi) ?_ ?_
  · simp (disch := omega) only [dm_t, wA, wB, wL, wW, wY, Int.fdiv_eq_ediv_of_nonneg, Int.tdiv_eq_ediv_of_nonneg, Int.tmod_eq_emod_of_nonneg, chk_pos, decT, decF, br_pos, br_neg, wX, ↓reduceIte, Nat.reduceEqDiff, Nat.reduceAdd, Nat.reduceSub, Nat.reduceMul, Nat.reduceLeDiff, Nat.reduceLT, Nat.reduceMod, Nat.reduceDiv, Int.reduceToNat, Nat.min_eq_left, IntKind.bits, Int.reducePow, Int.reduceLT, Int.reduceLE, Int.reduceEq, Int.reduceNe, Int.reduceAdd, Int.reduceSub, and_self, reduceCtorEq, decide_eq_true_eq, decide_eq_false_iff_not, eq_self, implies_true, exists_const, Option.isNone_some, Option.isNone_none, Option.isSome_some, Option.isSome_none, Option.getD_some]
    exact ⟨0, rfl, by omega, by simpa using rb1, Fr.refl _ _⟩
  rintro _ h3 ⟨i, rfl, hi, r3, f3⟩
  have p3 := p1.fr (f3.mono fun x hx => .inr hx)
  obtain ⟨va3, vc3, hlv⟩ := p3.l.sl.len
  subst hlv
  rw [hxl] at p3 p1
  by_cases hil : i < xs.length
  · obtain ⟨pp, g1', g2'⟩ := p3.l.sl.load (k := i) (by simpa using hil) .i64
    rw [List.getElem_map] at g2'
    have hsp : (xs.map (Value.int .i64)).take (i + 1) = (xs.map (Value.int .i64)).take i ++ [.int .i64 xs[i]] := by
      rw [List.take_succ_eq_append_getElem (by simpa using hil)]; simp
    have hti : ((xs.map (Value.int .i64)).take i).length = i := by simp; omega
    simp (disch := omega) only [dm_t, wA, wB, wL, wW, wY, Int.fdiv_eq_ediv_of_nonneg, Int.tdiv_eq_ediv_of_nonneg, Int.tmod_eq_emod_of_nonneg, chk_pos, decT, decF, br_pos, br_neg, wX, ↓reduceIte, Nat.reduceEqDiff, Nat.reduceAdd, Nat.reduceSub, Nat.reduceMul, Nat.reduceLeDiff, Nat.reduceLT, Nat.reduceMod, Nat.reduceDiv, Int.reduceToNat, Nat.min_eq_left, IntKind.bits, Int.reducePow, Int.reduceLT, Int.reduceLE, Int.reduceEq, Int.reduceNe, Int.reduceAdd, Int.reduceSub, and_self, reduceCtorEq, decide_eq_true_eq, decide_eq_false_iff_not, eq_self, implies_true, exists_const, Option.isNone_some, Option.isNone_none, Option.isSome_some, Option.isSome_none, Option.getD_some, cellAt_of p3.q3, cellAt_of p3.q9, g1', g2']
    intro y hy
    have ey := Ext.new hy (.cells #[.int .i64 xs[i]] 3)
    have ry := r3.ext ey
    have p4 := p3.ext ey
    have ny1 := ne_of r3.obj hy
    have ny2 := ne_of r3.arr.choose_spec.1 hy
    simp (disch := omega) only [dm_t, wA, wB, wL, wW, wY, Int.fdiv_eq_ediv_of_nonneg, Int.tdiv_eq_ediv_of_nonneg, Int.tmod_eq_emod_of_nonneg, chk_pos, decT, decF, br_pos, br_neg, wX, ↓reduceIte, Nat.reduceEqDiff, Nat.reduceAdd, Nat.reduceSub, Nat.reduceMul, Nat.reduceLeDiff, Nat.reduceLT, Nat.reduceMod, Nat.reduceDiv, Int.reduceToNat, Nat.min_eq_left, IntKind.bits, Int.reducePow, Int.reduceLT, Int.reduceLE, Int.reduceEq, Int.reduceNe, Int.reduceAdd, Int.reduceSub, and_self, reduceCtorEq, decide_eq_true_eq, decide_eq_false_iff_not, eq_self, implies_true, exists_const, Option.isNone_some, Option.isNone_none, Option.isSome_some, Option.isSome_none, Option.getD_some, cellAt_of p4.q3, cellAt_of p4.q9]
    refine (put_ok ry (ys := [.int .i64 xs[i]]) (SlF.lit rfl (by rintro (h | h) <;> omega)) (by rw [hti]; simp; omega) rfl).k ?_
    rintro _ h4 ⟨rfl, r4, f4⟩
    simp (disch := omega) only [dm_t, wA, wB, wL, wW, wY, Int.fdiv_eq_ediv_of_nonneg, Int.tdiv_eq_ediv_of_nonneg, Int.tmod_eq_emod_of_nonneg, chk_pos, decT, decF, br_pos, br_neg, wX, ↓reduceIte, Nat.reduceEqDiff, Nat.reduceAdd, Nat.reduceSub, Nat.reduceMul, Nat.reduceLeDiff, Nat.reduceLT, Nat.reduceMod, Nat.reduceDiv, Int.reduceToNat, Nat.min_eq_left, IntKind.bits, Int.reducePow, Int.reduceLT, Int.reduceLE, Int.reduceEq, Int.reduceNe, Int.reduceAdd, Int.reduceSub, and_self, reduceCtorEq, decide_eq_true_eq, decide_eq_false_iff_not, eq_self, implies_true, exists_const, Option.isNone_some, Option.isNone_none, Option.isSome_some, Option.isSome_none, Option.getD_some]
    refine (num_ok _ _).k ?_
    rintro _ _ ⟨rfl, rfl⟩
    simp (disch := omega) only [dm_t, wA, wB, wL, wW, wY, Int.fdiv_eq_ediv_of_nonneg, Int.tdiv_eq_ediv_of_nonneg, Int.tmod_eq_emod_of_nonneg, chk_pos, decT, decF, br_pos, br_neg, wX, ↓reduceIte, Nat.reduceEqDiff, Nat.reduceAdd, Nat.reduceSub, Nat.reduceMul, Nat.reduceLeDiff, Nat.reduceLT, Nat.reduceMod, Nat.reduceDiv, Int.reduceToNat, Nat.min_eq_left, IntKind.bits, Int.reducePow, Int.reduceLT, Int.reduceLE, Int.reduceEq, Int.reduceNe, Int.reduceAdd, Int.reduceSub, and_self, reduceCtorEq, decide_eq_true_eq, decide_eq_false_iff_not, eq_self, implies_true, exists_const, Option.isNone_some, Option.isNone_none, Option.isSome_some, Option.isSome_none, Option.getD_some]
    exact ⟨⟨i + 1, by simp, by omega, by rw [hsp]; exact r4, f3.trans ((Fr.new hy _).trans f4)⟩, by simp [m1]; omega⟩
  · obtain rfl : i = xs.length := by omega
    rw [List.take_of_length_le (by simp)] at r3
    have ra3 := ra1.fr f3 (fun hx => p1.d _ (.inl rfl) hx) (fun hx => p1.d _ (.inr rfl) hx)
    have k16 := parts_s16 p3 hNM hx ra3 r3
    simp (disch := omega) only [dm_t, wA, wB, wL, wW, wY, Int.fdiv_eq_ediv_of_nonneg, Int.tdiv_eq_ediv_of_nonneg, Int.tmod_eq_emod_of_nonneg, chk_pos, decT, decF, br_pos, br_neg, wX, ↓reduceIte, Nat.reduceEqDiff, Nat.reduceAdd, Nat.reduceSub, Nat.reduceMul, Nat.reduceLeDiff, Nat.reduceLT, Nat.reduceMod, Nat.reduceDiv, Int.reduceToNat, Nat.min_eq_left, IntKind.bits, Int.reducePow, Int.reduceLT, Int.reduceLE, Int.reduceEq, Int.reduceNe, Int.reduceAdd, Int.reduceSub, and_self, reduceCtorEq, decide_eq_true_eq, decide_eq_false_iff_not, eq_self, implies_true, exists_const, Option.isNone_some, Option.isNone_none, Option.isSome_some, Option.isSome_none, Option.getD_some, cellAt_of p3.q3, k16]
theorem parts_s5 {h g : H} {c2 c3 c5 c6 c9 ba la bb lb : Nat} {lv : Value} {xs : List Int} {N M A : Nat} (p : PB h g c2 c3 c5 c6 c9 ba la bb lb lv (xs.map (.int .i64)) N M) (hNM : N + M ≤ xs.length) (hx : xs.length ≤ 200) (hA : A ≤ 50)
    (ra : Ring g ba la 256 0 []) (rb : Ring g bb lb 256 0 []) :
    vc Try.prog c4_s5 (fin h) [(2, pv c2), (3, pv c3), (4, .int .i64 (A : Int)), (5, pv c5), (6, pv c6), (7, pv ba), (9, pv c9)] g := by
  simp (disch := omega) only [dm_t, wA, wB, wL, wW, wY, Int.fdiv_eq_ediv_of_nonneg, Int.tdiv_eq_ediv_of_nonneg, Int.tmod_eq_emod_of_nonneg, chk_pos, decT, decF, br_pos, br_neg, wX, ↓reduceIte, Nat.reduceEqDiff, Nat.reduceAdd, Nat.reduceSub, Nat.reduceMul, Nat.reduceLeDiff, Nat.reduceLT, Nat.reduceMod, Nat.reduceDiv, Int.reduceToNat, Nat.min_eq_left, IntKind.bits, Int.reducePow, Int.reduceLT, Int.reduceLE, Int.reduceEq, Int.reduceNe, Int.reduceAdd, Int.reduceSub, and_self, reduceCtorEq, decide_eq_true_eq, decide_eq_false_iff_not, eq_self, implies_true, exists_const, Option.isNone_some, Option.isNone_none, Option.isSome_some, Option.isSome_none, Option.getD_some]
  refine vc_loop1 (fun vi h' => ∃ i f : Nat, vi = .int .i64 (i : Int) ∧ i ≤ A ∧ Ring h' ba la 256 f [] ∧ Fr (fun x => x = ba ∨ x = la) g h') (fun vi _ => A - m1 vi) ?_ ?_
  · simp (disch := omega) only [dm_t, wA, wB, wL, wW, wY, Int.fdiv_eq_ediv_of_nonneg, Int.tdiv_eq_ediv_of_nonneg, Int.tmod_eq_emod_of_nonneg, chk_pos, decT, decF, br_pos, br_neg, wX, ↓reduceIte, Nat.reduceEqDiff, Nat.reduceAdd, Nat.reduceSub, Nat.reduceMul, Nat.reduceLeDiff, Nat.reduceLT, Nat.reduceMod, Nat.reduceDiv, Int.reduceToNat, Nat.min_eq_left, IntKind.bits, Int.reducePow, Int.reduceLT, Int.reduceLE, Int.reduceEq, Int.reduceNe, Int.reduceAdd, Int.reduceSub, and_self, reduceCtorEq, decide_eq_true_eq, decide_eq_false_iff_not, eq_self, implies_true, exists_const, Option.isNone_some, Option.isNone_none, Option.isSome_some, Option.isSome_none, Option.getD_some]
    exact ⟨0, 0, rfl, by omega, ra, Fr.refl _ _⟩
  rintro _ h1 ⟨i, f, rfl, hi, r1, f1⟩
  by_cases hiA : i < A
  · simp (disch := omega) only [dm_t, wA, wB, wL, wW, wY, Int.fdiv_eq_ediv_of_nonneg, Int.tdiv_eq_ediv_of_nonneg, Int.tmod_eq_emod_of_nonneg, chk_pos, decT, decF, br_pos, br_neg, wX, ↓reduceIte, Nat.reduceEqDiff, Nat.reduceAdd, Nat.reduceSub, Nat.reduceMul, Nat.reduceLeDiff, Nat.reduceLT, Nat.reduceMod, Nat.reduceDiv, Int.reduceToNat, Nat.min_eq_left, IntKind.bits, Int.reducePow, Int.reduceLT, Int.reduceLE, Int.reduceEq, Int.reduceNe, Int.reduceAdd, Int.reduceSub, and_self, reduceCtorEq, decide_eq_true_eq, decide_eq_false_iff_not, eq_self, implies_true, exists_const, Option.isNone_some, Option.isNone_none, Option.isSome_some, Option.isSome_none, Option.getD_some]
    intro y hy
    have ry := r1.ext (Ext.new hy (.cells #[.int .i64 (i : Int), .int .i64 (i : Int), .int .i64 (i : Int), .int .i64 (i : Int), .int .i64 (i : Int)] 3))
    have ny1 := ne_of r1.obj hy
    have ny2 := ne_of r1.arr.choose_spec.1 hy
    refine (put_ok ry (ys := [.int .i64 (i : Int), .int .i64 (i : Int), .int .i64 (i : Int), .int .i64 (i : Int), .int .i64 (i : Int)]) (SlF.lit rfl (by rintro (h | h) <;> omega)) (by simp) rfl).k ?_
    rintro _ h2 ⟨rfl, r2, f2⟩
    simp (disch := omega) only [dm_t, wA, wB, wL, wW, wY, Int.fdiv_eq_ediv_of_nonneg, Int.tdiv_eq_ediv_of_nonneg, Int.tmod_eq_emod_of_nonneg, chk_pos, decT, decF, br_pos, br_neg, wX, ↓reduceIte, Nat.reduceEqDiff, Nat.reduceAdd, Nat.reduceSub, Nat.reduceMul, Nat.reduceLeDiff, Nat.reduceLT, Nat.reduceMod, Nat.reduceDiv, Int.reduceToNat, Nat.min_eq_left, IntKind.bits, Int.reducePow, Int.reduceLT, Int.reduceLE, Int.reduceEq, Int.reduceNe, Int.reduceAdd, Int.reduceSub, and_self, reduceCtorEq, decide_eq_true_eq, decide_eq_false_iff_not, eq_self, implies_true, exists_const, Option.isNone_some, Option.isNone_none, Option.isSome_some, Option.isSome_none, Option.getD_some]
    refine (num_ok _ _).k ?_
    rintro _ _ ⟨rfl, rfl⟩
    simp (disch := omega) only [dm_t, wA, wB, wL, wW, wY, Int.fdiv_eq_ediv_of_nonneg, Int.tdiv_eq_ediv_of_nonneg, Int.tmod_eq_emod_of_nonneg, chk_pos, decT, decF, br_pos, br_neg, wX, ↓reduceIte, Nat.reduceEqDiff, Nat.reduceAdd, Nat.reduceSub, Nat.reduceMul, Nat.reduceLeDiff, Nat.reduceLT, Nat.reduceMod, Nat.reduceDiv, Int.reduceToNat, Nat.min_eq_left, IntKind.bits, Int.reducePow, Int.reduceLT, Int.reduceLE, Int.reduceEq, Int.reduceNe, Int.reduceAdd, Int.reduceSub, and_self, reduceCtorEq, decide_eq_true_eq, decide_eq_false_iff_not, eq_self, implies_true, exists_const, Option.isNone_some, Option.isNone_none, Option.isSome_some, Option.isSome_none, Option.getD_some]
    refine (drop_ok r2 5 (by simp) rfl).k ?_
    rintro _ h3 ⟨t, rfl, o3, r3, f3⟩
    obtain ⟨ta, tc, rfl⟩ := o3.sl.len
    simp only [List.nil_append, List.take, List.drop, List.length_cons, List.length_nil] at o3 r3 ⊢
    simp (disch := omega) only [dm_t, wA, wB, wL, wW, wY, Int.fdiv_eq_ediv_of_nonneg, Int.tdiv_eq_ediv_of_nonneg, Int.tmod_eq_emod_of_nonneg, chk_pos, decT, decF, br_pos, br_neg, wX, ↓reduceIte, Nat.reduceEqDiff, Nat.reduceAdd, Nat.reduceSub, Nat.reduceMul, Nat.reduceLeDiff, Nat.reduceLT, Nat.reduceMod, Nat.reduceDiv, Int.reduceToNat, Nat.min_eq_left, IntKind.bits, Int.reducePow, Int.reduceLT, Int.reduceLE, Int.reduceEq, Int.reduceNe, Int.reduceAdd, Int.reduceSub, and_self, reduceCtorEq, decide_eq_true_eq, decide_eq_false_iff_not, eq_self, implies_true, exists_const, Option.isNone_some, Option.isNone_none, Option.isSome_some, Option.isSome_none, Option.getD_some]
    refine (num_ok _ _).k ?_
    rintro _ _ ⟨rfl, rfl⟩
    simp (disch := omega) only [dm_t, wA, wB, wL, wW, wY, Int.fdiv_eq_ediv_of_nonneg, Int.tdiv_eq_ediv_of_nonneg, Int.tmod_eq_emod_of_nonneg, chk_pos, decT, decF, br_pos, br_neg, wX, ↓reduceIte, Nat.reduceEqDiff, Nat.reduceAdd, Nat.reduceSub, Nat.reduceMul, Nat.reduceLeDiff, Nat.reduceLT, Nat.reduceMod, Nat.reduceDiv, Int.reduceToNat, Nat.min_eq_left, IntKind.bits, Int.reducePow, Int.reduceLT, Int.reduceLE, Int.reduceEq, Int.reduceNe, Int.reduceAdd, Int.reduceSub, and_self, reduceCtorEq, decide_eq_true_eq, decide_eq_false_iff_not, eq_self, implies_true, exists_const, Option.isNone_some, Option.isNone_none, Option.isSome_some, Option.isSome_none, Option.getD_some]
    exact ⟨⟨i + 1, _, by simp, by omega, r3, f1.trans ((Fr.new hy _).trans (f2.trans f3))⟩, by simp [m1]; omega⟩
  · obtain rfl : i = A := by omega
    have k11 := parts_s11 (p.fr (f1.mono fun x hx => .inl hx)) hNM hx r1 (rb.fr f1 (fun hx => p.d _ hx (.inl rfl)) (fun hx => p.d _ hx (.inr rfl)))
    simp (disch := omega) only [dm_t, wA, wB, wL, wW, wY, Int.fdiv_eq_ediv_of_nonneg, Int.tdiv_eq_ediv_of_nonneg, Int.tmod_eq_emod_of_nonneg, chk_pos, decT, decF, br_pos, br_neg, wX, ↓reduceIte, Nat.reduceEqDiff, Nat.reduceAdd, Nat.reduceSub, Nat.reduceMul, Nat.reduceLeDiff, Nat.reduceLT, Nat.reduceMod, Nat.reduceDiv, Int.reduceToNat, Nat.min_eq_left, IntKind.bits, Int.reducePow, Int.reduceLT, Int.reduceLE, Int.reduceEq, Int.reduceNe, Int.reduceAdd, Int.reduceSub, and_self, reduceCtorEq, decide_eq_true_eq, decide_eq_false_iff_not, eq_self, implies_true, exists_const, Option.isNone_some, Option.isNone_none, Option.isSome_some, Option.isSome_none, Option.getD_some, k11]
end Go.Proofs.Ytcbljemfpliehaa.ri
