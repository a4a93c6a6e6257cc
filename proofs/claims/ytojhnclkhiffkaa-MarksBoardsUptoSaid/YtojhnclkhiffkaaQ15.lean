/-
  MarksBoards answers true whatever the run is, if what it reads is of bulk at most 1048576, however the goroutines take turns: each list that is seen was published whole, with its version.
-/
import Derived.Test.YtojhnclkhiffkaaQ14
import Derived.Test.YtojhnclkhiffkaaQ10
import Derived.Test.YtojhnclkhiffkaaRows
import Derived.Test.YtojhnclkhiffkaaQ5
import Derived.Conc.Holds
import Derived.OpenShut
import Derived.JoinedCond
import Derived.Deep.CondSized
/-
  The law of a run of boards: what it reads, its loops.
-/
namespace Go.Proofs.Ytojhnclkhiffkaa.mk
open Go.Proofs.Ytojhnclkhiffkaa
variable {PX : Cx Try.prog}
set_option linter.unusedVariables false
set_option linter.unusedSimpArgs false
theorem same2_ok {h : H} {a b : Value} {xs ys : List Int} (ha : Sl h a (xs.map (.int .i64))) (hb : Sl h b (ys.map (.int .i64))) (hl : xs.length ≤ 4611686018427387904) : Ok PX 15 #[a, b] h fun v h' => v = .bool (decide (xs = ys)) ∧ h = h' := by
  obtain ⟨aa, ac, rfl⟩ := ha.len
  obtain ⟨ba, bc, rfl⟩ := hb.len
  rw [List.length_map] at ha hb ⊢
  rw [List.length_map]
  refine c15_ok (args := [_, _]) (by simp) ?_
  by_cases hxy : xs.length = ys.length
  · simp (disch := omega) only [dm_t, wA, wB, wL, wW, wY, Int.fdiv_eq_ediv_of_nonneg, Int.tdiv_eq_ediv_of_nonneg, Int.tmod_eq_emod_of_nonneg, chk_pos, decT, decF, br_pos, br_neg, wX, ↓reduceIte, Nat.reduceEqDiff, Nat.reduceAdd, Nat.reduceSub, Nat.reduceMul, Nat.reduceLeDiff, Nat.reduceLT, Nat.reduceMod, Nat.reduceDiv, Int.reduceToNat, Nat.min_eq_left, IntKind.bits, Int.reducePow, Int.reduceLT, Int.reduceLE, Int.reduceEq, Int.reduceNe, Int.reduceAdd, Int.reduceSub, and_self, reduceCtorEq, decide_eq_true_eq, decide_eq_false_iff_not, eq_self, implies_true, exists_const, Option.isNone_some, Option.isNone_none, Option.isSome_some, Option.isSome_none, Option.getD_some]
    refine vc_loop1 (fun vi h' => h' = h ∧ ∃ i : Nat, vi = .int .i64 (i : Int) ∧ i ≤ xs.length ∧ xs.take i = ys.take i) (fun vi _ => xs.length - m1 vi) ?_ ?_
    · simp (disch := omega) only [dm_t, wA, wB, wL, wW, wY, Int.fdiv_eq_ediv_of_nonneg, Int.tdiv_eq_ediv_of_nonneg, Int.tmod_eq_emod_of_nonneg, chk_pos, decT, decF, br_pos, br_neg, wX, ↓reduceIte, Nat.reduceEqDiff, Nat.reduceAdd, Nat.reduceSub, Nat.reduceMul, Nat.reduceLeDiff, Nat.reduceLT, Nat.reduceMod, Nat.reduceDiv, Int.reduceToNat, Nat.min_eq_left, IntKind.bits, Int.reducePow, Int.reduceLT, Int.reduceLE, Int.reduceEq, Int.reduceNe, Int.reduceAdd, Int.reduceSub, and_self, reduceCtorEq, decide_eq_true_eq, decide_eq_false_iff_not, eq_self, implies_true, exists_const, Option.isNone_some, Option.isNone_none, Option.isSome_some, Option.isSome_none, Option.getD_some]
      exact ⟨0, rfl, by omega, by simp⟩
    rintro _ _ ⟨rfl, i, rfl, hi, he⟩
    by_cases hil : i < xs.length
    · obtain ⟨p1, i1, g1⟩ := ha.load (k := i) (by rw [List.length_map]; exact hil) .i64
      obtain ⟨p2, i2, g2⟩ := hb.load (k := i) (by rw [List.length_map]; omega) .i64
      rw [List.getElem_map] at g1 g2
      by_cases hv : xs[i] = ys[i]
      · simp (disch := omega) only [dm_t, wA, wB, wL, wW, wY, Int.fdiv_eq_ediv_of_nonneg, Int.tdiv_eq_ediv_of_nonneg, Int.tmod_eq_emod_of_nonneg, chk_pos, decT, decF, br_pos, br_neg, wX, ↓reduceIte, Nat.reduceEqDiff, Nat.reduceAdd, Nat.reduceSub, Nat.reduceMul, Nat.reduceLeDiff, Nat.reduceLT, Nat.reduceMod, Nat.reduceDiv, Int.reduceToNat, Nat.min_eq_left, IntKind.bits, Int.reducePow, Int.reduceLT, Int.reduceLE, Int.reduceEq, Int.reduceNe, Int.reduceAdd, Int.reduceSub, and_self, reduceCtorEq, decide_eq_true_eq, decide_eq_false_iff_not, eq_self, implies_true, exists_const, Option.isNone_some, Option.isNone_none, Option.isSome_some, Option.isSome_none, Option.getD_some, i1, i2, g1, g2]
        refine ⟨⟨i + 1, by simp, by omega, ?_⟩, by simp [m1]; omega⟩
        rw [List.take_succ_eq_append_getElem hil, List.take_succ_eq_append_getElem (by omega), he, hv]
      · simp (disch := omega) only [dm_t, wA, wB, wL, wW, wY, Int.fdiv_eq_ediv_of_nonneg, Int.tdiv_eq_ediv_of_nonneg, Int.tmod_eq_emod_of_nonneg, chk_pos, decT, decF, br_pos, br_neg, wX, ↓reduceIte, Nat.reduceEqDiff, Nat.reduceAdd, Nat.reduceSub, Nat.reduceMul, Nat.reduceLeDiff, Nat.reduceLT, Nat.reduceMod, Nat.reduceDiv, Int.reduceToNat, Nat.min_eq_left, IntKind.bits, Int.reducePow, Int.reduceLT, Int.reduceLE, Int.reduceEq, Int.reduceNe, Int.reduceAdd, Int.reduceSub, and_self, reduceCtorEq, decide_eq_true_eq, decide_eq_false_iff_not, eq_self, implies_true, exists_const, Option.isNone_some, Option.isNone_none, Option.isSome_some, Option.isSome_none, Option.getD_some, i1, i2, g1, g2]
        simp only [Value.bool.injEq]
        symm
        rw [decide_eq_false_iff_not]
        rintro rfl; exact hv rfl
    · obtain rfl : i = xs.length := by omega
      rw [List.take_length, List.take_of_length_le (by omega)] at he
      simp (disch := omega) only [dm_t, wA, wB, wL, wW, wY, Int.fdiv_eq_ediv_of_nonneg, Int.tdiv_eq_ediv_of_nonneg, Int.tmod_eq_emod_of_nonneg, chk_pos, decT, decF, br_pos, br_neg, wX, ↓reduceIte, Nat.reduceEqDiff, Nat.reduceAdd, Nat.reduceSub, Nat.reduceMul, Nat.reduceLeDiff, Nat.reduceLT, Nat.reduceMod, Nat.reduceDiv, Int.reduceToNat, Nat.min_eq_left, IntKind.bits, Int.reducePow, Int.reduceLT, Int.reduceLE, Int.reduceEq, Int.reduceNe, Int.reduceAdd, Int.reduceSub, and_self, reduceCtorEq, decide_eq_true_eq, decide_eq_false_iff_not, eq_self, implies_true, exists_const, Option.isNone_some, Option.isNone_none, Option.isSome_some, Option.isSome_none, Option.getD_some, he]
  · simp (disch := omega) only [dm_t, wA, wB, wL, wW, wY, Int.fdiv_eq_ediv_of_nonneg, Int.tdiv_eq_ediv_of_nonneg, Int.tmod_eq_emod_of_nonneg, chk_pos, decT, decF, br_pos, br_neg, wX, ↓reduceIte, Nat.reduceEqDiff, Nat.reduceAdd, Nat.reduceSub, Nat.reduceMul, Nat.reduceLeDiff, Nat.reduceLT, Nat.reduceMod, Nat.reduceDiv, Int.reduceToNat, Nat.min_eq_left, IntKind.bits, Int.reducePow, Int.reduceLT, Int.reduceLE, Int.reduceEq, Int.reduceNe, Int.reduceAdd, Int.reduceSub, and_self, reduceCtorEq, decide_eq_true_eq, decide_eq_false_iff_not, eq_self, implies_true, exists_const, Option.isNone_some, Option.isNone_none, Option.isSome_some, Option.isSome_none, Option.getD_some]
    simp only [Value.bool.injEq]
    symm
    rw [decide_eq_false_iff_not]
    rintro rfl; exact hxy rfl
/-- What the law reads: the run; what was seen; all that was published. -/
structure Bt (g : H) (r0 B n m looks : Nat) (a : Option Addr) (c : Nat) (ws : List Value) (xss : Nat → List Int) (vr : Nat → List Nat) (lr : Nat → List Value) (out : Value) (ys : List Rw) : Prop where
  r0_ : cellAt g ⟨r0, 0, none⟩ = some (.slice a n c)
  r1_ : cellAt g ⟨r0, 1, none⟩ = some (.int .i64 (m : Int))
  r2_ : cellAt g ⟨r0, 2, none⟩ = some (.int .i64 (looks : Int))
  W_ : Sl g (.slice a n c) ws
  wl : ws.length = n
  R_ : ∀ i (hi : i < ws.length), ∃ ub uc, ws[i] = .slice ub (xss i).length uc ∧ Sl g (.slice ub (xss i).length uc) ((xss i).map (.int .i64))
  B_ : ∀ j, j < m → ∃ ub uc, cellAt g ⟨B, j, none⟩ = some (.slice ub looks uc) ∧ SlK 2 nos g (.slice ub looks uc) (rowsV (vr j) (lr j)) ∧ (rowsV (vr j) (lr j)).length = looks
  Y_ : SlK 2 nos g out ys
  yl : ys.length = sumL xss n
  P_ : ∀ p, p < ys.length → ∃ la lc i t, ys[p]? = some [.int .i64 ((p : Int) + 1), .slice la (t + 1) lc] ∧ i < n ∧ t < (xss i).length ∧ Sl g (.slice la (t + 1) lc) (((xss i).take (t + 1)).map (.int .i64))
  S_ : ∀ j t, j < m → t < looks → ∃ (ver : Nat) (la : Option Addr) (lc : Nat) (zs : List Int), (rowsV (vr j) (lr j))[t]? = some [.int .i64 (ver : Int), .slice la zs.length lc] ∧ Sl g (.slice la zs.length lc) (zs.map (.int .i64)) ∧ (vr j)[t]? = some ver ∧ ver ≤ ys.length ∧ (ver = 0 → zs = []) ∧ zs.length ≤ 1099511627776 ∧
    (0 < ver → ∃ l, ys[ver - 1]? = some [.int .i64 (ver : Int), l] ∧ Sl g l (zs.map (.int .i64)))
  ch : ∀ j, j < m → chain 0 (ints (vr j)) ∧ (vr j).length = looks
theorem Bt.ext {g g' : H} {r0 B n m looks : Nat} {a : Option Addr} {c : Nat} {ws : List Value} {xss : Nat → List Int} {vr : Nat → List Nat} {lr : Nat → List Value} {out : Value} {ys : List Rw} (X : Bt g r0 B n m looks a c ws xss vr lr out ys) (x : Ext g g') : Bt g' r0 B n m looks a c ws xss vr lr out ys :=
  ⟨cellAt_ext x X.r0_, cellAt_ext x X.r1_, cellAt_ext x X.r2_, X.W_.ext x, X.wl, fun i hi => let ⟨ub, uc, h1, h2⟩ := X.R_ i hi; ⟨ub, uc, h1, h2.ext x⟩,
    fun j hj => let ⟨ub, uc, h1, h2, h3⟩ := X.B_ j hj; ⟨ub, uc, cellAt_ext x h1, h2.ext x, h3⟩, X.Y_.ext x, X.yl, fun p hp => let ⟨la, lc, i, t, h1, h2, h3, h4⟩ := X.P_ p hp; ⟨la, lc, i, t, h1, h2, h3, h4.ext x⟩,
    fun j t hj ht => let ⟨ver, la, lc, zs, h1, h2, h3, h4, h5, h6, h7⟩ := X.S_ j t hj ht; ⟨ver, la, lc, zs, h1, h2.ext x, h3, h4, h5, h6, fun h => let ⟨l, k1, k2⟩ := h7 h; ⟨l, k1, k2.ext x⟩⟩, X.ch⟩
section
variable {G : H} {r0 B n m looks : Nat} {a : Option Addr} {c : Nat} {ws : List Value} {xss : Nat → List Int} {vr : Nat → List Nat} {lr : Nat → List Value} {oa : Option Addr} {oc : Nat} {ys : List Rw} {sv : Value}
/-- How many were published in all. -/
theorem bl_0 (X : Bt G r0 B n m looks a c ws xss vr lr (.slice oa ys.length oc) ys) (hn : n ≤ 8) (hl : ∀ i, i < n → (xss i).length ≤ 50) (Q : Post)
    (hQ : ∀ y1 y2, Q .normal [(1, .pointer (some ⟨r0, 0, none⟩)), (3, sv), (4, .slice oa ys.length oc), (6, .int .i64 (sumL xss n : Int)), (7, y1), (39, y2)] G) :
    vc PX c6_l0 (blockQ 0 Q) [(1, .pointer (some ⟨r0, 0, none⟩)), (3, sv), (4, .slice oa ys.length oc), (6, .int .i64 0), (7, .int .i64 0)] G := by
  have sb : ∀ i, i ≤ n → sumL xss i ≤ 50 * i := by
    intro i
    induction i with
    | zero => intro _; simp [sumL]
    | succ i ih => intro h; have := ih (by omega); have := hl i (by omega); simp only [sumL]; omega
  have r0' := X.r0_
  refine vc_loop2 (fun v1 v2 h' => ∃ i : Nat, v1 = .int .i64 (sumL xss i : Int) ∧ v2 = .int .i64 (i : Int) ∧ i ≤ n ∧ h' = G) (fun _ v _ => match v with | .int _ x => n - x.toNat | _ => 0) ?_ ?_
  · simp (disch := omega) only [dm_t, wA, wB, wL, wW, wY, Int.fdiv_eq_ediv_of_nonneg, Int.tdiv_eq_ediv_of_nonneg, Int.tmod_eq_emod_of_nonneg, chk_pos, decT, decF, br_pos, br_neg, wX, ↓reduceIte, Nat.reduceEqDiff, Nat.reduceAdd, Nat.reduceSub, Nat.reduceMul, Nat.reduceLeDiff, Nat.reduceLT, Nat.reduceMod, Nat.reduceDiv, Int.reduceToNat, Nat.min_eq_left, IntKind.bits, Int.reducePow, Int.reduceLT, Int.reduceLE, Int.reduceEq, Int.reduceNe, Int.reduceAdd, Int.reduceSub, and_self, reduceCtorEq, decide_eq_true_eq, decide_eq_false_iff_not, eq_self, implies_true, exists_const, Option.isNone_some, Option.isNone_none, Option.isSome_some, Option.isSome_none, Option.getD_some]
    exact ⟨0, rfl, rfl, by omega⟩
  rintro _ _ _ ⟨i, rfl, rfl, hi, rfl⟩
  by_cases hlt : i < n
  · have hlt' : (i : Int) < n := by omega
    obtain ⟨p1, hp1, hc1⟩ := X.W_.load (k := i) (by rw [X.wl]; exact hlt) .i64
    obtain ⟨wb, wc, b1, b2⟩ := X.R_ i (by rw [X.wl]; exact hlt)
    rw [b1] at hc1
    have h1 := sb i (by omega)
    have h2 := hl i hlt
    simp (disch := omega) only [dm_t, wA, wB, wL, wW, wY, Int.fdiv_eq_ediv_of_nonneg, Int.tdiv_eq_ediv_of_nonneg, Int.tmod_eq_emod_of_nonneg, chk_pos, decT, decF, br_pos, br_neg, wX, ↓reduceIte, Nat.reduceEqDiff, Nat.reduceAdd, Nat.reduceSub, Nat.reduceMul, Nat.reduceLeDiff, Nat.reduceLT, Nat.reduceMod, Nat.reduceDiv, Int.reduceToNat, Nat.min_eq_left, IntKind.bits, Int.reducePow, Int.reduceLT, Int.reduceLE, Int.reduceEq, Int.reduceNe, Int.reduceAdd, Int.reduceSub, and_self, reduceCtorEq, decide_eq_true_eq, decide_eq_false_iff_not, eq_self, implies_true, exists_const, Option.isNone_some, Option.isNone_none, Option.isSome_some, Option.isSome_none, Option.getD_some, r0', hlt', hp1, hc1]
    refine ⟨⟨i + 1, ?_, by simp, by omega⟩, by omega⟩
    simp only [sumL]
    congr 1
  · have hlt' : ¬ (i : Int) < n := by omega
    obtain rfl : i = n := by omega
    simp (disch := omega) only [dm_t, wA, wB, wL, wW, wY, Int.fdiv_eq_ediv_of_nonneg, Int.tdiv_eq_ediv_of_nonneg, Int.tmod_eq_emod_of_nonneg, chk_pos, decT, decF, br_pos, br_neg, wX, ↓reduceIte, Nat.reduceEqDiff, Nat.reduceAdd, Nat.reduceSub, Nat.reduceMul, Nat.reduceLeDiff, Nat.reduceLT, Nat.reduceMod, Nat.reduceDiv, Int.reduceToNat, Nat.min_eq_left, IntKind.bits, Int.reducePow, Int.reduceLT, Int.reduceLE, Int.reduceEq, Int.reduceNe, Int.reduceAdd, Int.reduceSub, and_self, reduceCtorEq, decide_eq_true_eq, decide_eq_false_iff_not, eq_self, implies_true, exists_const, Option.isNone_some, Option.isNone_none, Option.isSome_some, Option.isSome_none, Option.getD_some, r0', hlt']
    exact hQ _ _
/-- Whose list is it? -/
theorem bl_2 (X : Bt G r0 B n m looks a c ws xss vr lr (.slice oa ys.length oc) ys) (hn : n ≤ 8) (hl : ∀ i, i < n → (xss i).length ≤ 50) {p i0 t : Nat} {la : Option Addr} {lc : Nat} (hp : p < ys.length) (hy : ys[p]? = some [.int .i64 ((p : Int) + 1), .slice la (t + 1) lc]) (hi0 : i0 < n) (ht : t < (xss i0).length)
    (hs : Sl G (.slice la (t + 1) lc) (((xss i0).take (t + 1)).map (.int .i64))) (Q : Post) {nv : Value}
    (hQ : ∀ y1 y2, Q .normal [(1, .pointer (some ⟨r0, 0, none⟩)), (3, sv), (4, .slice oa ys.length oc), (6, nv), (8, .int .i64 (p : Int)), (9, .int .i64 ((t : Int) + 1)), (10, .bool true), (11, y1), (81, y2)] G) :
    vc PX c6_l2 (blockQ 4 Q) [(1, .pointer (some ⟨r0, 0, none⟩)), (3, sv), (4, .slice oa ys.length oc), (6, nv), (8, .int .i64 (p : Int)), (9, .int .i64 ((t : Int) + 1)), (10, .bool false), (11, .int .i64 0)] G := by
  have r0' := X.r0_
  obtain ⟨b, o, y1, y2, y3, y4⟩ := X.Y_.row hp .i64
  rw [List.getElem?_eq_getElem hp] at hy
  rw [Option.some.inj hy] at y3
  have y5 : cellAt G ⟨b, o + 1, none⟩ = some (.slice la (t + 1) lc) := (y3 1 (by omega)).trans rfl
  refine vc_loop2 (fun v1 v2 h' => ∃ (f : Bool) (w : Nat), v1 = .bool f ∧ v2 = .int .i64 (w : Int) ∧ w ≤ n ∧ (i0 < w → f = true) ∧ h' = G) (fun _ v _ => match v with | .int _ x => n - x.toNat | _ => 0) ?_ ?_
  · simp (disch := omega) only [dm_t, wA, wB, wL, wW, wY, Int.fdiv_eq_ediv_of_nonneg, Int.tdiv_eq_ediv_of_nonneg, Int.tmod_eq_emod_of_nonneg, chk_pos, decT, decF, br_pos, br_neg, wX, ↓reduceIte, Nat.reduceEqDiff, Nat.reduceAdd, Nat.reduceSub, Nat.reduceMul, Nat.reduceLeDiff, Nat.reduceLT, Nat.reduceMod, Nat.reduceDiv, Int.reduceToNat, Nat.min_eq_left, IntKind.bits, Int.reducePow, Int.reduceLT, Int.reduceLE, Int.reduceEq, Int.reduceNe, Int.reduceAdd, Int.reduceSub, and_self, reduceCtorEq, decide_eq_true_eq, decide_eq_false_iff_not, eq_self, implies_true, exists_const, Option.isNone_some, Option.isNone_none, Option.isSome_some, Option.isSome_none, Option.getD_some]
    exact ⟨false, 0, rfl, rfl, by omega, fun h => by omega⟩
  rintro _ _ _ ⟨f, w, rfl, rfl, hw, hf, rfl⟩
  by_cases hlt : w < n
  · have hlt' : (w : Int) < n := by omega
    cases f with
    | true =>
      simp (disch := omega) only [dm_t, wA, wB, wL, wW, wY, Int.fdiv_eq_ediv_of_nonneg, Int.tdiv_eq_ediv_of_nonneg, Int.tmod_eq_emod_of_nonneg, chk_pos, decT, decF, br_pos, br_neg, wX, ↓reduceIte, Nat.reduceEqDiff, Nat.reduceAdd, Nat.reduceSub, Nat.reduceMul, Nat.reduceLeDiff, Nat.reduceLT, Nat.reduceMod, Nat.reduceDiv, Int.reduceToNat, Nat.min_eq_left, IntKind.bits, Int.reducePow, Int.reduceLT, Int.reduceLE, Int.reduceEq, Int.reduceNe, Int.reduceAdd, Int.reduceSub, and_self, reduceCtorEq, decide_eq_true_eq, decide_eq_false_iff_not, eq_self, implies_true, exists_const, Option.isNone_some, Option.isNone_none, Option.isSome_some, Option.isSome_none, Option.getD_some, r0', hlt']
      exact ⟨⟨true, w + 1, rfl, by simp, by omega, fun _ => rfl⟩, by omega⟩
    | false =>
      obtain ⟨p1, hp1, hc1⟩ := X.W_.load (k := w) (by rw [X.wl]; exact hlt) .i64
      obtain ⟨wb, wc, b1, b2⟩ := X.R_ w (by rw [X.wl]; exact hlt)
      rw [b1] at hc1
      have hne : ¬ i0 < w := fun h => by have := hf h; cases this
      by_cases hk : t + 1 ≤ (xss w).length
      · have hk' : (t : Int) + 1 ≤ ((xss w).length : Nat) := by omega
        obtain ⟨s1, s2⟩ := Sl.pre b2 hk
        have hcut := slcV_pre 1 wb (xss w).length wc (t + 1) (by omega)
        have hcut' : slcV 1 wb (xss w).length wc false ((0 : Nat) : Int) ((t : Int) + 1) (wc : Int) = some (.slice wb (t + 1) wc) := by rw [← hcut]; simp
        simp (disch := omega) only [dm_t, wA, wB, wL, wW, wY, Int.fdiv_eq_ediv_of_nonneg, Int.tdiv_eq_ediv_of_nonneg, Int.tmod_eq_emod_of_nonneg, chk_pos, decT, decF, br_pos, br_neg, wX, ↓reduceIte, Nat.reduceEqDiff, Nat.reduceAdd, Nat.reduceSub, Nat.reduceMul, Nat.reduceLeDiff, Nat.reduceLT, Nat.reduceMod, Nat.reduceDiv, Int.reduceToNat, Nat.min_eq_left, IntKind.bits, Int.reducePow, Int.reduceLT, Int.reduceLE, Int.reduceEq, Int.reduceNe, Int.reduceAdd, Int.reduceSub, and_self, reduceCtorEq, decide_eq_true_eq, decide_eq_false_iff_not, eq_self, implies_true, exists_const, Option.isNone_some, Option.isNone_none, Option.isSome_some, Option.isSome_none, Option.getD_some, r0', hlt', hp1, hc1, hk', hcut', y1, y5]
        rw [← List.map_take] at s1
        refine (same2_ok s1 hs (by rw [List.length_take]; have := hl w hlt; omega)).k ?_
        rintro _ _ ⟨rfl, rfl⟩
        simp (disch := omega) only [dm_t, wA, wB, wL, wW, wY, Int.fdiv_eq_ediv_of_nonneg, Int.tdiv_eq_ediv_of_nonneg, Int.tmod_eq_emod_of_nonneg, chk_pos, decT, decF, br_pos, br_neg, wX, ↓reduceIte, Nat.reduceEqDiff, Nat.reduceAdd, Nat.reduceSub, Nat.reduceMul, Nat.reduceLeDiff, Nat.reduceLT, Nat.reduceMod, Nat.reduceDiv, Int.reduceToNat, Nat.min_eq_left, IntKind.bits, Int.reducePow, Int.reduceLT, Int.reduceLE, Int.reduceEq, Int.reduceNe, Int.reduceAdd, Int.reduceSub, and_self, reduceCtorEq, decide_eq_true_eq, decide_eq_false_iff_not, eq_self, implies_true, exists_const, Option.isNone_some, Option.isNone_none, Option.isSome_some, Option.isSome_none, Option.getD_some, r0', hlt', hp1, hc1, hk', hcut', y1, y5]
        refine ⟨⟨_, w + 1, rfl, by simp, by omega, fun h => ?_⟩, by omega⟩
        have : i0 = w := by omega
        subst this
        exact decide_eq_true rfl
      · have hk' : ¬ (t : Int) + 1 ≤ ((xss w).length : Nat) := by omega
        simp (disch := omega) only [dm_t, wA, wB, wL, wW, wY, Int.fdiv_eq_ediv_of_nonneg, Int.tdiv_eq_ediv_of_nonneg, Int.tmod_eq_emod_of_nonneg, chk_pos, decT, decF, br_pos, br_neg, wX, ↓reduceIte, Nat.reduceEqDiff, Nat.reduceAdd, Nat.reduceSub, Nat.reduceMul, Nat.reduceLeDiff, Nat.reduceLT, Nat.reduceMod, Nat.reduceDiv, Int.reduceToNat, Nat.min_eq_left, IntKind.bits, Int.reducePow, Int.reduceLT, Int.reduceLE, Int.reduceEq, Int.reduceNe, Int.reduceAdd, Int.reduceSub, and_self, reduceCtorEq, decide_eq_true_eq, decide_eq_false_iff_not, eq_self, implies_true, exists_const, Option.isNone_some, Option.isNone_none, Option.isSome_some, Option.isSome_none, Option.getD_some, r0', hlt', hp1, hc1, hk']
        refine ⟨⟨false, w + 1, rfl, by simp, by omega, fun h => ?_⟩, by omega⟩
        exfalso
        have : i0 = w := by omega
        subst this
        omega
  · have hlt' : ¬ (w : Int) < n := by omega
    obtain rfl : w = n := by omega
    have := hf hi0
    subst this
    simp (disch := omega) only [dm_t, wA, wB, wL, wW, wY, Int.fdiv_eq_ediv_of_nonneg, Int.tdiv_eq_ediv_of_nonneg, Int.tmod_eq_emod_of_nonneg, chk_pos, decT, decF, br_pos, br_neg, wX, ↓reduceIte, Nat.reduceEqDiff, Nat.reduceAdd, Nat.reduceSub, Nat.reduceMul, Nat.reduceLeDiff, Nat.reduceLT, Nat.reduceMod, Nat.reduceDiv, Int.reduceToNat, Nat.min_eq_left, IntKind.bits, Int.reducePow, Int.reduceLT, Int.reduceLE, Int.reduceEq, Int.reduceNe, Int.reduceAdd, Int.reduceSub, and_self, reduceCtorEq, decide_eq_true_eq, decide_eq_false_iff_not, eq_self, implies_true, exists_const, Option.isNone_some, Option.isNone_none, Option.isSome_some, Option.isSome_none, Option.getD_some, r0', hlt']
    exact hQ _ _
/-- All that was published. -/
theorem bl_1 (X : Bt G r0 B n m looks a c ws xss vr lr (.slice oa ys.length oc) ys) (hn : n ≤ 8) (hl : ∀ i, i < n → (xss i).length ≤ 50) (hN : ys.length ≤ 400) (Q : Post)
    (hQ : ∀ y1 y2, Q .normal [(1, .pointer (some ⟨r0, 0, none⟩)), (3, sv), (4, .slice oa ys.length oc), (6, .int .i64 (ys.length : Int)), (8, y1), (56, y2)] G) :
    vc PX c6_l1 (blockQ 2 Q) [(1, .pointer (some ⟨r0, 0, none⟩)), (3, sv), (4, .slice oa ys.length oc), (6, .int .i64 (ys.length : Int)), (8, .int .i64 0)] G := by
  refine vc_loop1 (fun v h' => ∃ p : Nat, v = .int .i64 (p : Int) ∧ p ≤ ys.length ∧ h' = G) (fun v _ => match v with | .int _ x => ys.length - x.toNat | _ => 0) ?_ ?_
  · simp (disch := omega) only [dm_t, wA, wB, wL, wW, wY, Int.fdiv_eq_ediv_of_nonneg, Int.tdiv_eq_ediv_of_nonneg, Int.tmod_eq_emod_of_nonneg, chk_pos, decT, decF, br_pos, br_neg, wX, ↓reduceIte, Nat.reduceEqDiff, Nat.reduceAdd, Nat.reduceSub, Nat.reduceMul, Nat.reduceLeDiff, Nat.reduceLT, Nat.reduceMod, Nat.reduceDiv, Int.reduceToNat, Nat.min_eq_left, IntKind.bits, Int.reducePow, Int.reduceLT, Int.reduceLE, Int.reduceEq, Int.reduceNe, Int.reduceAdd, Int.reduceSub, and_self, reduceCtorEq, decide_eq_true_eq, decide_eq_false_iff_not, eq_self, implies_true, exists_const, Option.isNone_some, Option.isNone_none, Option.isSome_some, Option.isSome_none, Option.getD_some]
    exact ⟨0, rfl, by omega⟩
  rintro _ _ ⟨p, rfl, hp, rfl⟩
  by_cases hlt : p < ys.length
  · have hlt' : (p : Int) < (ys.length : Nat) := by omega
    obtain ⟨la, lc, i, t, hy, hi, ht, hs⟩ := X.P_ p hlt
    obtain ⟨b, o, y1, y2, y3, y4⟩ := X.Y_.row hlt .i64
    have hy' := hy
    rw [List.getElem?_eq_getElem hlt] at hy'
    rw [Option.some.inj hy'] at y3
    have y5 : cellAt _ ⟨b, o + 1, none⟩ = some (.slice la (t + 1) lc) := (y3 1 (by omega)).trans rfl
    have y6 : cellAt _ ⟨b, o, none⟩ = some (.int .i64 ((p : Int) + 1)) := (y3 0 (by omega)).trans rfl
    have hti := hl i hi
    simp (disch := omega) only [dm_t, wA, wB, wL, wW, wY, Int.fdiv_eq_ediv_of_nonneg, Int.tdiv_eq_ediv_of_nonneg, Int.tmod_eq_emod_of_nonneg, chk_pos, decT, decF, br_pos, br_neg, wX, ↓reduceIte, Nat.reduceEqDiff, Nat.reduceAdd, Nat.reduceSub, Nat.reduceMul, Nat.reduceLeDiff, Nat.reduceLT, Nat.reduceMod, Nat.reduceDiv, Int.reduceToNat, Nat.min_eq_left, IntKind.bits, Int.reducePow, Int.reduceLT, Int.reduceLE, Int.reduceEq, Int.reduceNe, Int.reduceAdd, Int.reduceSub, and_self, reduceCtorEq, decide_eq_true_eq, decide_eq_false_iff_not, eq_self, implies_true, exists_const, Option.isNone_some, Option.isNone_none, Option.isSome_some, Option.isSome_none, Option.getD_some, hlt', y1, y5, y6]
    refine bl_2 X hn hl hlt hy hi ht hs _ fun z1 z2 => ?_
    simp (disch := omega) only [dm_t, wA, wB, wL, wW, wY, Int.fdiv_eq_ediv_of_nonneg, Int.tdiv_eq_ediv_of_nonneg, Int.tmod_eq_emod_of_nonneg, chk_pos, decT, decF, br_pos, br_neg, wX, ↓reduceIte, Nat.reduceEqDiff, Nat.reduceAdd, Nat.reduceSub, Nat.reduceMul, Nat.reduceLeDiff, Nat.reduceLT, Nat.reduceMod, Nat.reduceDiv, Int.reduceToNat, Nat.min_eq_left, IntKind.bits, Int.reducePow, Int.reduceLT, Int.reduceLE, Int.reduceEq, Int.reduceNe, Int.reduceAdd, Int.reduceSub, and_self, reduceCtorEq, decide_eq_true_eq, decide_eq_false_iff_not, eq_self, implies_true, exists_const, Option.isNone_some, Option.isNone_none, Option.isSome_some, Option.isSome_none, Option.getD_some]
    exact ⟨⟨p + 1, by simp, by omega⟩, by omega⟩
  · have hlt' : ¬ (p : Int) < (ys.length : Nat) := by omega
    obtain rfl : p = ys.length := by omega
    simp (disch := omega) only [dm_t, wA, wB, wL, wW, wY, Int.fdiv_eq_ediv_of_nonneg, Int.tdiv_eq_ediv_of_nonneg, Int.tmod_eq_emod_of_nonneg, chk_pos, decT, decF, br_pos, br_neg, wX, ↓reduceIte, Nat.reduceEqDiff, Nat.reduceAdd, Nat.reduceSub, Nat.reduceMul, Nat.reduceLeDiff, Nat.reduceLT, Nat.reduceMod, Nat.reduceDiv, Int.reduceToNat, Nat.min_eq_left, IntKind.bits, Int.reducePow, Int.reduceLT, Int.reduceLE, Int.reduceEq, Int.reduceNe, Int.reduceAdd, Int.reduceSub, and_self, reduceCtorEq, decide_eq_true_eq, decide_eq_false_iff_not, eq_self, implies_true, exists_const, Option.isNone_some, Option.isNone_none, Option.isSome_some, Option.isSome_none, Option.getD_some, hlt']
    exact hQ _ _
/-- One reader's looks. -/
theorem bl_4 (X : Bt G r0 B n m looks a c ws xss vr lr (.slice oa ys.length oc) ys) (hl2 : looks ≤ 200) (hN : ys.length ≤ 400) {j : Nat} (hj : j < m) (hm8 : m ≤ 8) {h1 : H} (e0 : Ext G h1) (Q : Post)
    (hQ : ∀ h' y1 y2 y3, Ext G h' → Q .normal [(1, .pointer (some ⟨r0, 0, none⟩)), (3, .slice (some ⟨B, 0, none⟩) m m), (4, .slice oa ys.length oc), (6, .int .i64 (ys.length : Int)), (12, .int .i64 (j : Int)), (13, y1), (14, y2), (129, y3)] h') :
    vc PX c6_l4 (blockQ 8 Q) [(1, .pointer (some ⟨r0, 0, none⟩)), (3, .slice (some ⟨B, 0, none⟩) m m), (4, .slice oa ys.length oc), (6, .int .i64 (ys.length : Int)), (12, .int .i64 (j : Int)), (13, .int .i64 0), (14, .int .i64 0)] h1 := by
  obtain ⟨hch, hvl⟩ := X.ch j hj
  refine vc_loop2 (fun v1 v2 h' => ∃ k : Nat, v1 = .int .i64 (lastOf 0 (ints ((vr j).take k))) ∧ v2 = .int .i64 (k : Int) ∧ k ≤ looks ∧ Ext G h') (fun _ v _ => match v with | .int _ x => looks - x.toNat | _ => 0) ?_ ?_
  · simp (disch := omega) only [dm_t, wA, wB, wL, wW, wY, Int.fdiv_eq_ediv_of_nonneg, Int.tdiv_eq_ediv_of_nonneg, Int.tmod_eq_emod_of_nonneg, chk_pos, decT, decF, br_pos, br_neg, wX, ↓reduceIte, Nat.reduceEqDiff, Nat.reduceAdd, Nat.reduceSub, Nat.reduceMul, Nat.reduceLeDiff, Nat.reduceLT, Nat.reduceMod, Nat.reduceDiv, Int.reduceToNat, Nat.min_eq_left, IntKind.bits, Int.reducePow, Int.reduceLT, Int.reduceLE, Int.reduceEq, Int.reduceNe, Int.reduceAdd, Int.reduceSub, and_self, reduceCtorEq, decide_eq_true_eq, decide_eq_false_iff_not, eq_self, implies_true, exists_const, Option.isNone_some, Option.isNone_none, Option.isSome_some, Option.isSome_none, Option.getD_some]
    exact ⟨0, by simp [ints, lastOf], rfl, by omega, e0⟩
  rintro _ _ h ⟨k, rfl, rfl, hk, e⟩
  have Y := X.ext e
  have r2' := Y.r2_
  by_cases hlt : k < looks
  · have hlt' : (k : Int) < looks := by omega
    obtain ⟨ub, uc, a1, a2, a3⟩ := Y.B_ j hj
    obtain ⟨ver, la, lc, zs, s1, s2, s3, s4, s5, s6, s7⟩ := Y.S_ j k hj hlt
    have dA : idxV1 1 (.slice (some ⟨B, 0, none⟩) m m) (.int .i64 (j : Int)) = some (.pointer (some ⟨B, j, none⟩)) := by rw [idx_s, chk_pos (by omega)]; simp
    obtain ⟨b, o, y1, y2, y3, y4⟩ := a2.row (i := k) (by rw [a3]; exact hlt) .i64
    rw [List.getElem?_eq_getElem (by rw [a3]; exact hlt)] at s1
    rw [Option.some.inj s1] at y4
    have hkv : k < (vr j).length := by omega
    have hver : (vr j)[k] = ver := by rw [List.getElem?_eq_getElem hkv] at s3; exact Option.some.inj s3
    have hle : lastOf 0 (ints ((vr j).take k)) ≤ (ver : Int) := by
      have := chain_at 0 (ints (vr j)) k (by simp [ints]; exact hkv) hch
      simp only [ints, List.getElem_map, hver] at this
      simpa [ints, List.map_take] using this
    have hle' : ¬ (ver : Int) < lastOf 0 (ints ((vr j).take k)) := by omega
    have hle2 : ¬ ((ys.length : Nat) : Int) < (ver : Int) := by omega
    have tk : ints ((vr j).take (k + 1)) = ints ((vr j).take k) ++ [(ver : Int)] := by
      rw [← List.take_append_getElem hkv, hver]; simp [ints]
    generalize hQ0 : lq2 _ _ _ _ _ _ _ _ = Q0
    simp (disch := omega) only [dm_t, wA, wB, wL, wW, wY, Int.fdiv_eq_ediv_of_nonneg, Int.tdiv_eq_ediv_of_nonneg, Int.tmod_eq_emod_of_nonneg, chk_pos, decT, decF, br_pos, br_neg, wX, ↓reduceIte, Nat.reduceEqDiff, Nat.reduceAdd, Nat.reduceSub, Nat.reduceMul, Nat.reduceLeDiff, Nat.reduceLT, Nat.reduceMod, Nat.reduceDiv, Int.reduceToNat, Nat.min_eq_left, IntKind.bits, Int.reducePow, Int.reduceLT, Int.reduceLE, Int.reduceEq, Int.reduceNe, Int.reduceAdd, Int.reduceSub, and_self, reduceCtorEq, decide_eq_true_eq, decide_eq_false_iff_not, eq_self, implies_true, exists_const, Option.isNone_some, Option.isNone_none, Option.isSome_some, Option.isSome_none, Option.getD_some, r2', hlt', dA, a1, y1, y4]
    intro xb hxb
    refine storeH_all (hupd_same _ _ _) rfl rfl ?_
    rw [hupd_hupd]
    generalize hG : hupd h xb _ = g
    obtain ⟨e1, qx⟩ := new_ext hG hxb
    clear hG
    have c0 : cellAt g ⟨xb, 0, none⟩ = some (.int .i64 (ver : Int)) := by rw [cellAt_of qx]; rfl
    have c1 : cellAt g ⟨xb, 1, none⟩ = some (.slice la zs.length lc) := by rw [cellAt_of qx]; rfl
    cases ver with
    | zero =>
      have hz : zs.length = 0 := by rw [s5 rfl]; rfl
      rw [hz] at c1
      simp (disch := omega) only [dm_t, wA, wB, wL, wW, wY, Int.fdiv_eq_ediv_of_nonneg, Int.tdiv_eq_ediv_of_nonneg, Int.tmod_eq_emod_of_nonneg, chk_pos, decT, decF, br_pos, br_neg, wX, ↓reduceIte, Nat.reduceEqDiff, Nat.reduceAdd, Nat.reduceSub, Nat.reduceMul, Nat.reduceLeDiff, Nat.reduceLT, Nat.reduceMod, Nat.reduceDiv, Int.reduceToNat, Nat.min_eq_left, IntKind.bits, Int.reducePow, Int.reduceLT, Int.reduceLE, Int.reduceEq, Int.reduceNe, Int.reduceAdd, Int.reduceSub, and_self, reduceCtorEq, decide_eq_true_eq, decide_eq_false_iff_not, eq_self, implies_true, exists_const, Option.isNone_some, Option.isNone_none, Option.isSome_some, Option.isSome_none, Option.getD_some, c0, c1, hle', hle2]
      rw [← hQ0]
      simp (disch := omega) only [dm_t, wA, wB, wL, wW, wY, Int.fdiv_eq_ediv_of_nonneg, Int.tdiv_eq_ediv_of_nonneg, Int.tmod_eq_emod_of_nonneg, chk_pos, decT, decF, br_pos, br_neg, wX, ↓reduceIte, Nat.reduceEqDiff, Nat.reduceAdd, Nat.reduceSub, Nat.reduceMul, Nat.reduceLeDiff, Nat.reduceLT, Nat.reduceMod, Nat.reduceDiv, Int.reduceToNat, Nat.min_eq_left, IntKind.bits, Int.reducePow, Int.reduceLT, Int.reduceLE, Int.reduceEq, Int.reduceNe, Int.reduceAdd, Int.reduceSub, and_self, reduceCtorEq, decide_eq_true_eq, decide_eq_false_iff_not, eq_self, implies_true, exists_const, Option.isNone_some, Option.isNone_none, Option.isSome_some, Option.isSome_none, Option.getD_some]
      exact ⟨⟨k + 1, by rw [tk, lastOf_snoc], by simp, by omega, e.trans e1⟩, by omega⟩
    | succ q =>
      obtain ⟨l, t1, t2⟩ := s7 (by omega)
      rw [Nat.add_sub_cancel] at t1
      have hq : q < ys.length := by omega
      obtain ⟨b2, o2, z1, z2, z3, z4⟩ := (Y.Y_.ext e1).row (i := q) hq .i64
      rw [List.getElem?_eq_getElem hq] at t1
      rw [Option.some.inj t1] at z3
      have z5 : cellAt g ⟨b2, o2 + 1, none⟩ = some l := (z3 1 (by omega)).trans rfl
      obtain ⟨l1, l2, rfl⟩ := (t2.ext e1).len
      have hp1 : (0 : Int) < ((q + 1 : Nat) : Int) := by omega
      have hp2 : ¬ ((q + 1 : Nat) : Int) = 0 := by omega
      have hp3 : ((q + 1 : Nat) : Int) - 1 = (q : Int) := by omega
      simp (disch := omega) only [dm_t, wA, wB, wL, wW, wY, Int.fdiv_eq_ediv_of_nonneg, Int.tdiv_eq_ediv_of_nonneg, Int.tmod_eq_emod_of_nonneg, chk_pos, decT, decF, br_pos, br_neg, wX, ↓reduceIte, Nat.reduceEqDiff, Nat.reduceAdd, Nat.reduceSub, Nat.reduceMul, Nat.reduceLeDiff, Nat.reduceLT, Nat.reduceMod, Nat.reduceDiv, Int.reduceToNat, Nat.min_eq_left, IntKind.bits, Int.reducePow, Int.reduceLT, Int.reduceLE, Int.reduceEq, Int.reduceNe, Int.reduceAdd, Int.reduceSub, and_self, reduceCtorEq, decide_eq_true_eq, decide_eq_false_iff_not, eq_self, implies_true, exists_const, Option.isNone_some, Option.isNone_none, Option.isSome_some, Option.isSome_none, Option.getD_some, c0, c1, hle', hle2, hp1, hp2, hp3, z1, z5]
      refine (same2_ok (xs := zs) (ys := zs) (s2.ext e1) (t2.ext e1) (by omega)).k ?_
      rintro _ _ ⟨rfl, rfl⟩
      rw [decide_eq_true (rfl : zs = zs)]
      simp (disch := omega) only [dm_t, wA, wB, wL, wW, wY, Int.fdiv_eq_ediv_of_nonneg, Int.tdiv_eq_ediv_of_nonneg, Int.tmod_eq_emod_of_nonneg, chk_pos, decT, decF, br_pos, br_neg, wX, ↓reduceIte, Nat.reduceEqDiff, Nat.reduceAdd, Nat.reduceSub, Nat.reduceMul, Nat.reduceLeDiff, Nat.reduceLT, Nat.reduceMod, Nat.reduceDiv, Int.reduceToNat, Nat.min_eq_left, IntKind.bits, Int.reducePow, Int.reduceLT, Int.reduceLE, Int.reduceEq, Int.reduceNe, Int.reduceAdd, Int.reduceSub, and_self, reduceCtorEq, decide_eq_true_eq, decide_eq_false_iff_not, eq_self, implies_true, exists_const, Option.isNone_some, Option.isNone_none, Option.isSome_some, Option.isSome_none, Option.getD_some, c0, c1, hle', hle2, hp1, hp2, hp3, z1, z5]
      rw [← hQ0]
      simp (disch := omega) only [dm_t, wA, wB, wL, wW, wY, Int.fdiv_eq_ediv_of_nonneg, Int.tdiv_eq_ediv_of_nonneg, Int.tmod_eq_emod_of_nonneg, chk_pos, decT, decF, br_pos, br_neg, wX, ↓reduceIte, Nat.reduceEqDiff, Nat.reduceAdd, Nat.reduceSub, Nat.reduceMul, Nat.reduceLeDiff, Nat.reduceLT, Nat.reduceMod, Nat.reduceDiv, Int.reduceToNat, Nat.min_eq_left, IntKind.bits, Int.reducePow, Int.reduceLT, Int.reduceLE, Int.reduceEq, Int.reduceNe, Int.reduceAdd, Int.reduceSub, and_self, reduceCtorEq, decide_eq_true_eq, decide_eq_false_iff_not, eq_self, implies_true, exists_const, Option.isNone_some, Option.isNone_none, Option.isSome_some, Option.isSome_none, Option.getD_some]
      exact ⟨⟨k + 1, by rw [tk, lastOf_snoc], by simp, by omega, e.trans e1⟩, by omega⟩
  · have hlt' : ¬ (k : Int) < looks := by omega
    simp (disch := omega) only [dm_t, wA, wB, wL, wW, wY, Int.fdiv_eq_ediv_of_nonneg, Int.tdiv_eq_ediv_of_nonneg, Int.tmod_eq_emod_of_nonneg, chk_pos, decT, decF, br_pos, br_neg, wX, ↓reduceIte, Nat.reduceEqDiff, Nat.reduceAdd, Nat.reduceSub, Nat.reduceMul, Nat.reduceLeDiff, Nat.reduceLT, Nat.reduceMod, Nat.reduceDiv, Int.reduceToNat, Nat.min_eq_left, IntKind.bits, Int.reducePow, Int.reduceLT, Int.reduceLE, Int.reduceEq, Int.reduceNe, Int.reduceAdd, Int.reduceSub, and_self, reduceCtorEq, decide_eq_true_eq, decide_eq_false_iff_not, eq_self, implies_true, exists_const, Option.isNone_some, Option.isNone_none, Option.isSome_some, Option.isSome_none, Option.getD_some, r2', hlt']
    exact hQ _ _ _ _ e
/-- All the readers. -/
theorem bl_3 (X : Bt G r0 B n m looks a c ws xss vr lr (.slice oa ys.length oc) ys) (hl2 : looks ≤ 200) (hN : ys.length ≤ 400) (hm8 : m ≤ 8) (Q : Post)
    (hQ : ∀ h' y1 y2, Ext G h' → Q .normal [(1, .pointer (some ⟨r0, 0, none⟩)), (3, .slice (some ⟨B, 0, none⟩) m m), (4, .slice oa ys.length oc), (6, .int .i64 (ys.length : Int)), (12, y1), (115, y2)] h') :
    vc PX c6_l3 (blockQ 6 Q) [(1, .pointer (some ⟨r0, 0, none⟩)), (3, .slice (some ⟨B, 0, none⟩) m m), (4, .slice oa ys.length oc), (6, .int .i64 (ys.length : Int)), (12, .int .i64 0)] G := by
  refine vc_loop1 (fun v h' => ∃ j : Nat, v = .int .i64 (j : Int) ∧ j ≤ m ∧ Ext G h') (fun v _ => match v with | .int _ x => m - x.toNat | _ => 0) ?_ ?_
  · simp (disch := omega) only [dm_t, wA, wB, wL, wW, wY, Int.fdiv_eq_ediv_of_nonneg, Int.tdiv_eq_ediv_of_nonneg, Int.tmod_eq_emod_of_nonneg, chk_pos, decT, decF, br_pos, br_neg, wX, ↓reduceIte, Nat.reduceEqDiff, Nat.reduceAdd, Nat.reduceSub, Nat.reduceMul, Nat.reduceLeDiff, Nat.reduceLT, Nat.reduceMod, Nat.reduceDiv, Int.reduceToNat, Nat.min_eq_left, IntKind.bits, Int.reducePow, Int.reduceLT, Int.reduceLE, Int.reduceEq, Int.reduceNe, Int.reduceAdd, Int.reduceSub, and_self, reduceCtorEq, decide_eq_true_eq, decide_eq_false_iff_not, eq_self, implies_true, exists_const, Option.isNone_some, Option.isNone_none, Option.isSome_some, Option.isSome_none, Option.getD_some]
    exact ⟨0, rfl, by omega, Ext.refl _⟩
  rintro _ h ⟨j, rfl, hj, e⟩
  have Y := X.ext e
  have r1' := Y.r1_
  have r2' := Y.r2_
  by_cases hlt : j < m
  · have hlt' : (j : Int) < m := by omega
    obtain ⟨ub, uc, a1, a2, a3⟩ := Y.B_ j hlt
    have dA : idxV1 1 (.slice (some ⟨B, 0, none⟩) m m) (.int .i64 (j : Int)) = some (.pointer (some ⟨B, j, none⟩)) := by rw [idx_s, chk_pos (by omega)]; simp
    simp (disch := omega) only [dm_t, wA, wB, wL, wW, wY, Int.fdiv_eq_ediv_of_nonneg, Int.tdiv_eq_ediv_of_nonneg, Int.tmod_eq_emod_of_nonneg, chk_pos, decT, decF, br_pos, br_neg, wX, ↓reduceIte, Nat.reduceEqDiff, Nat.reduceAdd, Nat.reduceSub, Nat.reduceMul, Nat.reduceLeDiff, Nat.reduceLT, Nat.reduceMod, Nat.reduceDiv, Int.reduceToNat, Nat.min_eq_left, IntKind.bits, Int.reducePow, Int.reduceLT, Int.reduceLE, Int.reduceEq, Int.reduceNe, Int.reduceAdd, Int.reduceSub, and_self, reduceCtorEq, decide_eq_true_eq, decide_eq_false_iff_not, eq_self, implies_true, exists_const, Option.isNone_some, Option.isNone_none, Option.isSome_some, Option.isSome_none, Option.getD_some, r1', r2', hlt', dA, a1]
    refine bl_4 X hl2 hN hlt hm8 e _ fun h' y1 y2 y3 e' => ?_
    simp (disch := omega) only [dm_t, wA, wB, wL, wW, wY, Int.fdiv_eq_ediv_of_nonneg, Int.tdiv_eq_ediv_of_nonneg, Int.tmod_eq_emod_of_nonneg, chk_pos, decT, decF, br_pos, br_neg, wX, ↓reduceIte, Nat.reduceEqDiff, Nat.reduceAdd, Nat.reduceSub, Nat.reduceMul, Nat.reduceLeDiff, Nat.reduceLT, Nat.reduceMod, Nat.reduceDiv, Int.reduceToNat, Nat.min_eq_left, IntKind.bits, Int.reducePow, Int.reduceLT, Int.reduceLE, Int.reduceEq, Int.reduceNe, Int.reduceAdd, Int.reduceSub, and_self, reduceCtorEq, decide_eq_true_eq, decide_eq_false_iff_not, eq_self, implies_true, exists_const, Option.isNone_some, Option.isNone_none, Option.isSome_some, Option.isSome_none, Option.getD_some]
    exact ⟨⟨j + 1, by simp, by omega, e'⟩, by omega⟩
  · have hlt' : ¬ (j : Int) < m := by omega
    simp (disch := omega) only [dm_t, wA, wB, wL, wW, wY, Int.fdiv_eq_ediv_of_nonneg, Int.tdiv_eq_ediv_of_nonneg, Int.tmod_eq_emod_of_nonneg, chk_pos, decT, decF, br_pos, br_neg, wX, ↓reduceIte, Nat.reduceEqDiff, Nat.reduceAdd, Nat.reduceSub, Nat.reduceMul, Nat.reduceLeDiff, Nat.reduceLT, Nat.reduceMod, Nat.reduceDiv, Int.reduceToNat, Nat.min_eq_left, IntKind.bits, Int.reducePow, Int.reduceLT, Int.reduceLE, Int.reduceEq, Int.reduceNe, Int.reduceAdd, Int.reduceSub, and_self, reduceCtorEq, decide_eq_true_eq, decide_eq_false_iff_not, eq_self, implies_true, exists_const, Option.isNone_some, Option.isNone_none, Option.isSome_some, Option.isSome_none, Option.getD_some, r1', hlt']
    exact hQ _ _ _ e
end
end Go.Proofs.Ytojhnclkhiffkaa.mk

/-
  What the law of a run of boards finds.
-/
namespace Go.Proofs.Ytojhnclkhiffkaa.mk
open Go.Proofs.Ytojhnclkhiffkaa
set_option linter.unusedVariables false
set_option linter.unusedSimpArgs false
section
variable {n : Nat} {xss : Nat → List Int} {fin : Value → H → Prop} {A B Wg m looks : Nat} {γ us vs : List Value} {vw : Nat → List Nat} {lw : Nat → List Value} {vr : Nat → List Nat} {lr : Nat → List Value} {g : H} {out : Value} {ys : List Rw}
theorem sorted_vers (X : BdEnd n xss fin A B Wg m looks γ us vs vw lw vr lr g) (hbig : sumL xss n ≤ 134217727) (Pm : ys.Perm (outR vw lw n).flatten) (Sr : so.Srt 0 ys.length ys) : ys.map begN = List.range' 1 (sumL xss n) := by
  obtain ⟨G1, _, G3, G4, G5⟩ := rows_good X hbig
  have hp : (ys.map begN).Perm (List.range' 1 (sumL xss n)) := by
    have := Pm.map begN
    rw [G4] at this
    rw [← G5]
    exact this.trans (allV_perm X.hst)
  refine List.Perm.eq_of_pairwise (le := (· ≤ ·)) (fun a b _ _ h1 h2 => Nat.le_antisymm h1 h2) ?_ ((List.pairwise_lt_range' (step := 1)).imp fun h => Nat.le_of_lt h) hp
  rw [List.pairwise_map]
  refine List.pairwise_iff_getElem.2 fun i j hi hj hij => ?_
  have h1 := Sr i j (by omega) hij hj
  rw [so.gt_of hi, so.gt_of hj] at h1
  unfold so.le so.lt at h1
  unfold begN
  omega
theorem all_at (X : BdEnd n xss fin A B Wg m looks γ us vs vw lw vr lr g) (hbig : sumL xss n ≤ 134217727) (Pm : ys.Perm (outR vw lw n).flatten) (Sr : so.Srt 0 ys.length ys) : ys.length = sumL xss n ∧ ∀ p, p < ys.length → ∃ la lc i t, ys[p]? = some [.int .i64 ((p : Int) + 1), .slice la (t + 1) lc] ∧ i < n ∧ t < (xss i).length ∧ (ownV (i + 1) γ)[t]? = some (p + 1) ∧
    Sl g (.slice la (t + 1) lc) (((xss i).take (t + 1)).map (.int .i64)) := by
  obtain ⟨G1, _, G3, G4, G5⟩ := rows_good X hbig
  have hv := sorted_vers X hbig Pm Sr
  have hlen : ys.length = sumL xss n := by rw [Pm.length_eq, G3]
  refine ⟨hlen, fun p hp => ?_⟩
  obtain ⟨i, t, ver, l, h1, h2, h3, h4⟩ := outR_mem (Pm.subset (List.getElem_mem hp))
  obtain ⟨u, _, _, k1, k2, k3, k4⟩ := X.w i h1
  have hver : ver = p + 1 := by
    have e1 : (ys.map begN)[p]? = some (begN ys[p]) := by rw [List.getElem?_map, List.getElem?_eq_getElem hp]; rfl
    rw [hv, List.getElem?_range' (by omega), h4] at e1
    have e2 := Option.some.inj e1
    simp [begN, so.beg, so.begV] at e2
    omega
  subst hver
  have ht : t < (xss i).length := by rw [← k1]; exact (List.getElem?_eq_some_iff.1 h2).1
  have s := (k4 t l h3).sl
  obtain ⟨la, lc, rfl⟩ := s.len
  have hl : (((xss i).take (t + 1)).map (Value.int .i64)).length = t + 1 := by simp; omega
  rw [hl] at s h4
  refine ⟨la, lc, i, t, ?_, h1, ht, by rw [k3]; exact h2, s⟩
  rw [List.getElem?_eq_getElem hp, h4]
  rfl
theorem ent_ints {e : Ent} {row : List Int} (hl : e.len ≤ row.length) (hc : e.len ≤ e.c.size) (h : ∀ i, i < e.len → e.c[i]? = some (.int .i64 ((row[i]?).getD 0))) : e.c.toList.take e.len = (row.take e.len).map (.int .i64) := by
  apply List.ext_getElem
  · simp; omega
  · intro i h1 h2
    have hi : i < e.len := by simp at h1; omega
    have := h i hi
    rw [Array.getElem?_eq_getElem (by omega), List.getElem?_eq_getElem (by omega)] at this
    rw [List.getElem_take, Array.getElem_toList, List.getElem_map, List.getElem_take]
    simpa using this
theorem said_is {ver : Nat} {xs : List Value} (hH : (bpr n xss bpost fin).Hst e00 γ) (s : Said γ ver xs) : (ver = 0 ∧ xs = []) ∨ ∃ e, encE e ∈ γ ∧ e.ver = ver ∧ 1 ≤ ver ∧ ver ≤ verOf γ ∧ 1 ≤ e.k ∧ e.k ≤ n ∧ e.len ≤ (xss (e.k - 1)).length ∧ xs = ((xss (e.k - 1)).take e.len).map (.int .i64) := by
  rcases s with s | ⟨v, h1, e, h2, h3, h4⟩
  · exact .inl s
  · right
    obtain ⟨rfl, I⟩ := bh_is hH v h1 e h2
    obtain ⟨r1, r2, r3, r4⟩ := bh_row hH _ h1 e h2
    obtain ⟨p, hp⟩ := List.getElem?_of_mem h1
    have hlt := (List.getElem?_eq_some_iff.1 hp).1
    have hlen := bh_len hH
    rcases pos_of hH p _ hp with ⟨_, a⟩ | ⟨e1, a, b⟩
    · have := congrArg decE a; rw [dec_enc] at this; cases this
    · have a' := enc_inj a
      subst a'
      refine ⟨e, h1, h3, ?_, by omega, r1, r2, r3, by rw [h4]; exact ent_ints r3 (by have := I.cp; omega) r4⟩
      rcases Nat.eq_zero_or_pos p with h0 | h0
      · subst h0
        obtain ⟨r, hr⟩ := hst_head hH
        rw [hr] at hp
        simp at hp
        have := congrArg decE hp
        rw [dec_enc] at this; cases this
      · omega
theorem bt_of {r0 : Nat} {a : Option Addr} {c : Nat} {ws : List Value} (X : BdEnd n xss fin A B Wg m looks γ us vs vw lw vr lr g) (hbig : sumL xss n ≤ 134217727) (hrows : ∀ i, i < n → (xss i).length ≤ 1099511627776) (Pm : ys.Perm (outR vw lw n).flatten) (Sr : so.Srt 0 ys.length ys) (Y : SlK 2 nos g out ys)
    (q1 : g r0 = some (.cells #[.slice a n c, .int .i64 m, .int .i64 looks] 56)) (hW : Sl g (.slice a n c) ws) (hn : ws.length = n) (hR : ∀ i (hi : i < ws.length), ∃ ub uc, ws[i] = .slice ub (xss i).length uc ∧ Sl g (.slice ub (xss i).length uc) ((xss i).map (.int .i64))) :
    Bt g r0 B n m looks a c ws xss vr lr out ys := by
  obtain ⟨hlen, P⟩ := all_at X hbig Pm Sr
  obtain ⟨_, _, _, _, G5⟩ := rows_good X hbig
  refine ⟨by rw [cellAt_of q1]; rfl, by rw [cellAt_of q1]; rfl, by rw [cellAt_of q1]; rfl, hW, hn, hR, fun j hj => ?_, Y, hlen, fun p hp => ?_, fun j t hj ht => ?_, fun j hj => ?_⟩
  · obtain ⟨u, h1, h2, h3, h4, _⟩ := X.r j hj
    obtain ⟨ub, uc, rfl⟩ := h2.len
    have hrl : (rowsV (vr j) (lr j)).length = looks := by rw [rowsV_len (by rw [h3, h4]), h3]
    rw [hrl] at h1 h2
    refine ⟨ub, uc, ?_, h2, hrl⟩
    rw [cellAt_of X.b]
    simpa using h1
  · obtain ⟨la, lc, i, t, h1, h2, h3, _, h4⟩ := P p hp
    exact ⟨la, lc, i, t, h1, h2, h3, h4⟩
  · obtain ⟨u, _, _, h3, h4, h5, _⟩ := X.r j hj
    have k1 : (lr j)[t]? = some ((lr j)[t]'(by omega)) := List.getElem?_eq_getElem _
    have k2 : (vr j)[t]? = some ((vr j)[t]'(by omega)) := List.getElem?_eq_getElem _
    generalize (lr j)[t]'(by omega) = l at k1
    generalize (vr j)[t]'(by omega) = ver at k2
    obtain ⟨xs, s1, s2⟩ := h5 t l ver k1 k2
    have hrow : (rowsV (vr j) (lr j))[t]? = some [.int .i64 (ver : Int), l] := by
      unfold rowsV
      rw [List.getElem?_zipWith, k2, k1]
    have sl := s1.sl
    obtain ⟨la, lc, rfl⟩ := sl.len
    rcases said_is X.hst s2 with ⟨rfl, rfl⟩ | ⟨e, e1, e2, e3, e4, e5, e6, e7, rfl⟩
    · exact ⟨0, la, lc, [], hrow, sl, k2, by omega, fun _ => rfl, by simp, fun h => by omega⟩
    · rw [List.length_map] at sl hrow
      refine ⟨ver, la, lc, (xss (e.k - 1)).take e.len, hrow, sl, k2, by omega, fun h => by omega, ?_, fun hv => ?_⟩
      · rw [List.length_take]
        have := hrows (e.k - 1) (by omega)
        omega
      · obtain ⟨la', lc', i, t', p1, p2, p3, p4, p5⟩ := P (ver - 1) (by omega)
        rw [show ver - 1 + 1 = ver by omega] at p4
        obtain ⟨e', f1, f2, f3, f4⟩ := ownV_at X.hst (i + 1) t' ver (by omega) p4
        have := ver_uniq X.hst f1 e1 (by omega)
        subst this
        refine ⟨.slice la' (t' + 1) lc', p1.trans ?_, ?_⟩
        · rw [show ((ver - 1 : Nat) : Int) + 1 = (ver : Int) by omega]
        · rw [f4, f3, Nat.add_sub_cancel]
          exact p5
  · obtain ⟨u, _, _, h3, _, _, h6⟩ := X.r j hj
    exact ⟨h6, h3⟩
end
end Go.Proofs.Ytojhnclkhiffkaa.mk

/-
  The law of a run of boards, walked whole.
-/
namespace Go.Proofs.Ytojhnclkhiffkaa.mk
open Go.Proofs.Ytojhnclkhiffkaa
set_option linter.unusedVariables false
set_option linter.unusedSimpArgs false
section
variable {n : Nat} {xss : Nat → List Int}
def finB (v : Value) (_ : H) : Prop := v = .bool true
/-- The starter may return: no group, or a closed one. -/
def ShutB (n : Nat) (xss : Nat → List Int) (h : H) : Prop := (∀ b o, h b = some o → plainO o ∨ o = nG (bpr n xss bpost finB) 9 0 []) ∨ ∃ Wg, h Wg = some (nG (bpr n xss bpost finB) 9 0 [])
theorem shutB_p {h : H} (hp : allP h) : ShutB n xss h := .inl fun b o hb => .inl (hp b o hb)
theorem shutB_e {h h' : H} {Wg : Nat} (hw : h Wg = some (nG (bpr n xss bpost finB) 9 0 [])) (e : Ext h h') : ShutB n xss h' := .inr ⟨Wg, e.at hw⟩
theorem blaw_bad {h0 : H} {a : Option Addr} {c : Nat} {ws : List Value} (hp0 : allP h0) (hW : Sl h0 (.slice a n c) ws) (hn : ws.length = n) (hrow : ∀ i (hi : i < ws.length), ∃ ub uc, ws[i] = .slice ub (xss i).length uc ∧ Sl h0 (.slice ub (xss i).length uc) ((xss i).map (.int .i64)) ∧ (xss i).length ≤ 17592186044416) (hn2 : n ≤ 17592186044416) (r k : Int) (hb : Bad n r k) :
    vc (CM (bpr n xss bpost finB) Try.prog) c6 (retQ [2] (okR fun v h' => v = .bool true ∧ ShutB n xss h')) (argEnv [.agg #[.slice a n c, .int .i64 r, .int .i64 k]] 0) h0 := by
  simp (disch := omega) only [dm_t, wA, wB, wL, wW, wY, Int.fdiv_eq_ediv_of_nonneg, Int.tdiv_eq_ediv_of_nonneg, Int.tmod_eq_emod_of_nonneg, chk_pos, decT, decF, br_pos, br_neg, wX, ↓reduceIte, Nat.reduceEqDiff, Nat.reduceAdd, Nat.reduceSub, Nat.reduceMul, Nat.reduceLeDiff, Nat.reduceLT, Nat.reduceMod, Nat.reduceDiv, Int.reduceToNat, Nat.min_eq_left, IntKind.bits, Int.reducePow, Int.reduceLT, Int.reduceLE, Int.reduceEq, Int.reduceNe, Int.reduceAdd, Int.reduceSub, and_self, reduceCtorEq, decide_eq_true_eq, decide_eq_false_iff_not, eq_self, implies_true, exists_const, Option.isNone_some, Option.isNone_none, Option.isSome_some, Option.isSome_none, Option.getD_some]
  intro r0 hr0
  generalize hG : hupd h0 r0 _ = g1
  obtain ⟨e1, q1⟩ := new_ext hG hr0
  have p1 : allP g1 := hG ▸ allP_upd hp0 (pl_cells _ _ _)
  clear hG
  simp (disch := omega) only [dm_t, wA, wB, wL, wW, wY, Int.fdiv_eq_ediv_of_nonneg, Int.tdiv_eq_ediv_of_nonneg, Int.tmod_eq_emod_of_nonneg, chk_pos, decT, decF, br_pos, br_neg, wX, ↓reduceIte, Nat.reduceEqDiff, Nat.reduceAdd, Nat.reduceSub, Nat.reduceMul, Nat.reduceLeDiff, Nat.reduceLT, Nat.reduceMod, Nat.reduceDiv, Int.reduceToNat, Nat.min_eq_left, IntKind.bits, Int.reducePow, Int.reduceLT, Int.reduceLE, Int.reduceEq, Int.reduceNe, Int.reduceAdd, Int.reduceSub, and_self, reduceCtorEq, decide_eq_true_eq, decide_eq_false_iff_not, eq_self, implies_true, exists_const, Option.isNone_some, Option.isNone_none, Option.isSome_some, Option.isSome_none, Option.getD_some, cellsAt_all q1 3 rfl]
  refine (ok_q (Boards_no hn2 hb) p1).k ?_
  rintro _ g2 ⟨⟨rfl, e2⟩, p2⟩
  have q12 := e2.at q1
  simp (disch := omega) only [dm_t, wA, wB, wL, wW, wY, Int.fdiv_eq_ediv_of_nonneg, Int.tdiv_eq_ediv_of_nonneg, Int.tmod_eq_emod_of_nonneg, chk_pos, decT, decF, br_pos, br_neg, wX, ↓reduceIte, Nat.reduceEqDiff, Nat.reduceAdd, Nat.reduceSub, Nat.reduceMul, Nat.reduceLeDiff, Nat.reduceLT, Nat.reduceMod, Nat.reduceDiv, Int.reduceToNat, Nat.min_eq_left, IntKind.bits, Int.reducePow, Int.reduceLT, Int.reduceLE, Int.reduceEq, Int.reduceNe, Int.reduceAdd, Int.reduceSub, and_self, reduceCtorEq, decide_eq_true_eq, decide_eq_false_iff_not, eq_self, implies_true, exists_const, Option.isNone_some, Option.isNone_none, Option.isSome_some, Option.isSome_none, Option.getD_some, cellsAt_all q12 3 rfl]
  refine (ok_q (few_ok (lens := fun i => (xss i).length) (hW.ext (e1.trans e2)) hn (fun i hi => by
    obtain ⟨ub, uc, h1, _⟩ := hrow i hi
    exact ⟨ub, uc, h1⟩) hn2) p2).k ?_
  rintro _ g4 ⟨⟨b, rfl, e4, hb4⟩, p4⟩
  cases b with
  | true =>
    exfalso
    obtain ⟨h1, h2, h3, h4, h5, _⟩ := hb4 rfl
    have h6 : r * k ≤ 8 * 200 := Int.mul_le_mul h2 h3 h5 (by omega)
    unfold Bad at hb
    omega
  | false =>
    simp (disch := omega) only [dm_t, wA, wB, wL, wW, wY, Int.fdiv_eq_ediv_of_nonneg, Int.tdiv_eq_ediv_of_nonneg, Int.tmod_eq_emod_of_nonneg, chk_pos, decT, decF, br_pos, br_neg, wX, ↓reduceIte, Nat.reduceEqDiff, Nat.reduceAdd, Nat.reduceSub, Nat.reduceMul, Nat.reduceLeDiff, Nat.reduceLT, Nat.reduceMod, Nat.reduceDiv, Int.reduceToNat, Nat.min_eq_left, IntKind.bits, Int.reducePow, Int.reduceLT, Int.reduceLE, Int.reduceEq, Int.reduceNe, Int.reduceAdd, Int.reduceSub, and_self, reduceCtorEq, decide_eq_true_eq, decide_eq_false_iff_not, eq_self, implies_true, exists_const, Option.isNone_some, Option.isNone_none, Option.isSome_some, Option.isSome_none, Option.getD_some]
    refine (ok_q (known_ok g4) p4).k ?_
    rintro _ g5 ⟨⟨rfl, e5⟩, p5⟩
    simp (disch := omega) only [dm_t, wA, wB, wL, wW, wY, Int.fdiv_eq_ediv_of_nonneg, Int.tdiv_eq_ediv_of_nonneg, Int.tmod_eq_emod_of_nonneg, chk_pos, decT, decF, br_pos, br_neg, wX, ↓reduceIte, Nat.reduceEqDiff, Nat.reduceAdd, Nat.reduceSub, Nat.reduceMul, Nat.reduceLeDiff, Nat.reduceLT, Nat.reduceMod, Nat.reduceDiv, Int.reduceToNat, Nat.min_eq_left, IntKind.bits, Int.reducePow, Int.reduceLT, Int.reduceLE, Int.reduceEq, Int.reduceNe, Int.reduceAdd, Int.reduceSub, and_self, reduceCtorEq, decide_eq_true_eq, decide_eq_false_iff_not, eq_self, implies_true, exists_const, Option.isNone_some, Option.isNone_none, Option.isSome_some, Option.isSome_none, Option.getD_some]
    exact shutB_p p5
theorem blaw_good {h0 : H} {a : Option Addr} {c : Nat} {ws : List Value} (hp0 : allP h0) (hro : ∀ b o, h0 b = some o → ∃ c E, o = .cells c E (roF c)) (hW : Sl h0 (.slice a n c) ws) (hn : ws.length = n) (hrow : ∀ i (hi : i < ws.length), ∃ ub uc, ws[i] = .slice ub (xss i).length uc ∧ Sl h0 (.slice ub (xss i).length uc) ((xss i).map (.int .i64)) ∧ (xss i).length ≤ 17592186044416) (m looks : Nat) (hb : ¬ Bad n m looks) (hbig : sumL xss n ≤ 134217727) (hrows : ∀ i, i < n → (xss i).length ≤ 1099511627776) :
    vc (CM (bpr n xss bpost finB) Try.prog) c6 (retQ [2] (okR fun v h' => v = .bool true ∧ ShutB n xss h')) (argEnv [.agg #[.slice a n c, .int .i64 (m : Int), .int .i64 (looks : Int)]] 0) h0 := by
  have hb0 := hb
  unfold Bad at hb
  simp (disch := omega) only [dm_t, wA, wB, wL, wW, wY, Int.fdiv_eq_ediv_of_nonneg, Int.tdiv_eq_ediv_of_nonneg, Int.tmod_eq_emod_of_nonneg, chk_pos, decT, decF, br_pos, br_neg, wX, ↓reduceIte, Nat.reduceEqDiff, Nat.reduceAdd, Nat.reduceSub, Nat.reduceMul, Nat.reduceLeDiff, Nat.reduceLT, Nat.reduceMod, Nat.reduceDiv, Int.reduceToNat, Nat.min_eq_left, IntKind.bits, Int.reducePow, Int.reduceLT, Int.reduceLE, Int.reduceEq, Int.reduceNe, Int.reduceAdd, Int.reduceSub, and_self, reduceCtorEq, decide_eq_true_eq, decide_eq_false_iff_not, eq_self, implies_true, exists_const, Option.isNone_some, Option.isNone_none, Option.isSome_some, Option.isSome_none, Option.getD_some]
  intro r0 hr0
  generalize hG : hupd h0 r0 _ = g1
  obtain ⟨e1, q1⟩ := new_ext hG hr0
  have p1 : allP g1 := hG ▸ allP_upd hp0 (pl_cells _ _ _)
  clear hG
  simp (disch := omega) only [dm_t, wA, wB, wL, wW, wY, Int.fdiv_eq_ediv_of_nonneg, Int.tdiv_eq_ediv_of_nonneg, Int.tmod_eq_emod_of_nonneg, chk_pos, decT, decF, br_pos, br_neg, wX, ↓reduceIte, Nat.reduceEqDiff, Nat.reduceAdd, Nat.reduceSub, Nat.reduceMul, Nat.reduceLeDiff, Nat.reduceLT, Nat.reduceMod, Nat.reduceDiv, Int.reduceToNat, Nat.min_eq_left, IntKind.bits, Int.reducePow, Int.reduceLT, Int.reduceLE, Int.reduceEq, Int.reduceNe, Int.reduceAdd, Int.reduceSub, and_self, reduceCtorEq, decide_eq_true_eq, decide_eq_false_iff_not, eq_self, implies_true, exists_const, Option.isNone_some, Option.isNone_none, Option.isSome_some, Option.isSome_none, Option.getD_some, cellsAt_all q1 3 rfl]
  refine (Boards_ok (fin := finB) (xss := xss) e1 p1 hro hW hn (fun i hi => by
    obtain ⟨ub, uc, k1, k2, k3⟩ := hrow i hi
    rw [k1]; exact ⟨k2, k3⟩) hb0 hbig hrows).k ?_
  rintro _ g3 ⟨A, B, Wg, γ, us, vs, vw, lw, vr, lr, out, ys, rfl, X, Y, Pm, Sr, base, keep⟩
  have q13 := keep _ _ _ q1
  have sl : ∀ {v xs}, Sl h0 v xs → Sl g3 v xs := by
    rintro v xs (s | ⟨b, o, cp, c, E, fr, s1, s2, s3⟩)
    · exact .inl s
    · obtain ⟨c', E', fr', e1, e2⟩ := base _ _ s2
      cases e1
      exact .inr ⟨b, o, cp, c, E, _, s1, e2, s3⟩
  have T := bt_of X hbig hrows Pm Sr Y q13 (sl hW) hn (fun i hi => by
    obtain ⟨ub, uc, h1, h2, _⟩ := hrow i hi
    exact ⟨ub, uc, h1, sl h2⟩)
  have hw3 := X.wg
  obtain ⟨oa, oc, rfl⟩ := Y.len
  simp (disch := omega) only [dm_t, wA, wB, wL, wW, wY, Int.fdiv_eq_ediv_of_nonneg, Int.tdiv_eq_ediv_of_nonneg, Int.tmod_eq_emod_of_nonneg, chk_pos, decT, decF, br_pos, br_neg, wX, ↓reduceIte, Nat.reduceEqDiff, Nat.reduceAdd, Nat.reduceSub, Nat.reduceMul, Nat.reduceLeDiff, Nat.reduceLT, Nat.reduceMod, Nat.reduceDiv, Int.reduceToNat, Nat.min_eq_left, IntKind.bits, Int.reducePow, Int.reduceLT, Int.reduceLE, Int.reduceEq, Int.reduceNe, Int.reduceAdd, Int.reduceSub, and_self, reduceCtorEq, decide_eq_true_eq, decide_eq_false_iff_not, eq_self, implies_true, exists_const, Option.isNone_some, Option.isNone_none, Option.isSome_some, Option.isSome_none, Option.getD_some, cellsAt_all q13 3 rfl]
  refine (few_ok (lens := fun i => (xss i).length) T.W_ hn (fun i hi => by
    obtain ⟨ub, uc, h1, _⟩ := hrow i hi
    exact ⟨ub, uc, h1⟩) (by omega)).k ?_
  rintro _ g4 ⟨b, rfl, e4, hb4⟩
  have hw4 := e4.at hw3
  replace T := T.ext e4
  cases b with
  | false =>
    simp (disch := omega) only [dm_t, wA, wB, wL, wW, wY, Int.fdiv_eq_ediv_of_nonneg, Int.tdiv_eq_ediv_of_nonneg, Int.tmod_eq_emod_of_nonneg, chk_pos, decT, decF, br_pos, br_neg, wX, ↓reduceIte, Nat.reduceEqDiff, Nat.reduceAdd, Nat.reduceSub, Nat.reduceMul, Nat.reduceLeDiff, Nat.reduceLT, Nat.reduceMod, Nat.reduceDiv, Int.reduceToNat, Nat.min_eq_left, IntKind.bits, Int.reducePow, Int.reduceLT, Int.reduceLE, Int.reduceEq, Int.reduceNe, Int.reduceAdd, Int.reduceSub, and_self, reduceCtorEq, decide_eq_true_eq, decide_eq_false_iff_not, eq_self, implies_true, exists_const, Option.isNone_some, Option.isNone_none, Option.isSome_some, Option.isSome_none, Option.getD_some]
    refine (known_ok g4).k ?_
    rintro _ g5 ⟨rfl, e5⟩
    simp (disch := omega) only [dm_t, wA, wB, wL, wW, wY, Int.fdiv_eq_ediv_of_nonneg, Int.tdiv_eq_ediv_of_nonneg, Int.tmod_eq_emod_of_nonneg, chk_pos, decT, decF, br_pos, br_neg, wX, ↓reduceIte, Nat.reduceEqDiff, Nat.reduceAdd, Nat.reduceSub, Nat.reduceMul, Nat.reduceLeDiff, Nat.reduceLT, Nat.reduceMod, Nat.reduceDiv, Int.reduceToNat, Nat.min_eq_left, IntKind.bits, Int.reducePow, Int.reduceLT, Int.reduceLE, Int.reduceEq, Int.reduceNe, Int.reduceAdd, Int.reduceSub, and_self, reduceCtorEq, decide_eq_true_eq, decide_eq_false_iff_not, eq_self, implies_true, exists_const, Option.isNone_some, Option.isNone_none, Option.isSome_some, Option.isSome_none, Option.getD_some]
    exact shutB_e hw4 e5
  | true =>
    obtain ⟨h1, h2, h3, h4, h5, h6⟩ := hb4 rfl
    have r1' := T.r1_
    have hN : ys.length ≤ 400 := by
      have sb : ∀ i, i ≤ n → sumL xss i ≤ 50 * i := by
        intro i
        induction i with
        | zero => intro _; simp [sumL]
        | succ i ih => intro h; have := ih (by omega); have := h6 i (by omega); simp only [sumL]; omega
      rw [T.yl]
      have := sb n (Nat.le_refl _)
      omega
    have hyl : ((ys.length : Nat) : Int) = ((sumL xss n : Nat) : Int) := by rw [T.yl]
    simp (disch := omega) only [dm_t, wA, wB, wL, wW, wY, Int.fdiv_eq_ediv_of_nonneg, Int.tdiv_eq_ediv_of_nonneg, Int.tmod_eq_emod_of_nonneg, chk_pos, decT, decF, br_pos, br_neg, wX, ↓reduceIte, Nat.reduceEqDiff, Nat.reduceAdd, Nat.reduceSub, Nat.reduceMul, Nat.reduceLeDiff, Nat.reduceLT, Nat.reduceMod, Nat.reduceDiv, Int.reduceToNat, Nat.min_eq_left, IntKind.bits, Int.reducePow, Int.reduceLT, Int.reduceLE, Int.reduceEq, Int.reduceNe, Int.reduceAdd, Int.reduceSub, and_self, reduceCtorEq, decide_eq_true_eq, decide_eq_false_iff_not, eq_self, implies_true, exists_const, Option.isNone_some, Option.isNone_none, Option.isSome_some, Option.isSome_none, Option.getD_some, r1']
    refine bl_0 T h1 h6 _ fun y1 y2 => ?_
    rw [← T.yl]
    simp (disch := omega) only [dm_t, wA, wB, wL, wW, wY, Int.fdiv_eq_ediv_of_nonneg, Int.tdiv_eq_ediv_of_nonneg, Int.tmod_eq_emod_of_nonneg, chk_pos, decT, decF, br_pos, br_neg, wX, ↓reduceIte, Nat.reduceEqDiff, Nat.reduceAdd, Nat.reduceSub, Nat.reduceMul, Nat.reduceLeDiff, Nat.reduceLT, Nat.reduceMod, Nat.reduceDiv, Int.reduceToNat, Nat.min_eq_left, IntKind.bits, Int.reducePow, Int.reduceLT, Int.reduceLE, Int.reduceEq, Int.reduceNe, Int.reduceAdd, Int.reduceSub, and_self, reduceCtorEq, decide_eq_true_eq, decide_eq_false_iff_not, eq_self, implies_true, exists_const, Option.isNone_some, Option.isNone_none, Option.isSome_some, Option.isSome_none, Option.getD_some]
    refine bl_1 T h1 h6 hN _ fun y3 y4 => ?_
    simp (disch := omega) only [dm_t, wA, wB, wL, wW, wY, Int.fdiv_eq_ediv_of_nonneg, Int.tdiv_eq_ediv_of_nonneg, Int.tmod_eq_emod_of_nonneg, chk_pos, decT, decF, br_pos, br_neg, wX, ↓reduceIte, Nat.reduceEqDiff, Nat.reduceAdd, Nat.reduceSub, Nat.reduceMul, Nat.reduceLeDiff, Nat.reduceLT, Nat.reduceMod, Nat.reduceDiv, Int.reduceToNat, Nat.min_eq_left, IntKind.bits, Int.reducePow, Int.reduceLT, Int.reduceLE, Int.reduceEq, Int.reduceNe, Int.reduceAdd, Int.reduceSub, and_self, reduceCtorEq, decide_eq_true_eq, decide_eq_false_iff_not, eq_self, implies_true, exists_const, Option.isNone_some, Option.isNone_none, Option.isSome_some, Option.isSome_none, Option.getD_some]
    refine bl_3 T (by omega) hN (by omega) _ fun h' y5 y6 e5 => ?_
    simp (disch := omega) only [dm_t, wA, wB, wL, wW, wY, Int.fdiv_eq_ediv_of_nonneg, Int.tdiv_eq_ediv_of_nonneg, Int.tmod_eq_emod_of_nonneg, chk_pos, decT, decF, br_pos, br_neg, wX, ↓reduceIte, Nat.reduceEqDiff, Nat.reduceAdd, Nat.reduceSub, Nat.reduceMul, Nat.reduceLeDiff, Nat.reduceLT, Nat.reduceMod, Nat.reduceDiv, Int.reduceToNat, Nat.min_eq_left, IntKind.bits, Int.reducePow, Int.reduceLT, Int.reduceLE, Int.reduceEq, Int.reduceNe, Int.reduceAdd, Int.reduceSub, and_self, reduceCtorEq, decide_eq_true_eq, decide_eq_false_iff_not, eq_self, implies_true, exists_const, Option.isNone_some, Option.isNone_none, Option.isSome_some, Option.isSome_none, Option.getD_some]
    refine (known_ok _).k ?_
    rintro _ g6 ⟨rfl, e6⟩
    simp (disch := omega) only [dm_t, wA, wB, wL, wW, wY, Int.fdiv_eq_ediv_of_nonneg, Int.tdiv_eq_ediv_of_nonneg, Int.tmod_eq_emod_of_nonneg, chk_pos, decT, decF, br_pos, br_neg, wX, ↓reduceIte, Nat.reduceEqDiff, Nat.reduceAdd, Nat.reduceSub, Nat.reduceMul, Nat.reduceLeDiff, Nat.reduceLT, Nat.reduceMod, Nat.reduceDiv, Int.reduceToNat, Nat.min_eq_left, IntKind.bits, Int.reducePow, Int.reduceLT, Int.reduceLE, Int.reduceEq, Int.reduceNe, Int.reduceAdd, Int.reduceSub, and_self, reduceCtorEq, decide_eq_true_eq, decide_eq_false_iff_not, eq_self, implies_true, exists_const, Option.isNone_some, Option.isNone_none, Option.isSome_some, Option.isSome_none, Option.getD_some]
    exact shutB_e (e5.at hw4) e6
end
end Go.Proofs.Ytojhnclkhiffkaa.mk

/-
  MarksBoards answers true whatever the run is, if what it reads is of bulk at most 1048576, however the goroutines take turns: each list that is seen was published whole, with its version.
-/
namespace Go.Proofs.Ytojhnclkhiffkaa.marksBoards
open Go.ChangeShapes Go.WideShapes Go.ChangeAt Go.RowKit Go.Proofs.Ytojhnclkhiffkaa mk Go.Conc
set_option linter.unusedVariables false
set_option linter.unusedSimpArgs false

/-! ### The argument -/
def mrT : Ty := .pair (.sl (.sl (.int .i64))) (.pair (.int .i64) (.int .i64))
theorem slK_rows {S : Nat → Prop} {h : H} {v : Value} {rows : List (List Value)} {Q : Nat → Value → Prop} (s : SlK 1 S h v rows) (hq : ∀ i r, rows[i]? = some r → ∃ u, r = [u] ∧ Q i u) : ∃ ws : List Value, Sl h v ws ∧ ws.length = rows.length ∧ ∀ i (hi : i < ws.length), Q i ws[i] := by
  have he : rows = one (rows.map fun r => r.headD undef) := by
    apply List.ext_getElem?
    intro i
    simp only [one, List.getElem?_map]
    cases hr : rows[i]? with
    | none => rfl
    | some r =>
      obtain ⟨u, rfl, _⟩ := hq i r hr
      rfl
  refine ⟨rows.map fun r => r.headD undef, ?_, by simp, fun i hi => ?_⟩
  · rw [he] at s
    exact SlK.to1 s
  · have hi' : i < rows.length := by simpa using hi
    obtain ⟨u, h1, h2⟩ := hq i rows[i] (List.getElem?_eq_getElem hi')
    rw [List.getElem_map, h1]
    exact h2
theorem rep_ints {S : Nat → Prop} {h : H} {cs : List Value} {xs : List Int} (r : Rep S (.sl (.int .i64)) h cs xs) : ∃ v, cs = [v] ∧ Sl h v (xs.map (.int .i64)) := by
  obtain ⟨v, rows, rfl, s, hl, hr⟩ := r
  obtain ⟨ws, h1, h2, h3⟩ := slK_rows (Q := fun i u => ∀ x, xs[i]? = some x → u = .int .i64 x) s (fun i r hi => by
    have hi' : i < rows.length := (List.getElem?_eq_some_iff.1 hi).1
    have hx : xs[i]? = some (xs[i]'(by omega)) := List.getElem?_eq_getElem _
    obtain ⟨k1, _⟩ := hr i r _ hi hx
    refine ⟨_, k1, fun x h => ?_⟩
    rw [hx] at h
    cases h
    rfl)
  refine ⟨v, rfl, ?_⟩
  have : ws = xs.map (.int .i64) := by
    apply List.ext_getElem
    · simp; omega
    · intro i k1 k2
      have hi : i < xs.length := by simpa using k2
      rw [h3 i k1 xs[i] (List.getElem?_eq_getElem hi)]
      simp
  rw [← this]
  exact h1
theorem rep_run {h : H} {cs : List Value} {x : mrT.D} (r : Rep nos mrT h cs x) (hf : Ty.lim 1048576 mrT x) : ∃ (a : Option Addr) (n c : Nat) (ws : List Value) (xss : Nat → List Int) (rd lk : Int), cs = [.slice a n c, .int .i64 rd, .int .i64 lk] ∧ Sl h (.slice a n c) ws ∧ ws.length = n ∧ n ≤ 1048576 ∧
    (∀ i (hi : i < ws.length), ∃ ub uc, ws[i] = .slice ub (xss i).length uc ∧ Sl h (.slice ub (xss i).length uc) ((xss i).map (.int .i64))) ∧ ∀ i, (xss i).length ≤ 1048576 := by
  obtain ⟨c1, d1, rfl, ⟨v, rows, rfl, s, hl, hr⟩, c2, d2, rfl, ⟨rfl, _⟩, ⟨rfl, _⟩⟩ := r
  obtain ⟨⟨f1, f2⟩, _⟩ := hf
  have f1' : List.length x.1 ≤ 1048576 := f1
  obtain ⟨ws, h1, h2, h3⟩ := slK_rows (Q := fun i u => ∃ ub uc, u = .slice ub ((x.1[i]?).getD []).length uc ∧ Sl h (.slice ub ((x.1[i]?).getD []).length uc) (((x.1[i]?).getD []).map (.int .i64))) s (fun i r hi => by
    have hi' : i < rows.length := (List.getElem?_eq_some_iff.1 hi).1
    have hlt : i < List.length x.1 := hl ▸ hi'
    have hx : x.1[i]? = some (x.1[i]'hlt) := List.getElem?_eq_getElem _
    obtain ⟨u, k1, k2⟩ := rep_ints (hr i r _ hi hx)
    obtain ⟨ub, uc, rfl⟩ := k2.len
    rw [List.length_map] at k2 k1
    refine ⟨_, k1, ub, uc, ?_⟩
    rw [hx]
    exact ⟨rfl, k2⟩)
  obtain ⟨a, c, rfl⟩ := h1.len
  refine ⟨a, ws.length, c, ws, fun i => (x.1[i]?).getD [], x.2.1, x.2.2, rfl, h1, rfl, (by
    have e1 : rows.length = List.length x.1 := hl
    omega), h3, fun i => ?_⟩
  show ((x.1[i]?).getD []).length ≤ _
  cases hx : x.1[i]? with
  | none => simp
  | some y => exact (f2 y (List.mem_of_getElem? hx)).1
/-! ### Any run -/
theorem law_any {n : Nat} {xss : Nat → List Int} {h0 : H} {a : Option Addr} {c : Nat} {ws : List Value} (hp0 : allP h0) (hro : ∀ b o, h0 b = some o → ∃ c E, o = .cells c E (roF c)) (hW : Sl h0 (.slice a n c) ws) (hn : ws.length = n) (hn2 : n ≤ 1048576)
    (hrow : ∀ i (hi : i < ws.length), ∃ ub uc, ws[i] = .slice ub (xss i).length uc ∧ Sl h0 (.slice ub (xss i).length uc) ((xss i).map (.int .i64))) (hlen : ∀ i, (xss i).length ≤ 1048576) (rd lk : Int) :
    vc (CM (bpr n xss bpost finB) Try.prog) c6 (retQ [2] (okR fun v h' => v = .bool true ∧ ShutB n xss h')) (argEnv [.agg #[.slice a n c, .int .i64 rd, .int .i64 lk]] 0) h0 := by
  have hrow' : ∀ i (hi : i < ws.length), ∃ ub uc, ws[i] = .slice ub (xss i).length uc ∧ Sl h0 (.slice ub (xss i).length uc) ((xss i).map (.int .i64)) ∧ (xss i).length ≤ 17592186044416 := fun i hi =>
    let ⟨ub, uc, h1, h2⟩ := hrow i hi
    ⟨ub, uc, h1, h2, by have := hlen i; omega⟩
  by_cases hb : Bad n rd lk
  · exact blaw_bad hp0 hW hn hrow' (by omega) rd lk hb
  · have hb' := hb
    unfold Bad at hb'
    obtain ⟨m, rfl⟩ : ∃ m : Nat, rd = m := ⟨rd.toNat, by omega⟩
    obtain ⟨looks, rfl⟩ : ∃ m : Nat, lk = m := ⟨lk.toNat, by omega⟩
    have hs : ∀ i, sumL xss i ≤ i * 1048576 := by
      intro i
      induction i with
      | zero => simp [sumL]
      | succ i ih => have := hlen i; simp only [sumL]; omega
    have hn64 : n ≤ 64 := by omega
    have := hs n
    exact blaw_good hp0 hro hW hn hrow' m looks hb (by omega) (fun i _ => by have := hlen i; omega)
end Go.Proofs.Ytojhnclkhiffkaa.marksBoards

/-
  MarksBoards answers true whatever the run is, if what it reads is of bulk at most 1048576, however the goroutines take turns: each list that is seen was published whole, with its version.
-/
namespace Go.Proofs.Ytojhnclkhiffkaa.marksBoards
open Go.ChangeShapes Go.WideShapes Go.ChangeAt Go.RowKit Go.Proofs.Ytojhnclkhiffkaa mk Go.Conc
set_option linter.unusedVariables false
set_option linter.unusedSimpArgs false
theorem part_le {H : Type} {d : DataW H} {l : List (DataW H)} (h : d ∈ l) : Rows.uptoBulk d ≤ Rows.uptoBulkAll l := by
  induction l with
  | nil => cases h
  | cons x r ih =>
    simp only [Rows.uptoBulkAll]
    rcases List.mem_cons.1 h with rfl | e
    · omega
    · have := ih e; omega
theorem one_le {H : Type} (d : DataW H) : 1 ≤ Rows.uptoBulk d := by
  cases d with
  | lit l => cases l <;> simp [Rows.uptoBulk]
  | _ => simp [Rows.uptoBulk]
theorem len_le {H : Type} (l : List (DataW H)) : l.length ≤ Rows.uptoBulkAll l := by
  induction l with
  | nil => simp [Rows.uptoBulkAll]
  | cons x r ih => have := one_le x; simp only [Rows.uptoBulkAll, List.length_cons]; omega
theorem bulk_sl {H : Type} (es rs : List (DataW H)) : es.length ≤ Rows.uptoBulk (.slice es rs) ∧ ∀ e ∈ es ++ rs, Rows.uptoBulk e ≤ Rows.uptoBulk (.slice es rs) := by
  simp only [Rows.uptoBulk]
  refine ⟨by have := len_le es; omega, fun e he => ?_⟩
  rcases List.mem_append.1 he with he | he
  · have := part_le he; omega
  · have := part_le he; omega
theorem bulk_agg {H : Type} (ps : List (DataW H)) : ∀ e ∈ ps, Rows.uptoBulk e ≤ Rows.uptoBulk (.agg ps) := by
  intro e he
  simp only [Rows.uptoBulk]
  have := part_le he; omega
theorem own : ownKnob Try.prog.godebug = none := by kernel_rfl
theorem noinit : Try.prog.inits.idxOf? 6 = none := by kernel_rfl
abbrev upB : OpenSpec := Rows.OpenSpec.upto Rows.marksBoardsSpec
set_option maxRecDepth 100000 in
theorem lifted (os : Os) (started : os.Started) (H : Type) (enc : TypeId × Value → H) (F : Stop.Interp) :
    ReturnsInLeavingWide {} Try.checked os 6 .any (upB.pre6 enc Try.prog Try.f6 Rows.marksBoardsUptoRow.domain false) ((upB.at F).post enc Try.prog Try.f6 false true false false) := by
  refine returnsInLeavingWide_of_good own started
    (OpenSpec.witness (enc := enc) (C := Try.checked) (s := upB) (k := Rows.uptoSmall) rfl false ⟨#[], #[.agg #[.slice none 0 0, .int .i64 0, .int .i64 0]], []⟩ 8 (by kernel_rfl) (by kernel_rfl) (by kernel_rfl)
      (x := ([.agg [.nil, .lit (.int .i64 0), .lit (.int .i64 0)]], [], [])) (by kernel_rfl) rfl (by kernel_rfl)) ?_
  intro w tape i _ _ _ hok hpre _
  obtain ⟨_, _, _, fn', hfn', _, _, _, _, hval0⟩ := hok
  have e : fn' = Try.f6 := Option.some.inj (hfn'.symm.trans Try.func6)
  subst e
  obtain ⟨ds, gs, before, hw0, _, hk⟩ := (OpenSpec.pre_some (s := upB) (k := Rows.uptoSmall) rfl _ _ _ _).1 hpre.1
  have hwt0 := hpre.2.weights hw0
  have hW := DataW.Whole.of_heap (w' := w.forCall tape i) (by rfl) hw0
  generalize w.forCall tape i = W at hW hval0 ⊢
  generalize i.args = args at hW hval0 hwt0 ⊢
  have hwt : (DataW.weightsEach Try.prog (Try.f6.params.toList ++ upB.bare.plain.varTypes Try.prog) (ds ++ gs)).all (· ≤ reachBytes) = true := hwt0
  clear hwt0
  have hval : ∀ (j : Nat) t v, Try.f6.params[j]? = some t → args[j]? = some v → Value.okWide Try.prog W .any w.heap.size t v := hval0
  clear hval0
  have hW' := hW
  obtain ⟨p, q, hA0, hV, rfl, hfz, hnd⟩ := hW
  have hA : DataW.TrodAll enc Try.prog W 0 (fun _ => true) true Try.f6.params.toList args.toList ds p := hA0
  rw [Try.params6] at hA hval hwt
  obtain ⟨v0, vs0, d0, ds0, p0, q0, hargs, rfl, rfl, h0, r0⟩ := trodAll_cons hA
  obtain ⟨rfl, rfl, rfl⟩ := trodAll_nil r0
  obtain rfl : args = #[v0] := by cases args; simp_all
  obtain ⟨rfl, rfl⟩ := trodVars_none hV
  have hk2 := of_decide_eq_true hk
  simp only [List.append_nil, Rows.uptoBulkAll] at hk2
  have hv0 := hval 0 56 v0 rfl rfl
  obtain ⟨x, hx, hlim⟩ := rep_open2 (n := 30) mrT 1048576 Rows.uptoBulk bulk_sl bulk_agg (by kernel_rfl) h0 (by omega)
  obtain ⟨cs, rfl⟩ : ∃ cs : List Value, v0 = .agg cs.toArray := by
    unfold Value.okWide at hv0
    rw [Try.underlying56] at hv0
    obtain ⟨cs, rfl, _⟩ := hv0
    exact ⟨cs.toList, by simp⟩
  obtain ⟨a, n, c, ws, xss, rd, lk, hcs, k1, k2, k3, k4, k5⟩ := rep_run hx hlim
  have hcs' : cs = [.slice a n c, .int .i64 rd, .int .i64 lk] := hcs
  subst hcs'
  have hv := law_any (h0 := hp W) (allP_hp W) (fun b o hb => let ⟨c, E, fr, _, h⟩ := hp_some hb; ⟨c, E, h⟩) k1 k2 k3 k4 k5 rd lk
  obtain ⟨M, last, o, w', t', h1, h2, h3, h4⟩ := law_runs (pr := bpr n xss bpost finB) (R := fun v h' => v = .bool true ∧ ShutB n xss h') Try.func6 rfl rfl rfl noinit c6_low (args := [_]) (by simp) hv (fun v h' h => ⟨h.2, h.1⟩)
    (Post := fun v W' => ((upB.at F).post enc Try.prog Try.f6 false true false false) W #[.agg [.slice a n c, .int .i64 rd, .int .i64 lk].toArray] v W') (fun v h' w' hf _ hb => by
      cases hf
      exact law_post (s := upB.at F) (by kernel_rfl) (by kernel_rfl) rfl Try.underlying4 rfl hW' rfl rfl rfl hb)
  exact ⟨M, last, o, w', t', h1, h2, h3, h4.mono fun v hp => ChangeSpec.post_blind hp⟩
theorem closed : joinedFacts Try.pinned.checked.prog 6 Try.f6 upB.bare Rows.marksBoardsUptoRow = true := by kernel_rfl
theorem inst : Try.f6.isInstance Try.pinned.checked.prog Rows.marksBoardsUptoRow.origin Rows.marksBoardsUptoRow.targs := of_decide_eq_true (by kernel_rfl)
theorem wrap : Try.f6.isWrapper Try.pinned.checked.prog Rows.marksBoardsUptoRow.wrapper Rows.marksBoardsUptoRow.mainSum := by
  unfold Func.isWrapper; first | (rw [if_pos (by decide +kernel)]; kernel_rfl) | (rw [if_neg (by decide +kernel)]; exact ⟨rfl, rfl⟩)
theorem named : Try.pinned.checked.prog.funcNamed Rows.marksBoardsUptoRow.func = some 6 := by kernel_rfl
set_option maxRecDepth 100000 in
/-- The row, of its facts and of its runs. -/
theorem over : Rows.marksBoardsUptoRow.holds Try.pinned upB := by
  have F := closed
  simp only [joinedFacts, Bool.and_eq_true, beq_iff_eq, Array.all_eq_true_iff_forall_mem, List.all_eq_true, decide_eq_true_eq] at F
  obtain ⟨⟨⟨⟨⟨⟨⟨⟨⟨⟨⟨⟨⟨⟨⟨⟨⟨⟨⟨⟨⟨⟨⟨⟨⟨⟨⟨⟨⟨⟨⟨wf, laid⟩, rowed⟩, par⟩, tie⟩, stp⟩, pst⟩, kno⟩, pkn⟩, inp⟩, unf⟩, rec⟩, nam⟩, map⟩, ifc⟩, mou⟩, loo⟩, wid⟩, var⟩, res⟩, ifo⟩, lou⟩, vei⟩, vfi⟩, x1⟩, x2⟩, x3⟩, x4⟩, x5⟩, x6⟩, x7⟩, x8⟩ := F
  refine ⟨wf, rfl, rfl, rfl, laid, rowed, x2, ⟨rfl, rfl, rfl, rfl, rfl, rfl, rfl⟩, 6, Try.f6, named, Try.func6, ⟨par, res⟩, fun h => Bool.noConfusion h, tie, inst, wrap, stp.trans pst.symm, ⟨kno.trans pkn.symm, ?_, x1⟩, inp, unf, rec, nam, map, ⟨ifc, x7, x8⟩, ⟨mou, ifo⟩, ⟨loo, lou, x5, x6⟩, ⟨vei, x3, x4, wid⟩, ?_, fun n hn => varReadable_some (var n hn),
    ⟨_, WideRow.started_initial, ?_⟩, [], rfl, ?_⟩
  · unfold Program.envWorded
    rw [pkn]; rfl
  · rfl
  · intro k hk
    rw [pkn] at hk; cases hk
  · intro os st _ H enc inj
    rw [OpenClaim.post_not_still rfl]
    unfold OpenClaim.form
    rw [show Rows.marksBoardsUptoRow.start = .entering from rfl, stp]
    exact fun F => lifted os st H enc F x2
theorem proved : Rows.MarksBoardsUptoSaid :=
  over
#print axioms proved
end Go.Proofs.Ytojhnclkhiffkaa.marksBoards

