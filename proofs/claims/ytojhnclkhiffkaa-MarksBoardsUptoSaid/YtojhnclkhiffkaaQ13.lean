/-
  sort: siftDown, heapSort.
-/
import Derived.Test.YtojhnclkhiffkaaQ12
/-
  sort: siftDown, heapSort.
-/
namespace Go.Proofs.Ytojhnclkhiffkaa.so
open Go.Proofs.Ytojhnclkhiffkaa
variable {PX : Cx Try.prog}
set_option linter.unusedVariables false
set_option linter.unusedSimpArgs false
/-- From lo on no child is behind its parent. -/
def Hp (f lo hi : Nat) (zs : List Row) : Prop := ∀ c, c < hi → 0 < c → lo ≤ (c - 1) / 2 → le (gt zs (f + c)) (gt zs (f + (c - 1) / 2))
structure SI (f lo hi r : Nat) (zs : List Row) : Prop where
  a : ∀ c, c < hi → 0 < c → lo ≤ (c - 1) / 2 → (c - 1) / 2 ≠ r → le (gt zs (f + c)) (gt zs (f + (c - 1) / 2))
  b : r ≠ lo → ∀ c, c < hi → 0 < c → (c - 1) / 2 = r → le (gt zs (f + c)) (gt zs (f + (r - 1) / 2))
  lo : lo ≤ r
section
variable {f lo hi r : Nat} {zs : List Row}
theorem SI.start (h : Hp f (lo + 1) hi zs) : SI f lo hi lo zs := ⟨fun c h1 h2 h3 h4 => h c h1 h2 (by omega), fun h => absurd rfl h, Nat.le_refl _⟩
theorem SI.out (s : SI f lo hi r zs) (h : hi ≤ 2 * r + 1) : Hp f lo hi zs := fun c h1 h2 h3 => s.a c h1 h2 h3 (by omega)
/-- c is the child that is farther behind. -/
structure Big (f hi r c : Nat) (zs : List Row) : Prop where
  ch : c = 2 * r + 1 ∨ c = 2 * r + 2
  bd : c < hi
  all : ∀ d, d < hi → 0 < d → (d - 1) / 2 = r → le (gt zs (f + d)) (gt zs (f + c))
theorem SI.ret (s : SI f lo hi r zs) {c : Nat} (g : Big f hi r c zs) (h : le (gt zs (f + c)) (gt zs (f + r))) : Hp f lo hi zs := fun d h1 h2 h3 => by
  by_cases hd : (d - 1) / 2 = r
  · rw [hd]; exact le_tr (g.all d h1 h2 hd) h
  · exact s.a d h1 h2 h3 hd
theorem SI.step (s : SI f lo hi r zs) {c : Nat} (g : Big f hi r c zs) (hl : f + hi ≤ zs.length) (h : lt (gt zs (f + r)) (gt zs (f + c))) : SI f lo hi c (swp zs (f + r) (f + c)) := by
  obtain ⟨g1, g2, g3⟩ := g
  have hlo := s.lo
  have hpc : (c - 1) / 2 = r := by omega
  have hk := gt_swp (xs := zs) (i := f + r) (j := f + c) (by omega) (by omega)
  refine ⟨fun d h1 h2 h3 h4 => ?_, fun hne d h1 h2 h3 => ?_, by omega⟩
  · rw [hk, hk]
    by_cases hdc : d = c
    · subst hdc
      rw [if_pos rfl, hpc, if_neg (by omega), if_pos rfl]
      exact le_of_lt h
    rw [if_neg (by omega), if_neg (show ¬ f + (d - 1) / 2 = f + c by omega)]
    by_cases hpd : (d - 1) / 2 = r
    · rw [if_neg (by omega), if_pos (by omega)]
      exact g3 d h1 h2 hpd
    rw [if_neg (show ¬ f + (d - 1) / 2 = f + r by omega)]
    by_cases hdr : d = r
    · subst hdr
      rw [if_pos rfl]
      exact s.b (by omega) c g2 (by omega) hpc
    · rw [if_neg (by omega)]
      exact s.a d h1 h2 h3 hpd
  · rw [hk, hk, if_neg (by omega), if_neg (by omega), hpc, if_neg (by omega), if_pos rfl]
    have := s.a d h1 h2 (by omega) (by omega)
    rw [h3] at this
    exact this
theorem Hp.top (h : Hp f 0 hi zs) : ∀ c, c < hi → le (gt zs (f + c)) (gt zs f) := by
  intro c
  induction c using Nat.strongRecOn with
  | ind c ih =>
    intro hc
    by_cases h0 : c = 0
    · subst h0; exact le_refl _
    · exact le_tr (h c hc (by omega) (by omega)) (ih ((c - 1) / 2) (by omega) (by omega))
/-- The first n are a heap, those behind are sorted, and behind all of the first ones. -/
structure HS (f n b : Nat) (zs : List Row) : Prop where
  h : Hp f 0 n zs
  s : Srt (f + n) b zs
  o : ∀ p q, p < n → f + n ≤ q → q < b → le (gt zs (f + p)) (gt zs q)
theorem HS.swap {n b : Nat} (s : HS f (n + 1) b zs) (hl : b ≤ zs.length) (hn : f + n < b) : Hp f 1 n (swp zs f (f + n)) := by
  intro c h1 h2 h3
  have hk := gt_swp (xs := zs) (i := f) (j := f + n) (by omega) (by omega)
  rw [hk, hk, if_neg (by omega), if_neg (by omega), if_neg (by omega), if_neg (by omega)]
  exact s.h c (by omega) h2 (by omega)
theorem HS.step {n b : Nat} {ws : List Row} (s : HS f (n + 1) b zs) (hl : b ≤ zs.length) (hn : f + n < b) (r : Rg f (f + n) (swp zs f (f + n)) ws) (h : Hp f 0 n ws) : HS f n b ws := by
  have hk := gt_swp (xs := zs) (i := f) (j := f + n) (by omega) (by omega)
  have htop := s.h.top
  have hq : ∀ q, f + n ≤ q → q < b → gt ws q = if q = f + n then gt zs f else gt zs q := by
    intro q h1 h2
    rw [r.out q (.inr h1), hk]
    by_cases hq : q = f + n
    · rw [if_pos hq, if_pos hq]
    · rw [if_neg hq, if_neg hq]
      by_cases hf : q = f
      · omega
      · rw [if_neg hf]
  have hp : ∀ p, p < n → ∃ k, k < n + 1 ∧ gt ws (f + p) = gt zs (f + k) := by
    intro p h1
    obtain ⟨k, h2, h3, h4⟩ := r.ins (f + p) (by omega) (by omega)
    rw [hk, if_neg (by omega)] at h4
    by_cases hf : k = f
    · rw [if_pos hf] at h4
      exact ⟨n, by omega, h4⟩
    · rw [if_neg hf] at h4
      exact ⟨k - f, by omega, by rw [h4]; congr 1; omega⟩
  refine ⟨h, fun i j h1 h2 h3 => ?_, fun p q h1 h2 h3 => ?_⟩
  · rw [hq i h1 (by omega), hq j (by omega) h3, if_neg (show ¬ j = f + n by omega)]
    by_cases hi : i = f + n
    · rw [if_pos hi]
      exact s.o 0 j (by omega) (by omega) h3
    · rw [if_neg hi]
      exact s.s i j (by omega) h2 h3
  · obtain ⟨k, hk1, hk2⟩ := hp p h1
    rw [hk2, hq q h2 h3]
    by_cases hqn : q = f + n
    · rw [if_pos hqn]
      exact htop k hk1
    · rw [if_neg hqn]
      exact s.o k q hk1 (by omega) h3
end
theorem Sift_ok {h : H} {sv : Value} {xs : List Row} {f lo hi : Nat} (d : DX h h sv xs) (hlo : lo ≤ hi) (hl : f + hi ≤ xs.length) (hb : xs.length ≤ 1152921504606846976) (hp : Hp f (lo + 1) hi xs) :
    Ok PX 85 #[sv, .int .i64 (lo : Int), .int .i64 (hi : Int), .int .i64 (f : Int), lessV] h fun _ h' => ∃ ys, DX h h' sv ys ∧ Rg f (f + hi) xs ys ∧ Hp f lo hi ys := by
  refine c85_ok (args := [_, _, _, _, _]) (by simp) ?_
  simp (disch := omega) only [dm_t, wA, wB, wL, wW, wY, Int.fdiv_eq_ediv_of_nonneg, Int.tdiv_eq_ediv_of_nonneg, Int.tmod_eq_emod_of_nonneg, chk_pos, decT, decF, br_pos, br_neg, wX, ↓reduceIte, Nat.reduceEqDiff, Nat.reduceAdd, Nat.reduceSub, Nat.reduceMul, Nat.reduceLeDiff, Nat.reduceLT, Nat.reduceMod, Nat.reduceDiv, Int.reduceToNat, Nat.min_eq_left, IntKind.bits, Int.reducePow, Int.reduceLT, Int.reduceLE, Int.reduceEq, Int.reduceNe, Int.reduceAdd, Int.reduceSub, and_self, reduceCtorEq, decide_eq_true_eq, decide_eq_false_iff_not, eq_self, implies_true, exists_const, Option.isNone_some, Option.isNone_none, Option.isSome_some, Option.isSome_none, Option.getD_some]
  refine vc_loop1 (fun vr g => ∃ (r : Nat) (ys : List Row), vr = .int .i64 (r : Int) ∧ r ≤ hi ∧ DX h g sv ys ∧ Rg f (f + hi) xs ys ∧ SI f lo hi r ys) (fun vr _ => hi - m1 vr) ?_ ?_
  · simp (disch := omega) only [dm_t, wA, wB, wL, wW, wY, Int.fdiv_eq_ediv_of_nonneg, Int.tdiv_eq_ediv_of_nonneg, Int.tmod_eq_emod_of_nonneg, chk_pos, decT, decF, br_pos, br_neg, wX, ↓reduceIte, Nat.reduceEqDiff, Nat.reduceAdd, Nat.reduceSub, Nat.reduceMul, Nat.reduceLeDiff, Nat.reduceLT, Nat.reduceMod, Nat.reduceDiv, Int.reduceToNat, Nat.min_eq_left, IntKind.bits, Int.reducePow, Int.reduceLT, Int.reduceLE, Int.reduceEq, Int.reduceNe, Int.reduceAdd, Int.reduceSub, and_self, reduceCtorEq, decide_eq_true_eq, decide_eq_false_iff_not, eq_self, implies_true, exists_const, Option.isNone_some, Option.isNone_none, Option.isSome_some, Option.isSome_none, Option.getD_some]
    exact ⟨lo, xs, rfl, hlo, d, Rg.refl _ _ _, SI.start hp⟩
  rintro _ g ⟨r, ys, rfl, hr, D, R, S⟩
  have hlen := R.len
  by_cases hc1 : hi ≤ 2 * r + 1
  · simp (disch := omega) only [dm_t, wA, wB, wL, wW, wY, Int.fdiv_eq_ediv_of_nonneg, Int.tdiv_eq_ediv_of_nonneg, Int.tmod_eq_emod_of_nonneg, chk_pos, decT, decF, br_pos, br_neg, wX, ↓reduceIte, Nat.reduceEqDiff, Nat.reduceAdd, Nat.reduceSub, Nat.reduceMul, Nat.reduceLeDiff, Nat.reduceLT, Nat.reduceMod, Nat.reduceDiv, Int.reduceToNat, Nat.min_eq_left, IntKind.bits, Int.reducePow, Int.reduceLT, Int.reduceLE, Int.reduceEq, Int.reduceNe, Int.reduceAdd, Int.reduceSub, and_self, reduceCtorEq, decide_eq_true_eq, decide_eq_false_iff_not, eq_self, implies_true, exists_const, Option.isNone_some, Option.isNone_none, Option.isSome_some, Option.isSome_none, Option.getD_some]
    exact ⟨ys, D, R, S.out hc1⟩
  generalize hQ0 : lq1 _ _ _ _ _ _ _ = Q0
  have key : ∀ (g : H) (c : Nat), DX h g sv ys → Big f hi r c ys → vc PX c85_s3 (blockQ 1 Q0) [(0, sv), (2, .int .i64 (hi : Int)), (3, .int .i64 (f : Int)), (4, lessV), (10, .int .i64 (r : Int)), (11, .int .i64 (c : Int))] g := by
    intro g c D G
    have hch := G.ch
    have hbd := G.bd
    obtain ⟨b1, o1, i1, t1⟩ := D.at (i := f + r) (by omega) (e := (f : Int) + (r : Int)) (by omega)
    obtain ⟨b2, o2, i2, t2⟩ := D.at (i := f + c) (by omega) (e := (f : Int) + (c : Int)) (by omega)
    simp (disch := omega) only [dm_t, wA, wB, wL, wW, wY, Int.fdiv_eq_ediv_of_nonneg, Int.tdiv_eq_ediv_of_nonneg, Int.tmod_eq_emod_of_nonneg, chk_pos, decT, decF, br_pos, br_neg, wX, ↓reduceIte, Nat.reduceEqDiff, Nat.reduceAdd, Nat.reduceSub, Nat.reduceMul, Nat.reduceLeDiff, Nat.reduceLT, Nat.reduceMod, Nat.reduceDiv, Int.reduceToNat, Nat.min_eq_left, IntKind.bits, Int.reducePow, Int.reduceLT, Int.reduceLE, Int.reduceEq, Int.reduceNe, Int.reduceAdd, Int.reduceSub, and_self, reduceCtorEq, decide_eq_true_eq, decide_eq_false_iff_not, eq_self, implies_true, exists_const, Option.isNone_some, Option.isNone_none, Option.isSome_some, Option.isSome_none, Option.getD_some, i1, t1, i2, t2]
    refine ⟨rfl, (less_ok g (D.gd (i := f + r) (by omega)) (D.gd (i := f + c) (by omega))).k ?_⟩
    rintro _ g3 ⟨⟨x, rfl, hx⟩, e3⟩
    have D3 := D.ext e3
    have t1' := cellsAt_ext e3 t1
    have t2' := cellsAt_ext e3 t2
    rw [← hQ0]
    by_cases hx0 : x < 0
    · have hlt := hx.1 hx0
      simp (disch := omega) only [dm_t, wA, wB, wL, wW, wY, Int.fdiv_eq_ediv_of_nonneg, Int.tdiv_eq_ediv_of_nonneg, Int.tmod_eq_emod_of_nonneg, chk_pos, decT, decF, br_pos, br_neg, wX, ↓reduceIte, Nat.reduceEqDiff, Nat.reduceAdd, Nat.reduceSub, Nat.reduceMul, Nat.reduceLeDiff, Nat.reduceLT, Nat.reduceMod, Nat.reduceDiv, Int.reduceToNat, Nat.min_eq_left, IntKind.bits, Int.reducePow, Int.reduceLT, Int.reduceLE, Int.reduceEq, Int.reduceNe, Int.reduceAdd, Int.reduceSub, and_self, reduceCtorEq, decide_eq_true_eq, decide_eq_false_iff_not, eq_self, implies_true, exists_const, Option.isNone_some, Option.isNone_none, Option.isSome_some, Option.isSome_none, Option.getD_some, i1, t1', i2, t2']
      refine ⟨(D3.gd (i := f + c) (by omega)).len, D3.st (i := f + r) (by omega) (by omega) i1 (D3.gd (i := f + c) (by omega)) fun g4 D4 => ?_⟩
      simp (disch := omega) only [dm_t, wA, wB, wL, wW, wY, Int.fdiv_eq_ediv_of_nonneg, Int.tdiv_eq_ediv_of_nonneg, Int.tmod_eq_emod_of_nonneg, chk_pos, decT, decF, br_pos, br_neg, wX, ↓reduceIte, Nat.reduceEqDiff, Nat.reduceAdd, Nat.reduceSub, Nat.reduceMul, Nat.reduceLeDiff, Nat.reduceLT, Nat.reduceMod, Nat.reduceDiv, Int.reduceToNat, Nat.min_eq_left, IntKind.bits, Int.reducePow, Int.reduceLT, Int.reduceLE, Int.reduceEq, Int.reduceNe, Int.reduceAdd, Int.reduceSub, and_self, reduceCtorEq, decide_eq_true_eq, decide_eq_false_iff_not, eq_self, implies_true, exists_const, Option.isNone_some, Option.isNone_none, Option.isSome_some, Option.isSome_none, Option.getD_some, i1, i2]
      refine ⟨(D3.gd (i := f + r) (by omega)).len, D4.st (i := f + c) (by rw [List.length_set]; omega) (by omega) i2 (D3.gd (i := f + r) (by omega)) fun g5 D5 => ?_⟩
      simp (disch := omega) only [dm_t, wA, wB, wL, wW, wY, Int.fdiv_eq_ediv_of_nonneg, Int.tdiv_eq_ediv_of_nonneg, Int.tmod_eq_emod_of_nonneg, chk_pos, decT, decF, br_pos, br_neg, wX, ↓reduceIte, Nat.reduceEqDiff, Nat.reduceAdd, Nat.reduceSub, Nat.reduceMul, Nat.reduceLeDiff, Nat.reduceLT, Nat.reduceMod, Nat.reduceDiv, Int.reduceToNat, Nat.min_eq_left, IntKind.bits, Int.reducePow, Int.reduceLT, Int.reduceLE, Int.reduceEq, Int.reduceNe, Int.reduceAdd, Int.reduceSub, and_self, reduceCtorEq, decide_eq_true_eq, decide_eq_false_iff_not, eq_self, implies_true, exists_const, Option.isNone_some, Option.isNone_none, Option.isSome_some, Option.isSome_none, Option.getD_some]
      exact ⟨⟨c, _, rfl, by omega, D5, R.trans (Rg.swp (by omega) (by omega) (by omega) (by omega) (by omega)), S.step G (by omega) hlt⟩, by simp [m1]; omega⟩
    · simp (disch := omega) only [dm_t, wA, wB, wL, wW, wY, Int.fdiv_eq_ediv_of_nonneg, Int.tdiv_eq_ediv_of_nonneg, Int.tmod_eq_emod_of_nonneg, chk_pos, decT, decF, br_pos, br_neg, wX, ↓reduceIte, Nat.reduceEqDiff, Nat.reduceAdd, Nat.reduceSub, Nat.reduceMul, Nat.reduceLeDiff, Nat.reduceLT, Nat.reduceMod, Nat.reduceDiv, Int.reduceToNat, Nat.min_eq_left, IntKind.bits, Int.reducePow, Int.reduceLT, Int.reduceLE, Int.reduceEq, Int.reduceNe, Int.reduceAdd, Int.reduceSub, and_self, reduceCtorEq, decide_eq_true_eq, decide_eq_false_iff_not, eq_self, implies_true, exists_const, Option.isNone_some, Option.isNone_none, Option.isSome_some, Option.isSome_none, Option.getD_some, i1, t1', i2, t2']
      exact ⟨ys, D3, R, S.ret G fun h => hx0 (hx.2 h)⟩
  have e1 : 2 * (r : Int) + 1 = ((2 * r + 1 : Nat) : Int) := by omega
  by_cases hc2 : 2 * r + 2 < hi
  · obtain ⟨b1, o1, i1, t1⟩ := D.at (i := f + (2 * r + 1)) (by omega) (e := (f : Int) + ((2 * r + 1 : Nat) : Int)) (by omega)
    obtain ⟨b2, o2, i2, t2⟩ := D.at (i := f + (2 * r + 2)) (by omega) (e := (f : Int) + ((2 * r + 1 : Nat) : Int) + 1) (by omega)
    simp (disch := omega) only [dm_t, wA, wB, wL, wW, wY, Int.fdiv_eq_ediv_of_nonneg, Int.tdiv_eq_ediv_of_nonneg, Int.tmod_eq_emod_of_nonneg, chk_pos, decT, decF, br_pos, br_neg, wX, ↓reduceIte, Nat.reduceEqDiff, Nat.reduceAdd, Nat.reduceSub, Nat.reduceMul, Nat.reduceLeDiff, Nat.reduceLT, Nat.reduceMod, Nat.reduceDiv, Int.reduceToNat, Nat.min_eq_left, IntKind.bits, Int.reducePow, Int.reduceLT, Int.reduceLE, Int.reduceEq, Int.reduceNe, Int.reduceAdd, Int.reduceSub, and_self, reduceCtorEq, decide_eq_true_eq, decide_eq_false_iff_not, eq_self, implies_true, exists_const, Option.isNone_some, Option.isNone_none, Option.isSome_some, Option.isSome_none, Option.getD_some, e1, i1, t1, i2, t2]
    refine ⟨rfl, (less_ok g (D.gd (i := f + (2 * r + 1)) (by omega)) (D.gd (i := f + (2 * r + 2)) (by omega))).k ?_⟩
    rintro _ g3 ⟨⟨x, rfl, hx⟩, e3⟩
    have D3 := D.ext e3
    have t1' := cellsAt_ext e3 t1
    have t2' := cellsAt_ext e3 t2
    by_cases hx0 : x < 0
    · have hlt := hx.1 hx0
      have G : Big f hi r (2 * r + 2) ys := ⟨.inr rfl, hc2, fun d h1 h2 h3 => by
        by_cases hd : d = 2 * r + 1
        · rw [hd]; exact le_of_lt hlt
        · have : d = 2 * r + 2 := by omega
          rw [this]; exact le_refl _⟩
      have t := key g3 _ D3 G
      have e2 : ((2 * r + 2 : Nat) : Int) = ((2 * r + 1 : Nat) : Int) + 1 := by omega
      rw [e2] at t
      revert t
      simp (disch := omega) only [dm_t, wA, wB, wL, wW, wY, Int.fdiv_eq_ediv_of_nonneg, Int.tdiv_eq_ediv_of_nonneg, Int.tmod_eq_emod_of_nonneg, chk_pos, decT, decF, br_pos, br_neg, wX, ↓reduceIte, Nat.reduceEqDiff, Nat.reduceAdd, Nat.reduceSub, Nat.reduceMul, Nat.reduceLeDiff, Nat.reduceLT, Nat.reduceMod, Nat.reduceDiv, Int.reduceToNat, Nat.min_eq_left, IntKind.bits, Int.reducePow, Int.reduceLT, Int.reduceLE, Int.reduceEq, Int.reduceNe, Int.reduceAdd, Int.reduceSub, and_self, reduceCtorEq, decide_eq_true_eq, decide_eq_false_iff_not, eq_self, implies_true, exists_const, Option.isNone_some, Option.isNone_none, Option.isSome_some, Option.isSome_none, Option.getD_some, i1, t1', i2, t2']
      exact id
    · have G : Big f hi r (2 * r + 1) ys := ⟨.inl rfl, by omega, fun d h1 h2 h3 => by
        by_cases hd : d = 2 * r + 2
        · rw [hd]; exact fun h => hx0 (hx.2 h)
        · have : d = 2 * r + 1 := by omega
          rw [this]; exact le_refl _⟩
      have t := key g3 _ D3 G
      revert t
      simp (disch := omega) only [dm_t, wA, wB, wL, wW, wY, Int.fdiv_eq_ediv_of_nonneg, Int.tdiv_eq_ediv_of_nonneg, Int.tmod_eq_emod_of_nonneg, chk_pos, decT, decF, br_pos, br_neg, wX, ↓reduceIte, Nat.reduceEqDiff, Nat.reduceAdd, Nat.reduceSub, Nat.reduceMul, Nat.reduceLeDiff, Nat.reduceLT, Nat.reduceMod, Nat.reduceDiv, Int.reduceToNat, Nat.min_eq_left, IntKind.bits, Int.reducePow, Int.reduceLT, Int.reduceLE, Int.reduceEq, Int.reduceNe, Int.reduceAdd, Int.reduceSub, and_self, reduceCtorEq, decide_eq_true_eq, decide_eq_false_iff_not, eq_self, implies_true, exists_const, Option.isNone_some, Option.isNone_none, Option.isSome_some, Option.isSome_none, Option.getD_some, i1, t1', i2, t2']
      exact id
  · have G : Big f hi r (2 * r + 1) ys := ⟨.inl rfl, by omega, fun d h1 h2 h3 => by
      have : d = 2 * r + 1 := by omega
      rw [this]; exact le_refl _⟩
    have t := key g _ D G
    revert t
    simp (disch := omega) only [dm_t, wA, wB, wL, wW, wY, Int.fdiv_eq_ediv_of_nonneg, Int.tdiv_eq_ediv_of_nonneg, Int.tmod_eq_emod_of_nonneg, chk_pos, decT, decF, br_pos, br_neg, wX, ↓reduceIte, Nat.reduceEqDiff, Nat.reduceAdd, Nat.reduceSub, Nat.reduceMul, Nat.reduceLeDiff, Nat.reduceLT, Nat.reduceMod, Nat.reduceDiv, Int.reduceToNat, Nat.min_eq_left, IntKind.bits, Int.reducePow, Int.reduceLT, Int.reduceLE, Int.reduceEq, Int.reduceNe, Int.reduceAdd, Int.reduceSub, and_self, reduceCtorEq, decide_eq_true_eq, decide_eq_false_iff_not, eq_self, implies_true, exists_const, Option.isNone_some, Option.isNone_none, Option.isSome_some, Option.isSome_none, Option.getD_some, e1]
    exact id
def ms : Value → Nat
  | .int _ n => (n + 1).toNat
  | _ => 0
theorem Heap_ok {h : H} {sv : Value} {xs : List Row} {a b : Nat} (d : DX h h sv xs) (hab : a < b) (hl : b ≤ xs.length) (hb : xs.length ≤ 1152921504606846976) :
    Ok PX 71 #[sv, .int .i64 (a : Int), .int .i64 (b : Int), lessV] h fun _ h' => ∃ ys, DX h h' sv ys ∧ Rg a b xs ys ∧ Srt a b ys := by
  refine c71_ok (args := [_, _, _, _]) (by simp) ?_
  obtain ⟨n, hn⟩ : ∃ n, n = b - a := ⟨_, rfl⟩
  have hn1 : (b : Int) - (a : Int) = (n : Int) := by omega
  obtain ⟨m, hm⟩ : ∃ m, m = (n - 1) / 2 := ⟨_, rfl⟩
  have hm1 : ((n : Int) - 1) / 2 = (m : Int) := by omega
  have hab' : b = a + n := by omega
  simp (disch := omega) only [dm_t, wA, wB, wL, wW, wY, Int.fdiv_eq_ediv_of_nonneg, Int.tdiv_eq_ediv_of_nonneg, Int.tmod_eq_emod_of_nonneg, chk_pos, decT, decF, br_pos, br_neg, wX, ↓reduceIte, Nat.reduceEqDiff, Nat.reduceAdd, Nat.reduceSub, Nat.reduceMul, Nat.reduceLeDiff, Nat.reduceLT, Nat.reduceMod, Nat.reduceDiv, Int.reduceToNat, Nat.min_eq_left, IntKind.bits, Int.reducePow, Int.reduceLT, Int.reduceLE, Int.reduceEq, Int.reduceNe, Int.reduceAdd, Int.reduceSub, and_self, reduceCtorEq, decide_eq_true_eq, decide_eq_false_iff_not, eq_self, implies_true, exists_const, Option.isNone_some, Option.isNone_none, Option.isSome_some, Option.isSome_none, Option.getD_some, hn1, hm1]
  refine vc_loop1 (fun vi g => ∃ (i : Nat) (ys : List Row), vi = .int .i64 ((i : Int) - 1) ∧ i ≤ m + 1 ∧ DX h g sv ys ∧ Rg a b xs ys ∧ Hp a i n ys) (fun vi _ => ms vi) ?_ ?_
  · simp (disch := omega) only [dm_t, wA, wB, wL, wW, wY, Int.fdiv_eq_ediv_of_nonneg, Int.tdiv_eq_ediv_of_nonneg, Int.tmod_eq_emod_of_nonneg, chk_pos, decT, decF, br_pos, br_neg, wX, ↓reduceIte, Nat.reduceEqDiff, Nat.reduceAdd, Nat.reduceSub, Nat.reduceMul, Nat.reduceLeDiff, Nat.reduceLT, Nat.reduceMod, Nat.reduceDiv, Int.reduceToNat, Nat.min_eq_left, IntKind.bits, Int.reducePow, Int.reduceLT, Int.reduceLE, Int.reduceEq, Int.reduceNe, Int.reduceAdd, Int.reduceSub, and_self, reduceCtorEq, decide_eq_true_eq, decide_eq_false_iff_not, eq_self, implies_true, exists_const, Option.isNone_some, Option.isNone_none, Option.isSome_some, Option.isSome_none, Option.getD_some]
    exact ⟨m + 1, xs, by congr 1; omega, by omega, d, Rg.refl _ _ _, fun c h1 h2 h3 => by omega⟩
  rintro _ g ⟨i, ys, rfl, hi, D, R, P⟩
  have hlen := R.len
  cases i with
  | succ i =>
    have e : ((i + 1 : Nat) : Int) - 1 = (i : Int) := by omega
    simp (disch := omega) only [dm_t, wA, wB, wL, wW, wY, Int.fdiv_eq_ediv_of_nonneg, Int.tdiv_eq_ediv_of_nonneg, Int.tmod_eq_emod_of_nonneg, chk_pos, decT, decF, br_pos, br_neg, wX, ↓reduceIte, Nat.reduceEqDiff, Nat.reduceAdd, Nat.reduceSub, Nat.reduceMul, Nat.reduceLeDiff, Nat.reduceLT, Nat.reduceMod, Nat.reduceDiv, Int.reduceToNat, Nat.min_eq_left, IntKind.bits, Int.reducePow, Int.reduceLT, Int.reduceLE, Int.reduceEq, Int.reduceNe, Int.reduceAdd, Int.reduceSub, and_self, reduceCtorEq, decide_eq_true_eq, decide_eq_false_iff_not, eq_self, implies_true, exists_const, Option.isNone_some, Option.isNone_none, Option.isSome_some, Option.isSome_none, Option.getD_some, e]
    refine (Sift_ok D.self (f := a) (lo := i) (hi := n) (by omega) (by omega) (by omega) P).k ?_
    rintro _ g2 ⟨zs, D2, R2, P2⟩
    rw [← hab'] at R2
    simp (disch := omega) only [dm_t, wA, wB, wL, wW, wY, Int.fdiv_eq_ediv_of_nonneg, Int.tdiv_eq_ediv_of_nonneg, Int.tmod_eq_emod_of_nonneg, chk_pos, decT, decF, br_pos, br_neg, wX, ↓reduceIte, Nat.reduceEqDiff, Nat.reduceAdd, Nat.reduceSub, Nat.reduceMul, Nat.reduceLeDiff, Nat.reduceLT, Nat.reduceMod, Nat.reduceDiv, Int.reduceToNat, Nat.min_eq_left, IntKind.bits, Int.reducePow, Int.reduceLT, Int.reduceLE, Int.reduceEq, Int.reduceNe, Int.reduceAdd, Int.reduceSub, and_self, reduceCtorEq, decide_eq_true_eq, decide_eq_false_iff_not, eq_self, implies_true, exists_const, Option.isNone_some, Option.isNone_none, Option.isSome_some, Option.isSome_none, Option.getD_some]
    exact ⟨⟨i, zs, rfl, by omega, D.from D2, R.trans R2, P2⟩, by simp [ms]⟩
  | zero =>
    simp (disch := omega) only [dm_t, wA, wB, wL, wW, wY, Int.fdiv_eq_ediv_of_nonneg, Int.tdiv_eq_ediv_of_nonneg, Int.tmod_eq_emod_of_nonneg, chk_pos, decT, decF, br_pos, br_neg, wX, ↓reduceIte, Nat.reduceEqDiff, Nat.reduceAdd, Nat.reduceSub, Nat.reduceMul, Nat.reduceLeDiff, Nat.reduceLT, Nat.reduceMod, Nat.reduceDiv, Int.reduceToNat, Nat.min_eq_left, IntKind.bits, Int.reducePow, Int.reduceLT, Int.reduceLE, Int.reduceEq, Int.reduceNe, Int.reduceAdd, Int.reduceSub, and_self, reduceCtorEq, decide_eq_true_eq, decide_eq_false_iff_not, eq_self, implies_true, exists_const, Option.isNone_some, Option.isNone_none, Option.isSome_some, Option.isSome_none, Option.getD_some]
    refine vc_loop1 (fun vi g => ∃ (i : Nat) (ys : List Row), vi = .int .i64 ((i : Int) - 1) ∧ i ≤ n ∧ DX h g sv ys ∧ Rg a b xs ys ∧ HS a i b ys) (fun vi _ => ms vi) ?_ ?_
    · simp (disch := omega) only [dm_t, wA, wB, wL, wW, wY, Int.fdiv_eq_ediv_of_nonneg, Int.tdiv_eq_ediv_of_nonneg, Int.tmod_eq_emod_of_nonneg, chk_pos, decT, decF, br_pos, br_neg, wX, ↓reduceIte, Nat.reduceEqDiff, Nat.reduceAdd, Nat.reduceSub, Nat.reduceMul, Nat.reduceLeDiff, Nat.reduceLT, Nat.reduceMod, Nat.reduceDiv, Int.reduceToNat, Nat.min_eq_left, IntKind.bits, Int.reducePow, Int.reduceLT, Int.reduceLE, Int.reduceEq, Int.reduceNe, Int.reduceAdd, Int.reduceSub, and_self, reduceCtorEq, decide_eq_true_eq, decide_eq_false_iff_not, eq_self, implies_true, exists_const, Option.isNone_some, Option.isNone_none, Option.isSome_some, Option.isSome_none, Option.getD_some]
      exact ⟨n, ys, rfl, by omega, D, R, P, fun i j h1 h2 h3 => by omega, fun p q h1 h2 h3 => by omega⟩
    clear D R P hlen
    rintro _ g ⟨i, zs, rfl, hi, D, R, S⟩
    have hlen := R.len
    cases i with
    | zero =>
      simp (disch := omega) only [dm_t, wA, wB, wL, wW, wY, Int.fdiv_eq_ediv_of_nonneg, Int.tdiv_eq_ediv_of_nonneg, Int.tmod_eq_emod_of_nonneg, chk_pos, decT, decF, br_pos, br_neg, wX, ↓reduceIte, Nat.reduceEqDiff, Nat.reduceAdd, Nat.reduceSub, Nat.reduceMul, Nat.reduceLeDiff, Nat.reduceLT, Nat.reduceMod, Nat.reduceDiv, Int.reduceToNat, Nat.min_eq_left, IntKind.bits, Int.reducePow, Int.reduceLT, Int.reduceLE, Int.reduceEq, Int.reduceNe, Int.reduceAdd, Int.reduceSub, and_self, reduceCtorEq, decide_eq_true_eq, decide_eq_false_iff_not, eq_self, implies_true, exists_const, Option.isNone_some, Option.isNone_none, Option.isSome_some, Option.isSome_none, Option.getD_some]
      exact ⟨zs, D, R, S.s⟩
    | succ i =>
      have e : ((i + 1 : Nat) : Int) - 1 = (i : Int) := by omega
      obtain ⟨b1, o1, i1, t1⟩ := D.at (i := a) (by omega) rfl
      obtain ⟨b2, o2, i2, t2⟩ := D.at (i := a + i) (by omega) (e := (a : Int) + (i : Int)) (by omega)
      simp (disch := omega) only [dm_t, wA, wB, wL, wW, wY, Int.fdiv_eq_ediv_of_nonneg, Int.tdiv_eq_ediv_of_nonneg, Int.tmod_eq_emod_of_nonneg, chk_pos, decT, decF, br_pos, br_neg, wX, ↓reduceIte, Nat.reduceEqDiff, Nat.reduceAdd, Nat.reduceSub, Nat.reduceMul, Nat.reduceLeDiff, Nat.reduceLT, Nat.reduceMod, Nat.reduceDiv, Int.reduceToNat, Nat.min_eq_left, IntKind.bits, Int.reducePow, Int.reduceLT, Int.reduceLE, Int.reduceEq, Int.reduceNe, Int.reduceAdd, Int.reduceSub, and_self, reduceCtorEq, decide_eq_true_eq, decide_eq_false_iff_not, eq_self, implies_true, exists_const, Option.isNone_some, Option.isNone_none, Option.isSome_some, Option.isSome_none, Option.getD_some, e, i1, t1, i2, t2]
      refine ⟨(D.gd (i := a + i) (by omega)).len, D.st (i := a) (by omega) (by omega) i1 (D.gd (i := a + i) (by omega)) fun g4 D4 => ?_⟩
      simp (disch := omega) only [dm_t, wA, wB, wL, wW, wY, Int.fdiv_eq_ediv_of_nonneg, Int.tdiv_eq_ediv_of_nonneg, Int.tmod_eq_emod_of_nonneg, chk_pos, decT, decF, br_pos, br_neg, wX, ↓reduceIte, Nat.reduceEqDiff, Nat.reduceAdd, Nat.reduceSub, Nat.reduceMul, Nat.reduceLeDiff, Nat.reduceLT, Nat.reduceMod, Nat.reduceDiv, Int.reduceToNat, Nat.min_eq_left, IntKind.bits, Int.reducePow, Int.reduceLT, Int.reduceLE, Int.reduceEq, Int.reduceNe, Int.reduceAdd, Int.reduceSub, and_self, reduceCtorEq, decide_eq_true_eq, decide_eq_false_iff_not, eq_self, implies_true, exists_const, Option.isNone_some, Option.isNone_none, Option.isSome_some, Option.isSome_none, Option.getD_some, i1, i2]
      refine ⟨(D.gd (i := a) (by omega)).len, D4.st (i := a + i) (by rw [List.length_set]; omega) (by omega) i2 (D.gd (i := a) (by omega)) fun g5 D5 => ?_⟩
      simp (disch := omega) only [dm_t, wA, wB, wL, wW, wY, Int.fdiv_eq_ediv_of_nonneg, Int.tdiv_eq_ediv_of_nonneg, Int.tmod_eq_emod_of_nonneg, chk_pos, decT, decF, br_pos, br_neg, wX, ↓reduceIte, Nat.reduceEqDiff, Nat.reduceAdd, Nat.reduceSub, Nat.reduceMul, Nat.reduceLeDiff, Nat.reduceLT, Nat.reduceMod, Nat.reduceDiv, Int.reduceToNat, Nat.min_eq_left, IntKind.bits, Int.reducePow, Int.reduceLT, Int.reduceLE, Int.reduceEq, Int.reduceNe, Int.reduceAdd, Int.reduceSub, and_self, reduceCtorEq, decide_eq_true_eq, decide_eq_false_iff_not, eq_self, implies_true, exists_const, Option.isNone_some, Option.isNone_none, Option.isSome_some, Option.isSome_none, Option.getD_some]
      have P1 : Hp a (0 + 1) i (swp zs a (a + i)) := S.swap (by omega) (by omega)
      refine (Sift_ok D5.self (f := a) (lo := 0) (hi := i) (by omega) (by rw [List.length_set, List.length_set]; omega) (by rw [List.length_set, List.length_set]; omega) P1).k ?_
      rintro _ g6 ⟨ws, D6, R6, P6⟩
      simp (disch := omega) only [dm_t, wA, wB, wL, wW, wY, Int.fdiv_eq_ediv_of_nonneg, Int.tdiv_eq_ediv_of_nonneg, Int.tmod_eq_emod_of_nonneg, chk_pos, decT, decF, br_pos, br_neg, wX, ↓reduceIte, Nat.reduceEqDiff, Nat.reduceAdd, Nat.reduceSub, Nat.reduceMul, Nat.reduceLeDiff, Nat.reduceLT, Nat.reduceMod, Nat.reduceDiv, Int.reduceToNat, Nat.min_eq_left, IntKind.bits, Int.reducePow, Int.reduceLT, Int.reduceLE, Int.reduceEq, Int.reduceNe, Int.reduceAdd, Int.reduceSub, and_self, reduceCtorEq, decide_eq_true_eq, decide_eq_false_iff_not, eq_self, implies_true, exists_const, Option.isNone_some, Option.isNone_none, Option.isSome_some, Option.isSome_none, Option.getD_some]
      exact ⟨⟨i, ws, rfl, by omega, D5.from D6, (R.trans (Rg.swp (i := a) (j := a + i) (by omega) (by omega) (by omega) (by omega) (by omega))).trans (R6.mono (by omega) (by omega)), S.step (by omega) (by omega) R6 P6⟩, by simp [ms]⟩
end Go.Proofs.Ytojhnclkhiffkaa.so

/-
  sort: partialInsertionSort.
-/
namespace Go.Proofs.Ytojhnclkhiffkaa.so
open Go.Proofs.Ytojhnclkhiffkaa
variable {PX : Cx Try.prog}
set_option linter.unusedVariables false
set_option linter.unusedSimpArgs false
theorem Srt.more {a i : Nat} {ys : List Row} (s : Srt a i ys) (hai : a < i) (h : le (gt ys (i - 1)) (gt ys i)) : Srt a (i + 1) ys := fun p q h1 h2 h3 => by
  by_cases hq : q = i
  · subst hq
    by_cases hp : p = q - 1
    · rw [hp]; exact h
    · exact le_tr (s p (q - 1) h1 (by omega) (by omega)) h
  · exact s p q h1 h2 (by omega)
theorem Srt.keep {a i u v : Nat} {ys : List Row} (s : Srt a i ys) (hu : i ≤ u) (hv : i ≤ v) (hu2 : u < ys.length) (hv2 : v < ys.length) : Srt a i (swp ys u v) := fun p q h1 h2 h3 => by
  rw [gt_swp hu2 hv2, gt_swp hu2 hv2, if_neg (by omega), if_neg (by omega), if_neg (by omega), if_neg (by omega)]
  exact s p q h1 h2 h3
section
variable {h : H} {sv : Value} {xs : List Row} {a b : Nat} {Q0 : Post}
/-- What a round of the outer loop ends with. -/
def RN (Q0 : Post) (h : H) (sv : Value) (xs : List Row) (a b i k : Nat) : Prop := ∀ (g : H) (zs : List Row), DX h g sv zs → Rg a b xs zs → Srt a i zs → vc PX c75_s18 Q0 [(0, sv), (1, .int .i64 (a : Int)), (2, .int .i64 (b : Int)), (3, lessV), (9, .int .i64 (i : Int)), (10, .int .i64 (k : Int))] g
theorem PI_right {i k : Nat} (N : RN (PX := PX) Q0 h sv xs a b i k) (hb : b ≤ xs.length) (hl : xs.length ≤ 1152921504606846976) (hai : a < i) (hib : i < b) {g : H} {zs : List Row} (D : DX h g sv zs) (R : Rg a b xs zs) (S : Srt a i zs) :
    vc PX c75_s13 (blockQ 1 (seqQ PX [0, 1, 2, 3, 9, 10] c75_s18 Q0)) [(0, sv), (1, .int .i64 (a : Int)), (2, .int .i64 (b : Int)), (3, lessV), (9, .int .i64 (i : Int)), (10, .int .i64 (k : Int))] g := by
  by_cases h2 : (b : Int) - (i : Int) ≥ 2
  · simp (disch := omega) only [dm_t, wA, wB, wL, wW, wY, Int.fdiv_eq_ediv_of_nonneg, Int.tdiv_eq_ediv_of_nonneg, Int.tmod_eq_emod_of_nonneg, chk_pos, decT, decF, br_pos, br_neg, wX, ↓reduceIte, Nat.reduceEqDiff, Nat.reduceAdd, Nat.reduceSub, Nat.reduceMul, Nat.reduceLeDiff, Nat.reduceLT, Nat.reduceMod, Nat.reduceDiv, Int.reduceToNat, Nat.min_eq_left, IntKind.bits, Int.reducePow, Int.reduceLT, Int.reduceLE, Int.reduceEq, Int.reduceNe, Int.reduceAdd, Int.reduceSub, and_self, reduceCtorEq, decide_eq_true_eq, decide_eq_false_iff_not, eq_self, implies_true, exists_const, Option.isNone_some, Option.isNone_none, Option.isSome_some, Option.isSome_none, Option.getD_some]
    refine vc_loop1 (fun vj g => ∃ (j : Nat) (zs : List Row), vj = .int .i64 (j : Int) ∧ i < j ∧ j ≤ b ∧ DX h g sv zs ∧ Rg a b xs zs ∧ Srt a i zs) (fun vj _ => b - m1 vj) ?_ ?_
    · simp (disch := omega) only [dm_t, wA, wB, wL, wW, wY, Int.fdiv_eq_ediv_of_nonneg, Int.tdiv_eq_ediv_of_nonneg, Int.tmod_eq_emod_of_nonneg, chk_pos, decT, decF, br_pos, br_neg, wX, ↓reduceIte, Nat.reduceEqDiff, Nat.reduceAdd, Nat.reduceSub, Nat.reduceMul, Nat.reduceLeDiff, Nat.reduceLT, Nat.reduceMod, Nat.reduceDiv, Int.reduceToNat, Nat.min_eq_left, IntKind.bits, Int.reducePow, Int.reduceLT, Int.reduceLE, Int.reduceEq, Int.reduceNe, Int.reduceAdd, Int.reduceSub, and_self, reduceCtorEq, decide_eq_true_eq, decide_eq_false_iff_not, eq_self, implies_true, exists_const, Option.isNone_some, Option.isNone_none, Option.isSome_some, Option.isSome_none, Option.getD_some]
      exact ⟨i + 1, zs, by simp, by omega, by omega, D, R, S⟩
    clear D R S
    rintro _ g ⟨j, zs, rfl, hij, hjb, D, R, S⟩
    have hlen := R.len
    by_cases hj : j < b
    · obtain ⟨b1, o1, i1, t1⟩ := D.at (i := j) (by omega) rfl
      obtain ⟨b2, o2, i2, t2⟩ := D.at (i := j - 1) (by omega) (e := (j : Int) - 1) (by omega)
      simp (disch := omega) only [dm_t, wA, wB, wL, wW, wY, Int.fdiv_eq_ediv_of_nonneg, Int.tdiv_eq_ediv_of_nonneg, Int.tmod_eq_emod_of_nonneg, chk_pos, decT, decF, br_pos, br_neg, wX, ↓reduceIte, Nat.reduceEqDiff, Nat.reduceAdd, Nat.reduceSub, Nat.reduceMul, Nat.reduceLeDiff, Nat.reduceLT, Nat.reduceMod, Nat.reduceDiv, Int.reduceToNat, Nat.min_eq_left, IntKind.bits, Int.reducePow, Int.reduceLT, Int.reduceLE, Int.reduceEq, Int.reduceNe, Int.reduceAdd, Int.reduceSub, and_self, reduceCtorEq, decide_eq_true_eq, decide_eq_false_iff_not, eq_self, implies_true, exists_const, Option.isNone_some, Option.isNone_none, Option.isSome_some, Option.isSome_none, Option.getD_some, i1, t1, i2, t2]
      refine ⟨rfl, (less_ok g (D.gd (i := j) (by omega)) (D.gd (i := j - 1) (by omega))).k ?_⟩
      rintro _ g3 ⟨⟨c, rfl, hc⟩, e3⟩
      have D3 := D.ext e3
      have t1' := cellsAt_ext e3 t1
      have t2' := cellsAt_ext e3 t2
      by_cases hc0 : c < 0
      · simp (disch := omega) only [dm_t, wA, wB, wL, wW, wY, Int.fdiv_eq_ediv_of_nonneg, Int.tdiv_eq_ediv_of_nonneg, Int.tmod_eq_emod_of_nonneg, chk_pos, decT, decF, br_pos, br_neg, wX, ↓reduceIte, Nat.reduceEqDiff, Nat.reduceAdd, Nat.reduceSub, Nat.reduceMul, Nat.reduceLeDiff, Nat.reduceLT, Nat.reduceMod, Nat.reduceDiv, Int.reduceToNat, Nat.min_eq_left, IntKind.bits, Int.reducePow, Int.reduceLT, Int.reduceLE, Int.reduceEq, Int.reduceNe, Int.reduceAdd, Int.reduceSub, and_self, reduceCtorEq, decide_eq_true_eq, decide_eq_false_iff_not, eq_self, implies_true, exists_const, Option.isNone_some, Option.isNone_none, Option.isSome_some, Option.isSome_none, Option.getD_some, i1, t1', i2, t2']
        refine ⟨(D3.gd (i := j - 1) (by omega)).len, D3.st (i := j) (by omega) rfl i1 (D3.gd (i := j - 1) (by omega)) fun g4 D4 => ?_⟩
        simp (disch := omega) only [dm_t, wA, wB, wL, wW, wY, Int.fdiv_eq_ediv_of_nonneg, Int.tdiv_eq_ediv_of_nonneg, Int.tmod_eq_emod_of_nonneg, chk_pos, decT, decF, br_pos, br_neg, wX, ↓reduceIte, Nat.reduceEqDiff, Nat.reduceAdd, Nat.reduceSub, Nat.reduceMul, Nat.reduceLeDiff, Nat.reduceLT, Nat.reduceMod, Nat.reduceDiv, Int.reduceToNat, Nat.min_eq_left, IntKind.bits, Int.reducePow, Int.reduceLT, Int.reduceLE, Int.reduceEq, Int.reduceNe, Int.reduceAdd, Int.reduceSub, and_self, reduceCtorEq, decide_eq_true_eq, decide_eq_false_iff_not, eq_self, implies_true, exists_const, Option.isNone_some, Option.isNone_none, Option.isSome_some, Option.isSome_none, Option.getD_some, i1, i2]
        refine ⟨(D3.gd (i := j) (by omega)).len, D4.st (i := j - 1) (by rw [List.length_set]; omega) (by omega) i2 (D3.gd (i := j) (by omega)) fun g5 D5 => ?_⟩
        simp (disch := omega) only [dm_t, wA, wB, wL, wW, wY, Int.fdiv_eq_ediv_of_nonneg, Int.tdiv_eq_ediv_of_nonneg, Int.tmod_eq_emod_of_nonneg, chk_pos, decT, decF, br_pos, br_neg, wX, ↓reduceIte, Nat.reduceEqDiff, Nat.reduceAdd, Nat.reduceSub, Nat.reduceMul, Nat.reduceLeDiff, Nat.reduceLT, Nat.reduceMod, Nat.reduceDiv, Int.reduceToNat, Nat.min_eq_left, IntKind.bits, Int.reducePow, Int.reduceLT, Int.reduceLE, Int.reduceEq, Int.reduceNe, Int.reduceAdd, Int.reduceSub, and_self, reduceCtorEq, decide_eq_true_eq, decide_eq_false_iff_not, eq_self, implies_true, exists_const, Option.isNone_some, Option.isNone_none, Option.isSome_some, Option.isSome_none, Option.getD_some]
        exact ⟨⟨j + 1, _, by simp, by omega, by omega, D5, R.trans (Rg.swp (by omega) (by omega) (by omega) (by omega) (by omega)), S.keep (by omega) (by omega) (by omega) (by omega)⟩, by simp [m1]; omega⟩
      · have t := N g3 zs D3 R S
        revert t
        simp (disch := omega) only [dm_t, wA, wB, wL, wW, wY, Int.fdiv_eq_ediv_of_nonneg, Int.tdiv_eq_ediv_of_nonneg, Int.tmod_eq_emod_of_nonneg, chk_pos, decT, decF, br_pos, br_neg, wX, ↓reduceIte, Nat.reduceEqDiff, Nat.reduceAdd, Nat.reduceSub, Nat.reduceMul, Nat.reduceLeDiff, Nat.reduceLT, Nat.reduceMod, Nat.reduceDiv, Int.reduceToNat, Nat.min_eq_left, IntKind.bits, Int.reducePow, Int.reduceLT, Int.reduceLE, Int.reduceEq, Int.reduceNe, Int.reduceAdd, Int.reduceSub, and_self, reduceCtorEq, decide_eq_true_eq, decide_eq_false_iff_not, eq_self, implies_true, exists_const, Option.isNone_some, Option.isNone_none, Option.isSome_some, Option.isSome_none, Option.getD_some, i1, t1', i2, t2']
        exact id
    · have t := N g zs D R S
      revert t
      simp (disch := omega) only [dm_t, wA, wB, wL, wW, wY, Int.fdiv_eq_ediv_of_nonneg, Int.tdiv_eq_ediv_of_nonneg, Int.tmod_eq_emod_of_nonneg, chk_pos, decT, decF, br_pos, br_neg, wX, ↓reduceIte, Nat.reduceEqDiff, Nat.reduceAdd, Nat.reduceSub, Nat.reduceMul, Nat.reduceLeDiff, Nat.reduceLT, Nat.reduceMod, Nat.reduceDiv, Int.reduceToNat, Nat.min_eq_left, IntKind.bits, Int.reducePow, Int.reduceLT, Int.reduceLE, Int.reduceEq, Int.reduceNe, Int.reduceAdd, Int.reduceSub, and_self, reduceCtorEq, decide_eq_true_eq, decide_eq_false_iff_not, eq_self, implies_true, exists_const, Option.isNone_some, Option.isNone_none, Option.isSome_some, Option.isSome_none, Option.getD_some]
      exact id
  · have t := N g zs D R S
    revert t
    simp (disch := omega) only [dm_t, wA, wB, wL, wW, wY, Int.fdiv_eq_ediv_of_nonneg, Int.tdiv_eq_ediv_of_nonneg, Int.tmod_eq_emod_of_nonneg, chk_pos, decT, decF, br_pos, br_neg, wX, ↓reduceIte, Nat.reduceEqDiff, Nat.reduceAdd, Nat.reduceSub, Nat.reduceMul, Nat.reduceLeDiff, Nat.reduceLT, Nat.reduceMod, Nat.reduceDiv, Int.reduceToNat, Nat.min_eq_left, IntKind.bits, Int.reducePow, Int.reduceLT, Int.reduceLE, Int.reduceEq, Int.reduceNe, Int.reduceAdd, Int.reduceSub, and_self, reduceCtorEq, decide_eq_true_eq, decide_eq_false_iff_not, eq_self, implies_true, exists_const, Option.isNone_some, Option.isNone_none, Option.isSome_some, Option.isSome_none, Option.getD_some]
    exact id
theorem PI_left {i k : Nat} (N : RN (PX := PX) Q0 h sv xs a b i k) (hp : Pre a b xs) (hb : b ≤ xs.length) (hl : xs.length ≤ 1152921504606846976) (hai : a < i) (hib : i < b) {g : H} {zs : List Row} (D : DX h g sv zs) (R : Rg a b xs zs) (S : Srt a (i - 1) zs) :
    vc PX c75_s8 (blockQ 1 (seqQ PX [0, 1, 2, 3, 9, 10] c75_s18 Q0)) [(0, sv), (1, .int .i64 (a : Int)), (2, .int .i64 (b : Int)), (3, lessV), (9, .int .i64 (i : Int)), (10, .int .i64 (k : Int))] g := by
  by_cases h2 : (i : Int) - (a : Int) ≥ 2
  · simp (disch := omega) only [dm_t, wA, wB, wL, wW, wY, Int.fdiv_eq_ediv_of_nonneg, Int.tdiv_eq_ediv_of_nonneg, Int.tmod_eq_emod_of_nonneg, chk_pos, decT, decF, br_pos, br_neg, wX, ↓reduceIte, Nat.reduceEqDiff, Nat.reduceAdd, Nat.reduceSub, Nat.reduceMul, Nat.reduceLeDiff, Nat.reduceLT, Nat.reduceMod, Nat.reduceDiv, Int.reduceToNat, Nat.min_eq_left, IntKind.bits, Int.reducePow, Int.reduceLT, Int.reduceLE, Int.reduceEq, Int.reduceNe, Int.reduceAdd, Int.reduceSub, and_self, reduceCtorEq, decide_eq_true_eq, decide_eq_false_iff_not, eq_self, implies_true, exists_const, Option.isNone_some, Option.isNone_none, Option.isSome_some, Option.isSome_none, Option.getD_some]
    refine vc_loop1 (fun vj g => ∃ (j : Nat) (zs : List Row), vj = .int .i64 (j : Int) ∧ a ≤ j ∧ j < i ∧ DX h g sv zs ∧ Rg a b xs zs ∧ Ins a (i - 1) j zs) (fun vj _ => m1 vj) ?_ ?_
    · simp (disch := omega) only [dm_t, wA, wB, wL, wW, wY, Int.fdiv_eq_ediv_of_nonneg, Int.tdiv_eq_ediv_of_nonneg, Int.tmod_eq_emod_of_nonneg, chk_pos, decT, decF, br_pos, br_neg, wX, ↓reduceIte, Nat.reduceEqDiff, Nat.reduceAdd, Nat.reduceSub, Nat.reduceMul, Nat.reduceLeDiff, Nat.reduceLT, Nat.reduceMod, Nat.reduceDiv, Int.reduceToNat, Nat.min_eq_left, IntKind.bits, Int.reducePow, Int.reduceLT, Int.reduceLE, Int.reduceEq, Int.reduceNe, Int.reduceAdd, Int.reduceSub, and_self, reduceCtorEq, decide_eq_true_eq, decide_eq_false_iff_not, eq_self, implies_true, exists_const, Option.isNone_some, Option.isNone_none, Option.isSome_some, Option.isSome_none, Option.getD_some]
      exact ⟨i - 1, zs, by congr 1; omega, by omega, by omega, D, R, Ins.start S⟩
    clear D R S
    rintro _ g ⟨j, zs, rfl, haj, hji, D, R, I⟩
    have hlen := R.len
    have e1 : i - 1 + 1 = i := by omega
    by_cases hj : 1 ≤ j
    · obtain ⟨b1, o1, i1, t1⟩ := D.at (i := j) (by omega) rfl
      obtain ⟨b2, o2, i2, t2⟩ := D.at (i := j - 1) (by omega) (e := (j : Int) - 1) (by omega)
      simp (disch := omega) only [dm_t, wA, wB, wL, wW, wY, Int.fdiv_eq_ediv_of_nonneg, Int.tdiv_eq_ediv_of_nonneg, Int.tmod_eq_emod_of_nonneg, chk_pos, decT, decF, br_pos, br_neg, wX, ↓reduceIte, Nat.reduceEqDiff, Nat.reduceAdd, Nat.reduceSub, Nat.reduceMul, Nat.reduceLeDiff, Nat.reduceLT, Nat.reduceMod, Nat.reduceDiv, Int.reduceToNat, Nat.min_eq_left, IntKind.bits, Int.reducePow, Int.reduceLT, Int.reduceLE, Int.reduceEq, Int.reduceNe, Int.reduceAdd, Int.reduceSub, and_self, reduceCtorEq, decide_eq_true_eq, decide_eq_false_iff_not, eq_self, implies_true, exists_const, Option.isNone_some, Option.isNone_none, Option.isSome_some, Option.isSome_none, Option.getD_some, i1, t1, i2, t2]
      refine ⟨rfl, (less_ok g (D.gd (i := j) (by omega)) (D.gd (i := j - 1) (by omega))).k ?_⟩
      rintro _ g3 ⟨⟨c, rfl, hc⟩, e3⟩
      have D3 := D.ext e3
      have t1' := cellsAt_ext e3 t1
      have t2' := cellsAt_ext e3 t2
      by_cases hc0 : c < 0
      · have hlt := hc.1 hc0
        have hja : a < j := by
          by_cases hja : j = a
          · subst hja
            exact absurd hlt ((hp.rg R) hj j (Nat.le_refl _) (by omega))
          · omega
        simp (disch := omega) only [dm_t, wA, wB, wL, wW, wY, Int.fdiv_eq_ediv_of_nonneg, Int.tdiv_eq_ediv_of_nonneg, Int.tmod_eq_emod_of_nonneg, chk_pos, decT, decF, br_pos, br_neg, wX, ↓reduceIte, Nat.reduceEqDiff, Nat.reduceAdd, Nat.reduceSub, Nat.reduceMul, Nat.reduceLeDiff, Nat.reduceLT, Nat.reduceMod, Nat.reduceDiv, Int.reduceToNat, Nat.min_eq_left, IntKind.bits, Int.reducePow, Int.reduceLT, Int.reduceLE, Int.reduceEq, Int.reduceNe, Int.reduceAdd, Int.reduceSub, and_self, reduceCtorEq, decide_eq_true_eq, decide_eq_false_iff_not, eq_self, implies_true, exists_const, Option.isNone_some, Option.isNone_none, Option.isSome_some, Option.isSome_none, Option.getD_some, i1, t1', i2, t2']
        refine ⟨(D3.gd (i := j - 1) (by omega)).len, D3.st (i := j) (by omega) rfl i1 (D3.gd (i := j - 1) (by omega)) fun g4 D4 => ?_⟩
        simp (disch := omega) only [dm_t, wA, wB, wL, wW, wY, Int.fdiv_eq_ediv_of_nonneg, Int.tdiv_eq_ediv_of_nonneg, Int.tmod_eq_emod_of_nonneg, chk_pos, decT, decF, br_pos, br_neg, wX, ↓reduceIte, Nat.reduceEqDiff, Nat.reduceAdd, Nat.reduceSub, Nat.reduceMul, Nat.reduceLeDiff, Nat.reduceLT, Nat.reduceMod, Nat.reduceDiv, Int.reduceToNat, Nat.min_eq_left, IntKind.bits, Int.reducePow, Int.reduceLT, Int.reduceLE, Int.reduceEq, Int.reduceNe, Int.reduceAdd, Int.reduceSub, and_self, reduceCtorEq, decide_eq_true_eq, decide_eq_false_iff_not, eq_self, implies_true, exists_const, Option.isNone_some, Option.isNone_none, Option.isSome_some, Option.isSome_none, Option.getD_some, i1, i2]
        refine ⟨(D3.gd (i := j) (by omega)).len, D4.st (i := j - 1) (by rw [List.length_set]; omega) (by omega) i2 (D3.gd (i := j) (by omega)) fun g5 D5 => ?_⟩
        simp (disch := omega) only [dm_t, wA, wB, wL, wW, wY, Int.fdiv_eq_ediv_of_nonneg, Int.tdiv_eq_ediv_of_nonneg, Int.tmod_eq_emod_of_nonneg, chk_pos, decT, decF, br_pos, br_neg, wX, ↓reduceIte, Nat.reduceEqDiff, Nat.reduceAdd, Nat.reduceSub, Nat.reduceMul, Nat.reduceLeDiff, Nat.reduceLT, Nat.reduceMod, Nat.reduceDiv, Int.reduceToNat, Nat.min_eq_left, IntKind.bits, Int.reducePow, Int.reduceLT, Int.reduceLE, Int.reduceEq, Int.reduceNe, Int.reduceAdd, Int.reduceSub, and_self, reduceCtorEq, decide_eq_true_eq, decide_eq_false_iff_not, eq_self, implies_true, exists_const, Option.isNone_some, Option.isNone_none, Option.isSome_some, Option.isSome_none, Option.getD_some]
        exact ⟨⟨j - 1, _, by congr 1; omega, by omega, by omega, D5, R.trans (Rg.swp (by omega) (by omega) (by omega) (by omega) (by omega)), I.step hja (by omega) (by omega) hlt⟩, by simp [m1]; omega⟩
      · have t := PI_right N hb hl hai hib D3 R (e1 ▸ I.done (.inr fun h => hc0 (hc.2 h)))
        revert t
        simp (disch := omega) only [dm_t, wA, wB, wL, wW, wY, Int.fdiv_eq_ediv_of_nonneg, Int.tdiv_eq_ediv_of_nonneg, Int.tmod_eq_emod_of_nonneg, chk_pos, decT, decF, br_pos, br_neg, wX, ↓reduceIte, Nat.reduceEqDiff, Nat.reduceAdd, Nat.reduceSub, Nat.reduceMul, Nat.reduceLeDiff, Nat.reduceLT, Nat.reduceMod, Nat.reduceDiv, Int.reduceToNat, Nat.min_eq_left, IntKind.bits, Int.reducePow, Int.reduceLT, Int.reduceLE, Int.reduceEq, Int.reduceNe, Int.reduceAdd, Int.reduceSub, and_self, reduceCtorEq, decide_eq_true_eq, decide_eq_false_iff_not, eq_self, implies_true, exists_const, Option.isNone_some, Option.isNone_none, Option.isSome_some, Option.isSome_none, Option.getD_some, i1, t1', i2, t2']
        exact id
    · have t := PI_right N hb hl hai hib D R (e1 ▸ I.done (.inl (by omega)))
      revert t
      simp (disch := omega) only [dm_t, wA, wB, wL, wW, wY, Int.fdiv_eq_ediv_of_nonneg, Int.tdiv_eq_ediv_of_nonneg, Int.tmod_eq_emod_of_nonneg, chk_pos, decT, decF, br_pos, br_neg, wX, ↓reduceIte, Nat.reduceEqDiff, Nat.reduceAdd, Nat.reduceSub, Nat.reduceMul, Nat.reduceLeDiff, Nat.reduceLT, Nat.reduceMod, Nat.reduceDiv, Int.reduceToNat, Nat.min_eq_left, IntKind.bits, Int.reducePow, Int.reduceLT, Int.reduceLE, Int.reduceEq, Int.reduceNe, Int.reduceAdd, Int.reduceSub, and_self, reduceCtorEq, decide_eq_true_eq, decide_eq_false_iff_not, eq_self, implies_true, exists_const, Option.isNone_some, Option.isNone_none, Option.isSome_some, Option.isSome_none, Option.getD_some]
      exact id
  · have t := PI_right N hb hl hai hib D R (fun p q h1 h2 h3 => by omega)
    revert t
    simp (disch := omega) only [dm_t, wA, wB, wL, wW, wY, Int.fdiv_eq_ediv_of_nonneg, Int.tdiv_eq_ediv_of_nonneg, Int.tmod_eq_emod_of_nonneg, chk_pos, decT, decF, br_pos, br_neg, wX, ↓reduceIte, Nat.reduceEqDiff, Nat.reduceAdd, Nat.reduceSub, Nat.reduceMul, Nat.reduceLeDiff, Nat.reduceLT, Nat.reduceMod, Nat.reduceDiv, Int.reduceToNat, Nat.min_eq_left, IntKind.bits, Int.reducePow, Int.reduceLT, Int.reduceLE, Int.reduceEq, Int.reduceNe, Int.reduceAdd, Int.reduceSub, and_self, reduceCtorEq, decide_eq_true_eq, decide_eq_false_iff_not, eq_self, implies_true, exists_const, Option.isNone_some, Option.isNone_none, Option.isSome_some, Option.isSome_none, Option.getD_some]
    exact id
end
theorem PI_ok {h : H} {sv : Value} {xs : List Row} {a b : Nat} (d : DX h h sv xs) (hab : a < b) (hb : b ≤ xs.length) (hl : xs.length ≤ 1152921504606846976) (hp : Pre a b xs) :
    Ok PX 75 #[sv, .int .i64 (a : Int), .int .i64 (b : Int), lessV] h fun v h' => ∃ (r : Bool) (ys : List Row), v = .bool r ∧ DX h h' sv ys ∧ Rg a b xs ys ∧ (r = true → Srt a b ys) := by
  refine c75_ok (args := [_, _, _, _]) (by simp) ?_
  simp (disch := omega) only [dm_t, wA, wB, wL, wW, wY, Int.fdiv_eq_ediv_of_nonneg, Int.tdiv_eq_ediv_of_nonneg, Int.tmod_eq_emod_of_nonneg, chk_pos, decT, decF, br_pos, br_neg, wX, ↓reduceIte, Nat.reduceEqDiff, Nat.reduceAdd, Nat.reduceSub, Nat.reduceMul, Nat.reduceLeDiff, Nat.reduceLT, Nat.reduceMod, Nat.reduceDiv, Int.reduceToNat, Nat.min_eq_left, IntKind.bits, Int.reducePow, Int.reduceLT, Int.reduceLE, Int.reduceEq, Int.reduceNe, Int.reduceAdd, Int.reduceSub, and_self, reduceCtorEq, decide_eq_true_eq, decide_eq_false_iff_not, eq_self, implies_true, exists_const, Option.isNone_some, Option.isNone_none, Option.isSome_some, Option.isSome_none, Option.getD_some]
  refine vc_loop2 (fun vi vk g => ∃ (i k : Nat) (zs : List Row), vi = .int .i64 (i : Int) ∧ vk = .int .i64 (k : Int) ∧ k ≤ 5 ∧ a < i ∧ i ≤ b ∧ DX h g sv zs ∧ Rg a b xs zs ∧ Srt a i zs) (fun _ vk _ => 5 - m1 vk) ?_ ?_
  · simp (disch := omega) only [dm_t, wA, wB, wL, wW, wY, Int.fdiv_eq_ediv_of_nonneg, Int.tdiv_eq_ediv_of_nonneg, Int.tmod_eq_emod_of_nonneg, chk_pos, decT, decF, br_pos, br_neg, wX, ↓reduceIte, Nat.reduceEqDiff, Nat.reduceAdd, Nat.reduceSub, Nat.reduceMul, Nat.reduceLeDiff, Nat.reduceLT, Nat.reduceMod, Nat.reduceDiv, Int.reduceToNat, Nat.min_eq_left, IntKind.bits, Int.reducePow, Int.reduceLT, Int.reduceLE, Int.reduceEq, Int.reduceNe, Int.reduceAdd, Int.reduceSub, and_self, reduceCtorEq, decide_eq_true_eq, decide_eq_false_iff_not, eq_self, implies_true, exists_const, Option.isNone_some, Option.isNone_none, Option.isSome_some, Option.isSome_none, Option.getD_some]
    exact ⟨a + 1, 0, xs, by simp, rfl, by omega, by omega, by omega, d, Rg.refl _ _ _, fun p q h1 h2 h3 => by omega⟩
  rintro _ _ g ⟨i, k, zs, rfl, rfl, hk, hai, hib, D, R, S⟩
  by_cases hk5 : k < 5
  · generalize hQ0 : lq2 _ _ _ _ _ _ _ _ = Q0
    have N : ∀ i, a < i → i ≤ b → RN (PX := PX) Q0 h sv xs a b i k := by
      intro i hai hib g zs D R S
      rw [← hQ0]
      simp (disch := omega) only [dm_t, wA, wB, wL, wW, wY, Int.fdiv_eq_ediv_of_nonneg, Int.tdiv_eq_ediv_of_nonneg, Int.tmod_eq_emod_of_nonneg, chk_pos, decT, decF, br_pos, br_neg, wX, ↓reduceIte, Nat.reduceEqDiff, Nat.reduceAdd, Nat.reduceSub, Nat.reduceMul, Nat.reduceLeDiff, Nat.reduceLT, Nat.reduceMod, Nat.reduceDiv, Int.reduceToNat, Nat.min_eq_left, IntKind.bits, Int.reducePow, Int.reduceLT, Int.reduceLE, Int.reduceEq, Int.reduceNe, Int.reduceAdd, Int.reduceSub, and_self, reduceCtorEq, decide_eq_true_eq, decide_eq_false_iff_not, eq_self, implies_true, exists_const, Option.isNone_some, Option.isNone_none, Option.isSome_some, Option.isSome_none, Option.getD_some]
      exact ⟨⟨i, k + 1, zs, rfl, by simp, by omega, hai, hib, D, R, S⟩, by simp [m1]; omega⟩
    simp (disch := omega) only [dm_t, wA, wB, wL, wW, wY, Int.fdiv_eq_ediv_of_nonneg, Int.tdiv_eq_ediv_of_nonneg, Int.tmod_eq_emod_of_nonneg, chk_pos, decT, decF, br_pos, br_neg, wX, ↓reduceIte, Nat.reduceEqDiff, Nat.reduceAdd, Nat.reduceSub, Nat.reduceMul, Nat.reduceLeDiff, Nat.reduceLT, Nat.reduceMod, Nat.reduceDiv, Int.reduceToNat, Nat.min_eq_left, IntKind.bits, Int.reducePow, Int.reduceLT, Int.reduceLE, Int.reduceEq, Int.reduceNe, Int.reduceAdd, Int.reduceSub, and_self, reduceCtorEq, decide_eq_true_eq, decide_eq_false_iff_not, eq_self, implies_true, exists_const, Option.isNone_some, Option.isNone_none, Option.isSome_some, Option.isSome_none, Option.getD_some]
    refine vc_loop1 (fun vi g => ∃ (i : Nat) (zs : List Row), vi = .int .i64 (i : Int) ∧ a < i ∧ i ≤ b ∧ DX h g sv zs ∧ Rg a b xs zs ∧ Srt a i zs) (fun vi _ => b - m1 vi) ?_ ?_
    · simp (disch := omega) only [dm_t, wA, wB, wL, wW, wY, Int.fdiv_eq_ediv_of_nonneg, Int.tdiv_eq_ediv_of_nonneg, Int.tmod_eq_emod_of_nonneg, chk_pos, decT, decF, br_pos, br_neg, wX, ↓reduceIte, Nat.reduceEqDiff, Nat.reduceAdd, Nat.reduceSub, Nat.reduceMul, Nat.reduceLeDiff, Nat.reduceLT, Nat.reduceMod, Nat.reduceDiv, Int.reduceToNat, Nat.min_eq_left, IntKind.bits, Int.reducePow, Int.reduceLT, Int.reduceLE, Int.reduceEq, Int.reduceNe, Int.reduceAdd, Int.reduceSub, and_self, reduceCtorEq, decide_eq_true_eq, decide_eq_false_iff_not, eq_self, implies_true, exists_const, Option.isNone_some, Option.isNone_none, Option.isSome_some, Option.isSome_none, Option.getD_some]
      exact ⟨i, zs, rfl, hai, hib, D, R, S⟩
    clear D R S hai hib
    rintro _ g ⟨i, zs, rfl, hai, hib, D, R, S⟩
    have hlen := R.len
    by_cases hi : i < b
    · obtain ⟨b1, o1, i1, t1⟩ := D.at (i := i) (by omega) rfl
      obtain ⟨b2, o2, i2, t2⟩ := D.at (i := i - 1) (by omega) (e := (i : Int) - 1) (by omega)
      simp (disch := omega) only [dm_t, wA, wB, wL, wW, wY, Int.fdiv_eq_ediv_of_nonneg, Int.tdiv_eq_ediv_of_nonneg, Int.tmod_eq_emod_of_nonneg, chk_pos, decT, decF, br_pos, br_neg, wX, ↓reduceIte, Nat.reduceEqDiff, Nat.reduceAdd, Nat.reduceSub, Nat.reduceMul, Nat.reduceLeDiff, Nat.reduceLT, Nat.reduceMod, Nat.reduceDiv, Int.reduceToNat, Nat.min_eq_left, IntKind.bits, Int.reducePow, Int.reduceLT, Int.reduceLE, Int.reduceEq, Int.reduceNe, Int.reduceAdd, Int.reduceSub, and_self, reduceCtorEq, decide_eq_true_eq, decide_eq_false_iff_not, eq_self, implies_true, exists_const, Option.isNone_some, Option.isNone_none, Option.isSome_some, Option.isSome_none, Option.getD_some, i1, t1, i2, t2]
      refine ⟨rfl, (less_ok g (D.gd (i := i) (by omega)) (D.gd (i := i - 1) (by omega))).k ?_⟩
      rintro _ g3 ⟨⟨c, rfl, hc⟩, e3⟩
      have D3 := D.ext e3
      have t1' := cellsAt_ext e3 t1
      have t2' := cellsAt_ext e3 t2
      by_cases hc0 : c < 0
      · by_cases h50 : (b : Int) - (a : Int) < 50
        · simp (disch := omega) only [dm_t, wA, wB, wL, wW, wY, Int.fdiv_eq_ediv_of_nonneg, Int.tdiv_eq_ediv_of_nonneg, Int.tmod_eq_emod_of_nonneg, chk_pos, decT, decF, br_pos, br_neg, wX, ↓reduceIte, Nat.reduceEqDiff, Nat.reduceAdd, Nat.reduceSub, Nat.reduceMul, Nat.reduceLeDiff, Nat.reduceLT, Nat.reduceMod, Nat.reduceDiv, Int.reduceToNat, Nat.min_eq_left, IntKind.bits, Int.reducePow, Int.reduceLT, Int.reduceLE, Int.reduceEq, Int.reduceNe, Int.reduceAdd, Int.reduceSub, and_self, reduceCtorEq, decide_eq_true_eq, decide_eq_false_iff_not, eq_self, implies_true, exists_const, Option.isNone_some, Option.isNone_none, Option.isSome_some, Option.isSome_none, Option.getD_some, i1, t1', i2, t2']
          rw [← hQ0]
          simp (disch := omega) only [dm_t, wA, wB, wL, wW, wY, Int.fdiv_eq_ediv_of_nonneg, Int.tdiv_eq_ediv_of_nonneg, Int.tmod_eq_emod_of_nonneg, chk_pos, decT, decF, br_pos, br_neg, wX, ↓reduceIte, Nat.reduceEqDiff, Nat.reduceAdd, Nat.reduceSub, Nat.reduceMul, Nat.reduceLeDiff, Nat.reduceLT, Nat.reduceMod, Nat.reduceDiv, Int.reduceToNat, Nat.min_eq_left, IntKind.bits, Int.reducePow, Int.reduceLT, Int.reduceLE, Int.reduceEq, Int.reduceNe, Int.reduceAdd, Int.reduceSub, and_self, reduceCtorEq, decide_eq_true_eq, decide_eq_false_iff_not, eq_self, implies_true, exists_const, Option.isNone_some, Option.isNone_none, Option.isSome_some, Option.isSome_none, Option.getD_some]
          exact ⟨_, zs, rfl, D3, R, fun h => by cases h⟩
        · simp (disch := omega) only [dm_t, wA, wB, wL, wW, wY, Int.fdiv_eq_ediv_of_nonneg, Int.tdiv_eq_ediv_of_nonneg, Int.tmod_eq_emod_of_nonneg, chk_pos, decT, decF, br_pos, br_neg, wX, ↓reduceIte, Nat.reduceEqDiff, Nat.reduceAdd, Nat.reduceSub, Nat.reduceMul, Nat.reduceLeDiff, Nat.reduceLT, Nat.reduceMod, Nat.reduceDiv, Int.reduceToNat, Nat.min_eq_left, IntKind.bits, Int.reducePow, Int.reduceLT, Int.reduceLE, Int.reduceEq, Int.reduceNe, Int.reduceAdd, Int.reduceSub, and_self, reduceCtorEq, decide_eq_true_eq, decide_eq_false_iff_not, eq_self, implies_true, exists_const, Option.isNone_some, Option.isNone_none, Option.isSome_some, Option.isSome_none, Option.getD_some, i1, t1', i2, t2']
          refine ⟨(D3.gd (i := i - 1) (by omega)).len, D3.st (i := i) (by omega) rfl i1 (D3.gd (i := i - 1) (by omega)) fun g4 D4 => ?_⟩
          simp (disch := omega) only [dm_t, wA, wB, wL, wW, wY, Int.fdiv_eq_ediv_of_nonneg, Int.tdiv_eq_ediv_of_nonneg, Int.tmod_eq_emod_of_nonneg, chk_pos, decT, decF, br_pos, br_neg, wX, ↓reduceIte, Nat.reduceEqDiff, Nat.reduceAdd, Nat.reduceSub, Nat.reduceMul, Nat.reduceLeDiff, Nat.reduceLT, Nat.reduceMod, Nat.reduceDiv, Int.reduceToNat, Nat.min_eq_left, IntKind.bits, Int.reducePow, Int.reduceLT, Int.reduceLE, Int.reduceEq, Int.reduceNe, Int.reduceAdd, Int.reduceSub, and_self, reduceCtorEq, decide_eq_true_eq, decide_eq_false_iff_not, eq_self, implies_true, exists_const, Option.isNone_some, Option.isNone_none, Option.isSome_some, Option.isSome_none, Option.getD_some, i1, i2]
          refine ⟨(D3.gd (i := i) (by omega)).len, D4.st (i := i - 1) (by rw [List.length_set]; omega) (by omega) i2 (D3.gd (i := i) (by omega)) fun g5 D5 => ?_⟩
          have S5 : Srt a (i - 1) (swp zs i (i - 1)) := Srt.keep (fun p q h1 h2 h3 => S p q h1 h2 (by omega)) (by omega) (by omega) (by omega) (by omega)
          have t := PI_left (N i hai hib) hp hb hl hai hi D5 (R.trans (Rg.swp (by omega) (by omega) (by omega) (by omega) (by omega))) S5
          revert t
          simp (disch := omega) only [dm_t, wA, wB, wL, wW, wY, Int.fdiv_eq_ediv_of_nonneg, Int.tdiv_eq_ediv_of_nonneg, Int.tmod_eq_emod_of_nonneg, chk_pos, decT, decF, br_pos, br_neg, wX, ↓reduceIte, Nat.reduceEqDiff, Nat.reduceAdd, Nat.reduceSub, Nat.reduceMul, Nat.reduceLeDiff, Nat.reduceLT, Nat.reduceMod, Nat.reduceDiv, Int.reduceToNat, Nat.min_eq_left, IntKind.bits, Int.reducePow, Int.reduceLT, Int.reduceLE, Int.reduceEq, Int.reduceNe, Int.reduceAdd, Int.reduceSub, and_self, reduceCtorEq, decide_eq_true_eq, decide_eq_false_iff_not, eq_self, implies_true, exists_const, Option.isNone_some, Option.isNone_none, Option.isSome_some, Option.isSome_none, Option.getD_some]
          exact id
      · simp (disch := omega) only [dm_t, wA, wB, wL, wW, wY, Int.fdiv_eq_ediv_of_nonneg, Int.tdiv_eq_ediv_of_nonneg, Int.tmod_eq_emod_of_nonneg, chk_pos, decT, decF, br_pos, br_neg, wX, ↓reduceIte, Nat.reduceEqDiff, Nat.reduceAdd, Nat.reduceSub, Nat.reduceMul, Nat.reduceLeDiff, Nat.reduceLT, Nat.reduceMod, Nat.reduceDiv, Int.reduceToNat, Nat.min_eq_left, IntKind.bits, Int.reducePow, Int.reduceLT, Int.reduceLE, Int.reduceEq, Int.reduceNe, Int.reduceAdd, Int.reduceSub, and_self, reduceCtorEq, decide_eq_true_eq, decide_eq_false_iff_not, eq_self, implies_true, exists_const, Option.isNone_some, Option.isNone_none, Option.isSome_some, Option.isSome_none, Option.getD_some, i1, t1', i2, t2']
        exact ⟨⟨i + 1, zs, by simp, by omega, by omega, D3, R, S.more hai fun h => hc0 (hc.2 h)⟩, by simp [m1]; omega⟩
    · obtain rfl : i = b := by omega
      simp (disch := omega) only [dm_t, wA, wB, wL, wW, wY, Int.fdiv_eq_ediv_of_nonneg, Int.tdiv_eq_ediv_of_nonneg, Int.tmod_eq_emod_of_nonneg, chk_pos, decT, decF, br_pos, br_neg, wX, ↓reduceIte, Nat.reduceEqDiff, Nat.reduceAdd, Nat.reduceSub, Nat.reduceMul, Nat.reduceLeDiff, Nat.reduceLT, Nat.reduceMod, Nat.reduceDiv, Int.reduceToNat, Nat.min_eq_left, IntKind.bits, Int.reducePow, Int.reduceLT, Int.reduceLE, Int.reduceEq, Int.reduceNe, Int.reduceAdd, Int.reduceSub, and_self, reduceCtorEq, decide_eq_true_eq, decide_eq_false_iff_not, eq_self, implies_true, exists_const, Option.isNone_some, Option.isNone_none, Option.isSome_some, Option.isSome_none, Option.getD_some]
      rw [← hQ0]
      simp (disch := omega) only [dm_t, wA, wB, wL, wW, wY, Int.fdiv_eq_ediv_of_nonneg, Int.tdiv_eq_ediv_of_nonneg, Int.tmod_eq_emod_of_nonneg, chk_pos, decT, decF, br_pos, br_neg, wX, ↓reduceIte, Nat.reduceEqDiff, Nat.reduceAdd, Nat.reduceSub, Nat.reduceMul, Nat.reduceLeDiff, Nat.reduceLT, Nat.reduceMod, Nat.reduceDiv, Int.reduceToNat, Nat.min_eq_left, IntKind.bits, Int.reducePow, Int.reduceLT, Int.reduceLE, Int.reduceEq, Int.reduceNe, Int.reduceAdd, Int.reduceSub, and_self, reduceCtorEq, decide_eq_true_eq, decide_eq_false_iff_not, eq_self, implies_true, exists_const, Option.isNone_some, Option.isNone_none, Option.isSome_some, Option.isSome_none, Option.getD_some]
      exact ⟨_, zs, rfl, D, R, fun _ => S⟩
  · simp (disch := omega) only [dm_t, wA, wB, wL, wW, wY, Int.fdiv_eq_ediv_of_nonneg, Int.tdiv_eq_ediv_of_nonneg, Int.tmod_eq_emod_of_nonneg, chk_pos, decT, decF, br_pos, br_neg, wX, ↓reduceIte, Nat.reduceEqDiff, Nat.reduceAdd, Nat.reduceSub, Nat.reduceMul, Nat.reduceLeDiff, Nat.reduceLT, Nat.reduceMod, Nat.reduceDiv, Int.reduceToNat, Nat.min_eq_left, IntKind.bits, Int.reducePow, Int.reduceLT, Int.reduceLE, Int.reduceEq, Int.reduceNe, Int.reduceAdd, Int.reduceSub, and_self, reduceCtorEq, decide_eq_true_eq, decide_eq_false_iff_not, eq_self, implies_true, exists_const, Option.isNone_some, Option.isNone_none, Option.isSome_some, Option.isSome_none, Option.getD_some]
    exact ⟨_, zs, rfl, D, R, fun h => by cases h⟩
end Go.Proofs.Ytojhnclkhiffkaa.so

/-
  sort: partition.
-/
namespace Go.Proofs.Ytojhnclkhiffkaa.so
open Go.Proofs.Ytojhnclkhiffkaa
variable {PX : Cx Try.prog}
set_option linter.unusedVariables false
set_option linter.unusedSimpArgs false
/-- Ahead of i less than the first, behind j not less. -/
structure PT (a b i j : Nat) (zs : List Row) : Prop where
  l : ∀ k, a < k → k < i → lt (gt zs k) (gt zs a)
  r : ∀ k, j < k → k < b → le (gt zs a) (gt zs k)
  ai : a < i
  ij : i ≤ j + 1
  jb : j < b
/-- Parted at m. -/
structure Parted (a b m : Nat) (ys : List Row) : Prop where
  am : a ≤ m
  mb : m < b
  l : ∀ k, a ≤ k → k < m → lt (gt ys k) (gt ys m)
  r : ∀ k, m < k → k < b → le (gt ys m) (gt ys k)
section
variable {a b i j : Nat} {zs : List Row}
theorem PT.start (h : a + 1 < b) : PT a b (a + 1) (b - 1) zs := ⟨fun k h1 h2 => by omega, fun k h1 h2 => by omega, by omega, by omega, by omega⟩
theorem PT.li (p : PT a b i j zs) (hij : i ≤ j) (h : lt (gt zs i) (gt zs a)) : PT a b (i + 1) j zs := ⟨fun k h1 h2 => by
  by_cases hk : k = i
  · rw [hk]; exact h
  · exact p.l k h1 (by omega), p.r, by have := p.ai; omega, by omega, p.jb⟩
theorem PT.rj (p : PT a b i j zs) (hij : i ≤ j) (h : le (gt zs a) (gt zs j)) : PT a b i (j - 1) zs := ⟨p.l, fun k h1 h2 => by
  by_cases hk : k = j
  · rw [hk]; exact h
  · exact p.r k (by omega) h2, p.ai, by have := p.ai; omega, by have := p.jb; omega⟩
theorem PT.sw (p : PT a b i j zs) (hb : b ≤ zs.length) (hij : i ≤ j) (h1 : le (gt zs a) (gt zs i)) (h2 : lt (gt zs j) (gt zs a)) : i < j ∧ PT a b (i + 1) (j - 1) (swp zs i j) := by
  have hne : i ≠ j := fun e => by rw [e] at h1; exact h1 h2
  obtain ⟨p1, p2, p3, p4, p5⟩ := p
  have hk := gt_swp (xs := zs) (i := i) (j := j) (by omega) (by omega)
  refine ⟨by omega, fun k q1 q2 => ?_, fun k q1 q2 => ?_, by omega, by omega, by omega⟩
  · rw [hk, hk, if_neg (by omega), if_neg (show ¬ a = j by omega), if_neg (show ¬ a = i by omega)]
    by_cases e : k = i
    · rw [if_pos e]; exact h2
    · rw [if_neg e]; exact p1 k q1 (by omega)
  · rw [hk, hk, if_neg (show ¬ a = j by omega), if_neg (show ¬ a = i by omega)]
    by_cases e : k = j
    · rw [if_pos e]; exact h1
    · rw [if_neg e, if_neg (by omega)]; exact p2 k (by omega) q2
theorem PT.fin (p : PT a b i j zs) (hb : b ≤ zs.length) (hij : j < i) : Parted a b j (swp zs j a) := by
  obtain ⟨p1, p2, p3, p4, p5⟩ := p
  have hk := gt_swp (xs := zs) (i := j) (j := a) (by omega) (by omega)
  have hj : gt (swp zs j a) j = gt zs a := by
    rw [hk]
    by_cases e : j = a
    · rw [if_pos e, e]
    · rw [if_neg e, if_pos rfl]
  refine ⟨by omega, p5, fun k q1 q2 => ?_, fun k q1 q2 => ?_⟩
  · rw [hj, hk]
    by_cases e : k = a
    · rw [if_pos e]; exact p1 j (by omega) (by omega)
    · rw [if_neg e, if_neg (by omega)]; exact p1 k (by omega) (by omega)
  · rw [hj, hk, if_neg (by omega), if_neg (by omega)]; exact p2 k q1 q2
end
def PartR (h : H) (sv : Value) (xs : List Row) (a b : Nat) (v : Value) (h' : H) : Prop := ∃ (m : Nat) (ys : List Row) (f : Bool), v = .tuple #[.int .i64 (m : Int), .bool f] ∧ DX h h' sv ys ∧ Rg a b xs ys ∧ Parted a b m ys
section
variable {h : H} {sv : Value} {xs : List Row} {a b : Nat}
/-- The last swap. -/
theorem Part_end {g : H} {i j : Nat} {zs : List Row} (D : DX h g sv zs) (R : Rg a b xs zs) (P : PT a b i j zs) (hb : b ≤ xs.length) (hl : xs.length ≤ 1152921504606846976) (hij : j < i) :
    vc PX c77_s19 (retQ [10, 11] (okR (PartR h sv xs a b))) [(0, sv), (1, .int .i64 (a : Int)), (13, .int .i64 (j : Int))] g := by
  have hlen := R.len
  have hjb := P.jb
  have haj := P.ij
  have hai := P.ai
  obtain ⟨b1, o1, i1, t1⟩ := D.at (i := j) (by omega) rfl
  obtain ⟨b2, o2, i2, t2⟩ := D.at (i := a) (by omega) rfl
  simp (disch := omega) only [dm_t, wA, wB, wL, wW, wY, Int.fdiv_eq_ediv_of_nonneg, Int.tdiv_eq_ediv_of_nonneg, Int.tmod_eq_emod_of_nonneg, chk_pos, decT, decF, br_pos, br_neg, wX, ↓reduceIte, Nat.reduceEqDiff, Nat.reduceAdd, Nat.reduceSub, Nat.reduceMul, Nat.reduceLeDiff, Nat.reduceLT, Nat.reduceMod, Nat.reduceDiv, Int.reduceToNat, Nat.min_eq_left, IntKind.bits, Int.reducePow, Int.reduceLT, Int.reduceLE, Int.reduceEq, Int.reduceNe, Int.reduceAdd, Int.reduceSub, and_self, reduceCtorEq, decide_eq_true_eq, decide_eq_false_iff_not, eq_self, implies_true, exists_const, Option.isNone_some, Option.isNone_none, Option.isSome_some, Option.isSome_none, Option.getD_some, i1, t1, i2, t2]
  refine ⟨(D.gd (i := a) (by omega)).len, D.st (i := j) (by omega) rfl i1 (D.gd (i := a) (by omega)) fun g4 D4 => ?_⟩
  simp (disch := omega) only [dm_t, wA, wB, wL, wW, wY, Int.fdiv_eq_ediv_of_nonneg, Int.tdiv_eq_ediv_of_nonneg, Int.tmod_eq_emod_of_nonneg, chk_pos, decT, decF, br_pos, br_neg, wX, ↓reduceIte, Nat.reduceEqDiff, Nat.reduceAdd, Nat.reduceSub, Nat.reduceMul, Nat.reduceLeDiff, Nat.reduceLT, Nat.reduceMod, Nat.reduceDiv, Int.reduceToNat, Nat.min_eq_left, IntKind.bits, Int.reducePow, Int.reduceLT, Int.reduceLE, Int.reduceEq, Int.reduceNe, Int.reduceAdd, Int.reduceSub, and_self, reduceCtorEq, decide_eq_true_eq, decide_eq_false_iff_not, eq_self, implies_true, exists_const, Option.isNone_some, Option.isNone_none, Option.isSome_some, Option.isSome_none, Option.getD_some, i1, i2]
  refine ⟨(D.gd (i := j) (by omega)).len, D4.st (i := a) (by rw [List.length_set]; omega) (by omega) i2 (D.gd (i := j) (by omega)) fun g5 D5 => ?_⟩
  simp (disch := omega) only [dm_t, wA, wB, wL, wW, wY, Int.fdiv_eq_ediv_of_nonneg, Int.tdiv_eq_ediv_of_nonneg, Int.tmod_eq_emod_of_nonneg, chk_pos, decT, decF, br_pos, br_neg, wX, ↓reduceIte, Nat.reduceEqDiff, Nat.reduceAdd, Nat.reduceSub, Nat.reduceMul, Nat.reduceLeDiff, Nat.reduceLT, Nat.reduceMod, Nat.reduceDiv, Int.reduceToNat, Nat.min_eq_left, IntKind.bits, Int.reducePow, Int.reduceLT, Int.reduceLE, Int.reduceEq, Int.reduceNe, Int.reduceAdd, Int.reduceSub, and_self, reduceCtorEq, decide_eq_true_eq, decide_eq_false_iff_not, eq_self, implies_true, exists_const, Option.isNone_some, Option.isNone_none, Option.isSome_some, Option.isSome_none, Option.getD_some]
  exact ⟨j, _, _, rfl, D5, R.trans (Rg.swp (by omega) (by omega) (by omega) (by omega) (by omega)), P.fin (by omega) hij⟩
/-- The rounds. -/
theorem Part_loop {g : H} {i j : Nat} {zs : List Row} (D : DX h g sv zs) (R : Rg a b xs zs) (P : PT a b i j zs) (hb : b ≤ xs.length) (hl : xs.length ≤ 1152921504606846976) :
    vc PX c77_s11 (retQ [10, 11] (okR (PartR h sv xs a b))) [(0, sv), (1, .int .i64 (a : Int)), (4, lessV), (12, .int .i64 (i : Int)), (13, .int .i64 (j : Int))] g := by
  simp (disch := omega) only [dm_t, wA, wB, wL, wW, wY, Int.fdiv_eq_ediv_of_nonneg, Int.tdiv_eq_ediv_of_nonneg, Int.tmod_eq_emod_of_nonneg, chk_pos, decT, decF, br_pos, br_neg, wX, ↓reduceIte, Nat.reduceEqDiff, Nat.reduceAdd, Nat.reduceSub, Nat.reduceMul, Nat.reduceLeDiff, Nat.reduceLT, Nat.reduceMod, Nat.reduceDiv, Int.reduceToNat, Nat.min_eq_left, IntKind.bits, Int.reducePow, Int.reduceLT, Int.reduceLE, Int.reduceEq, Int.reduceNe, Int.reduceAdd, Int.reduceSub, and_self, reduceCtorEq, decide_eq_true_eq, decide_eq_false_iff_not, eq_self, implies_true, exists_const, Option.isNone_some, Option.isNone_none, Option.isSome_some, Option.isSome_none, Option.getD_some]
  refine vc_loop2 (fun vi vj g => ∃ (i j : Nat) (zs : List Row), vi = .int .i64 (i : Int) ∧ vj = .int .i64 (j : Int) ∧ DX h g sv zs ∧ Rg a b xs zs ∧ PT a b i j zs) (fun vi vj _ => m1 vj + 1 - m1 vi) ?_ ?_
  · simp (disch := omega) only [dm_t, wA, wB, wL, wW, wY, Int.fdiv_eq_ediv_of_nonneg, Int.tdiv_eq_ediv_of_nonneg, Int.tmod_eq_emod_of_nonneg, chk_pos, decT, decF, br_pos, br_neg, wX, ↓reduceIte, Nat.reduceEqDiff, Nat.reduceAdd, Nat.reduceSub, Nat.reduceMul, Nat.reduceLeDiff, Nat.reduceLT, Nat.reduceMod, Nat.reduceDiv, Int.reduceToNat, Nat.min_eq_left, IntKind.bits, Int.reducePow, Int.reduceLT, Int.reduceLE, Int.reduceEq, Int.reduceNe, Int.reduceAdd, Int.reduceSub, and_self, reduceCtorEq, decide_eq_true_eq, decide_eq_false_iff_not, eq_self, implies_true, exists_const, Option.isNone_some, Option.isNone_none, Option.isSome_some, Option.isSome_none, Option.getD_some]
    exact ⟨i, j, zs, rfl, rfl, D, R, P⟩
  clear D R P
  rintro _ _ g ⟨i, j, zs, rfl, rfl, D, R, P⟩
  generalize hQ0 : lq2 _ _ _ _ _ _ _ _ = Q0
  simp (disch := omega) only [dm_t, wA, wB, wL, wW, wY, Int.fdiv_eq_ediv_of_nonneg, Int.tdiv_eq_ediv_of_nonneg, Int.tmod_eq_emod_of_nonneg, chk_pos, decT, decF, br_pos, br_neg, wX, ↓reduceIte, Nat.reduceEqDiff, Nat.reduceAdd, Nat.reduceSub, Nat.reduceMul, Nat.reduceLeDiff, Nat.reduceLT, Nat.reduceMod, Nat.reduceDiv, Int.reduceToNat, Nat.min_eq_left, IntKind.bits, Int.reducePow, Int.reduceLT, Int.reduceLE, Int.reduceEq, Int.reduceNe, Int.reduceAdd, Int.reduceSub, and_self, reduceCtorEq, decide_eq_true_eq, decide_eq_false_iff_not, eq_self, implies_true, exists_const, Option.isNone_some, Option.isNone_none, Option.isSome_some, Option.isSome_none, Option.getD_some]
  refine vc_loop1 (fun vi' g => ∃ (i' : Nat), vi' = .int .i64 (i' : Int) ∧ i ≤ i' ∧ DX h g sv zs ∧ PT a b i' j zs) (fun vi _ => j + 1 - m1 vi) ?_ ?_
  · simp (disch := omega) only [dm_t, wA, wB, wL, wW, wY, Int.fdiv_eq_ediv_of_nonneg, Int.tdiv_eq_ediv_of_nonneg, Int.tmod_eq_emod_of_nonneg, chk_pos, decT, decF, br_pos, br_neg, wX, ↓reduceIte, Nat.reduceEqDiff, Nat.reduceAdd, Nat.reduceSub, Nat.reduceMul, Nat.reduceLeDiff, Nat.reduceLT, Nat.reduceMod, Nat.reduceDiv, Int.reduceToNat, Nat.min_eq_left, IntKind.bits, Int.reducePow, Int.reduceLT, Int.reduceLE, Int.reduceEq, Int.reduceNe, Int.reduceAdd, Int.reduceSub, and_self, reduceCtorEq, decide_eq_true_eq, decide_eq_false_iff_not, eq_self, implies_true, exists_const, Option.isNone_some, Option.isNone_none, Option.isSome_some, Option.isSome_none, Option.getD_some]
    exact ⟨i, rfl, by omega, D, P⟩
  clear D P
  rintro _ g ⟨i', rfl, hii, D, P⟩
  have hlen := R.len
  have hjb := P.jb
  have hij1 := P.ij
  have hai := P.ai
  -- behind the first loop
  have k1 : ∀ g, DX h g sv zs → (i' ≤ j → le (gt zs a) (gt zs i')) → vc PX c77_s13 (blockQ 5 Q0) [(0, sv), (1, .int .i64 (a : Int)), (4, lessV), (12, .int .i64 (i' : Int)), (13, .int .i64 (j : Int))] g := by
    intro g D hle
    simp (disch := omega) only [dm_t, wA, wB, wL, wW, wY, Int.fdiv_eq_ediv_of_nonneg, Int.tdiv_eq_ediv_of_nonneg, Int.tmod_eq_emod_of_nonneg, chk_pos, decT, decF, br_pos, br_neg, wX, ↓reduceIte, Nat.reduceEqDiff, Nat.reduceAdd, Nat.reduceSub, Nat.reduceMul, Nat.reduceLeDiff, Nat.reduceLT, Nat.reduceMod, Nat.reduceDiv, Int.reduceToNat, Nat.min_eq_left, IntKind.bits, Int.reducePow, Int.reduceLT, Int.reduceLE, Int.reduceEq, Int.reduceNe, Int.reduceAdd, Int.reduceSub, and_self, reduceCtorEq, decide_eq_true_eq, decide_eq_false_iff_not, eq_self, implies_true, exists_const, Option.isNone_some, Option.isNone_none, Option.isSome_some, Option.isSome_none, Option.getD_some]
    refine vc_loop1 (fun vj' g => ∃ (j' : Nat), vj' = .int .i64 (j' : Int) ∧ j' ≤ j ∧ DX h g sv zs ∧ PT a b i' j' zs) (fun vj _ => m1 vj) ?_ ?_
    · simp (disch := omega) only [dm_t, wA, wB, wL, wW, wY, Int.fdiv_eq_ediv_of_nonneg, Int.tdiv_eq_ediv_of_nonneg, Int.tmod_eq_emod_of_nonneg, chk_pos, decT, decF, br_pos, br_neg, wX, ↓reduceIte, Nat.reduceEqDiff, Nat.reduceAdd, Nat.reduceSub, Nat.reduceMul, Nat.reduceLeDiff, Nat.reduceLT, Nat.reduceMod, Nat.reduceDiv, Int.reduceToNat, Nat.min_eq_left, IntKind.bits, Int.reducePow, Int.reduceLT, Int.reduceLE, Int.reduceEq, Int.reduceNe, Int.reduceAdd, Int.reduceSub, and_self, reduceCtorEq, decide_eq_true_eq, decide_eq_false_iff_not, eq_self, implies_true, exists_const, Option.isNone_some, Option.isNone_none, Option.isSome_some, Option.isSome_none, Option.getD_some]
      exact ⟨j, rfl, by omega, D, P⟩
    clear D P hjb hij1 hai
    rintro _ g ⟨j', rfl, hjj, D, P⟩
    have hjb := P.jb
    have hij1 := P.ij
    have hai := P.ai
    by_cases hij : i' ≤ j'
    · obtain ⟨b1, o1, i1, t1⟩ := D.at (i := j') (by omega) rfl
      obtain ⟨b2, o2, i2, t2⟩ := D.at (i := a) (by omega) rfl
      obtain ⟨b3, o3, i3, t3⟩ := D.at (i := i') (by omega) rfl
      simp (disch := omega) only [dm_t, wA, wB, wL, wW, wY, Int.fdiv_eq_ediv_of_nonneg, Int.tdiv_eq_ediv_of_nonneg, Int.tmod_eq_emod_of_nonneg, chk_pos, decT, decF, br_pos, br_neg, wX, ↓reduceIte, Nat.reduceEqDiff, Nat.reduceAdd, Nat.reduceSub, Nat.reduceMul, Nat.reduceLeDiff, Nat.reduceLT, Nat.reduceMod, Nat.reduceDiv, Int.reduceToNat, Nat.min_eq_left, IntKind.bits, Int.reducePow, Int.reduceLT, Int.reduceLE, Int.reduceEq, Int.reduceNe, Int.reduceAdd, Int.reduceSub, and_self, reduceCtorEq, decide_eq_true_eq, decide_eq_false_iff_not, eq_self, implies_true, exists_const, Option.isNone_some, Option.isNone_none, Option.isSome_some, Option.isSome_none, Option.getD_some, i1, t1, i2, t2]
      refine ⟨rfl, (less_ok g (D.gd (i := j') (by omega)) (D.gd (i := a) (by omega))).k ?_⟩
      rintro _ g3 ⟨⟨c, rfl, hc⟩, e3⟩
      have D3 := D.ext e3
      have t1' := cellsAt_ext e3 t1
      have t2' := cellsAt_ext e3 t2
      have t3' := cellsAt_ext e3 t3
      by_cases hc0 : c < 0
      · obtain ⟨hlt, P3⟩ := P.sw (by omega) hij (hle (by omega)) (hc.1 hc0)
        simp (disch := omega) only [dm_t, wA, wB, wL, wW, wY, Int.fdiv_eq_ediv_of_nonneg, Int.tdiv_eq_ediv_of_nonneg, Int.tmod_eq_emod_of_nonneg, chk_pos, decT, decF, br_pos, br_neg, wX, ↓reduceIte, Nat.reduceEqDiff, Nat.reduceAdd, Nat.reduceSub, Nat.reduceMul, Nat.reduceLeDiff, Nat.reduceLT, Nat.reduceMod, Nat.reduceDiv, Int.reduceToNat, Nat.min_eq_left, IntKind.bits, Int.reducePow, Int.reduceLT, Int.reduceLE, Int.reduceEq, Int.reduceNe, Int.reduceAdd, Int.reduceSub, and_self, reduceCtorEq, decide_eq_true_eq, decide_eq_false_iff_not, eq_self, implies_true, exists_const, Option.isNone_some, Option.isNone_none, Option.isSome_some, Option.isSome_none, Option.getD_some, i1, t1', i2, t2', i3, t3']
        refine ⟨(D3.gd (i := j') (by omega)).len, D3.st (i := i') (by omega) rfl i3 (D3.gd (i := j') (by omega)) fun g4 D4 => ?_⟩
        simp (disch := omega) only [dm_t, wA, wB, wL, wW, wY, Int.fdiv_eq_ediv_of_nonneg, Int.tdiv_eq_ediv_of_nonneg, Int.tmod_eq_emod_of_nonneg, chk_pos, decT, decF, br_pos, br_neg, wX, ↓reduceIte, Nat.reduceEqDiff, Nat.reduceAdd, Nat.reduceSub, Nat.reduceMul, Nat.reduceLeDiff, Nat.reduceLT, Nat.reduceMod, Nat.reduceDiv, Int.reduceToNat, Nat.min_eq_left, IntKind.bits, Int.reducePow, Int.reduceLT, Int.reduceLE, Int.reduceEq, Int.reduceNe, Int.reduceAdd, Int.reduceSub, and_self, reduceCtorEq, decide_eq_true_eq, decide_eq_false_iff_not, eq_self, implies_true, exists_const, Option.isNone_some, Option.isNone_none, Option.isSome_some, Option.isSome_none, Option.getD_some, i1, i3]
        refine ⟨(D3.gd (i := i') (by omega)).len, D4.st (i := j') (by rw [List.length_set]; omega) (by omega) i1 (D3.gd (i := i') (by omega)) fun g5 D5 => ?_⟩
        simp (disch := omega) only [dm_t, wA, wB, wL, wW, wY, Int.fdiv_eq_ediv_of_nonneg, Int.tdiv_eq_ediv_of_nonneg, Int.tmod_eq_emod_of_nonneg, chk_pos, decT, decF, br_pos, br_neg, wX, ↓reduceIte, Nat.reduceEqDiff, Nat.reduceAdd, Nat.reduceSub, Nat.reduceMul, Nat.reduceLeDiff, Nat.reduceLT, Nat.reduceMod, Nat.reduceDiv, Int.reduceToNat, Nat.min_eq_left, IntKind.bits, Int.reducePow, Int.reduceLT, Int.reduceLE, Int.reduceEq, Int.reduceNe, Int.reduceAdd, Int.reduceSub, and_self, reduceCtorEq, decide_eq_true_eq, decide_eq_false_iff_not, eq_self, implies_true, exists_const, Option.isNone_some, Option.isNone_none, Option.isSome_some, Option.isSome_none, Option.getD_some]
        rw [← hQ0]
        simp (disch := omega) only [dm_t, wA, wB, wL, wW, wY, Int.fdiv_eq_ediv_of_nonneg, Int.tdiv_eq_ediv_of_nonneg, Int.tmod_eq_emod_of_nonneg, chk_pos, decT, decF, br_pos, br_neg, wX, ↓reduceIte, Nat.reduceEqDiff, Nat.reduceAdd, Nat.reduceSub, Nat.reduceMul, Nat.reduceLeDiff, Nat.reduceLT, Nat.reduceMod, Nat.reduceDiv, Int.reduceToNat, Nat.min_eq_left, IntKind.bits, Int.reducePow, Int.reduceLT, Int.reduceLE, Int.reduceEq, Int.reduceNe, Int.reduceAdd, Int.reduceSub, and_self, reduceCtorEq, decide_eq_true_eq, decide_eq_false_iff_not, eq_self, implies_true, exists_const, Option.isNone_some, Option.isNone_none, Option.isSome_some, Option.isSome_none, Option.getD_some]
        exact ⟨⟨i' + 1, j' - 1, _, by simp, by congr 1; omega, D5, R.trans (Rg.swp (by omega) (by omega) (by omega) (by omega) (by omega)), P3⟩, by simp [m1]; omega⟩
      · simp (disch := omega) only [dm_t, wA, wB, wL, wW, wY, Int.fdiv_eq_ediv_of_nonneg, Int.tdiv_eq_ediv_of_nonneg, Int.tmod_eq_emod_of_nonneg, chk_pos, decT, decF, br_pos, br_neg, wX, ↓reduceIte, Nat.reduceEqDiff, Nat.reduceAdd, Nat.reduceSub, Nat.reduceMul, Nat.reduceLeDiff, Nat.reduceLT, Nat.reduceMod, Nat.reduceDiv, Int.reduceToNat, Nat.min_eq_left, IntKind.bits, Int.reducePow, Int.reduceLT, Int.reduceLE, Int.reduceEq, Int.reduceNe, Int.reduceAdd, Int.reduceSub, and_self, reduceCtorEq, decide_eq_true_eq, decide_eq_false_iff_not, eq_self, implies_true, exists_const, Option.isNone_some, Option.isNone_none, Option.isSome_some, Option.isSome_none, Option.getD_some, i1, t1', i2, t2']
        exact ⟨⟨j' - 1, by congr 1; omega, by omega, D3, P.rj hij fun h => hc0 (hc.2 h)⟩, by simp [m1]; omega⟩
    · have t := Part_end (PX := PX) D R P hb hl (by omega)
      revert t
      simp (disch := omega) only [dm_t, wA, wB, wL, wW, wY, Int.fdiv_eq_ediv_of_nonneg, Int.tdiv_eq_ediv_of_nonneg, Int.tmod_eq_emod_of_nonneg, chk_pos, decT, decF, br_pos, br_neg, wX, ↓reduceIte, Nat.reduceEqDiff, Nat.reduceAdd, Nat.reduceSub, Nat.reduceMul, Nat.reduceLeDiff, Nat.reduceLT, Nat.reduceMod, Nat.reduceDiv, Int.reduceToNat, Nat.min_eq_left, IntKind.bits, Int.reducePow, Int.reduceLT, Int.reduceLE, Int.reduceEq, Int.reduceNe, Int.reduceAdd, Int.reduceSub, and_self, reduceCtorEq, decide_eq_true_eq, decide_eq_false_iff_not, eq_self, implies_true, exists_const, Option.isNone_some, Option.isNone_none, Option.isSome_some, Option.isSome_none, Option.getD_some]
      rw [← hQ0]
      simp (disch := omega) only [dm_t, wA, wB, wL, wW, wY, Int.fdiv_eq_ediv_of_nonneg, Int.tdiv_eq_ediv_of_nonneg, Int.tmod_eq_emod_of_nonneg, chk_pos, decT, decF, br_pos, br_neg, wX, ↓reduceIte, Nat.reduceEqDiff, Nat.reduceAdd, Nat.reduceSub, Nat.reduceMul, Nat.reduceLeDiff, Nat.reduceLT, Nat.reduceMod, Nat.reduceDiv, Int.reduceToNat, Nat.min_eq_left, IntKind.bits, Int.reducePow, Int.reduceLT, Int.reduceLE, Int.reduceEq, Int.reduceNe, Int.reduceAdd, Int.reduceSub, and_self, reduceCtorEq, decide_eq_true_eq, decide_eq_false_iff_not, eq_self, implies_true, exists_const, Option.isNone_some, Option.isNone_none, Option.isSome_some, Option.isSome_none, Option.getD_some]
      exact id
  by_cases hij : i' ≤ j
  · obtain ⟨b1, o1, i1, t1⟩ := D.at (i := i') (by omega) rfl
    obtain ⟨b2, o2, i2, t2⟩ := D.at (i := a) (by omega) rfl
    simp (disch := omega) only [dm_t, wA, wB, wL, wW, wY, Int.fdiv_eq_ediv_of_nonneg, Int.tdiv_eq_ediv_of_nonneg, Int.tmod_eq_emod_of_nonneg, chk_pos, decT, decF, br_pos, br_neg, wX, ↓reduceIte, Nat.reduceEqDiff, Nat.reduceAdd, Nat.reduceSub, Nat.reduceMul, Nat.reduceLeDiff, Nat.reduceLT, Nat.reduceMod, Nat.reduceDiv, Int.reduceToNat, Nat.min_eq_left, IntKind.bits, Int.reducePow, Int.reduceLT, Int.reduceLE, Int.reduceEq, Int.reduceNe, Int.reduceAdd, Int.reduceSub, and_self, reduceCtorEq, decide_eq_true_eq, decide_eq_false_iff_not, eq_self, implies_true, exists_const, Option.isNone_some, Option.isNone_none, Option.isSome_some, Option.isSome_none, Option.getD_some, i1, t1, i2, t2]
    refine ⟨rfl, (less_ok g (D.gd (i := i') (by omega)) (D.gd (i := a) (by omega))).k ?_⟩
    rintro _ g3 ⟨⟨c, rfl, hc⟩, e3⟩
    have D3 := D.ext e3
    have t1' := cellsAt_ext e3 t1
    have t2' := cellsAt_ext e3 t2
    by_cases hc0 : c < 0
    · simp (disch := omega) only [dm_t, wA, wB, wL, wW, wY, Int.fdiv_eq_ediv_of_nonneg, Int.tdiv_eq_ediv_of_nonneg, Int.tmod_eq_emod_of_nonneg, chk_pos, decT, decF, br_pos, br_neg, wX, ↓reduceIte, Nat.reduceEqDiff, Nat.reduceAdd, Nat.reduceSub, Nat.reduceMul, Nat.reduceLeDiff, Nat.reduceLT, Nat.reduceMod, Nat.reduceDiv, Int.reduceToNat, Nat.min_eq_left, IntKind.bits, Int.reducePow, Int.reduceLT, Int.reduceLE, Int.reduceEq, Int.reduceNe, Int.reduceAdd, Int.reduceSub, and_self, reduceCtorEq, decide_eq_true_eq, decide_eq_false_iff_not, eq_self, implies_true, exists_const, Option.isNone_some, Option.isNone_none, Option.isSome_some, Option.isSome_none, Option.getD_some, i1, t1', i2, t2']
      exact ⟨⟨i' + 1, by simp, by omega, D3, P.li hij (hc.1 hc0)⟩, by simp [m1]; omega⟩
    · have t := k1 g3 D3 fun _ h => hc0 (hc.2 h)
      revert t
      simp (disch := omega) only [dm_t, wA, wB, wL, wW, wY, Int.fdiv_eq_ediv_of_nonneg, Int.tdiv_eq_ediv_of_nonneg, Int.tmod_eq_emod_of_nonneg, chk_pos, decT, decF, br_pos, br_neg, wX, ↓reduceIte, Nat.reduceEqDiff, Nat.reduceAdd, Nat.reduceSub, Nat.reduceMul, Nat.reduceLeDiff, Nat.reduceLT, Nat.reduceMod, Nat.reduceDiv, Int.reduceToNat, Nat.min_eq_left, IntKind.bits, Int.reducePow, Int.reduceLT, Int.reduceLE, Int.reduceEq, Int.reduceNe, Int.reduceAdd, Int.reduceSub, and_self, reduceCtorEq, decide_eq_true_eq, decide_eq_false_iff_not, eq_self, implies_true, exists_const, Option.isNone_some, Option.isNone_none, Option.isSome_some, Option.isSome_none, Option.getD_some, i1, t1', i2, t2']
      exact id
  · have t := k1 g D fun h => absurd h hij
    revert t
    simp (disch := omega) only [dm_t, wA, wB, wL, wW, wY, Int.fdiv_eq_ediv_of_nonneg, Int.tdiv_eq_ediv_of_nonneg, Int.tmod_eq_emod_of_nonneg, chk_pos, decT, decF, br_pos, br_neg, wX, ↓reduceIte, Nat.reduceEqDiff, Nat.reduceAdd, Nat.reduceSub, Nat.reduceMul, Nat.reduceLeDiff, Nat.reduceLT, Nat.reduceMod, Nat.reduceDiv, Int.reduceToNat, Nat.min_eq_left, IntKind.bits, Int.reducePow, Int.reduceLT, Int.reduceLE, Int.reduceEq, Int.reduceNe, Int.reduceAdd, Int.reduceSub, and_self, reduceCtorEq, decide_eq_true_eq, decide_eq_false_iff_not, eq_self, implies_true, exists_const, Option.isNone_some, Option.isNone_none, Option.isSome_some, Option.isSome_none, Option.getD_some]
    exact id
end
theorem Part_ok {h : H} {sv : Value} {xs : List Row} {a b p : Nat} (d : DX h h sv xs) (hab : a + 1 < b) (hb : b ≤ xs.length) (hl : xs.length ≤ 1152921504606846976) (hp1 : a ≤ p) (hp2 : p < b) :
    Ok PX 77 #[sv, .int .i64 (a : Int), .int .i64 (b : Int), .int .i64 (p : Int), lessV] h (PartR h sv xs a b) := by
  refine c77_ok (args := [_, _, _, _, _]) (by simp) ?_
  obtain ⟨b1, o1, i1, t1⟩ := d.at (i := a) (by omega) rfl
  obtain ⟨b2, o2, i2, t2⟩ := d.at (i := p) (by omega) rfl
  simp (disch := omega) only [dm_t, wA, wB, wL, wW, wY, Int.fdiv_eq_ediv_of_nonneg, Int.tdiv_eq_ediv_of_nonneg, Int.tmod_eq_emod_of_nonneg, chk_pos, decT, decF, br_pos, br_neg, wX, ↓reduceIte, Nat.reduceEqDiff, Nat.reduceAdd, Nat.reduceSub, Nat.reduceMul, Nat.reduceLeDiff, Nat.reduceLT, Nat.reduceMod, Nat.reduceDiv, Int.reduceToNat, Nat.min_eq_left, IntKind.bits, Int.reducePow, Int.reduceLT, Int.reduceLE, Int.reduceEq, Int.reduceNe, Int.reduceAdd, Int.reduceSub, and_self, reduceCtorEq, decide_eq_true_eq, decide_eq_false_iff_not, eq_self, implies_true, exists_const, Option.isNone_some, Option.isNone_none, Option.isSome_some, Option.isSome_none, Option.getD_some, i1, t1, i2, t2]
  refine ⟨(d.gd (i := p) (by omega)).len, d.st (i := a) (by omega) rfl i1 (d.gd (i := p) (by omega)) fun g4 D4 => ?_⟩
  simp (disch := omega) only [dm_t, wA, wB, wL, wW, wY, Int.fdiv_eq_ediv_of_nonneg, Int.tdiv_eq_ediv_of_nonneg, Int.tmod_eq_emod_of_nonneg, chk_pos, decT, decF, br_pos, br_neg, wX, ↓reduceIte, Nat.reduceEqDiff, Nat.reduceAdd, Nat.reduceSub, Nat.reduceMul, Nat.reduceLeDiff, Nat.reduceLT, Nat.reduceMod, Nat.reduceDiv, Int.reduceToNat, Nat.min_eq_left, IntKind.bits, Int.reducePow, Int.reduceLT, Int.reduceLE, Int.reduceEq, Int.reduceNe, Int.reduceAdd, Int.reduceSub, and_self, reduceCtorEq, decide_eq_true_eq, decide_eq_false_iff_not, eq_self, implies_true, exists_const, Option.isNone_some, Option.isNone_none, Option.isSome_some, Option.isSome_none, Option.getD_some, i1, i2]
  refine ⟨(d.gd (i := a) (by omega)).len, D4.st (i := p) (by rw [List.length_set]; omega) (by omega) i2 (d.gd (i := a) (by omega)) fun g5 D5 => ?_⟩
  have R0 : Rg a b xs (swp xs a p) := Rg.swp (by omega) (by omega) (by omega) (by omega) (by omega)
  have P0 : PT a b (a + 1) (b - 1) (swp xs a p) := PT.start hab
  have eb : (b : Int) - 1 = ((b - 1 : Nat) : Int) := by omega
  have D0 : DX h g5 sv (swp xs a p) := D5
  generalize swp xs a p = zs at R0 P0 D0
  have hlen := R0.len
  clear D4 D5
  simp (disch := omega) only [dm_t, wA, wB, wL, wW, wY, Int.fdiv_eq_ediv_of_nonneg, Int.tdiv_eq_ediv_of_nonneg, Int.tmod_eq_emod_of_nonneg, chk_pos, decT, decF, br_pos, br_neg, wX, ↓reduceIte, Nat.reduceEqDiff, Nat.reduceAdd, Nat.reduceSub, Nat.reduceMul, Nat.reduceLeDiff, Nat.reduceLT, Nat.reduceMod, Nat.reduceDiv, Int.reduceToNat, Nat.min_eq_left, IntKind.bits, Int.reducePow, Int.reduceLT, Int.reduceLE, Int.reduceEq, Int.reduceNe, Int.reduceAdd, Int.reduceSub, and_self, reduceCtorEq, decide_eq_true_eq, decide_eq_false_iff_not, eq_self, implies_true, exists_const, Option.isNone_some, Option.isNone_none, Option.isSome_some, Option.isSome_none, Option.getD_some, eb]
  refine vc_loop1 (fun vi' g => ∃ (i' : Nat), vi' = .int .i64 (i' : Int) ∧ DX h g sv zs ∧ PT a b i' (b - 1) zs) (fun vi _ => b - m1 vi) ?_ ?_
  · simp (disch := omega) only [dm_t, wA, wB, wL, wW, wY, Int.fdiv_eq_ediv_of_nonneg, Int.tdiv_eq_ediv_of_nonneg, Int.tmod_eq_emod_of_nonneg, chk_pos, decT, decF, br_pos, br_neg, wX, ↓reduceIte, Nat.reduceEqDiff, Nat.reduceAdd, Nat.reduceSub, Nat.reduceMul, Nat.reduceLeDiff, Nat.reduceLT, Nat.reduceMod, Nat.reduceDiv, Int.reduceToNat, Nat.min_eq_left, IntKind.bits, Int.reducePow, Int.reduceLT, Int.reduceLE, Int.reduceEq, Int.reduceNe, Int.reduceAdd, Int.reduceSub, and_self, reduceCtorEq, decide_eq_true_eq, decide_eq_false_iff_not, eq_self, implies_true, exists_const, Option.isNone_some, Option.isNone_none, Option.isSome_some, Option.isSome_none, Option.getD_some]
    exact ⟨a + 1, by simp, D0, P0⟩
  clear D0 P0
  rintro _ g ⟨i', rfl, D, P⟩
  generalize hQ0 : lq1 _ _ _ _ _ _ _ = Q0
  have hij1 := P.ij
  have hai := P.ai
  have fin : ∀ (g : H) (j : Nat), DX h g sv zs → PT a b i' j zs → (i' ≤ j → le (gt zs a) (gt zs i')) → (i' ≤ j → lt (gt zs j) (gt zs a)) → vc PX c77_s6 (retQ [10, 11] (okR (PartR h sv xs a b))) [(0, sv), (1, .int .i64 (a : Int)), (4, lessV), (12, .int .i64 (i' : Int)), (13, .int .i64 (j : Int))] g := by
    intro g j D P hle hlt
    have hjb := P.jb
    have hij1 := P.ij
    by_cases hij : j < i'
    · obtain ⟨b1, o1, i1, t1⟩ := D.at (i := j) (by omega) rfl
      obtain ⟨b2, o2, i2, t2⟩ := D.at (i := a) (by omega) rfl
      simp (disch := omega) only [dm_t, wA, wB, wL, wW, wY, Int.fdiv_eq_ediv_of_nonneg, Int.tdiv_eq_ediv_of_nonneg, Int.tmod_eq_emod_of_nonneg, chk_pos, decT, decF, br_pos, br_neg, wX, ↓reduceIte, Nat.reduceEqDiff, Nat.reduceAdd, Nat.reduceSub, Nat.reduceMul, Nat.reduceLeDiff, Nat.reduceLT, Nat.reduceMod, Nat.reduceDiv, Int.reduceToNat, Nat.min_eq_left, IntKind.bits, Int.reducePow, Int.reduceLT, Int.reduceLE, Int.reduceEq, Int.reduceNe, Int.reduceAdd, Int.reduceSub, and_self, reduceCtorEq, decide_eq_true_eq, decide_eq_false_iff_not, eq_self, implies_true, exists_const, Option.isNone_some, Option.isNone_none, Option.isSome_some, Option.isSome_none, Option.getD_some, i1, t1, i2, t2]
      refine ⟨(D.gd (i := a) (by omega)).len, D.st (i := j) (by omega) rfl i1 (D.gd (i := a) (by omega)) fun g4 D4 => ?_⟩
      simp (disch := omega) only [dm_t, wA, wB, wL, wW, wY, Int.fdiv_eq_ediv_of_nonneg, Int.tdiv_eq_ediv_of_nonneg, Int.tmod_eq_emod_of_nonneg, chk_pos, decT, decF, br_pos, br_neg, wX, ↓reduceIte, Nat.reduceEqDiff, Nat.reduceAdd, Nat.reduceSub, Nat.reduceMul, Nat.reduceLeDiff, Nat.reduceLT, Nat.reduceMod, Nat.reduceDiv, Int.reduceToNat, Nat.min_eq_left, IntKind.bits, Int.reducePow, Int.reduceLT, Int.reduceLE, Int.reduceEq, Int.reduceNe, Int.reduceAdd, Int.reduceSub, and_self, reduceCtorEq, decide_eq_true_eq, decide_eq_false_iff_not, eq_self, implies_true, exists_const, Option.isNone_some, Option.isNone_none, Option.isSome_some, Option.isSome_none, Option.getD_some, i1, i2]
      refine ⟨(D.gd (i := j) (by omega)).len, D4.st (i := a) (by rw [List.length_set]; omega) (by omega) i2 (D.gd (i := j) (by omega)) fun g5 D5 => ?_⟩
      simp (disch := omega) only [dm_t, wA, wB, wL, wW, wY, Int.fdiv_eq_ediv_of_nonneg, Int.tdiv_eq_ediv_of_nonneg, Int.tmod_eq_emod_of_nonneg, chk_pos, decT, decF, br_pos, br_neg, wX, ↓reduceIte, Nat.reduceEqDiff, Nat.reduceAdd, Nat.reduceSub, Nat.reduceMul, Nat.reduceLeDiff, Nat.reduceLT, Nat.reduceMod, Nat.reduceDiv, Int.reduceToNat, Nat.min_eq_left, IntKind.bits, Int.reducePow, Int.reduceLT, Int.reduceLE, Int.reduceEq, Int.reduceNe, Int.reduceAdd, Int.reduceSub, and_self, reduceCtorEq, decide_eq_true_eq, decide_eq_false_iff_not, eq_self, implies_true, exists_const, Option.isNone_some, Option.isNone_none, Option.isSome_some, Option.isSome_none, Option.getD_some]
      exact ⟨j, _, _, rfl, D5, R0.trans (Rg.swp (by omega) (by omega) (by omega) (by omega) (by omega)), P.fin (by omega) hij⟩
    · obtain ⟨b1, o1, i1, t1⟩ := D.at (i := i') (by omega) rfl
      obtain ⟨b2, o2, i2, t2⟩ := D.at (i := j) (by omega) rfl
      obtain ⟨hlt2, P3⟩ := P.sw (by omega) (by omega) (hle (by omega)) (hlt (by omega))
      simp (disch := omega) only [dm_t, wA, wB, wL, wW, wY, Int.fdiv_eq_ediv_of_nonneg, Int.tdiv_eq_ediv_of_nonneg, Int.tmod_eq_emod_of_nonneg, chk_pos, decT, decF, br_pos, br_neg, wX, ↓reduceIte, Nat.reduceEqDiff, Nat.reduceAdd, Nat.reduceSub, Nat.reduceMul, Nat.reduceLeDiff, Nat.reduceLT, Nat.reduceMod, Nat.reduceDiv, Int.reduceToNat, Nat.min_eq_left, IntKind.bits, Int.reducePow, Int.reduceLT, Int.reduceLE, Int.reduceEq, Int.reduceNe, Int.reduceAdd, Int.reduceSub, and_self, reduceCtorEq, decide_eq_true_eq, decide_eq_false_iff_not, eq_self, implies_true, exists_const, Option.isNone_some, Option.isNone_none, Option.isSome_some, Option.isSome_none, Option.getD_some, i1, t1, i2, t2]
      refine ⟨(D.gd (i := j) (by omega)).len, D.st (i := i') (by omega) rfl i1 (D.gd (i := j) (by omega)) fun g4 D4 => ?_⟩
      simp (disch := omega) only [dm_t, wA, wB, wL, wW, wY, Int.fdiv_eq_ediv_of_nonneg, Int.tdiv_eq_ediv_of_nonneg, Int.tmod_eq_emod_of_nonneg, chk_pos, decT, decF, br_pos, br_neg, wX, ↓reduceIte, Nat.reduceEqDiff, Nat.reduceAdd, Nat.reduceSub, Nat.reduceMul, Nat.reduceLeDiff, Nat.reduceLT, Nat.reduceMod, Nat.reduceDiv, Int.reduceToNat, Nat.min_eq_left, IntKind.bits, Int.reducePow, Int.reduceLT, Int.reduceLE, Int.reduceEq, Int.reduceNe, Int.reduceAdd, Int.reduceSub, and_self, reduceCtorEq, decide_eq_true_eq, decide_eq_false_iff_not, eq_self, implies_true, exists_const, Option.isNone_some, Option.isNone_none, Option.isSome_some, Option.isSome_none, Option.getD_some, i1, i2]
      refine ⟨(D.gd (i := i') (by omega)).len, D4.st (i := j) (by rw [List.length_set]; omega) (by omega) i2 (D.gd (i := i') (by omega)) fun g5 D5 => ?_⟩
      have t := Part_loop (PX := PX) D5 (R0.trans (Rg.swp (i := i') (j := j) (by omega) (by omega) (by omega) (by omega) (by omega))) P3 hb hl
      have e1 : ((i' + 1 : Nat) : Int) = (i' : Int) + 1 := by omega
      have e2 : ((j - 1 : Nat) : Int) = (j : Int) - 1 := by omega
      rw [e1, e2] at t
      revert t
      simp (disch := omega) only [dm_t, wA, wB, wL, wW, wY, Int.fdiv_eq_ediv_of_nonneg, Int.tdiv_eq_ediv_of_nonneg, Int.tmod_eq_emod_of_nonneg, chk_pos, decT, decF, br_pos, br_neg, wX, ↓reduceIte, Nat.reduceEqDiff, Nat.reduceAdd, Nat.reduceSub, Nat.reduceMul, Nat.reduceLeDiff, Nat.reduceLT, Nat.reduceMod, Nat.reduceDiv, Int.reduceToNat, Nat.min_eq_left, IntKind.bits, Int.reducePow, Int.reduceLT, Int.reduceLE, Int.reduceEq, Int.reduceNe, Int.reduceAdd, Int.reduceSub, and_self, reduceCtorEq, decide_eq_true_eq, decide_eq_false_iff_not, eq_self, implies_true, exists_const, Option.isNone_some, Option.isNone_none, Option.isSome_some, Option.isSome_none, Option.getD_some]
      exact id
  -- behind the first loop
  have k1 : ∀ g, DX h g sv zs → (i' ≤ b - 1 → le (gt zs a) (gt zs i')) → vc PX c77_s4 (retQ [10, 11] (okR (PartR h sv xs a b))) [(0, sv), (1, .int .i64 (a : Int)), (4, lessV), (12, .int .i64 (i' : Int)), (13, .int .i64 ((b - 1 : Nat) : Int))] g := by
    intro g D hle
    simp (disch := omega) only [dm_t, wA, wB, wL, wW, wY, Int.fdiv_eq_ediv_of_nonneg, Int.tdiv_eq_ediv_of_nonneg, Int.tmod_eq_emod_of_nonneg, chk_pos, decT, decF, br_pos, br_neg, wX, ↓reduceIte, Nat.reduceEqDiff, Nat.reduceAdd, Nat.reduceSub, Nat.reduceMul, Nat.reduceLeDiff, Nat.reduceLT, Nat.reduceMod, Nat.reduceDiv, Int.reduceToNat, Nat.min_eq_left, IntKind.bits, Int.reducePow, Int.reduceLT, Int.reduceLE, Int.reduceEq, Int.reduceNe, Int.reduceAdd, Int.reduceSub, and_self, reduceCtorEq, decide_eq_true_eq, decide_eq_false_iff_not, eq_self, implies_true, exists_const, Option.isNone_some, Option.isNone_none, Option.isSome_some, Option.isSome_none, Option.getD_some]
    refine vc_loop1 (fun vj' g => ∃ (j' : Nat), vj' = .int .i64 (j' : Int) ∧ j' ≤ b - 1 ∧ DX h g sv zs ∧ PT a b i' j' zs) (fun vj _ => m1 vj) ?_ ?_
    · simp (disch := omega) only [dm_t, wA, wB, wL, wW, wY, Int.fdiv_eq_ediv_of_nonneg, Int.tdiv_eq_ediv_of_nonneg, Int.tmod_eq_emod_of_nonneg, chk_pos, decT, decF, br_pos, br_neg, wX, ↓reduceIte, Nat.reduceEqDiff, Nat.reduceAdd, Nat.reduceSub, Nat.reduceMul, Nat.reduceLeDiff, Nat.reduceLT, Nat.reduceMod, Nat.reduceDiv, Int.reduceToNat, Nat.min_eq_left, IntKind.bits, Int.reducePow, Int.reduceLT, Int.reduceLE, Int.reduceEq, Int.reduceNe, Int.reduceAdd, Int.reduceSub, and_self, reduceCtorEq, decide_eq_true_eq, decide_eq_false_iff_not, eq_self, implies_true, exists_const, Option.isNone_some, Option.isNone_none, Option.isSome_some, Option.isSome_none, Option.getD_some]
      exact ⟨b - 1, rfl, by omega, D, P⟩
    clear D P hij1 hai
    rintro _ g ⟨j', rfl, hjj, D, P⟩
    have hjb := P.jb
    have hij1 := P.ij
    have hai := P.ai
    by_cases hij : i' ≤ j'
    · obtain ⟨b1, o1, i1, t1⟩ := D.at (i := j') (by omega) rfl
      obtain ⟨b2, o2, i2, t2⟩ := D.at (i := a) (by omega) rfl
      simp (disch := omega) only [dm_t, wA, wB, wL, wW, wY, Int.fdiv_eq_ediv_of_nonneg, Int.tdiv_eq_ediv_of_nonneg, Int.tmod_eq_emod_of_nonneg, chk_pos, decT, decF, br_pos, br_neg, wX, ↓reduceIte, Nat.reduceEqDiff, Nat.reduceAdd, Nat.reduceSub, Nat.reduceMul, Nat.reduceLeDiff, Nat.reduceLT, Nat.reduceMod, Nat.reduceDiv, Int.reduceToNat, Nat.min_eq_left, IntKind.bits, Int.reducePow, Int.reduceLT, Int.reduceLE, Int.reduceEq, Int.reduceNe, Int.reduceAdd, Int.reduceSub, and_self, reduceCtorEq, decide_eq_true_eq, decide_eq_false_iff_not, eq_self, implies_true, exists_const, Option.isNone_some, Option.isNone_none, Option.isSome_some, Option.isSome_none, Option.getD_some, i1, t1, i2, t2]
      refine ⟨rfl, (less_ok g (D.gd (i := j') (by omega)) (D.gd (i := a) (by omega))).k ?_⟩
      rintro _ g3 ⟨⟨c, rfl, hc⟩, e3⟩
      have D3 := D.ext e3
      have t1' := cellsAt_ext e3 t1
      have t2' := cellsAt_ext e3 t2
      by_cases hc0 : c < 0
      · have t := fin g3 j' D3 P (fun h => hle (by omega)) fun _ => hc.1 hc0
        revert t
        simp (disch := omega) only [dm_t, wA, wB, wL, wW, wY, Int.fdiv_eq_ediv_of_nonneg, Int.tdiv_eq_ediv_of_nonneg, Int.tmod_eq_emod_of_nonneg, chk_pos, decT, decF, br_pos, br_neg, wX, ↓reduceIte, Nat.reduceEqDiff, Nat.reduceAdd, Nat.reduceSub, Nat.reduceMul, Nat.reduceLeDiff, Nat.reduceLT, Nat.reduceMod, Nat.reduceDiv, Int.reduceToNat, Nat.min_eq_left, IntKind.bits, Int.reducePow, Int.reduceLT, Int.reduceLE, Int.reduceEq, Int.reduceNe, Int.reduceAdd, Int.reduceSub, and_self, reduceCtorEq, decide_eq_true_eq, decide_eq_false_iff_not, eq_self, implies_true, exists_const, Option.isNone_some, Option.isNone_none, Option.isSome_some, Option.isSome_none, Option.getD_some, i1, t1', i2, t2']
        exact id
      · simp (disch := omega) only [dm_t, wA, wB, wL, wW, wY, Int.fdiv_eq_ediv_of_nonneg, Int.tdiv_eq_ediv_of_nonneg, Int.tmod_eq_emod_of_nonneg, chk_pos, decT, decF, br_pos, br_neg, wX, ↓reduceIte, Nat.reduceEqDiff, Nat.reduceAdd, Nat.reduceSub, Nat.reduceMul, Nat.reduceLeDiff, Nat.reduceLT, Nat.reduceMod, Nat.reduceDiv, Int.reduceToNat, Nat.min_eq_left, IntKind.bits, Int.reducePow, Int.reduceLT, Int.reduceLE, Int.reduceEq, Int.reduceNe, Int.reduceAdd, Int.reduceSub, and_self, reduceCtorEq, decide_eq_true_eq, decide_eq_false_iff_not, eq_self, implies_true, exists_const, Option.isNone_some, Option.isNone_none, Option.isSome_some, Option.isSome_none, Option.getD_some, i1, t1', i2, t2']
        exact ⟨⟨j' - 1, by congr 1; omega, by omega, D3, P.rj hij fun h => hc0 (hc.2 h)⟩, by simp [m1]; omega⟩
    · have t := fin g j' D P (fun h => absurd h hij) fun h => absurd h hij
      revert t
      simp (disch := omega) only [dm_t, wA, wB, wL, wW, wY, Int.fdiv_eq_ediv_of_nonneg, Int.tdiv_eq_ediv_of_nonneg, Int.tmod_eq_emod_of_nonneg, chk_pos, decT, decF, br_pos, br_neg, wX, ↓reduceIte, Nat.reduceEqDiff, Nat.reduceAdd, Nat.reduceSub, Nat.reduceMul, Nat.reduceLeDiff, Nat.reduceLT, Nat.reduceMod, Nat.reduceDiv, Int.reduceToNat, Nat.min_eq_left, IntKind.bits, Int.reducePow, Int.reduceLT, Int.reduceLE, Int.reduceEq, Int.reduceNe, Int.reduceAdd, Int.reduceSub, and_self, reduceCtorEq, decide_eq_true_eq, decide_eq_false_iff_not, eq_self, implies_true, exists_const, Option.isNone_some, Option.isNone_none, Option.isSome_some, Option.isSome_none, Option.getD_some]
      exact id
  by_cases hij : i' ≤ b - 1
  · obtain ⟨b1, o1, i1, t1⟩ := D.at (i := i') (by omega) rfl
    obtain ⟨b2, o2, i2, t2⟩ := D.at (i := a) (by omega) rfl
    simp (disch := omega) only [dm_t, wA, wB, wL, wW, wY, Int.fdiv_eq_ediv_of_nonneg, Int.tdiv_eq_ediv_of_nonneg, Int.tmod_eq_emod_of_nonneg, chk_pos, decT, decF, br_pos, br_neg, wX, ↓reduceIte, Nat.reduceEqDiff, Nat.reduceAdd, Nat.reduceSub, Nat.reduceMul, Nat.reduceLeDiff, Nat.reduceLT, Nat.reduceMod, Nat.reduceDiv, Int.reduceToNat, Nat.min_eq_left, IntKind.bits, Int.reducePow, Int.reduceLT, Int.reduceLE, Int.reduceEq, Int.reduceNe, Int.reduceAdd, Int.reduceSub, and_self, reduceCtorEq, decide_eq_true_eq, decide_eq_false_iff_not, eq_self, implies_true, exists_const, Option.isNone_some, Option.isNone_none, Option.isSome_some, Option.isSome_none, Option.getD_some, i1, t1, i2, t2]
    refine ⟨rfl, (less_ok g (D.gd (i := i') (by omega)) (D.gd (i := a) (by omega))).k ?_⟩
    rintro _ g3 ⟨⟨c, rfl, hc⟩, e3⟩
    have D3 := D.ext e3
    have t1' := cellsAt_ext e3 t1
    have t2' := cellsAt_ext e3 t2
    rw [← hQ0]
    by_cases hc0 : c < 0
    · simp (disch := omega) only [dm_t, wA, wB, wL, wW, wY, Int.fdiv_eq_ediv_of_nonneg, Int.tdiv_eq_ediv_of_nonneg, Int.tmod_eq_emod_of_nonneg, chk_pos, decT, decF, br_pos, br_neg, wX, ↓reduceIte, Nat.reduceEqDiff, Nat.reduceAdd, Nat.reduceSub, Nat.reduceMul, Nat.reduceLeDiff, Nat.reduceLT, Nat.reduceMod, Nat.reduceDiv, Int.reduceToNat, Nat.min_eq_left, IntKind.bits, Int.reducePow, Int.reduceLT, Int.reduceLE, Int.reduceEq, Int.reduceNe, Int.reduceAdd, Int.reduceSub, and_self, reduceCtorEq, decide_eq_true_eq, decide_eq_false_iff_not, eq_self, implies_true, exists_const, Option.isNone_some, Option.isNone_none, Option.isSome_some, Option.isSome_none, Option.getD_some, i1, t1', i2, t2']
      exact ⟨⟨i' + 1, by simp, D3, P.li hij (hc.1 hc0)⟩, by simp [m1]; omega⟩
    · have t := k1 g3 D3 fun _ h => hc0 (hc.2 h)
      revert t
      simp (disch := omega) only [dm_t, wA, wB, wL, wW, wY, Int.fdiv_eq_ediv_of_nonneg, Int.tdiv_eq_ediv_of_nonneg, Int.tmod_eq_emod_of_nonneg, chk_pos, decT, decF, br_pos, br_neg, wX, ↓reduceIte, Nat.reduceEqDiff, Nat.reduceAdd, Nat.reduceSub, Nat.reduceMul, Nat.reduceLeDiff, Nat.reduceLT, Nat.reduceMod, Nat.reduceDiv, Int.reduceToNat, Nat.min_eq_left, IntKind.bits, Int.reducePow, Int.reduceLT, Int.reduceLE, Int.reduceEq, Int.reduceNe, Int.reduceAdd, Int.reduceSub, and_self, reduceCtorEq, decide_eq_true_eq, decide_eq_false_iff_not, eq_self, implies_true, exists_const, Option.isNone_some, Option.isNone_none, Option.isSome_some, Option.isSome_none, Option.getD_some, i1, t1', i2, t2']
      exact id
  · have t := k1 g D fun h => absurd h hij
    revert t
    rw [← hQ0]
    simp (disch := omega) only [dm_t, wA, wB, wL, wW, wY, Int.fdiv_eq_ediv_of_nonneg, Int.tdiv_eq_ediv_of_nonneg, Int.tmod_eq_emod_of_nonneg, chk_pos, decT, decF, br_pos, br_neg, wX, ↓reduceIte, Nat.reduceEqDiff, Nat.reduceAdd, Nat.reduceSub, Nat.reduceMul, Nat.reduceLeDiff, Nat.reduceLT, Nat.reduceMod, Nat.reduceDiv, Int.reduceToNat, Nat.min_eq_left, IntKind.bits, Int.reducePow, Int.reduceLT, Int.reduceLE, Int.reduceEq, Int.reduceNe, Int.reduceAdd, Int.reduceSub, and_self, reduceCtorEq, decide_eq_true_eq, decide_eq_false_iff_not, eq_self, implies_true, exists_const, Option.isNone_some, Option.isNone_none, Option.isSome_some, Option.isSome_none, Option.getD_some]
    exact id
end Go.Proofs.Ytojhnclkhiffkaa.so

