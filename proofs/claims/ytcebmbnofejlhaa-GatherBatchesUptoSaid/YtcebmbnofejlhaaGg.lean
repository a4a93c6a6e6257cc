/-
  gather: GatherBatches, walked whole.
-/
import Derived.Test.YtcebmbnofejlhaaGe
import Derived.Test.YtcebmbnofejlhaaGf
namespace Go.Proofs.Ytcebmbnofejlhaa.gf
open Go.Proofs.Ytcebmbnofejlhaa rr ga
set_option linter.unusedVariables false
set_option linter.unusedSimpArgs false
abbrev tI : Ty := .int .i64
abbrev fourT : Ty := .pair tI (.pair tI (.pair (.sl rcs) tI))
def inI (n : Int) : Prop := -9223372036854775808 ≤ n ∧ n ≤ 9223372036854775807
theorem rep_four {S : Nat → Prop} {h : H} {cs : List Value} {x : fourT.D} (r : Rep S fourT h cs x) : ∃ v, cs = [.int .i64 x.1, .int .i64 x.2.1, v, .int .i64 x.2.2.2] ∧ inI x.1 ∧ inI x.2.1 ∧ inI x.2.2.2 ∧ RepL S rcs h v x.2.2.1 := by
  obtain ⟨c1, d1, rfl, ⟨rfl, b1⟩, c2, d2, rfl, ⟨rfl, b2⟩, c3, d3, rfl, r3, rfl, b4⟩ := r
  obtain ⟨v, _, rfl, _⟩ := id r3
  exact ⟨v, rfl, b1, b2, b4, r3⟩
theorem planG_len (take : Int) : ∀ (f : Nat) (ls : List rcs.D), (planG take f ls).length ≤ f
  | 0, _ => by simp [planG]
  | f + 1, ls => by
    unfold planG
    split
    · simp
    · have := planG_len take f (ls.drop (cnt take ls))
      simp; omega
/-- What Batches answered. -/
def BV (h2 : H) (take base : Int) (ls : List rcs.D) (w : Value) (g : H) : Prop :=
  (eB take base ls ≠ 0 ∧ w = .nilFunc) ∨ (eB take base ls = 0 ∧ ∃ bb pb ab pv av, w = .func (.func 43) #[] #[.pointer (some ⟨bb, 0, none⟩), .pointer (some ⟨pb, 0, none⟩), .pointer (some ⟨ab, 0, none⟩)] ∧ BI (fun y => h2 y ≠ none) bb pb ab pv av base.toNat (plan take ls) ls g)
theorem BV.ext {h2 g g' : H} {take base : Int} {ls : List rcs.D} {w : Value} (b : BV h2 take base ls w g) (e : Ext g g') : BV h2 take base ls w g' := by
  rcases b with b | ⟨h, bb, pb, ab, pv, av, rfl, b⟩
  · exact .inl b
  · exact .inr ⟨h, bb, pb, ab, pv, av, rfl, b.ext e⟩
theorem gb_s8 {h h2 g : H} {O : Nat → Nat → Prop} {vs : List Value} {S : Nat → Prop} {take base leave : Int} {sa ma : Option Addr} {sc mc : Nat} {ls : List rcs.D} {w : Value} (M : LM O h g (.slice ma ls.length mc) vs ls ls.length) (hO : ∀ i y, i < ls.length → O i y → h2 y ≠ none) (hs : RepL S rcs h (.slice sa ls.length sc) ls) (E : Ext h g) (b : BV h2 take base ls w g)
    (hl : ls.length ≤ 300) (ht : total ls ≤ 3000) (hk : ∀ l ∈ ls, ∀ x ∈ l, x.2.1.length ≤ 140737488355328 ∧ x.2.2.length ≤ 140737488355328) (hlv : inI leave) :
    vc Try.prog c5_s8 (retQ [2] (okR fun v h' => v = .bool true ∧ Ext h h')) [(3, .int .i64 take), (4, .int .i64 base), (5, .slice sa ls.length sc), (6, .int .i64 leave), (7, .slice ma ls.length mc), (8, w), (9, .int .i64 (eB take base ls)), (10, .int .i64 (eB take base ls))] g := by
  have hx' : ∀ x ∈ ls, x.length ≤ 1000000 := fun x hx => by have := total_mem hx; omega
  simp (disch := omega) only [dm_t, wA, wB, wL, wW, wY, Int.fdiv_eq_ediv_of_nonneg, Int.tdiv_eq_ediv_of_nonneg, Int.tmod_eq_emod_of_nonneg, chk_pos, decT, decF, br_pos, br_neg, wX, ↓reduceIte, Nat.reduceEqDiff, Nat.reduceAdd, Nat.reduceSub, Nat.reduceMul, Nat.reduceLeDiff, Nat.reduceLT, Nat.reduceMod, Nat.reduceDiv, Int.reduceToNat, Nat.min_eq_left, IntKind.bits, Int.reducePow, Int.reduceLT, Int.reduceLE, Int.reduceEq, Int.reduceNe, Int.reduceAdd, Int.reduceSub, and_self, reduceCtorEq, decide_eq_true_eq, decide_eq_false_iff_not, eq_self, implies_true, exists_const, Option.isNone_some, Option.isNone_none, Option.isSome_some, Option.isSome_none, Option.getD_some]
  refine (kept_ok M.ll (hs.ext E) (by omega) hx').k ?_
  rintro _ _ ⟨rfl, rfl⟩
  rcases b with ⟨h0, rfl⟩ | ⟨h0, bb, pb, ab, pv, av, rfl, B⟩
  · simp (disch := omega) only [dm_t, wA, wB, wL, wW, wY, Int.fdiv_eq_ediv_of_nonneg, Int.tdiv_eq_ediv_of_nonneg, Int.tmod_eq_emod_of_nonneg, chk_pos, decT, decF, br_pos, br_neg, wX, ↓reduceIte, Nat.reduceEqDiff, Nat.reduceAdd, Nat.reduceSub, Nat.reduceMul, Nat.reduceLeDiff, Nat.reduceLT, Nat.reduceMod, Nat.reduceDiv, Int.reduceToNat, Nat.min_eq_left, IntKind.bits, Int.reducePow, Int.reduceLT, Int.reduceLE, Int.reduceEq, Int.reduceNe, Int.reduceAdd, Int.reduceSub, and_self, reduceCtorEq, decide_eq_true_eq, decide_eq_false_iff_not, eq_self, implies_true, exists_const, Option.isNone_some, Option.isNone_none, Option.isSome_some, Option.isSome_none, Option.getD_some, h0]
    refine (num_ok _ _).k ?_
    rintro _ _ ⟨rfl, rfl⟩
    simp (disch := omega) only [dm_t, wA, wB, wL, wW, wY, Int.fdiv_eq_ediv_of_nonneg, Int.tdiv_eq_ediv_of_nonneg, Int.tmod_eq_emod_of_nonneg, chk_pos, decT, decF, br_pos, br_neg, wX, ↓reduceIte, Nat.reduceEqDiff, Nat.reduceAdd, Nat.reduceSub, Nat.reduceMul, Nat.reduceLeDiff, Nat.reduceLT, Nat.reduceMod, Nat.reduceDiv, Int.reduceToNat, Nat.min_eq_left, IntKind.bits, Int.reducePow, Int.reduceLT, Int.reduceLE, Int.reduceEq, Int.reduceNe, Int.reduceAdd, Int.reduceSub, and_self, reduceCtorEq, decide_eq_true_eq, decide_eq_false_iff_not, eq_self, implies_true, exists_const, Option.isNone_some, Option.isNone_none, Option.isSome_some, Option.isSome_none, Option.getD_some]
    refine (works_ok).k ?_
    rintro _ h6 ⟨rfl, e6⟩
    simp (disch := omega) only [dm_t, wA, wB, wL, wW, wY, Int.fdiv_eq_ediv_of_nonneg, Int.tdiv_eq_ediv_of_nonneg, Int.tmod_eq_emod_of_nonneg, chk_pos, decT, decF, br_pos, br_neg, wX, ↓reduceIte, Nat.reduceEqDiff, Nat.reduceAdd, Nat.reduceSub, Nat.reduceMul, Nat.reduceLeDiff, Nat.reduceLT, Nat.reduceMod, Nat.reduceDiv, Int.reduceToNat, Nat.min_eq_left, IntKind.bits, Int.reducePow, Int.reduceLT, Int.reduceLE, Int.reduceEq, Int.reduceNe, Int.reduceAdd, Int.reduceSub, and_self, reduceCtorEq, decide_eq_true_eq, decide_eq_false_iff_not, eq_self, implies_true, exists_const, Option.isNone_some, Option.isNone_none, Option.isSome_some, Option.isSome_none, Option.getD_some]
    exact E.trans e6
  · rw [h0]
    have hex : eC take ls = 0 ∧ eO base ls = 0 := by
      unfold eB at h0
      split at h0
      · rename_i h1; exact absurd h0 h1
      · rename_i h1; exact ⟨by simpa using h1, h0⟩
    have htk : 1 ≤ take ∧ chkE ls = 0 := by
      have := hex.1
      unfold eC at this
      split at this
      · cases this
      · exact ⟨by omega, this⟩
    have hb0 : 0 ≤ base ∧ base ≤ 9007199254740992 := by
      have := hex.2
      unfold eO at this
      split at this
      · cases this
      · rename_i h; omega
    obtain ⟨hl2, hf⟩ := chk0 htk.2
    have hsum := plan_sum htk.1 ls.length (Nat.le_refl _) hf
    have hplen : (plan take ls).length ≤ 300 := Nat.le_trans (planG_len take ls.length ls) hl
    obtain ⟨bn, rfl⟩ : ∃ n : Nat, base = (n : Int) := ⟨base.toNat, by omega⟩
    rw [Int.toNat_natCast] at B
    have A : O1 (fun y => ∀ j, j < ls.length → ¬ O j y) g 32 (.slice ma ls.length mc) vs := OwK.mono M.par fun _ _ _ h => h.2
    have hW : ∀ (j : Nat) u l, vs[j]? = some u → ls[j]? = some l → WL (O j) g u l.length := fun j u l hu hl => (M.lst j u l hu hl).wl
    have hOn : ∀ i y, i < ls.length → O i y → h y = none := fun i y hi hy => (M.new i y hi hy).1
    simp (disch := omega) only [dm_t, wA, wB, wL, wW, wY, Int.fdiv_eq_ediv_of_nonneg, Int.tdiv_eq_ediv_of_nonneg, Int.tmod_eq_emod_of_nonneg, chk_pos, decT, decF, br_pos, br_neg, wX, ↓reduceIte, Nat.reduceEqDiff, Nat.reduceAdd, Nat.reduceSub, Nat.reduceMul, Nat.reduceLeDiff, Nat.reduceLT, Nat.reduceMod, Nat.reduceDiv, Int.reduceToNat, Nat.min_eq_left, IntKind.bits, Int.reducePow, Int.reduceLT, Int.reduceLE, Int.reduceEq, Int.reduceNe, Int.reduceAdd, Int.reduceSub, and_self, reduceCtorEq, decide_eq_true_eq, decide_eq_false_iff_not, eq_self, implies_true, exists_const, Option.isNone_some, Option.isNone_none, Option.isSome_some, Option.isSome_none, Option.getD_some]
    refine vc_loop1 (fun vi G => ∃ i : Nat, vi = .int .i64 (i : Int) ∧ i ≤ ls.length ∧ O1 (fun y => ∀ j, j < ls.length → ¬ O j y) G 32 (.slice ma ls.length mc) vs ∧ (∀ (j : Nat) u l, i ≤ j → vs[j]? = some u → ls[j]? = some l → WL (O j) G u l.length) ∧ BI (fun y => h2 y ≠ none) bb pb ab pv av bn (plan take ls) ls G ∧ Ext h G) (fun vi _ => ls.length - m1 vi) ?_ ?_
    · simp (disch := omega) only [dm_t, wA, wB, wL, wW, wY, Int.fdiv_eq_ediv_of_nonneg, Int.tdiv_eq_ediv_of_nonneg, Int.tmod_eq_emod_of_nonneg, chk_pos, decT, decF, br_pos, br_neg, wX, ↓reduceIte, Nat.reduceEqDiff, Nat.reduceAdd, Nat.reduceSub, Nat.reduceMul, Nat.reduceLeDiff, Nat.reduceLT, Nat.reduceMod, Nat.reduceDiv, Int.reduceToNat, Nat.min_eq_left, IntKind.bits, Int.reducePow, Int.reduceLT, Int.reduceLE, Int.reduceEq, Int.reduceNe, Int.reduceAdd, Int.reduceSub, and_self, reduceCtorEq, decide_eq_true_eq, decide_eq_false_iff_not, eq_self, implies_true, exists_const, Option.isNone_some, Option.isNone_none, Option.isSome_some, Option.isSome_none, Option.getD_some]
      exact ⟨0, rfl, by omega, A, fun j u l _ hu hl => hW j u l hu hl, B, E⟩
    clear A hW B E
    rintro _ g1 ⟨i, rfl, hi, A, hW, B, E⟩
    have hvl := M.len
    by_cases hil : i < ls.length
    · have hiv : i < vs.length := by omega
      obtain ⟨p1, o1, i1, t1⟩ := S1.load (OwK.s0 A) hiv .i64
      have w1 := hW i _ _ (Nat.le_refl _) (List.getElem?_eq_getElem hiv) (List.getElem?_eq_getElem hil)
      simp (disch := omega) only [dm_t, wA, wB, wL, wW, wY, Int.fdiv_eq_ediv_of_nonneg, Int.tdiv_eq_ediv_of_nonneg, Int.tmod_eq_emod_of_nonneg, chk_pos, decT, decF, br_pos, br_neg, wX, ↓reduceIte, Nat.reduceEqDiff, Nat.reduceAdd, Nat.reduceSub, Nat.reduceMul, Nat.reduceLeDiff, Nat.reduceLT, Nat.reduceMod, Nat.reduceDiv, Int.reduceToNat, Nat.min_eq_left, IntKind.bits, Int.reducePow, Int.reduceLT, Int.reduceLE, Int.reduceEq, Int.reduceNe, Int.reduceAdd, Int.reduceSub, and_self, reduceCtorEq, decide_eq_true_eq, decide_eq_false_iff_not, eq_self, implies_true, exists_const, Option.isNone_some, Option.isNone_none, Option.isSome_some, Option.isSome_none, Option.getD_some, i1, t1]
      refine (spoil_ok w1 (hx' _ (List.getElem_mem hil))).k ?_
      rintro _ g2 ⟨rfl, f2⟩
      simp (disch := omega) only [dm_t, wA, wB, wL, wW, wY, Int.fdiv_eq_ediv_of_nonneg, Int.tdiv_eq_ediv_of_nonneg, Int.tmod_eq_emod_of_nonneg, chk_pos, decT, decF, br_pos, br_neg, wX, ↓reduceIte, Nat.reduceEqDiff, Nat.reduceAdd, Nat.reduceSub, Nat.reduceMul, Nat.reduceLeDiff, Nat.reduceLT, Nat.reduceMod, Nat.reduceDiv, Int.reduceToNat, Nat.min_eq_left, IntKind.bits, Int.reducePow, Int.reduceLT, Int.reduceLE, Int.reduceEq, Int.reduceNe, Int.reduceAdd, Int.reduceSub, and_self, reduceCtorEq, decide_eq_true_eq, decide_eq_false_iff_not, eq_self, implies_true, exists_const, Option.isNone_some, Option.isNone_none, Option.isSome_some, Option.isSome_none, Option.getD_some]
      exact ⟨⟨i + 1, by simp, by omega, OwK.fr A f2 fun y hy ho _ => ho i hil hy, fun j u l hj hu hl => (hW j u l (by omega) hu hl).fr f2 fun y hy => M.dis i j y hil (by
        have := (List.getElem?_eq_some_iff.1 hl).1
        exact this) (by omega) hy, B.fr f2 fun y hy => hO i y hil hy, Ext.step' E f2 fun y hy => hOn i y hil hy⟩, by simp [m1]; omega⟩
    · simp (disch := omega) only [dm_t, wA, wB, wL, wW, wY, Int.fdiv_eq_ediv_of_nonneg, Int.tdiv_eq_ediv_of_nonneg, Int.tmod_eq_emod_of_nonneg, chk_pos, decT, decF, br_pos, br_neg, wX, ↓reduceIte, Nat.reduceEqDiff, Nat.reduceAdd, Nat.reduceSub, Nat.reduceMul, Nat.reduceLeDiff, Nat.reduceLT, Nat.reduceMod, Nat.reduceDiv, Int.reduceToNat, Nat.min_eq_left, IntKind.bits, Int.reducePow, Int.reduceLT, Int.reduceLE, Int.reduceEq, Int.reduceNe, Int.reduceAdd, Int.reduceSub, and_self, reduceCtorEq, decide_eq_true_eq, decide_eq_false_iff_not, eq_self, implies_true, exists_const, Option.isNone_some, Option.isNone_none, Option.isSome_some, Option.isSome_none, Option.getD_some]
      refine (gf.Plan_ok take htk.1 (hs.ext E) (by omega) hf (by omega)).k ?_
      rintro pw g2 ⟨op, e2⟩
      simp (disch := omega) only [dm_t, wA, wB, wL, wW, wY, Int.fdiv_eq_ediv_of_nonneg, Int.tdiv_eq_ediv_of_nonneg, Int.tmod_eq_emod_of_nonneg, chk_pos, decT, decF, br_pos, br_neg, wX, ↓reduceIte, Nat.reduceEqDiff, Nat.reduceAdd, Nat.reduceSub, Nat.reduceMul, Nat.reduceLeDiff, Nat.reduceLT, Nat.reduceMod, Nat.reduceDiv, Int.reduceToNat, Nat.min_eq_left, IntKind.bits, Int.reducePow, Int.reduceLT, Int.reduceLE, Int.reduceEq, Int.reduceNe, Int.reduceAdd, Int.reduceSub, and_self, reduceCtorEq, decide_eq_true_eq, decide_eq_false_iff_not, eq_self, implies_true, exists_const, Option.isNone_some, Option.isNone_none, Option.isSome_some, Option.isSome_none, Option.getD_some]
      refine (num_ok _ _).k ?_
      rintro _ _ ⟨rfl, rfl⟩
      simp (disch := omega) only [dm_t, wA, wB, wL, wW, wY, Int.fdiv_eq_ediv_of_nonneg, Int.tdiv_eq_ediv_of_nonneg, Int.tmod_eq_emod_of_nonneg, chk_pos, decT, decF, br_pos, br_neg, wX, ↓reduceIte, Nat.reduceEqDiff, Nat.reduceAdd, Nat.reduceSub, Nat.reduceMul, Nat.reduceLeDiff, Nat.reduceLT, Nat.reduceMod, Nat.reduceDiv, Int.reduceToNat, Nat.min_eq_left, IntKind.bits, Int.reducePow, Int.reduceLT, Int.reduceLE, Int.reduceEq, Int.reduceNe, Int.reduceAdd, Int.reduceSub, and_self, reduceCtorEq, decide_eq_true_eq, decide_eq_false_iff_not, eq_self, implies_true, exists_const, Option.isNone_some, Option.isNone_none, Option.isSome_some, Option.isSome_none, Option.getD_some]
      have B2 := B.ext e2
      refine (goes_ok B2 (OwK.s0 op) (hs.ext (E.trans e2)) (by omega) ht hl (by omega) hplen hk hlv).k ?_
      rintro _ g3 ⟨rfl, e3⟩
      simp (disch := omega) only [dm_t, wA, wB, wL, wW, wY, Int.fdiv_eq_ediv_of_nonneg, Int.tdiv_eq_ediv_of_nonneg, Int.tmod_eq_emod_of_nonneg, chk_pos, decT, decF, br_pos, br_neg, wX, ↓reduceIte, Nat.reduceEqDiff, Nat.reduceAdd, Nat.reduceSub, Nat.reduceMul, Nat.reduceLeDiff, Nat.reduceLT, Nat.reduceMod, Nat.reduceDiv, Int.reduceToNat, Nat.min_eq_left, IntKind.bits, Int.reducePow, Int.reduceLT, Int.reduceLE, Int.reduceEq, Int.reduceNe, Int.reduceAdd, Int.reduceSub, and_self, reduceCtorEq, decide_eq_true_eq, decide_eq_false_iff_not, eq_self, implies_true, exists_const, Option.isNone_some, Option.isNone_none, Option.isSome_some, Option.isSome_none, Option.getD_some]
      refine (goes_ok (B2.ext e3) (SlK.ext (OwK.s0 op) e3) (hs.ext ((E.trans e2).trans e3)) (by omega) ht hl (by omega) hplen hk (by decide)).k ?_
      rintro _ g4 ⟨rfl, e4⟩
      simp (disch := omega) only [dm_t, wA, wB, wL, wW, wY, Int.fdiv_eq_ediv_of_nonneg, Int.tdiv_eq_ediv_of_nonneg, Int.tmod_eq_emod_of_nonneg, chk_pos, decT, decF, br_pos, br_neg, wX, ↓reduceIte, Nat.reduceEqDiff, Nat.reduceAdd, Nat.reduceSub, Nat.reduceMul, Nat.reduceLeDiff, Nat.reduceLT, Nat.reduceMod, Nat.reduceDiv, Int.reduceToNat, Nat.min_eq_left, IntKind.bits, Int.reducePow, Int.reduceLT, Int.reduceLE, Int.reduceEq, Int.reduceNe, Int.reduceAdd, Int.reduceSub, and_self, reduceCtorEq, decide_eq_true_eq, decide_eq_false_iff_not, eq_self, implies_true, exists_const, Option.isNone_some, Option.isNone_none, Option.isSome_some, Option.isSome_none, Option.getD_some]
      refine (works_ok).k ?_
      rintro _ h6 ⟨rfl, e6⟩
      simp (disch := omega) only [dm_t, wA, wB, wL, wW, wY, Int.fdiv_eq_ediv_of_nonneg, Int.tdiv_eq_ediv_of_nonneg, Int.tmod_eq_emod_of_nonneg, chk_pos, decT, decF, br_pos, br_neg, wX, ↓reduceIte, Nat.reduceEqDiff, Nat.reduceAdd, Nat.reduceSub, Nat.reduceMul, Nat.reduceLeDiff, Nat.reduceLT, Nat.reduceMod, Nat.reduceDiv, Int.reduceToNat, Nat.min_eq_left, IntKind.bits, Int.reducePow, Int.reduceLT, Int.reduceLE, Int.reduceEq, Int.reduceNe, Int.reduceAdd, Int.reduceSub, and_self, reduceCtorEq, decide_eq_true_eq, decide_eq_false_iff_not, eq_self, implies_true, exists_const, Option.isNone_some, Option.isNone_none, Option.isSome_some, Option.isSome_none, Option.getD_some]
      exact E.trans (e2.trans (e3.trans (e4.trans e6)))
theorem GB_ok {h : H} {take base leave : Int} {ls : List rcs.D} {v : Value} (b1 : inI take) (b2 : inI base) (b4 : inI leave) (hs : RepL nos rcs h v ls) (hl0 : ls.length ≤ 4611686018427387904) (hk : ∀ l ∈ ls, ∀ y ∈ l, y.2.1.length ≤ 140737488355328 ∧ y.2.2.length ≤ 140737488355328) :
    Ok Try.prog 5 #[.agg #[.int .i64 take, .int .i64 base, v, .int .i64 leave]] h fun v h' => v = .bool true ∧ Ext h h' := by
  obtain ⟨sa, sc, rfl⟩ := hs.len
  have b1' := b1
  have b2' := b2
  unfold inI at b1' b2'
  refine c5_ok (args := [_]) (by simp) ?_
  simp (disch := omega) only [dm_t, wA, wB, wL, wW, wY, Int.fdiv_eq_ediv_of_nonneg, Int.tdiv_eq_ediv_of_nonneg, Int.tmod_eq_emod_of_nonneg, chk_pos, decT, decF, br_pos, br_neg, wX, ↓reduceIte, Nat.reduceEqDiff, Nat.reduceAdd, Nat.reduceSub, Nat.reduceMul, Nat.reduceLeDiff, Nat.reduceLT, Nat.reduceMod, Nat.reduceDiv, Int.reduceToNat, Nat.min_eq_left, IntKind.bits, Int.reducePow, Int.reduceLT, Int.reduceLE, Int.reduceEq, Int.reduceNe, Int.reduceAdd, Int.reduceSub, and_self, reduceCtorEq, decide_eq_true_eq, decide_eq_false_iff_not, eq_self, implies_true, exists_const, Option.isNone_some, Option.isNone_none, Option.isSome_some, Option.isSome_none, Option.getD_some]
  intro b hb
  generalize hG : hupd h b _ = g1
  obtain ⟨e1, qb⟩ := new_ext hG hb
  clear hG
  have c0 : cellAt g1 ⟨b, 0, none⟩ = some (.int .i64 take) := by rw [cellAt_of qb]; rfl
  have c1 : cellAt g1 ⟨b, 1, none⟩ = some (.int .i64 base) := by rw [cellAt_of qb]; rfl
  have c2 : cellAt g1 ⟨b, 2, none⟩ = some (.slice sa ls.length sc) := by rw [cellAt_of qb]; rfl
  have c3 : cellAt g1 ⟨b, 3, none⟩ = some (.int .i64 leave) := by rw [cellAt_of qb]; rfl
  have hs1 := hs.ext e1
  simp (disch := omega) only [dm_t, wA, wB, wL, wW, wY, Int.fdiv_eq_ediv_of_nonneg, Int.tdiv_eq_ediv_of_nonneg, Int.tmod_eq_emod_of_nonneg, chk_pos, decT, decF, br_pos, br_neg, wX, ↓reduceIte, Nat.reduceEqDiff, Nat.reduceAdd, Nat.reduceSub, Nat.reduceMul, Nat.reduceLeDiff, Nat.reduceLT, Nat.reduceMod, Nat.reduceDiv, Int.reduceToNat, Nat.min_eq_left, IntKind.bits, Int.reducePow, Int.reduceLT, Int.reduceLE, Int.reduceEq, Int.reduceNe, Int.reduceAdd, Int.reduceSub, and_self, reduceCtorEq, decide_eq_true_eq, decide_eq_false_iff_not, eq_self, implies_true, exists_const, Option.isNone_some, Option.isNone_none, Option.isSome_some, Option.isSome_none, Option.getD_some, c0, c1, c2, c3]
  refine (many_ok hs1 hl0).k ?_
  rintro _ _ ⟨bb, rfl, hm, rfl⟩
  cases bb with
  | true =>
    simp (disch := omega) only [dm_t, wA, wB, wL, wW, wY, Int.fdiv_eq_ediv_of_nonneg, Int.tdiv_eq_ediv_of_nonneg, Int.tmod_eq_emod_of_nonneg, chk_pos, decT, decF, br_pos, br_neg, wX, ↓reduceIte, Nat.reduceEqDiff, Nat.reduceAdd, Nat.reduceSub, Nat.reduceMul, Nat.reduceLeDiff, Nat.reduceLT, Nat.reduceMod, Nat.reduceDiv, Int.reduceToNat, Nat.min_eq_left, IntKind.bits, Int.reducePow, Int.reduceLT, Int.reduceLE, Int.reduceEq, Int.reduceNe, Int.reduceAdd, Int.reduceSub, and_self, reduceCtorEq, decide_eq_true_eq, decide_eq_false_iff_not, eq_self, implies_true, exists_const, Option.isNone_some, Option.isNone_none, Option.isSome_some, Option.isSome_none, Option.getD_some]
    refine (works_ok).k ?_
    rintro _ h1 ⟨rfl, e2⟩
    simp (disch := omega) only [dm_t, wA, wB, wL, wW, wY, Int.fdiv_eq_ediv_of_nonneg, Int.tdiv_eq_ediv_of_nonneg, Int.tmod_eq_emod_of_nonneg, chk_pos, decT, decF, br_pos, br_neg, wX, ↓reduceIte, Nat.reduceEqDiff, Nat.reduceAdd, Nat.reduceSub, Nat.reduceMul, Nat.reduceLeDiff, Nat.reduceLT, Nat.reduceMod, Nat.reduceDiv, Int.reduceToNat, Nat.min_eq_left, IntKind.bits, Int.reducePow, Int.reduceLT, Int.reduceLE, Int.reduceEq, Int.reduceNe, Int.reduceAdd, Int.reduceSub, and_self, reduceCtorEq, decide_eq_true_eq, decide_eq_false_iff_not, eq_self, implies_true, exists_const, Option.isNone_some, Option.isNone_none, Option.isSome_some, Option.isSome_none, Option.getD_some]
    exact e1.trans e2
  | false =>
  obtain ⟨hl3, htot⟩ := hm rfl
  have hx1 : ∀ x ∈ ls, x.length ≤ 999999 := fun x hx => by have := total_mem hx; omega
  have hx' : ∀ x ∈ ls, x.length ≤ 1000000 := fun x hxx => by have := hx1 x hxx; omega
  simp (disch := omega) only [dm_t, wA, wB, wL, wW, wY, Int.fdiv_eq_ediv_of_nonneg, Int.tdiv_eq_ediv_of_nonneg, Int.tmod_eq_emod_of_nonneg, chk_pos, decT, decF, br_pos, br_neg, wX, ↓reduceIte, Nat.reduceEqDiff, Nat.reduceAdd, Nat.reduceSub, Nat.reduceMul, Nat.reduceLeDiff, Nat.reduceLT, Nat.reduceMod, Nat.reduceDiv, Int.reduceToNat, Nat.min_eq_left, IntKind.bits, Int.reducePow, Int.reduceLT, Int.reduceLE, Int.reduceEq, Int.reduceNe, Int.reduceAdd, Int.reduceSub, and_self, reduceCtorEq, decide_eq_true_eq, decide_eq_false_iff_not, eq_self, implies_true, exists_const, Option.isNone_some, Option.isNone_none, Option.isSome_some, Option.isSome_none, Option.getD_some]
  refine (lent2_ok hs1 (by omega) hx1 hk).k ?_
  rintro m g2 ⟨⟨O, vs, M⟩, e2⟩
  have hmr := M.ll.rep
  obtain ⟨ma, mc, rfl⟩ := hmr.len
  simp (disch := omega) only [dm_t, wA, wB, wL, wW, wY, Int.fdiv_eq_ediv_of_nonneg, Int.tdiv_eq_ediv_of_nonneg, Int.tmod_eq_emod_of_nonneg, chk_pos, decT, decF, br_pos, br_neg, wX, ↓reduceIte, Nat.reduceEqDiff, Nat.reduceAdd, Nat.reduceSub, Nat.reduceMul, Nat.reduceLeDiff, Nat.reduceLT, Nat.reduceMod, Nat.reduceDiv, Int.reduceToNat, Nat.min_eq_left, IntKind.bits, Int.reducePow, Int.reduceLT, Int.reduceLE, Int.reduceEq, Int.reduceNe, Int.reduceAdd, Int.reduceSub, and_self, reduceCtorEq, decide_eq_true_eq, decide_eq_false_iff_not, eq_self, implies_true, exists_const, Option.isNone_some, Option.isNone_none, Option.isSome_some, Option.isSome_none, Option.getD_some]
  refine (Batches_ok take base b2' hmr hl3 hx' hk).k ?_
  rintro v g3 ⟨hv, e3⟩
  obtain ⟨w, rfl, hw⟩ : ∃ w, v = .tuple #[w, .int .i64 (eB take base ls)] ∧ BV g2 take base ls w g3 := by
    rcases hv with ⟨h0, rfl⟩ | ⟨h0, bb, pb, ab, pv, av, rfl, B⟩
    · exact ⟨_, rfl, .inl ⟨h0, rfl⟩⟩
    · exact ⟨_, by rw [h0], .inr ⟨h0, bb, pb, ab, pv, av, rfl, B⟩⟩
  have E3 := e1.trans (e2.trans e3)
  simp (disch := omega) only [dm_t, wA, wB, wL, wW, wY, Int.fdiv_eq_ediv_of_nonneg, Int.tdiv_eq_ediv_of_nonneg, Int.tmod_eq_emod_of_nonneg, chk_pos, decT, decF, br_pos, br_neg, wX, ↓reduceIte, Nat.reduceEqDiff, Nat.reduceAdd, Nat.reduceSub, Nat.reduceMul, Nat.reduceLeDiff, Nat.reduceLT, Nat.reduceMod, Nat.reduceDiv, Int.reduceToNat, Nat.min_eq_left, IntKind.bits, Int.reducePow, Int.reduceLT, Int.reduceLE, Int.reduceEq, Int.reduceNe, Int.reduceAdd, Int.reduceSub, and_self, reduceCtorEq, decide_eq_true_eq, decide_eq_false_iff_not, eq_self, implies_true, exists_const, Option.isNone_some, Option.isNone_none, Option.isSome_some, Option.isSome_none, Option.getD_some]
  refine (gf.Lists_ok (hs.ext E3) (by omega) hx').k ?_
  rintro _ g4 ⟨rfl, e4⟩
  have E4 := E3.trans e4
  have key : ∀ (G : H), Ext g4 G → vc Try.prog c5_s8 (retQ [2] (okR fun v h' => v = .bool true ∧ Ext h h')) [(3, .int .i64 take), (4, .int .i64 base), (5, .slice sa ls.length sc), (6, .int .i64 leave), (7, .slice ma ls.length mc), (8, w), (9, .int .i64 (eB take base ls)), (10, .int .i64 (eB take base ls))] G := by
    intro G e
    have M2 : LM O h G (.slice ma ls.length mc) vs ls ls.length := by
      have M1 := M.ext (e3.trans (e4.trans e))
      exact ⟨OwK.mono M1.par fun y o _ hn => ⟨e1.bk hn.1, hn.2⟩, M1.len, fun i w l hw hl => (M1.lst i w l hw hl).imp (fun y hy hn => hy (e1.bk hn)) fun _ h => h, M1.dis, fun i y hi hy => ⟨e1.bk (M1.new i y hi hy).1, (M1.new i y hi hy).2⟩⟩
    exact gb_s8 M2 (fun i y hi hy => (M.new i y hi hy).2) hs (E4.trans e) (hw.ext (e4.trans e)) hl3 htot hk b4
  by_cases h1 : take < 1
  · have hE : eB take base ls = 2 := by rw [eB, eC, if_pos h1]; rfl
    rw [hE] at key ⊢
    have k8 := key g4 (Ext.refl _)
    simp (disch := omega) only [dm_t, wA, wB, wL, wW, wY, Int.fdiv_eq_ediv_of_nonneg, Int.tdiv_eq_ediv_of_nonneg, Int.tmod_eq_emod_of_nonneg, chk_pos, decT, decF, br_pos, br_neg, wX, ↓reduceIte, Nat.reduceEqDiff, Nat.reduceAdd, Nat.reduceSub, Nat.reduceMul, Nat.reduceLeDiff, Nat.reduceLT, Nat.reduceMod, Nat.reduceDiv, Int.reduceToNat, Nat.min_eq_left, IntKind.bits, Int.reducePow, Int.reduceLT, Int.reduceLE, Int.reduceEq, Int.reduceNe, Int.reduceAdd, Int.reduceSub, and_self, reduceCtorEq, decide_eq_true_eq, decide_eq_false_iff_not, eq_self, implies_true, exists_const, Option.isNone_some, Option.isNone_none, Option.isSome_some, Option.isSome_none, Option.getD_some, k8]
  have h1' : ¬ take < 1 := h1
  by_cases h2 : chkE ls = 0
  · have hC : eC take ls = 0 := by rw [eC, if_neg h1]; exact h2
    rw [h2]
    by_cases h3 : base < 0 ∨ 9007199254740992 < base
    · have hE : eB take base ls = 2 := by rw [eB, hC, if_neg (by simp), eO, if_pos h3]
      rw [hE] at key ⊢
      have k8 := key g4 (Ext.refl _)
      by_cases h4 : base < 0
      · simp (disch := omega) only [dm_t, wA, wB, wL, wW, wY, Int.fdiv_eq_ediv_of_nonneg, Int.tdiv_eq_ediv_of_nonneg, Int.tmod_eq_emod_of_nonneg, chk_pos, decT, decF, br_pos, br_neg, wX, ↓reduceIte, Nat.reduceEqDiff, Nat.reduceAdd, Nat.reduceSub, Nat.reduceMul, Nat.reduceLeDiff, Nat.reduceLT, Nat.reduceMod, Nat.reduceDiv, Int.reduceToNat, Nat.min_eq_left, IntKind.bits, Int.reducePow, Int.reduceLT, Int.reduceLE, Int.reduceEq, Int.reduceNe, Int.reduceAdd, Int.reduceSub, and_self, reduceCtorEq, decide_eq_true_eq, decide_eq_false_iff_not, eq_self, implies_true, exists_const, Option.isNone_some, Option.isNone_none, Option.isSome_some, Option.isSome_none, Option.getD_some, k8]
      · have h5 : 9007199254740992 < base := h3.resolve_left h4
        simp (disch := omega) only [dm_t, wA, wB, wL, wW, wY, Int.fdiv_eq_ediv_of_nonneg, Int.tdiv_eq_ediv_of_nonneg, Int.tmod_eq_emod_of_nonneg, chk_pos, decT, decF, br_pos, br_neg, wX, ↓reduceIte, Nat.reduceEqDiff, Nat.reduceAdd, Nat.reduceSub, Nat.reduceMul, Nat.reduceLeDiff, Nat.reduceLT, Nat.reduceMod, Nat.reduceDiv, Int.reduceToNat, Nat.min_eq_left, IntKind.bits, Int.reducePow, Int.reduceLT, Int.reduceLE, Int.reduceEq, Int.reduceNe, Int.reduceAdd, Int.reduceSub, and_self, reduceCtorEq, decide_eq_true_eq, decide_eq_false_iff_not, eq_self, implies_true, exists_const, Option.isNone_some, Option.isNone_none, Option.isSome_some, Option.isSome_none, Option.getD_some, k8]
    · obtain ⟨bn, rfl⟩ : ∃ n : Nat, base = (n : Int) := ⟨base.toNat, by omega⟩
      have h4 : ¬ (bn : Int) < 0 := by omega
      have h5 : ¬ (9007199254740992 : Int) < bn := by omega
      simp (disch := omega) only [dm_t, wA, wB, wL, wW, wY, Int.fdiv_eq_ediv_of_nonneg, Int.tdiv_eq_ediv_of_nonneg, Int.tmod_eq_emod_of_nonneg, chk_pos, decT, decF, br_pos, br_neg, wX, ↓reduceIte, Nat.reduceEqDiff, Nat.reduceAdd, Nat.reduceSub, Nat.reduceMul, Nat.reduceLeDiff, Nat.reduceLT, Nat.reduceMod, Nat.reduceDiv, Int.reduceToNat, Nat.min_eq_left, IntKind.bits, Int.reducePow, Int.reduceLT, Int.reduceLE, Int.reduceEq, Int.reduceNe, Int.reduceAdd, Int.reduceSub, and_self, reduceCtorEq, decide_eq_true_eq, decide_eq_false_iff_not, eq_self, implies_true, exists_const, Option.isNone_some, Option.isNone_none, Option.isSome_some, Option.isSome_none, Option.getD_some]
      refine (gf.Offsets_ok bn (by omega) (hs.ext E4) (by omega) (by omega)).k ?_
      rintro _ g5 ⟨u, rfl, -, e5⟩
      have k8 := key g5 e5
      by_cases h6 : (9007199254740993 : Int) < bn + total ls
      · have hE : eB take bn ls = 8 := by rw [eB, hC, if_neg (by simp), eO, if_neg h3, if_neg (by rw [h2]; simp), if_pos h6]
        rw [hE] at k8 ⊢
        simp (disch := omega) only [dm_t, wA, wB, wL, wW, wY, Int.fdiv_eq_ediv_of_nonneg, Int.tdiv_eq_ediv_of_nonneg, Int.tmod_eq_emod_of_nonneg, chk_pos, decT, decF, br_pos, br_neg, wX, ↓reduceIte, Nat.reduceEqDiff, Nat.reduceAdd, Nat.reduceSub, Nat.reduceMul, Nat.reduceLeDiff, Nat.reduceLT, Nat.reduceMod, Nat.reduceDiv, Int.reduceToNat, Nat.min_eq_left, IntKind.bits, Int.reducePow, Int.reduceLT, Int.reduceLE, Int.reduceEq, Int.reduceNe, Int.reduceAdd, Int.reduceSub, and_self, reduceCtorEq, decide_eq_true_eq, decide_eq_false_iff_not, eq_self, implies_true, exists_const, Option.isNone_some, Option.isNone_none, Option.isSome_some, Option.isSome_none, Option.getD_some, k8]
      · have hE : eB take bn ls = 0 := by rw [eB, hC, if_neg (by simp), eO, if_neg h3, if_neg (by rw [h2]; simp), if_neg h6]
        rw [hE] at k8 ⊢
        simp (disch := omega) only [dm_t, wA, wB, wL, wW, wY, Int.fdiv_eq_ediv_of_nonneg, Int.tdiv_eq_ediv_of_nonneg, Int.tmod_eq_emod_of_nonneg, chk_pos, decT, decF, br_pos, br_neg, wX, ↓reduceIte, Nat.reduceEqDiff, Nat.reduceAdd, Nat.reduceSub, Nat.reduceMul, Nat.reduceLeDiff, Nat.reduceLT, Nat.reduceMod, Nat.reduceDiv, Int.reduceToNat, Nat.min_eq_left, IntKind.bits, Int.reducePow, Int.reduceLT, Int.reduceLE, Int.reduceEq, Int.reduceNe, Int.reduceAdd, Int.reduceSub, and_self, reduceCtorEq, decide_eq_true_eq, decide_eq_false_iff_not, eq_self, implies_true, exists_const, Option.isNone_some, Option.isNone_none, Option.isSome_some, Option.isSome_none, Option.getD_some, k8]
  · have hE : eB take base ls = chkE ls := by rw [eB, eC, if_neg h1, if_pos h2]
    rw [hE] at key ⊢
    have k8 := key g4 (Ext.refl _)
    simp (disch := omega) only [dm_t, wA, wB, wL, wW, wY, Int.fdiv_eq_ediv_of_nonneg, Int.tdiv_eq_ediv_of_nonneg, Int.tmod_eq_emod_of_nonneg, chk_pos, decT, decF, br_pos, br_neg, wX, ↓reduceIte, Nat.reduceEqDiff, Nat.reduceAdd, Nat.reduceSub, Nat.reduceMul, Nat.reduceLeDiff, Nat.reduceLT, Nat.reduceMod, Nat.reduceDiv, Int.reduceToNat, Nat.min_eq_left, IntKind.bits, Int.reducePow, Int.reduceLT, Int.reduceLE, Int.reduceEq, Int.reduceNe, Int.reduceAdd, Int.reduceSub, and_self, reduceCtorEq, decide_eq_true_eq, decide_eq_false_iff_not, eq_self, implies_true, exists_const, Option.isNone_some, Option.isNone_none, Option.isSome_some, Option.isSome_none, Option.getD_some, h2, k8]
theorem GatherBatches_ok {h : H} {cs : List Value} {x : fourT.D} (hx : Rep nos fourT h cs x) (hl0 : x.2.2.1.length ≤ 4611686018427387904) (hk : ∀ l ∈ x.2.2.1, ∀ y ∈ l, y.2.1.length ≤ 140737488355328 ∧ y.2.2.length ≤ 140737488355328) :
    Ok Try.prog 5 #[.agg cs.toArray] h fun v h' => v = .bool true ∧ Ext h h' := by
  obtain ⟨v, rfl, b1, b2, b4, hs⟩ := rep_four hx
  exact GB_ok b1 b2 b4 hs hl0 hk
end Go.Proofs.Ytcebmbnofejlhaa.gf
