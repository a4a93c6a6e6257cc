/-
  A batch, read: the program's walk.
-/
import Derived.Test.YtbnjhgfpfajnoaaRe
namespace Go.Proofs.Ytbnjhgfpfajnoaa.rr
open Go.Proofs.Ytbnjhgfpfajnoaa
set_option linter.unusedVariables false
set_option linter.unusedSimpArgs false
/-- What a batch that was read is told as. -/
def RBok (h h' : H) (v : Value) (r : RB) : Prop := ∃ w, v = .tuple #[.agg #[.int .i64 r.base, w], .int .i64 r.size, .int .i64 r.e] ∧
  OwQ (WRow 5 fun y => h y = none) (fun y => h y ≠ none) rc (fun y => h y = none) h' 39 w r.recs ∧ Ext h h'
/-- What stands in memory while a batch is read: the result's cells. -/
structure BS (h g : H) (x s e : Nat) (w0 w1 : Value) (n m : Int) : Prop where
  qx : g x = some (.cells #[w0, w1] 31)
  qs : g s = some (.cells #[.int .i64 n] 3)
  qe : g e = some (.cells #[.int .i64 m] 41)
  nx : h x = none
  ns : h s = none
  ne : h e = none
  ext : Ext h g
abbrev bArgs (x s e : Nat) : Array Value := #[.pointer (some ⟨x, 0, none⟩), .pointer (some ⟨s, 0, none⟩), .pointer (some ⟨e, 0, none⟩)]
abbrev bRes : List Rv := [.cn 2 2 31, .c 3 3, .c 4 41]
abbrev bEnv (x s e : Nat) : Env := [(2, .pointer (some ⟨x, 0, none⟩)), (3, .pointer (some ⟨s, 0, none⟩)), (4, .pointer (some ⟨e, 0, none⟩))]
section
variable {h g : H} {x s e : Nat} {w0 w1 : Value} {n m : Int}
/-- Giving up. -/
theorem give_up (B : BS h g x s e w0 w1 n m) (c : Int) {L : List UInt8} (hr : readP L = badR c) :
    dQ Try.prog 51 (bArgs x s e) bRes (bEnv x s e) (okR fun v h' => RBok h h' v (readP L)) (.panic [giveUp c]) [] g := by
  rw [dQ_panic]
  refine (rec_caught c B.qx B.qs B.qe).mono ?_
  rintro en u' h' ⟨rfl, hu, q1, q2, q3, f⟩
  rw [aftD_ret, hu, endD_ret]
  simp (disch := omega) only [dm_t, wA, wB, wL, wW, wY, Int.fdiv_eq_ediv_of_nonneg, Int.tdiv_eq_ediv_of_nonneg, Int.tmod_eq_emod_of_nonneg, chk_pos, decT, decF, br_pos, br_neg, wX, ↓reduceIte, Nat.reduceEqDiff, Nat.reduceAdd, Nat.reduceSub, Nat.reduceMul, Nat.reduceLeDiff, Nat.reduceLT, Nat.reduceMod, Nat.reduceDiv, Int.reduceToNat, Nat.min_eq_left, IntKind.bits, Int.reducePow, Int.reduceLT, Int.reduceLE, Int.reduceEq, Int.reduceNe, Int.reduceAdd, Int.reduceSub, and_self, reduceCtorEq, decide_eq_true_eq, decide_eq_false_iff_not, eq_self, implies_true, exists_const, Option.isNone_some, Option.isNone_none, Option.isSome_some, Option.isSome_none, Option.getD_some, cellsAt_all q1 2 rfl, cellAt_of q2, cellAt_of q3]
  rw [hr]
  refine ⟨.slice none 0 0, rfl, OwQ.nil, Ext.step' B.ext f ?_⟩
  rintro y (rfl | rfl | rfl)
  · exact B.nx
  · exact B.ns
  · exact B.ne
end
/-- The cells of a batch that is being read. -/
def CC (x s e r : Nat) (y : Nat) : Prop := y = x ∨ y = s ∨ y = e ∨ y = r
abbrev OwR (h g : H) (x s e r : Nat) (w : Value) (l : List rc.D) : Prop := OwQ (WRow 5 fun y => h y = none ∧ ¬ CC x s e r y) (fun y => h y ≠ none ∨ CC x s e r y) rc (fun y => h y = none ∧ ¬ CC x s e r y) g 39 w l
theorem OwR.fr {h g g' : H} {x s e r : Nat} {w : Value} {l : List rc.D} {T : Nat → Prop} (o : OwR h g x s e r w l) (f : Fr T g g') (hT : ∀ y, T y → CC x s e r y) : OwR h g' x s e r w l :=
  OwQ.fr o f (fun y hy => .inr (hT y hy)) (fun y hy ho => absurd (hT y hy) ho.2) fun _ hq => wrow_fr hq f fun y hy ho => ho.2 (hT y hy)
theorem OwR.ext {h g g' : H} {x s e r : Nat} {w : Value} {l : List rc.D} (o : OwR h g x s e r w l) (f : Ext g g') : OwR h g' x s e r w l := OwR.fr o f fun _ h => h.elim
theorem BS.fr {h g g' : H} {x s e : Nat} {w0 w1 : Value} {n m : Int} {T : Nat → Prop} (B : BS h g x s e w0 w1 n m) (f : Fr T g g') (hx : ¬ T x) (hs : ¬ T s) (he : ¬ T e) (hT : ∀ y, T y → h y = none) : BS h g' x s e w0 w1 n m :=
  ⟨f _ _ B.qx hx, f _ _ B.qs hs, f _ _ B.qe he, B.nx, B.ns, B.ne, Ext.step' B.ext f hT⟩
theorem BS.to {h g g' : H} {x s e : Nat} {w0 w1 : Value} {n m : Int} (B : BS h g x s e w0 w1 n m) (f : Ext g g') : BS h g' x s e w0 w1 n m := B.fr f id id id fun _ h => h.elim
section
variable {h g : H} {x s e r : Nat} {w0 w1 : Value} {n m : Int} {Q0 : Post} {l : List UInt8}
/-- The rounds. -/
theorem batch_s13 (b0 : List UInt8) (cnt : Nat) (hcnt : cnt ≤ 256) (base : Int) (hb0 : b0.length ≤ 140737488355328)
    (gu : ∀ g w1, BS h g x s e (.int .i64 base) w1 n m → (prs cnt b0 = none ∨ ∃ a z, prs cnt b0 = some (a, z) ∧ z ≠ []) → Q0 (.panic [giveUp 152]) [] g)
    (fin : ∀ g w1 recs, BS h g x s e (.int .i64 base) w1 n m → OwR h g x s e r w1 recs → prs cnt b0 = some (recs, []) → vc Try.prog c40_s25 Q0 [(2, .pointer (some ⟨x, 0, none⟩)), (3, .pointer (some ⟨s, 0, none⟩)), (4, .pointer (some ⟨e, 0, none⟩))] g)
    (B : BS h g x s e (.int .i64 base) (.slice none 0 0) n m) (v : Value) (hv : By nos h v b0) (q : g r = some (.cells #[v] 22)) (hr : h r = none) :
    vc Try.prog c40_s13 Q0 [(2, .pointer (some ⟨x, 0, none⟩)), (3, .pointer (some ⟨s, 0, none⟩)), (4, .pointer (some ⟨e, 0, none⟩)), (6, .pointer (some ⟨r, 0, none⟩)), (9, .int .u64 (cnt : Int))] g := by
  have hxr : x ≠ r := fun h => by subst h; rw [B.qx] at q; simp at q
  have hsr : s ≠ r := fun h => by subst h; rw [B.qs] at q; simp at q
  have her : e ≠ r := fun h => by subst h; rw [B.qe] at q; simp at q
  simp (disch := omega) only [dm_t, wA, wB, wL, wW, wY, Int.fdiv_eq_ediv_of_nonneg, Int.tdiv_eq_ediv_of_nonneg, Int.tmod_eq_emod_of_nonneg, chk_pos, decT, decF, br_pos, br_neg, wX, ↓reduceIte, Nat.reduceEqDiff, Nat.reduceAdd, Nat.reduceSub, Nat.reduceMul, Nat.reduceLeDiff, Nat.reduceLT, Nat.reduceMod, Nat.reduceDiv, Int.reduceToNat, Nat.min_eq_left, IntKind.bits, Int.reducePow, Int.reduceLT, Int.reduceLE, Int.reduceEq, Int.reduceNe, Int.reduceAdd, Int.reduceSub, and_self, reduceCtorEq, decide_eq_true_eq, decide_eq_false_iff_not, eq_self, implies_true, exists_const, Option.isNone_some, Option.isNone_none, Option.isSome_some, Option.isSome_none, Option.getD_some]
  refine vc_loop1 (fun vi g' => ∃ (i : Nat) (acc : List rc.D) (rest : List UInt8) (v w : Value), vi = .int .u64 (i : Int) ∧ i ≤ cnt ∧ acc.length = i ∧ prs cnt b0 = (prs (cnt - i) rest).map (fun p => (acc ++ p.1, p.2)) ∧ rest.length ≤ b0.length ∧
    BS h g' x s e (.int .i64 base) w n m ∧ OwR h g' x s e r w acc ∧ By nos h v rest ∧ g' r = some (.cells #[v] 22)) (fun vi _ => cnt - m1 vi) ?_ ?_
  · simp (disch := omega) only [dm_t, wA, wB, wL, wW, wY, Int.fdiv_eq_ediv_of_nonneg, Int.tdiv_eq_ediv_of_nonneg, Int.tmod_eq_emod_of_nonneg, chk_pos, decT, decF, br_pos, br_neg, wX, ↓reduceIte, Nat.reduceEqDiff, Nat.reduceAdd, Nat.reduceSub, Nat.reduceMul, Nat.reduceLeDiff, Nat.reduceLT, Nat.reduceMod, Nat.reduceDiv, Int.reduceToNat, Nat.min_eq_left, IntKind.bits, Int.reducePow, Int.reduceLT, Int.reduceLE, Int.reduceEq, Int.reduceNe, Int.reduceAdd, Int.reduceSub, and_self, reduceCtorEq, decide_eq_true_eq, decide_eq_false_iff_not, eq_self, implies_true, exists_const, Option.isNone_some, Option.isNone_none, Option.isSome_some, Option.isSome_none, Option.getD_some]
    exact ⟨0, [], b0, v, _, rfl, by omega, rfl, by simp, by omega, B, OwQ.nil, hv, q⟩
  rintro _ g1 ⟨i, acc, rest, v1, w, rfl, hi, hal, hp, hrl, B1, o1, hv1, q1⟩
  by_cases hil : i < cnt
  · obtain ⟨k, hk⟩ : ∃ k, cnt - i = k + 1 := ⟨cnt - i - 1, by omega⟩
    rw [hk] at hp
    generalize hQ1 : lq1 _ _ _ _ _ _ _ = Q1
    have gu1 : ∀ g' w', BS h g' x s e (.int .i64 base) w' n m → prs1 rest = none → Q1 (.panic [giveUp 152]) [] g' := by
      intro g' w' B' hn
      rw [← hQ1]
      have : Q0 (.panic [giveUp 152]) [] g' := gu g' w' B' (.inl (by rw [hp, prs, hn]; rfl))
      exact this
    have hrl2 : rest.length ≤ 4611686018427387904 := by omega
    obtain ⟨v1a, v1c, rfl⟩ := hv1.len
    by_cases h8 : rest.length < 8
    · simp (disch := omega) only [dm_t, wA, wB, wL, wW, wY, Int.fdiv_eq_ediv_of_nonneg, Int.tdiv_eq_ediv_of_nonneg, Int.tmod_eq_emod_of_nonneg, chk_pos, decT, decF, br_pos, br_neg, wX, ↓reduceIte, Nat.reduceEqDiff, Nat.reduceAdd, Nat.reduceSub, Nat.reduceMul, Nat.reduceLeDiff, Nat.reduceLT, Nat.reduceMod, Nat.reduceDiv, Int.reduceToNat, Nat.min_eq_left, IntKind.bits, Int.reducePow, Int.reduceLT, Int.reduceLE, Int.reduceEq, Int.reduceNe, Int.reduceAdd, Int.reduceSub, and_self, reduceCtorEq, decide_eq_true_eq, decide_eq_false_iff_not, eq_self, implies_true, exists_const, Option.isNone_some, Option.isNone_none, Option.isSome_some, Option.isSome_none, Option.getD_some]
      refine part_pan q1 h8 (by omega) ?_
      exact gu1 _ _ B1 (by rw [prs1, if_pos (by omega)])
    simp (disch := omega) only [dm_t, wA, wB, wL, wW, wY, Int.fdiv_eq_ediv_of_nonneg, Int.tdiv_eq_ediv_of_nonneg, Int.tmod_eq_emod_of_nonneg, chk_pos, decT, decF, br_pos, br_neg, wX, ↓reduceIte, Nat.reduceEqDiff, Nat.reduceAdd, Nat.reduceSub, Nat.reduceMul, Nat.reduceLeDiff, Nat.reduceLT, Nat.reduceMod, Nat.reduceDiv, Int.reduceToNat, Nat.min_eq_left, IntKind.bits, Int.reducePow, Int.reduceLT, Int.reduceLE, Int.reduceEq, Int.reduceNe, Int.reduceAdd, Int.reduceSub, and_self, reduceCtorEq, decide_eq_true_eq, decide_eq_false_iff_not, eq_self, implies_true, exists_const, Option.isNone_some, Option.isNone_none, Option.isSome_some, Option.isSome_none, Option.getD_some]
    refine (part_ok hv1 B1.ext q1 hr (n := 8) (by omega) hrl2).k ?_
    rintro p1 g2 ⟨op1, ⟨v2, hv2, q2⟩, f2, E2⟩
    simp (disch := omega) only [dm_t, wA, wB, wL, wW, wY, Int.fdiv_eq_ediv_of_nonneg, Int.tdiv_eq_ediv_of_nonneg, Int.tmod_eq_emod_of_nonneg, chk_pos, decT, decF, br_pos, br_neg, wX, ↓reduceIte, Nat.reduceEqDiff, Nat.reduceAdd, Nat.reduceSub, Nat.reduceMul, Nat.reduceLeDiff, Nat.reduceLT, Nat.reduceMod, Nat.reduceDiv, Int.reduceToNat, Nat.min_eq_left, IntKind.bits, Int.reducePow, Int.reduceLT, Int.reduceLE, Int.reduceEq, Int.reduceNe, Int.reduceAdd, Int.reduceSub, and_self, reduceCtorEq, decide_eq_true_eq, decide_eq_false_iff_not, eq_self, implies_true, exists_const, Option.isNone_some, Option.isNone_none, Option.isSome_some, Option.isSome_none, Option.getD_some]
    refine (get_ok (SlK.ext op1 E2) 8 (by rw [List.length_take]; omega) (by omega)).k ?_
    rintro _ _ ⟨rfl, rfl⟩
    rw [List.take_take, Nat.min_self]
    have B2 := B1.fr f2 hxr hsr her fun y hy => by rw [hy]; exact hr
    have o2 := OwR.fr o1 f2 fun y hy => .inr (.inr (.inr hy))
    obtain ⟨v2a, v2c, rfl⟩ := hv2.len
    by_cases h2 : rest.length < 10
    · simp (disch := omega) only [dm_t, wA, wB, wL, wW, wY, Int.fdiv_eq_ediv_of_nonneg, Int.tdiv_eq_ediv_of_nonneg, Int.tmod_eq_emod_of_nonneg, chk_pos, decT, decF, br_pos, br_neg, wX, ↓reduceIte, Nat.reduceEqDiff, Nat.reduceAdd, Nat.reduceSub, Nat.reduceMul, Nat.reduceLeDiff, Nat.reduceLT, Nat.reduceMod, Nat.reduceDiv, Int.reduceToNat, Nat.min_eq_left, IntKind.bits, Int.reducePow, Int.reduceLT, Int.reduceLE, Int.reduceEq, Int.reduceNe, Int.reduceAdd, Int.reduceSub, and_self, reduceCtorEq, decide_eq_true_eq, decide_eq_false_iff_not, eq_self, implies_true, exists_const, Option.isNone_some, Option.isNone_none, Option.isSome_some, Option.isSome_none, Option.getD_some]
      refine part_pan q2 (n := 2) (by rw [List.length_drop]; omega) (by omega) ?_
      exact gu1 _ _ B2 (by rw [prs1, if_pos (by omega)])
    simp (disch := omega) only [dm_t, wA, wB, wL, wW, wY, Int.fdiv_eq_ediv_of_nonneg, Int.tdiv_eq_ediv_of_nonneg, Int.tmod_eq_emod_of_nonneg, chk_pos, decT, decF, br_pos, br_neg, wX, ↓reduceIte, Nat.reduceEqDiff, Nat.reduceAdd, Nat.reduceSub, Nat.reduceMul, Nat.reduceLeDiff, Nat.reduceLT, Nat.reduceMod, Nat.reduceDiv, Int.reduceToNat, Nat.min_eq_left, IntKind.bits, Int.reducePow, Int.reduceLT, Int.reduceLE, Int.reduceEq, Int.reduceNe, Int.reduceAdd, Int.reduceSub, and_self, reduceCtorEq, decide_eq_true_eq, decide_eq_false_iff_not, eq_self, implies_true, exists_const, Option.isNone_some, Option.isNone_none, Option.isSome_some, Option.isSome_none, Option.getD_some]
    refine (part_ok hv2 E2 q2 hr (n := 2) (by rw [List.length_drop]; omega) (by rw [List.length_drop]; omega)).k ?_
    rintro p2 g3 ⟨op2, ⟨v3, hv3, q3⟩, f3, E3⟩
    simp (disch := omega) only [dm_t, wA, wB, wL, wW, wY, Int.fdiv_eq_ediv_of_nonneg, Int.tdiv_eq_ediv_of_nonneg, Int.tmod_eq_emod_of_nonneg, chk_pos, decT, decF, br_pos, br_neg, wX, ↓reduceIte, Nat.reduceEqDiff, Nat.reduceAdd, Nat.reduceSub, Nat.reduceMul, Nat.reduceLeDiff, Nat.reduceLT, Nat.reduceMod, Nat.reduceDiv, Int.reduceToNat, Nat.min_eq_left, IntKind.bits, Int.reducePow, Int.reduceLT, Int.reduceLE, Int.reduceEq, Int.reduceNe, Int.reduceAdd, Int.reduceSub, and_self, reduceCtorEq, decide_eq_true_eq, decide_eq_false_iff_not, eq_self, implies_true, exists_const, Option.isNone_some, Option.isNone_none, Option.isSome_some, Option.isSome_none, Option.getD_some]
    refine (get_ok (SlK.ext op2 E3) 2 (by rw [List.length_take, List.length_drop]; omega) (by omega)).k ?_
    rintro _ _ ⟨rfl, rfl⟩
    rw [List.take_take, Nat.min_self]
    have B3 := B2.fr f3 hxr hsr her fun y hy => by rw [hy]; exact hr
    have o3 := OwR.fr o2 f3 fun y hy => .inr (.inr (.inr hy))
    rw [List.drop_drop] at hv3
    obtain ⟨v3a, v3c, rfl⟩ := hv3.len
    obtain ⟨kN, hkN⟩ : ∃ kN, kN = num ((rest.drop 8).take 2) := ⟨_, rfl⟩
    obtain ⟨vN, hvN⟩ : ∃ vN, vN = num ((rest.drop 10).take 2) := ⟨_, rfl⟩
    obtain ⟨tN, htN⟩ : ∃ tN, tN = num (rest.take 8) := ⟨_, rfl⟩
    have bk : kN < 65536 := by
      rw [hkN]; refine Nat.lt_of_lt_of_le (num_lt _) (Nat.pow_le_pow_right (by decide) (?_ : _ ≤ 2)); rw [List.length_take]; omega
    have bv : vN < 65536 := by
      rw [hvN]; refine Nat.lt_of_lt_of_le (num_lt _) (Nat.pow_le_pow_right (by decide) (?_ : _ ≤ 2)); rw [List.length_take]; omega
    have bt : tN < 18446744073709551616 := by
      rw [htN]; refine Nat.lt_of_lt_of_le (num_lt _) (Nat.pow_le_pow_right (by decide) (?_ : _ ≤ 8)); rw [List.length_take]; omega
    rw [← hkN, ← htN]
    by_cases h3 : rest.length < 12
    · simp (disch := omega) only [dm_t, wA, wB, wL, wW, wY, Int.fdiv_eq_ediv_of_nonneg, Int.tdiv_eq_ediv_of_nonneg, Int.tmod_eq_emod_of_nonneg, chk_pos, decT, decF, br_pos, br_neg, wX, ↓reduceIte, Nat.reduceEqDiff, Nat.reduceAdd, Nat.reduceSub, Nat.reduceMul, Nat.reduceLeDiff, Nat.reduceLT, Nat.reduceMod, Nat.reduceDiv, Int.reduceToNat, Nat.min_eq_left, IntKind.bits, Int.reducePow, Int.reduceLT, Int.reduceLE, Int.reduceEq, Int.reduceNe, Int.reduceAdd, Int.reduceSub, and_self, reduceCtorEq, decide_eq_true_eq, decide_eq_false_iff_not, eq_self, implies_true, exists_const, Option.isNone_some, Option.isNone_none, Option.isSome_some, Option.isSome_none, Option.getD_some]
      refine part_pan q3 (n := 2) (by rw [List.length_drop]; omega) (by omega) ?_
      exact gu1 _ _ B3 (by rw [prs1, if_pos (by omega)])
    simp (disch := omega) only [dm_t, wA, wB, wL, wW, wY, Int.fdiv_eq_ediv_of_nonneg, Int.tdiv_eq_ediv_of_nonneg, Int.tmod_eq_emod_of_nonneg, chk_pos, decT, decF, br_pos, br_neg, wX, ↓reduceIte, Nat.reduceEqDiff, Nat.reduceAdd, Nat.reduceSub, Nat.reduceMul, Nat.reduceLeDiff, Nat.reduceLT, Nat.reduceMod, Nat.reduceDiv, Int.reduceToNat, Nat.min_eq_left, IntKind.bits, Int.reducePow, Int.reduceLT, Int.reduceLE, Int.reduceEq, Int.reduceNe, Int.reduceAdd, Int.reduceSub, and_self, reduceCtorEq, decide_eq_true_eq, decide_eq_false_iff_not, eq_self, implies_true, exists_const, Option.isNone_some, Option.isNone_none, Option.isSome_some, Option.isSome_none, Option.getD_some]
    refine (part_ok hv3 E3 q3 hr (n := 2) (by rw [List.length_drop]; omega) (by rw [List.length_drop]; omega)).k ?_
    rintro p3 g4 ⟨op3, ⟨v4, hv4, q4⟩, f4, E4⟩
    simp (disch := omega) only [dm_t, wA, wB, wL, wW, wY, Int.fdiv_eq_ediv_of_nonneg, Int.tdiv_eq_ediv_of_nonneg, Int.tmod_eq_emod_of_nonneg, chk_pos, decT, decF, br_pos, br_neg, wX, ↓reduceIte, Nat.reduceEqDiff, Nat.reduceAdd, Nat.reduceSub, Nat.reduceMul, Nat.reduceLeDiff, Nat.reduceLT, Nat.reduceMod, Nat.reduceDiv, Int.reduceToNat, Nat.min_eq_left, IntKind.bits, Int.reducePow, Int.reduceLT, Int.reduceLE, Int.reduceEq, Int.reduceNe, Int.reduceAdd, Int.reduceSub, and_self, reduceCtorEq, decide_eq_true_eq, decide_eq_false_iff_not, eq_self, implies_true, exists_const, Option.isNone_some, Option.isNone_none, Option.isSome_some, Option.isSome_none, Option.getD_some]
    refine (get_ok (SlK.ext op3 E4) 2 (by rw [List.length_take, List.length_drop]; omega) (by omega)).k ?_
    rintro _ _ ⟨rfl, rfl⟩
    rw [List.take_take, Nat.min_self, ← hvN]
    have B4 := B3.fr f4 hxr hsr her fun y hy => by rw [hy]; exact hr
    have o4 := OwR.fr o3 f4 fun y hy => .inr (.inr (.inr hy))
    rw [List.drop_drop, show 10 + 2 = 12 from rfl] at hv4
    obtain ⟨v4a, v4c, rfl⟩ := hv4.len
    have p12 : ¬ rest.length < 12 := h3
    have bad1 : (9007199254740992 < tN ∨ 256 < kN ∨ 4096 < vN ∨ rest.length < 12 + (kN + vN)) → prs1 rest = none := fun hc => by
      rw [prs1, if_neg p12, if_pos (by rw [← htN, ← hkN, ← hvN]; exact hc)]
    by_cases c1 : 9007199254740992 < tN
    · simp (disch := omega) only [dm_t, wA, wB, wL, wW, wY, Int.fdiv_eq_ediv_of_nonneg, Int.tdiv_eq_ediv_of_nonneg, Int.tmod_eq_emod_of_nonneg, chk_pos, decT, decF, br_pos, br_neg, wX, ↓reduceIte, Nat.reduceEqDiff, Nat.reduceAdd, Nat.reduceSub, Nat.reduceMul, Nat.reduceLeDiff, Nat.reduceLT, Nat.reduceMod, Nat.reduceDiv, Int.reduceToNat, Nat.min_eq_left, IntKind.bits, Int.reducePow, Int.reduceLT, Int.reduceLE, Int.reduceEq, Int.reduceNe, Int.reduceAdd, Int.reduceSub, and_self, reduceCtorEq, decide_eq_true_eq, decide_eq_false_iff_not, eq_self, implies_true, exists_const, Option.isNone_some, Option.isNone_none, Option.isSome_some, Option.isSome_none, Option.getD_some]
      exact gu1 _ _ B4 (bad1 (.inl c1))
    by_cases c2 : 256 < kN
    · simp (disch := omega) only [dm_t, wA, wB, wL, wW, wY, Int.fdiv_eq_ediv_of_nonneg, Int.tdiv_eq_ediv_of_nonneg, Int.tmod_eq_emod_of_nonneg, chk_pos, decT, decF, br_pos, br_neg, wX, ↓reduceIte, Nat.reduceEqDiff, Nat.reduceAdd, Nat.reduceSub, Nat.reduceMul, Nat.reduceLeDiff, Nat.reduceLT, Nat.reduceMod, Nat.reduceDiv, Int.reduceToNat, Nat.min_eq_left, IntKind.bits, Int.reducePow, Int.reduceLT, Int.reduceLE, Int.reduceEq, Int.reduceNe, Int.reduceAdd, Int.reduceSub, and_self, reduceCtorEq, decide_eq_true_eq, decide_eq_false_iff_not, eq_self, implies_true, exists_const, Option.isNone_some, Option.isNone_none, Option.isSome_some, Option.isSome_none, Option.getD_some]
      exact gu1 _ _ B4 (bad1 (.inr (.inl c2)))
    by_cases c3 : 4096 < vN
    · simp (disch := omega) only [dm_t, wA, wB, wL, wW, wY, Int.fdiv_eq_ediv_of_nonneg, Int.tdiv_eq_ediv_of_nonneg, Int.tmod_eq_emod_of_nonneg, chk_pos, decT, decF, br_pos, br_neg, wX, ↓reduceIte, Nat.reduceEqDiff, Nat.reduceAdd, Nat.reduceSub, Nat.reduceMul, Nat.reduceLeDiff, Nat.reduceLT, Nat.reduceMod, Nat.reduceDiv, Int.reduceToNat, Nat.min_eq_left, IntKind.bits, Int.reducePow, Int.reduceLT, Int.reduceLE, Int.reduceEq, Int.reduceNe, Int.reduceAdd, Int.reduceSub, and_self, reduceCtorEq, decide_eq_true_eq, decide_eq_false_iff_not, eq_self, implies_true, exists_const, Option.isNone_some, Option.isNone_none, Option.isSome_some, Option.isSome_none, Option.getD_some]
      exact gu1 _ _ B4 (bad1 (.inr (.inr (.inl c3))))
    simp (disch := omega) only [dm_t, wA, wB, wL, wW, wY, Int.fdiv_eq_ediv_of_nonneg, Int.tdiv_eq_ediv_of_nonneg, Int.tmod_eq_emod_of_nonneg, chk_pos, decT, decF, br_pos, br_neg, wX, ↓reduceIte, Nat.reduceEqDiff, Nat.reduceAdd, Nat.reduceSub, Nat.reduceMul, Nat.reduceLeDiff, Nat.reduceLT, Nat.reduceMod, Nat.reduceDiv, Int.reduceToNat, Nat.min_eq_left, IntKind.bits, Int.reducePow, Int.reduceLT, Int.reduceLE, Int.reduceEq, Int.reduceNe, Int.reduceAdd, Int.reduceSub, and_self, reduceCtorEq, decide_eq_true_eq, decide_eq_false_iff_not, eq_self, implies_true, exists_const, Option.isNone_some, Option.isNone_none, Option.isSome_some, Option.isSome_none, Option.getD_some]
    intro rb hrb
    simp (disch := omega) only [dm_t, wA, wB, wL, wW, wY, Int.fdiv_eq_ediv_of_nonneg, Int.tdiv_eq_ediv_of_nonneg, Int.tmod_eq_emod_of_nonneg, chk_pos, decT, decF, br_pos, br_neg, wX, ↓reduceIte, Nat.reduceEqDiff, Nat.reduceAdd, Nat.reduceSub, Nat.reduceMul, Nat.reduceLeDiff, Nat.reduceLT, Nat.reduceMod, Nat.reduceDiv, Int.reduceToNat, Nat.min_eq_left, IntKind.bits, Int.reducePow, Int.reduceLT, Int.reduceLE, Int.reduceEq, Int.reduceNe, Int.reduceAdd, Int.reduceSub, and_self, reduceCtorEq, decide_eq_true_eq, decide_eq_false_iff_not, eq_self, implies_true, exists_const, Option.isNone_some, Option.isNone_none, Option.isSome_some, Option.isSome_none, Option.getD_some]
    refine storeH_all (vs := [.int .i64 (tN : Int), .slice none 0 0, .slice none 0 0]) (hupd_same _ _ _) rfl rfl ?_
    rw [hupd_hupd]
    generalize hG : hupd g4 rb _ = g5
    obtain ⟨e5, qr5⟩ := new_ext hG hrb
    clear hG
    have B5 := B4.to e5
    have F5 : Fr (CC x s e r) g4 g5 := e5.mono fun _ h => h.elim
    have q5 := e5.at q4
    have E5 := E4.trans e5
    have hrbr := ne_of q4 hrb
    have hrbx := ne_of B4.qx hrb
    have hrbs := ne_of B4.qs hrb
    have hrbe := ne_of B4.qe hrb
    have hrbn : h rb = none := E4.bk hrb
    have hl12 : (rest.drop (12)).length = rest.length - 12 := by rw [List.length_drop]
    by_cases c4 : rest.length - 12 < kN
    · simp (disch := omega) only [dm_t, wA, wB, wL, wW, wY, Int.fdiv_eq_ediv_of_nonneg, Int.tdiv_eq_ediv_of_nonneg, Int.tmod_eq_emod_of_nonneg, chk_pos, decT, decF, br_pos, br_neg, wX, ↓reduceIte, Nat.reduceEqDiff, Nat.reduceAdd, Nat.reduceSub, Nat.reduceMul, Nat.reduceLeDiff, Nat.reduceLT, Nat.reduceMod, Nat.reduceDiv, Int.reduceToNat, Nat.min_eq_left, IntKind.bits, Int.reducePow, Int.reduceLT, Int.reduceLE, Int.reduceEq, Int.reduceNe, Int.reduceAdd, Int.reduceSub, and_self, reduceCtorEq, decide_eq_true_eq, decide_eq_false_iff_not, eq_self, implies_true, exists_const, Option.isNone_some, Option.isNone_none, Option.isSome_some, Option.isSome_none, Option.getD_some]
      refine part_pan q5 (n := kN) (by rw [hl12]; exact c4) (by omega) ?_
      exact gu1 _ _ B5 (bad1 (.inr (.inr (.inr (by omega)))))
    simp (disch := omega) only [dm_t, wA, wB, wL, wW, wY, Int.fdiv_eq_ediv_of_nonneg, Int.tdiv_eq_ediv_of_nonneg, Int.tmod_eq_emod_of_nonneg, chk_pos, decT, decF, br_pos, br_neg, wX, ↓reduceIte, Nat.reduceEqDiff, Nat.reduceAdd, Nat.reduceSub, Nat.reduceMul, Nat.reduceLeDiff, Nat.reduceLT, Nat.reduceMod, Nat.reduceDiv, Int.reduceToNat, Nat.min_eq_left, IntKind.bits, Int.reducePow, Int.reduceLT, Int.reduceLE, Int.reduceEq, Int.reduceNe, Int.reduceAdd, Int.reduceSub, and_self, reduceCtorEq, decide_eq_true_eq, decide_eq_false_iff_not, eq_self, implies_true, exists_const, Option.isNone_some, Option.isNone_none, Option.isSome_some, Option.isSome_none, Option.getD_some]
    refine (part_ok hv4 E5 q5 hr (n := kN) (by rw [hl12]; omega) (by rw [hl12]; omega)).k ?_
    rintro p4 g6 ⟨op4, ⟨v6, hv6, q6⟩, f6, E6⟩
    have B6 := B5.fr f6 hxr hsr her fun y hy => by rw [hy]; exact hr
    have F6 : Fr (CC x s e r) g4 g6 := F5.trans (f6.mono fun y hy => .inr (.inr (.inr hy)))
    have qr6 := f6 _ _ qr5 (fun h => hrbr h.symm)
    rw [List.drop_drop] at hv6
    have lk : ((rest.drop (12)).take kN).length = kN := by rw [List.length_take, hl12]; omega
    simp (disch := omega) only [dm_t, wA, wB, wL, wW, wY, Int.fdiv_eq_ediv_of_nonneg, Int.tdiv_eq_ediv_of_nonneg, Int.tmod_eq_emod_of_nonneg, chk_pos, decT, decF, br_pos, br_neg, wX, ↓reduceIte, Nat.reduceEqDiff, Nat.reduceAdd, Nat.reduceSub, Nat.reduceMul, Nat.reduceLeDiff, Nat.reduceLT, Nat.reduceMod, Nat.reduceDiv, Int.reduceToNat, Nat.min_eq_left, IntKind.bits, Int.reducePow, Int.reduceLT, Int.reduceLE, Int.reduceEq, Int.reduceNe, Int.reduceAdd, Int.reduceSub, and_self, reduceCtorEq, decide_eq_true_eq, decide_eq_false_iff_not, eq_self, implies_true, exists_const, Option.isNone_some, Option.isNone_none, Option.isSome_some, Option.isSome_none, Option.getD_some]
    refine (Clone_ok (SlK.ext op4 E6) (by rw [lk]; omega)).k ?_
    rintro kv g7 ⟨ok, e7⟩
    have B7 := B6.to e7
    have F7 : Fr (CC x s e r) g4 g7 := F6.trans (e7.mono fun _ h => h.elim)
    have qr7 := e7.at qr6
    have q7 := e7.at q6
    obtain ⟨kva, kvc, rfl⟩ := By.len (OwK.s0 ok)
    simp (disch := omega) only [dm_t, wA, wB, wL, wW, wY, Int.fdiv_eq_ediv_of_nonneg, Int.tdiv_eq_ediv_of_nonneg, Int.tmod_eq_emod_of_nonneg, chk_pos, decT, decF, br_pos, br_neg, wX, ↓reduceIte, Nat.reduceEqDiff, Nat.reduceAdd, Nat.reduceSub, Nat.reduceMul, Nat.reduceLeDiff, Nat.reduceLT, Nat.reduceMod, Nat.reduceDiv, Int.reduceToNat, Nat.min_eq_left, IntKind.bits, Int.reducePow, Int.reduceLT, Int.reduceLE, Int.reduceEq, Int.reduceNe, Int.reduceAdd, Int.reduceSub, and_self, reduceCtorEq, decide_eq_true_eq, decide_eq_false_iff_not, eq_self, implies_true, exists_const, Option.isNone_some, Option.isNone_none, Option.isSome_some, Option.isSome_none, Option.getD_some, storeH_0 qr7]
    generalize hG : hupd g7 rb _ = g8
    have f8 : Fr (fun y => y = rb) g7 g8 := by rw [← hG]; exact Fr.upd (S := fun y => y = rb) rfl _
    have qr8 : g8 rb = some (.cells #[.int .i64 (tN : Int), .slice kva ((rest.drop (12)).take kN).length kvc, .slice none 0 0] 39) := by rw [← hG]; exact hupd_same _ _ _
    clear hG
    have B8 := B7.fr f8 hrbx hrbs hrbe fun y hy => by rw [hy]; exact hrbn
    have F8 : Fr (CC x s e r) g4 g8 := F7.step (T := fun y => y = rb) (f8.mono fun y hy => ⟨by rw [hy]; exact hrb, hy⟩)
    have q8 := f8 _ _ q7 (fun h => hrbr h)
    have ok8 := OwK.fr ok f8 fun y hy ho _ => by rw [hy, qr6] at ho; cases ho
    have hl6 : (rest.drop (12 + kN)).length = rest.length - (12 + kN) := by rw [List.length_drop]
    obtain ⟨v6a, v6c, rfl⟩ := hv6.len
    simp (disch := omega) only [dm_t, wA, wB, wL, wW, wY, Int.fdiv_eq_ediv_of_nonneg, Int.tdiv_eq_ediv_of_nonneg, Int.tmod_eq_emod_of_nonneg, chk_pos, decT, decF, br_pos, br_neg, wX, ↓reduceIte, Nat.reduceEqDiff, Nat.reduceAdd, Nat.reduceSub, Nat.reduceMul, Nat.reduceLeDiff, Nat.reduceLT, Nat.reduceMod, Nat.reduceDiv, Int.reduceToNat, Nat.min_eq_left, IntKind.bits, Int.reducePow, Int.reduceLT, Int.reduceLE, Int.reduceEq, Int.reduceNe, Int.reduceAdd, Int.reduceSub, and_self, reduceCtorEq, decide_eq_true_eq, decide_eq_false_iff_not, eq_self, implies_true, exists_const, Option.isNone_some, Option.isNone_none, Option.isSome_some, Option.isSome_none, Option.getD_some]
    by_cases c5 : rest.length - (12 + kN) < vN
    · refine part_pan q8 (n := vN) (by rw [hl6]; exact c5) (by omega) ?_
      exact gu1 _ _ B8 (bad1 (.inr (.inr (.inr (by omega)))))
    refine (part_ok hv6 B8.ext q8 hr (n := vN) (by rw [hl6]; omega) (by rw [hl6]; omega)).k ?_
    rintro p5 g9 ⟨op5, ⟨v9, hv9, q9⟩, f9, E9⟩
    have B9 := B8.fr f9 hxr hsr her fun y hy => by rw [hy]; exact hr
    have F9 : Fr (CC x s e r) g4 g9 := F8.trans (f9.mono fun y hy => .inr (.inr (.inr hy)))
    have qr9 := f9 _ _ qr8 (fun h => hrbr h.symm)
    have ok9 := OwK.fr ok8 f9 fun y hy ho _ => by rw [hy, q6] at ho; cases ho
    rw [List.drop_drop] at hv9
    have lv : ((rest.drop (12 + kN)).take vN).length = vN := by rw [List.length_take, hl6]; omega
    simp (disch := omega) only [dm_t, wA, wB, wL, wW, wY, Int.fdiv_eq_ediv_of_nonneg, Int.tdiv_eq_ediv_of_nonneg, Int.tmod_eq_emod_of_nonneg, chk_pos, decT, decF, br_pos, br_neg, wX, ↓reduceIte, Nat.reduceEqDiff, Nat.reduceAdd, Nat.reduceSub, Nat.reduceMul, Nat.reduceLeDiff, Nat.reduceLT, Nat.reduceMod, Nat.reduceDiv, Int.reduceToNat, Nat.min_eq_left, IntKind.bits, Int.reducePow, Int.reduceLT, Int.reduceLE, Int.reduceEq, Int.reduceNe, Int.reduceAdd, Int.reduceSub, and_self, reduceCtorEq, decide_eq_true_eq, decide_eq_false_iff_not, eq_self, implies_true, exists_const, Option.isNone_some, Option.isNone_none, Option.isSome_some, Option.isSome_none, Option.getD_some]
    refine (Clone_ok (SlK.ext op5 E9) (by rw [lv]; omega)).k ?_
    rintro vv g10 ⟨ov, e10⟩
    have B10 := B9.to e10
    have F10 : Fr (CC x s e r) g4 g10 := F9.trans (e10.mono fun _ h => h.elim)
    have qr10 := e10.at qr9
    have q10 := e10.at q9
    have ok10 := OwK.ext ok9 e10
    obtain ⟨vva, vvc, rfl⟩ := By.len (OwK.s0 ov)
    simp (disch := omega) only [dm_t, wA, wB, wL, wW, wY, Int.fdiv_eq_ediv_of_nonneg, Int.tdiv_eq_ediv_of_nonneg, Int.tmod_eq_emod_of_nonneg, chk_pos, decT, decF, br_pos, br_neg, wX, ↓reduceIte, Nat.reduceEqDiff, Nat.reduceAdd, Nat.reduceSub, Nat.reduceMul, Nat.reduceLeDiff, Nat.reduceLT, Nat.reduceMod, Nat.reduceDiv, Int.reduceToNat, Nat.min_eq_left, IntKind.bits, Int.reducePow, Int.reduceLT, Int.reduceLE, Int.reduceEq, Int.reduceNe, Int.reduceAdd, Int.reduceSub, and_self, reduceCtorEq, decide_eq_true_eq, decide_eq_false_iff_not, eq_self, implies_true, exists_const, Option.isNone_some, Option.isNone_none, Option.isSome_some, Option.isSome_none, Option.getD_some, storeH_0 qr10]
    generalize hG : hupd g10 rb _ = g11
    have f11 : Fr (fun y => y = rb) g10 g11 := by rw [← hG]; exact Fr.upd (S := fun y => y = rb) rfl _
    have qr11 : g11 rb = some (.cells #[.int .i64 (tN : Int), .slice kva ((rest.drop (12)).take kN).length kvc, .slice vva ((rest.drop (12 + kN)).take vN).length vvc] 39) := by rw [← hG]; exact hupd_same _ _ _
    clear hG
    have B11 := B10.fr f11 hrbx hrbs hrbe fun y hy => by rw [hy]; exact hrbn
    have F11 : Fr (CC x s e r) g4 g11 := F10.step (T := fun y => y = rb) (f11.mono fun y hy => ⟨by rw [hy]; exact hrb, hy⟩)
    have q11 := f11 _ _ q10 (fun h => hrbr h)
    have ok11 := OwK.fr ok10 f11 fun y hy ho _ => by rw [hy, qr6] at ho; cases ho
    have ov11 := OwK.fr ov f11 fun y hy ho _ => by rw [hy, qr9] at ho; cases ho
    have o11 := OwR.fr o4 F11 fun _ h => h
    have c11 : cellAt g11 ⟨x, 1, none⟩ = some w := by rw [cellAt_of B11.qx]; rfl
    obtain ⟨wa, wc, rfl⟩ := o11.l.len
    simp (disch := omega) only [dm_t, wA, wB, wL, wW, wY, Int.fdiv_eq_ediv_of_nonneg, Int.tdiv_eq_ediv_of_nonneg, Int.tmod_eq_emod_of_nonneg, chk_pos, decT, decF, br_pos, br_neg, wX, ↓reduceIte, Nat.reduceEqDiff, Nat.reduceAdd, Nat.reduceSub, Nat.reduceMul, Nat.reduceLeDiff, Nat.reduceLT, Nat.reduceMod, Nat.reduceDiv, Int.reduceToNat, Nat.min_eq_left, IntKind.bits, Int.reducePow, Int.reduceLT, Int.reduceLE, Int.reduceEq, Int.reduceNe, Int.reduceAdd, Int.reduceSub, and_self, reduceCtorEq, decide_eq_true_eq, decide_eq_false_iff_not, eq_self, implies_true, exists_const, Option.isNone_some, Option.isNone_none, Option.isSome_some, Option.isSome_none, Option.getD_some, c11, cellsAt_all qr11 3 rfl]
    intro bl hbl
    simp (disch := omega) only [dm_t, wA, wB, wL, wW, wY, Int.fdiv_eq_ediv_of_nonneg, Int.tdiv_eq_ediv_of_nonneg, Int.tmod_eq_emod_of_nonneg, chk_pos, decT, decF, br_pos, br_neg, wX, ↓reduceIte, Nat.reduceEqDiff, Nat.reduceAdd, Nat.reduceSub, Nat.reduceMul, Nat.reduceLeDiff, Nat.reduceLT, Nat.reduceMod, Nat.reduceDiv, Int.reduceToNat, Nat.min_eq_left, IntKind.bits, Int.reducePow, Int.reduceLT, Int.reduceLE, Int.reduceEq, Int.reduceNe, Int.reduceAdd, Int.reduceSub, and_self, reduceCtorEq, decide_eq_true_eq, decide_eq_false_iff_not, eq_self, implies_true, exists_const, Option.isNone_some, Option.isNone_none, Option.isSome_some, Option.isSome_none, Option.getD_some]
    have hk1 : ∀ y, g6 y = none → g4 y = none ∧ h y = none ∧ ¬ CC x s e r y := by
      intro y hy
      have hh : h y = none := E6.bk hy
      refine ⟨?_, hh, ?_⟩
      · cases hc : g4 y with
        | none => rfl
        | some o =>
          exfalso
          by_cases hyr : y = r
          · rw [hyr, q6] at hy; cases hy
          · have := f6 _ _ (e5.at hc) hyr
            rw [hy] at this; cases this
      · rintro (rfl | rfl | rfl | rfl)
        · rw [B6.qx] at hy; cases hy
        · rw [B6.qs] at hy; cases hy
        · rw [B6.qe] at hy; cases hy
        · rw [q6] at hy; cases hy
    have hk2 : ∀ y, g9 y = none → g6 y = none := by
      intro y hy
      cases hc : g6 y with
      | none => rfl
      | some o =>
        exfalso
        by_cases hyb : y = rb
        · rw [hyb, qr9] at hy; cases hy
        by_cases hyr : y = r
        · rw [hyr, q9] at hy; cases hy
        · have := f9 _ _ (f8 _ _ (e7.at hc) hyb) hyr
          rw [hy] at this; cases this
    have nAt : ∀ y, g4 y = none → ¬ isAt (.slice wa acc.length wc) y := fun y hy hat => o4.l.there hat hy
    have bK : By (fun y => isAt (.slice wa acc.length wc) y ∨ (h y ≠ none ∨ CC x s e r y)) g11 (.slice kva ((rest.drop (12)).take kN).length kvc) ((rest.drop (12)).take kN) := OwK.sl ok11 fun y hy hs => by
      obtain ⟨h1, h2, h3⟩ := hk1 y hy
      rcases hs with hs | hs | hs
      · exact nAt y h1 hs
      · exact hs h2
      · exact h3 hs
    have bV : By (fun y => isAt (.slice wa acc.length wc) y ∨ (h y ≠ none ∨ CC x s e r y)) g11 (.slice vva ((rest.drop (12 + kN)).take vN).length vvc) ((rest.drop (12 + kN)).take vN) := OwK.sl ov11 fun y hy hs => by
      obtain ⟨h1, h2, h3⟩ := hk1 y (hk2 y hy)
      rcases hs with hs | hs | hs
      · exact nAt y h1 hs
      · exact hs h2
      · exact h3 hs
    have hO : ∀ y, g11 y = none → h y = none ∧ ¬ CC x s e r y := by
      intro y hy
      refine ⟨B11.ext.bk hy, ?_⟩
      rintro (rfl | rfl | rfl | rfl)
      · rw [B11.qx] at hy; cases hy
      · rw [B11.qs] at hy; cases hy
      · rw [B11.qe] at hy; cases hy
      · rw [q11] at hy; cases hy
    have hbd : -9223372036854775808 ≤ (tN : Int) ∧ (tN : Int) ≤ 9223372036854775807 := by omega
    refine OwQ.push (bytes := 56) (z := #[.int .i64 0, .slice none 0 0, .slice none 0 0]) (V := fun _ => _) (x := (((tN : Int), (rest.drop (12)).take kN, (rest.drop (12 + kN)).take vN) : rc.D)) 3 sz_rc o11 hO (rep_rc.2 ⟨_, _, rfl, hbd, bK, bV⟩) (by rfl) (by rw [hal]; omega) (by rw [hal]; omega)
      ⟨_, _, _, _, _, rfl, OwK.mono ok11 fun y _ _ hy => (hk1 y hy).2, OwK.mono ov11 fun y _ _ hy => (hk1 y (hk2 y hy)).2, by rw [lk]; omega, by rw [lv]; omega⟩ (fun h' rows so f r hr => hr.fr (by decide) so f fun x hx => hx.2) ?_ bl hbl
    intro _ w2 g12 _ o12 f12
    have B12 := B11.fr f12 (fun h => h.1.2 (.inl rfl)) (fun h => h.1.2 (.inr (.inl rfl))) (fun h => h.1.2 (.inr (.inr (.inl rfl)))) fun y hy => hy.1.1
    have q12 := f12 _ _ q11 fun h => h.1.2 (.inr (.inr (.inr rfl)))
    have hw2 : isCell w2 = true := by obtain ⟨a, c, rfl⟩ := o12.l.len; rfl
    subst hQ1
    simp (disch := omega) only [dm_t, wA, wB, wL, wW, wY, Int.fdiv_eq_ediv_of_nonneg, Int.tdiv_eq_ediv_of_nonneg, Int.tmod_eq_emod_of_nonneg, chk_pos, decT, decF, br_pos, br_neg, wX, ↓reduceIte, Nat.reduceEqDiff, Nat.reduceAdd, Nat.reduceSub, Nat.reduceMul, Nat.reduceLeDiff, Nat.reduceLT, Nat.reduceMod, Nat.reduceDiv, Int.reduceToNat, Nat.min_eq_left, IntKind.bits, Int.reducePow, Int.reduceLT, Int.reduceLE, Int.reduceEq, Int.reduceNe, Int.reduceAdd, Int.reduceSub, and_self, reduceCtorEq, decide_eq_true_eq, decide_eq_false_iff_not, eq_self, implies_true, exists_const, Option.isNone_some, Option.isNone_none, Option.isSome_some, Option.isSome_none, Option.getD_some, storeH_0 B12.qx, hw2]
    have f13 : Fr (fun y => y = x) g12 (hupd g12 x (.cells #[.int .i64 base, w2] 31)) := Fr.upd (S := fun y => y = x) rfl _
    have h1 : prs1 rest = some (((tN : Int), (rest.drop 12).take kN, (rest.drop (12 + kN)).take vN), rest.drop (12 + (kN + vN))) := by
      rw [prs1, if_neg p12, ← htN, ← hkN, ← hvN, if_neg (by omega)]
    refine ⟨⟨i + 1, _, rest.drop (12 + (kN + vN)), v9, w2, by simp, by omega, ?_, ?_, by rw [List.length_drop]; omega, ?_, OwR.fr o12 f13 fun y hy => .inl hy, ?_, ?_⟩, by simp [m1]; omega⟩
    · simp [hal]
    · rw [hp, prs, h1, show cnt - (i + 1) = k by omega]
      simp only [Option.bind_some, Option.map_map]
      congr 1
      funext p
      simp
    · exact ⟨hupd_same _ _ _, f13 _ _ B12.qs fun h => by subst h; have := B12.qs; rw [B12.qx] at this; simp at this, f13 _ _ B12.qe fun h => by subst h; have := B12.qe; rw [B12.qx] at this; simp at this, B12.nx, B12.ns, B12.ne, Ext.step' B12.ext f13 fun y hy => by rw [hy]; exact B12.nx⟩
    · rw [← Nat.add_assoc]; exact hv9
    · exact f13 _ _ q12 fun h => hxr h.symm
  · obtain rfl : i = cnt := by omega
    rw [Nat.sub_self, prs] at hp
    simp only [Option.map_some, List.append_nil] at hp
    obtain ⟨v1a, v1c, rfl⟩ := hv1.len
    have c1 : cellAt g1 ⟨r, 0, none⟩ = some (.slice v1a rest.length v1c) := by rw [cellAt_of q1]; rfl
    by_cases h0 : rest.length = 0
    · have hr0 : rest = [] := List.length_eq_zero_iff.1 h0
      subst hr0
      have k := fin g1 w acc B1 o1 hp
      simp (disch := omega) only [dm_t, wA, wB, wL, wW, wY, Int.fdiv_eq_ediv_of_nonneg, Int.tdiv_eq_ediv_of_nonneg, Int.tmod_eq_emod_of_nonneg, chk_pos, decT, decF, br_pos, br_neg, wX, ↓reduceIte, Nat.reduceEqDiff, Nat.reduceAdd, Nat.reduceSub, Nat.reduceMul, Nat.reduceLeDiff, Nat.reduceLT, Nat.reduceMod, Nat.reduceDiv, Int.reduceToNat, Nat.min_eq_left, IntKind.bits, Int.reducePow, Int.reduceLT, Int.reduceLE, Int.reduceEq, Int.reduceNe, Int.reduceAdd, Int.reduceSub, and_self, reduceCtorEq, decide_eq_true_eq, decide_eq_false_iff_not, eq_self, implies_true, exists_const, Option.isNone_some, Option.isNone_none, Option.isSome_some, Option.isSome_none, Option.getD_some, c1, k]
    · simp (disch := omega) only [dm_t, wA, wB, wL, wW, wY, Int.fdiv_eq_ediv_of_nonneg, Int.tdiv_eq_ediv_of_nonneg, Int.tmod_eq_emod_of_nonneg, chk_pos, decT, decF, br_pos, br_neg, wX, ↓reduceIte, Nat.reduceEqDiff, Nat.reduceAdd, Nat.reduceSub, Nat.reduceMul, Nat.reduceLeDiff, Nat.reduceLT, Nat.reduceMod, Nat.reduceDiv, Int.reduceToNat, Nat.min_eq_left, IntKind.bits, Int.reducePow, Int.reduceLT, Int.reduceLE, Int.reduceEq, Int.reduceNe, Int.reduceAdd, Int.reduceSub, and_self, reduceCtorEq, decide_eq_true_eq, decide_eq_false_iff_not, eq_self, implies_true, exists_const, Option.isNone_some, Option.isNone_none, Option.isSome_some, Option.isSome_none, Option.getD_some, c1]
      exact gu g1 w B1 (.inr ⟨acc, rest, hp, fun h => h0 (by rw [h]; rfl)⟩)
end
theorem hupd_id {h : H} {b : Nat} {o : Obj} (q : h b = some o) : hupd h b o = h := by
  funext y; unfold hupd; split
  · rename_i hy; rw [hy, q]
  · rfl
theorem batch_ok {h : H} {v : Value} {l : List UInt8} (hb : By nos h v l) (hl : l.length ≤ 140737488355328) : Ok Try.prog 40 #[v] h fun v h' => RBok h h' v (readP l) := by
  obtain ⟨sa, sc, rfl⟩ := hb.len
  refine c40_ok (args := [_]) (by simp) ?_
  simp (disch := omega) only [dm_t, wA, wB, wL, wW, wY, Int.fdiv_eq_ediv_of_nonneg, Int.tdiv_eq_ediv_of_nonneg, Int.tmod_eq_emod_of_nonneg, chk_pos, decT, decF, br_pos, br_neg, wX, ↓reduceIte, Nat.reduceEqDiff, Nat.reduceAdd, Nat.reduceSub, Nat.reduceMul, Nat.reduceLeDiff, Nat.reduceLT, Nat.reduceMod, Nat.reduceDiv, Int.reduceToNat, Nat.min_eq_left, IntKind.bits, Int.reducePow, Int.reduceLT, Int.reduceLE, Int.reduceEq, Int.reduceNe, Int.reduceAdd, Int.reduceSub, and_self, reduceCtorEq, decide_eq_true_eq, decide_eq_false_iff_not, eq_self, implies_true, exists_const, Option.isNone_some, Option.isNone_none, Option.isSome_some, Option.isSome_none, Option.getD_some, wD]
  intro xb hx sb hs eb he
  simp (disch := omega) only [dm_t, wA, wB, wL, wW, wY, Int.fdiv_eq_ediv_of_nonneg, Int.tdiv_eq_ediv_of_nonneg, Int.tmod_eq_emod_of_nonneg, chk_pos, decT, decF, br_pos, br_neg, wX, ↓reduceIte, Nat.reduceEqDiff, Nat.reduceAdd, Nat.reduceSub, Nat.reduceMul, Nat.reduceLeDiff, Nat.reduceLT, Nat.reduceMod, Nat.reduceDiv, Int.reduceToNat, Nat.min_eq_left, IntKind.bits, Int.reducePow, Int.reduceLT, Int.reduceLE, Int.reduceEq, Int.reduceNe, Int.reduceAdd, Int.reduceSub, and_self, reduceCtorEq, decide_eq_true_eq, decide_eq_false_iff_not, eq_self, implies_true, exists_const, Option.isNone_some, Option.isNone_none, Option.isSome_some, Option.isSome_none, Option.getD_some, wD]
  generalize hG : hupd h xb _ = g1 at hs he ⊢
  obtain ⟨e1, qx⟩ := new_ext hG hx
  clear hG
  generalize hG : hupd g1 sb _ = g2 at he ⊢
  obtain ⟨e2, qs⟩ := new_ext hG hs
  clear hG
  generalize hG : hupd g2 eb _ = g3
  obtain ⟨e3, qe⟩ := new_ext hG he
  clear hG
  have B : BS h g3 xb sb eb (.int .i64 0) (.slice none 0 0) 0 0 := ⟨(e2.trans e3).at qx, e3.at qs, qe, hx, e1.bk hs, (e1.trans e2).bk he, (e1.trans e2).trans e3⟩
  clear qx qs qe hx hs he e1 e2 e3
  refine ⟨by rfl, ?_⟩
  generalize hQ0 : dQ Try.prog 51 _ _ _ _ = Q0
  have gu : ∀ g w0 w1 n m c, BS h g xb sb eb w0 w1 n m → readP l = badR c → Q0 (.panic [giveUp c]) [] g := by
    intro g w0 w1 n m c B' hr
    rw [← hQ0]
    exact give_up B' c hr
  by_cases h0 : l.length = 0
  · simp (disch := omega) only [dm_t, wA, wB, wL, wW, wY, Int.fdiv_eq_ediv_of_nonneg, Int.tdiv_eq_ediv_of_nonneg, Int.tmod_eq_emod_of_nonneg, chk_pos, decT, decF, br_pos, br_neg, wX, ↓reduceIte, Nat.reduceEqDiff, Nat.reduceAdd, Nat.reduceSub, Nat.reduceMul, Nat.reduceLeDiff, Nat.reduceLT, Nat.reduceMod, Nat.reduceDiv, Int.reduceToNat, Nat.min_eq_left, IntKind.bits, Int.reducePow, Int.reduceLT, Int.reduceLE, Int.reduceEq, Int.reduceNe, Int.reduceAdd, Int.reduceSub, and_self, reduceCtorEq, decide_eq_true_eq, decide_eq_false_iff_not, eq_self, implies_true, exists_const, Option.isNone_some, Option.isNone_none, Option.isSome_some, Option.isSome_none, Option.getD_some]
    exact gu _ _ _ _ _ _ B (by rw [readP, if_pos h0])
  by_cases h4 : l.length < 4
  · simp (disch := omega) only [dm_t, wA, wB, wL, wW, wY, Int.fdiv_eq_ediv_of_nonneg, Int.tdiv_eq_ediv_of_nonneg, Int.tmod_eq_emod_of_nonneg, chk_pos, decT, decF, br_pos, br_neg, wX, ↓reduceIte, Nat.reduceEqDiff, Nat.reduceAdd, Nat.reduceSub, Nat.reduceMul, Nat.reduceLeDiff, Nat.reduceLT, Nat.reduceMod, Nat.reduceDiv, Int.reduceToNat, Nat.min_eq_left, IntKind.bits, Int.reducePow, Int.reduceLT, Int.reduceLE, Int.reduceEq, Int.reduceNe, Int.reduceAdd, Int.reduceSub, and_self, reduceCtorEq, decide_eq_true_eq, decide_eq_false_iff_not, eq_self, implies_true, exists_const, Option.isNone_some, Option.isNone_none, Option.isSome_some, Option.isSome_none, Option.getD_some]
    exact gu _ _ _ _ _ _ B (by rw [readP, if_neg h0, if_pos h4])
  obtain ⟨nN, hnN⟩ : ∃ nN, nN = num (l.take 4) := ⟨_, rfl⟩
  have bn : nN < 4294967296 := by
    rw [hnN]; refine Nat.lt_of_lt_of_le (num_lt _) (Nat.pow_le_pow_right (by decide) (?_ : _ ≤ 4)); rw [List.length_take]; omega
  simp (disch := omega) only [dm_t, wA, wB, wL, wW, wY, Int.fdiv_eq_ediv_of_nonneg, Int.tdiv_eq_ediv_of_nonneg, Int.tmod_eq_emod_of_nonneg, chk_pos, decT, decF, br_pos, br_neg, wX, ↓reduceIte, Nat.reduceEqDiff, Nat.reduceAdd, Nat.reduceSub, Nat.reduceMul, Nat.reduceLeDiff, Nat.reduceLT, Nat.reduceMod, Nat.reduceDiv, Int.reduceToNat, Nat.min_eq_left, IntKind.bits, Int.reducePow, Int.reduceLT, Int.reduceLE, Int.reduceEq, Int.reduceNe, Int.reduceAdd, Int.reduceSub, and_self, reduceCtorEq, decide_eq_true_eq, decide_eq_false_iff_not, eq_self, implies_true, exists_const, Option.isNone_some, Option.isNone_none, Option.isSome_some, Option.isSome_none, Option.getD_some]
  refine (get_ok (SlK.ext hb B.ext) 4 (by omega) (by omega)).k ?_
  rintro _ _ ⟨rfl, rfl⟩
  rw [← hnN]
  by_cases c1 : nN < 28
  · simp (disch := omega) only [dm_t, wA, wB, wL, wW, wY, Int.fdiv_eq_ediv_of_nonneg, Int.tdiv_eq_ediv_of_nonneg, Int.tmod_eq_emod_of_nonneg, chk_pos, decT, decF, br_pos, br_neg, wX, ↓reduceIte, Nat.reduceEqDiff, Nat.reduceAdd, Nat.reduceSub, Nat.reduceMul, Nat.reduceLeDiff, Nat.reduceLT, Nat.reduceMod, Nat.reduceDiv, Int.reduceToNat, Nat.min_eq_left, IntKind.bits, Int.reducePow, Int.reduceLT, Int.reduceLE, Int.reduceEq, Int.reduceNe, Int.reduceAdd, Int.reduceSub, and_self, reduceCtorEq, decide_eq_true_eq, decide_eq_false_iff_not, eq_self, implies_true, exists_const, Option.isNone_some, Option.isNone_none, Option.isSome_some, Option.isSome_none, Option.getD_some]
    exact gu _ _ _ _ _ _ B (by rw [readP, if_neg h0, if_neg h4, if_pos (.inl (hnN ▸ c1))])
  by_cases c2 : 65532 < nN
  · simp (disch := omega) only [dm_t, wA, wB, wL, wW, wY, Int.fdiv_eq_ediv_of_nonneg, Int.tdiv_eq_ediv_of_nonneg, Int.tmod_eq_emod_of_nonneg, chk_pos, decT, decF, br_pos, br_neg, wX, ↓reduceIte, Nat.reduceEqDiff, Nat.reduceAdd, Nat.reduceSub, Nat.reduceMul, Nat.reduceLeDiff, Nat.reduceLT, Nat.reduceMod, Nat.reduceDiv, Int.reduceToNat, Nat.min_eq_left, IntKind.bits, Int.reducePow, Int.reduceLT, Int.reduceLE, Int.reduceEq, Int.reduceNe, Int.reduceAdd, Int.reduceSub, and_self, reduceCtorEq, decide_eq_true_eq, decide_eq_false_iff_not, eq_self, implies_true, exists_const, Option.isNone_some, Option.isNone_none, Option.isSome_some, Option.isSome_none, Option.getD_some]
    exact gu _ _ _ _ _ _ B (by rw [readP, if_neg h0, if_neg h4, if_pos (.inr (hnN ▸ c2))])
  have r3 : readP l = readQ l := by rw [readP, if_neg h0, if_neg h4, if_neg (by rw [← hnN]; omega)]
  have s3 : cellAt g3 ⟨sb, 0, none⟩ = some (.int .i64 0) := by rw [cellAt_of B.qs]; rfl
  simp (disch := omega) only [dm_t, wA, wB, wL, wW, wY, Int.fdiv_eq_ediv_of_nonneg, Int.tdiv_eq_ediv_of_nonneg, Int.tmod_eq_emod_of_nonneg, chk_pos, decT, decF, br_pos, br_neg, wX, ↓reduceIte, Nat.reduceEqDiff, Nat.reduceAdd, Nat.reduceSub, Nat.reduceMul, Nat.reduceLeDiff, Nat.reduceLT, Nat.reduceMod, Nat.reduceDiv, Int.reduceToNat, Nat.min_eq_left, IntKind.bits, Int.reducePow, Int.reduceLT, Int.reduceLE, Int.reduceEq, Int.reduceNe, Int.reduceAdd, Int.reduceSub, and_self, reduceCtorEq, decide_eq_true_eq, decide_eq_false_iff_not, eq_self, implies_true, exists_const, Option.isNone_some, Option.isNone_none, Option.isSome_some, Option.isSome_none, Option.getD_some, storeH_0 B.qs]
  generalize hG : hupd g3 sb _ = g4
  have f4 : Fr (fun y => y = sb) g3 g4 := by rw [← hG]; exact Fr.upd (S := fun y => y = sb) rfl _
  have hxs : xb ≠ sb := fun h => by subst h; have := B.qs; rw [B.qx] at this; simp at this
  have hes : eb ≠ sb := fun h => by subst h; have := B.qe; rw [B.qs] at this; simp at this
  have B4 : BS h g4 xb sb eb (.int .i64 0) (.slice none 0 0) ((nN : Int) + 4) 0 := ⟨f4 _ _ B.qx hxs, by rw [← hG]; exact hupd_same _ _ _, f4 _ _ B.qe hes, B.nx, B.ns, B.ne, Ext.step' B.ext f4 fun y hy => by rw [hy]; exact B.ns⟩
  clear hG f4 s3 B
  have s4 : cellAt g4 ⟨sb, 0, none⟩ = some (.int .i64 ((nN : Int) + 4)) := by rw [cellAt_of B4.qs]; rfl
  by_cases c3 : l.length < nN + 4
  · simp (disch := omega) only [dm_t, wA, wB, wL, wW, wY, Int.fdiv_eq_ediv_of_nonneg, Int.tdiv_eq_ediv_of_nonneg, Int.tmod_eq_emod_of_nonneg, chk_pos, decT, decF, br_pos, br_neg, wX, ↓reduceIte, Nat.reduceEqDiff, Nat.reduceAdd, Nat.reduceSub, Nat.reduceMul, Nat.reduceLeDiff, Nat.reduceLT, Nat.reduceMod, Nat.reduceDiv, Int.reduceToNat, Nat.min_eq_left, IntKind.bits, Int.reducePow, Int.reduceLT, Int.reduceLE, Int.reduceEq, Int.reduceNe, Int.reduceAdd, Int.reduceSub, and_self, reduceCtorEq, decide_eq_true_eq, decide_eq_false_iff_not, eq_self, implies_true, exists_const, Option.isNone_some, Option.isNone_none, Option.isSome_some, Option.isSome_none, Option.getD_some, s4]
    exact gu _ _ _ _ _ _ B4 (by rw [r3, readQ, if_pos (hnN ▸ c3)])
  have hc := SlK.cap hb
  rw [one_len, bvs_len] at hc
  obtain ⟨w1, k1, o1⟩ := By.cut hb (m3 := false) (lo := (4 : Int)) (hi := ((nN : Int) + 4)) (mx := (sc : Int)) (l := 4) (u := nN + 4) (m := sc) rfl (by omega) rfl (by omega) (by omega) (by omega) (Nat.le_refl _) (.inr rfl)
  obtain ⟨w1a, w1c, rfl⟩ := o1.len
  rw [show nN + 4 - 4 = nN by omega] at o1
  have hsub : ∀ (w : Value), w = .slice w1a ((l.drop 4).take (nN + 4 - 4)).length w1c → w = .slice w1a ((l.drop 4).take nN).length w1c := fun w h => by rw [h, show nN + 4 - 4 = nN by omega]
  rw [show nN + 4 - 4 = nN by omega] at k1
  obtain ⟨t, ht⟩ : ∃ t, t = (l.drop 4).take nN := ⟨_, rfl⟩
  have htl : t.length = nN := by rw [ht, List.length_take, List.length_drop]; omega
  have hbody : t.drop 4 = bodyP l := by rw [ht, bodyP, ← hnN, List.drop_take, List.drop_drop]
  have hsum : t.take 4 = (l.drop 4).take 4 := by rw [ht, List.take_take]; congr 1; omega
  rw [← ht] at o1 k1
  have r4 : readP l = if (sumB (bodyP l)).toNat ≠ num ((l.drop 4).take 4) then badR 152 else readS l := by rw [r3, readQ, if_neg (by rw [← hnN]; exact c3)]
  clear ht hsub
  simp (disch := omega) only [dm_t, wA, wB, wL, wW, wY, Int.fdiv_eq_ediv_of_nonneg, Int.tdiv_eq_ediv_of_nonneg, Int.tmod_eq_emod_of_nonneg, chk_pos, decT, decF, br_pos, br_neg, wX, ↓reduceIte, Nat.reduceEqDiff, Nat.reduceAdd, Nat.reduceSub, Nat.reduceMul, Nat.reduceLeDiff, Nat.reduceLT, Nat.reduceMod, Nat.reduceDiv, Int.reduceToNat, Nat.min_eq_left, IntKind.bits, Int.reducePow, Int.reduceLT, Int.reduceLE, Int.reduceEq, Int.reduceNe, Int.reduceAdd, Int.reduceSub, and_self, reduceCtorEq, decide_eq_true_eq, decide_eq_false_iff_not, eq_self, implies_true, exists_const, Option.isNone_some, Option.isNone_none, Option.isSome_some, Option.isSome_none, Option.getD_some, s4, k1]
  intro rb hrb
  simp (disch := omega) only [dm_t, wA, wB, wL, wW, wY, Int.fdiv_eq_ediv_of_nonneg, Int.tdiv_eq_ediv_of_nonneg, Int.tmod_eq_emod_of_nonneg, chk_pos, decT, decF, br_pos, br_neg, wX, ↓reduceIte, Nat.reduceEqDiff, Nat.reduceAdd, Nat.reduceSub, Nat.reduceMul, Nat.reduceLeDiff, Nat.reduceLT, Nat.reduceMod, Nat.reduceDiv, Int.reduceToNat, Nat.min_eq_left, IntKind.bits, Int.reducePow, Int.reduceLT, Int.reduceLE, Int.reduceEq, Int.reduceNe, Int.reduceAdd, Int.reduceSub, and_self, reduceCtorEq, decide_eq_true_eq, decide_eq_false_iff_not, eq_self, implies_true, exists_const, Option.isNone_some, Option.isNone_none, Option.isSome_some, Option.isSome_none, Option.getD_some]
  refine storeH_all (vs := [.slice w1a t.length w1c]) (hupd_same _ _ _) rfl rfl ?_
  rw [hupd_hupd]
  generalize hG : hupd g4 rb _ = g5
  obtain ⟨e5, q5⟩ := new_ext hG hrb
  clear hG
  have B5 := B4.to e5
  have hrbn : h rb = none := B4.ext.bk hrb
  have hxr : xb ≠ rb := ne_of B4.qx hrb
  have hsr : sb ≠ rb := ne_of B4.qs hrb
  have her : eb ≠ rb := ne_of B4.qe hrb
  clear B4 s4 e5
  simp (disch := omega) only [dm_t, wA, wB, wL, wW, wY, Int.fdiv_eq_ediv_of_nonneg, Int.tdiv_eq_ediv_of_nonneg, Int.tmod_eq_emod_of_nonneg, chk_pos, decT, decF, br_pos, br_neg, wX, ↓reduceIte, Nat.reduceEqDiff, Nat.reduceAdd, Nat.reduceSub, Nat.reduceMul, Nat.reduceLeDiff, Nat.reduceLT, Nat.reduceMod, Nat.reduceDiv, Int.reduceToNat, Nat.min_eq_left, IntKind.bits, Int.reducePow, Int.reduceLT, Int.reduceLE, Int.reduceEq, Int.reduceNe, Int.reduceAdd, Int.reduceSub, and_self, reduceCtorEq, decide_eq_true_eq, decide_eq_false_iff_not, eq_self, implies_true, exists_const, Option.isNone_some, Option.isNone_none, Option.isSome_some, Option.isSome_none, Option.getD_some]
  refine (part_ok o1 B5.ext q5 hrbn (n := 4) (by omega) (by omega)).k ?_
  rintro p1 g6 ⟨op1, ⟨v6, hv6, q6⟩, f6, E6⟩
  have B6 := B5.fr f6 hxr hsr her fun y hy => by rw [hy]; exact hrbn
  simp (disch := omega) only [dm_t, wA, wB, wL, wW, wY, Int.fdiv_eq_ediv_of_nonneg, Int.tdiv_eq_ediv_of_nonneg, Int.tmod_eq_emod_of_nonneg, chk_pos, decT, decF, br_pos, br_neg, wX, ↓reduceIte, Nat.reduceEqDiff, Nat.reduceAdd, Nat.reduceSub, Nat.reduceMul, Nat.reduceLeDiff, Nat.reduceLT, Nat.reduceMod, Nat.reduceDiv, Int.reduceToNat, Nat.min_eq_left, IntKind.bits, Int.reducePow, Int.reduceLT, Int.reduceLE, Int.reduceEq, Int.reduceNe, Int.reduceAdd, Int.reduceSub, and_self, reduceCtorEq, decide_eq_true_eq, decide_eq_false_iff_not, eq_self, implies_true, exists_const, Option.isNone_some, Option.isNone_none, Option.isSome_some, Option.isSome_none, Option.getD_some]
  refine (get_ok (SlK.ext op1 E6) 4 (by rw [List.length_take]; omega) (by omega)).k ?_
  rintro _ _ ⟨rfl, rfl⟩
  rw [List.take_take, Nat.min_self, hsum]
  rw [hbody] at hv6
  obtain ⟨bd, hbd⟩ : ∃ bd, bd = bodyP l := ⟨_, rfl⟩
  rw [← hbd] at hv6 r4
  have hbdl : bd.length = nN - 4 := by rw [hbd, ← hbody, List.length_drop, htl]
  clear hbody B5
  obtain ⟨v6a, v6c, rfl⟩ := hv6.len
  have c6 : cellAt g6 ⟨rb, 0, none⟩ = some (.slice v6a bd.length v6c) := by rw [cellAt_of q6]; rfl
  have bs : num ((l.drop 4).take 4) < 4294967296 := by
    refine Nat.lt_of_lt_of_le (num_lt _) (Nat.pow_le_pow_right (by decide) (?_ : _ ≤ 4)); rw [List.length_take]; omega
  generalize num ((l.drop 4).take 4) = sm at r4 bs ⊢
  simp (disch := omega) only [dm_t, wA, wB, wL, wW, wY, Int.fdiv_eq_ediv_of_nonneg, Int.tdiv_eq_ediv_of_nonneg, Int.tmod_eq_emod_of_nonneg, chk_pos, decT, decF, br_pos, br_neg, wX, ↓reduceIte, Nat.reduceEqDiff, Nat.reduceAdd, Nat.reduceSub, Nat.reduceMul, Nat.reduceLeDiff, Nat.reduceLT, Nat.reduceMod, Nat.reduceDiv, Int.reduceToNat, Nat.min_eq_left, IntKind.bits, Int.reducePow, Int.reduceLT, Int.reduceLE, Int.reduceEq, Int.reduceNe, Int.reduceAdd, Int.reduceSub, and_self, reduceCtorEq, decide_eq_true_eq, decide_eq_false_iff_not, eq_self, implies_true, exists_const, Option.isNone_some, Option.isNone_none, Option.isSome_some, Option.isSome_none, Option.getD_some, c6]
  intro bl hbl
  have e7 : Ext g6 _ := Ext.new hbl (.cells #[.slice v6a bd.length v6c] 22)
  simp (disch := omega) only [dm_t, wA, wB, wL, wW, wY, Int.fdiv_eq_ediv_of_nonneg, Int.tdiv_eq_ediv_of_nonneg, Int.tmod_eq_emod_of_nonneg, chk_pos, decT, decF, br_pos, br_neg, wX, ↓reduceIte, Nat.reduceEqDiff, Nat.reduceAdd, Nat.reduceSub, Nat.reduceMul, Nat.reduceLeDiff, Nat.reduceLT, Nat.reduceMod, Nat.reduceDiv, Int.reduceToNat, Nat.min_eq_left, IntKind.bits, Int.reducePow, Int.reduceLT, Int.reduceLE, Int.reduceEq, Int.reduceNe, Int.reduceAdd, Int.reduceSub, and_self, reduceCtorEq, decide_eq_true_eq, decide_eq_false_iff_not, eq_self, implies_true, exists_const, Option.isNone_some, Option.isNone_none, Option.isSome_some, Option.isSome_none, Option.getD_some]
  refine (Sum_ok (slitS (S := nos) [.slice v6a bd.length v6c] (h := g6) (b := bl) (E := 22) rfl id) (SlK.ext (SlK.ext hv6 E6) e7) (by omega)).k ?_
  rintro _ g8 ⟨rfl, e8⟩
  have e68 := e7.trans e8
  have B8 := B6.to e68
  have q8 := e68.at q6
  have hsl := (sumB bd).isLt
  by_cases c4 : ¬ (sumB bd).toNat = sm
  · simp (disch := omega) only [dm_t, wA, wB, wL, wW, wY, Int.fdiv_eq_ediv_of_nonneg, Int.tdiv_eq_ediv_of_nonneg, Int.tmod_eq_emod_of_nonneg, chk_pos, decT, decF, br_pos, br_neg, wX, ↓reduceIte, Nat.reduceEqDiff, Nat.reduceAdd, Nat.reduceSub, Nat.reduceMul, Nat.reduceLeDiff, Nat.reduceLT, Nat.reduceMod, Nat.reduceDiv, Int.reduceToNat, Nat.min_eq_left, IntKind.bits, Int.reducePow, Int.reduceLT, Int.reduceLE, Int.reduceEq, Int.reduceNe, Int.reduceAdd, Int.reduceSub, and_self, reduceCtorEq, decide_eq_true_eq, decide_eq_false_iff_not, eq_self, implies_true, exists_const, Option.isNone_some, Option.isNone_none, Option.isSome_some, Option.isSome_none, Option.getD_some]
    exact gu _ _ _ _ _ _ B8 (by rw [r4, if_pos c4])
  rw [if_neg c4] at r4
  replace c4 : (sumB bd).toNat = sm := Decidable.not_not.1 c4
  simp (disch := omega) only [dm_t, wA, wB, wL, wW, wY, Int.fdiv_eq_ediv_of_nonneg, Int.tdiv_eq_ediv_of_nonneg, Int.tmod_eq_emod_of_nonneg, chk_pos, decT, decF, br_pos, br_neg, wX, ↓reduceIte, Nat.reduceEqDiff, Nat.reduceAdd, Nat.reduceSub, Nat.reduceMul, Nat.reduceLeDiff, Nat.reduceLT, Nat.reduceMod, Nat.reduceDiv, Int.reduceToNat, Nat.min_eq_left, IntKind.bits, Int.reducePow, Int.reduceLT, Int.reduceLE, Int.reduceEq, Int.reduceNe, Int.reduceAdd, Int.reduceSub, and_self, reduceCtorEq, decide_eq_true_eq, decide_eq_false_iff_not, eq_self, implies_true, exists_const, Option.isNone_some, Option.isNone_none, Option.isSome_some, Option.isSome_none, Option.getD_some]
  refine (part_ok hv6 B8.ext q8 hrbn (n := 8) (by omega) (by omega)).k ?_
  rintro p2 g9 ⟨op2, ⟨v9, hv9, q9⟩, f9, E9⟩
  have B9 := B8.fr f9 hxr hsr her fun y hy => by rw [hy]; exact hrbn
  simp (disch := omega) only [dm_t, wA, wB, wL, wW, wY, Int.fdiv_eq_ediv_of_nonneg, Int.tdiv_eq_ediv_of_nonneg, Int.tmod_eq_emod_of_nonneg, chk_pos, decT, decF, br_pos, br_neg, wX, ↓reduceIte, Nat.reduceEqDiff, Nat.reduceAdd, Nat.reduceSub, Nat.reduceMul, Nat.reduceLeDiff, Nat.reduceLT, Nat.reduceMod, Nat.reduceDiv, Int.reduceToNat, Nat.min_eq_left, IntKind.bits, Int.reducePow, Int.reduceLT, Int.reduceLE, Int.reduceEq, Int.reduceNe, Int.reduceAdd, Int.reduceSub, and_self, reduceCtorEq, decide_eq_true_eq, decide_eq_false_iff_not, eq_self, implies_true, exists_const, Option.isNone_some, Option.isNone_none, Option.isSome_some, Option.isSome_none, Option.getD_some]
  refine (get_ok (SlK.ext op2 E9) 8 (by rw [List.length_take]; omega) (by omega)).k ?_
  rintro _ _ ⟨rfl, rfl⟩
  rw [List.take_take, Nat.min_self]
  simp (disch := omega) only [dm_t, wA, wB, wL, wW, wY, Int.fdiv_eq_ediv_of_nonneg, Int.tdiv_eq_ediv_of_nonneg, Int.tmod_eq_emod_of_nonneg, chk_pos, decT, decF, br_pos, br_neg, wX, ↓reduceIte, Nat.reduceEqDiff, Nat.reduceAdd, Nat.reduceSub, Nat.reduceMul, Nat.reduceLeDiff, Nat.reduceLT, Nat.reduceMod, Nat.reduceDiv, Int.reduceToNat, Nat.min_eq_left, IntKind.bits, Int.reducePow, Int.reduceLT, Int.reduceLE, Int.reduceEq, Int.reduceNe, Int.reduceAdd, Int.reduceSub, and_self, reduceCtorEq, decide_eq_true_eq, decide_eq_false_iff_not, eq_self, implies_true, exists_const, Option.isNone_some, Option.isNone_none, Option.isSome_some, Option.isSome_none, Option.getD_some]
  refine (part_ok hv9 B9.ext q9 hrbn (n := 4) (by rw [List.length_drop]; omega) (by rw [List.length_drop]; omega)).k ?_
  rintro p3 g10 ⟨op3, ⟨v10, hv10, q10⟩, f10, E10⟩
  have B10 := B9.fr f10 hxr hsr her fun y hy => by rw [hy]; exact hrbn
  simp (disch := omega) only [dm_t, wA, wB, wL, wW, wY, Int.fdiv_eq_ediv_of_nonneg, Int.tdiv_eq_ediv_of_nonneg, Int.tmod_eq_emod_of_nonneg, chk_pos, decT, decF, br_pos, br_neg, wX, ↓reduceIte, Nat.reduceEqDiff, Nat.reduceAdd, Nat.reduceSub, Nat.reduceMul, Nat.reduceLeDiff, Nat.reduceLT, Nat.reduceMod, Nat.reduceDiv, Int.reduceToNat, Nat.min_eq_left, IntKind.bits, Int.reducePow, Int.reduceLT, Int.reduceLE, Int.reduceEq, Int.reduceNe, Int.reduceAdd, Int.reduceSub, and_self, reduceCtorEq, decide_eq_true_eq, decide_eq_false_iff_not, eq_self, implies_true, exists_const, Option.isNone_some, Option.isNone_none, Option.isSome_some, Option.isSome_none, Option.getD_some]
  refine (get_ok (SlK.ext op3 E10) 4 (by rw [List.length_take, List.length_drop]; omega) (by omega)).k ?_
  rintro _ _ ⟨rfl, rfl⟩
  rw [List.take_take, Nat.min_self]
  rw [List.drop_drop, show 8 + 4 = 12 from rfl] at hv10
  obtain ⟨bN, hbN⟩ : ∃ bN, bN = num (bd.take 8) := ⟨_, rfl⟩
  obtain ⟨cN, hcN⟩ : ∃ cN, cN = num ((bd.drop 8).take 4) := ⟨_, rfl⟩
  have bb : bN < 18446744073709551616 := by
    rw [hbN]; refine Nat.lt_of_lt_of_le (num_lt _) (Nat.pow_le_pow_right (by decide) (?_ : _ ≤ 8)); rw [List.length_take]; omega
  have bc : cN < 4294967296 := by
    rw [hcN]; refine Nat.lt_of_lt_of_le (num_lt _) (Nat.pow_le_pow_right (by decide) (?_ : _ ≤ 4)); rw [List.length_take]; omega
  rw [← hbN, ← hcN]
  have bad : (9007199254740992 < bN ∨ cN < 1 ∨ 256 < cN ∨ 9007199254740992 < bN + cN - 1) → readP l = badR 152 := fun hc => by
    rw [r4, readS, if_pos (by rw [← hbd, ← hbN, ← hcN]; exact hc)]
  by_cases d1 : 9007199254740992 < bN
  · simp (disch := omega) only [dm_t, wA, wB, wL, wW, wY, Int.fdiv_eq_ediv_of_nonneg, Int.tdiv_eq_ediv_of_nonneg, Int.tmod_eq_emod_of_nonneg, chk_pos, decT, decF, br_pos, br_neg, wX, ↓reduceIte, Nat.reduceEqDiff, Nat.reduceAdd, Nat.reduceSub, Nat.reduceMul, Nat.reduceLeDiff, Nat.reduceLT, Nat.reduceMod, Nat.reduceDiv, Int.reduceToNat, Nat.min_eq_left, IntKind.bits, Int.reducePow, Int.reduceLT, Int.reduceLE, Int.reduceEq, Int.reduceNe, Int.reduceAdd, Int.reduceSub, and_self, reduceCtorEq, decide_eq_true_eq, decide_eq_false_iff_not, eq_self, implies_true, exists_const, Option.isNone_some, Option.isNone_none, Option.isSome_some, Option.isSome_none, Option.getD_some]
    exact gu _ _ _ _ _ _ B10 (bad (.inl d1))
  by_cases d2 : cN < 1
  · simp (disch := omega) only [dm_t, wA, wB, wL, wW, wY, Int.fdiv_eq_ediv_of_nonneg, Int.tdiv_eq_ediv_of_nonneg, Int.tmod_eq_emod_of_nonneg, chk_pos, decT, decF, br_pos, br_neg, wX, ↓reduceIte, Nat.reduceEqDiff, Nat.reduceAdd, Nat.reduceSub, Nat.reduceMul, Nat.reduceLeDiff, Nat.reduceLT, Nat.reduceMod, Nat.reduceDiv, Int.reduceToNat, Nat.min_eq_left, IntKind.bits, Int.reducePow, Int.reduceLT, Int.reduceLE, Int.reduceEq, Int.reduceNe, Int.reduceAdd, Int.reduceSub, and_self, reduceCtorEq, decide_eq_true_eq, decide_eq_false_iff_not, eq_self, implies_true, exists_const, Option.isNone_some, Option.isNone_none, Option.isSome_some, Option.isSome_none, Option.getD_some]
    exact gu _ _ _ _ _ _ B10 (bad (.inr (.inl d2)))
  by_cases d3 : 256 < cN
  · simp (disch := omega) only [dm_t, wA, wB, wL, wW, wY, Int.fdiv_eq_ediv_of_nonneg, Int.tdiv_eq_ediv_of_nonneg, Int.tmod_eq_emod_of_nonneg, chk_pos, decT, decF, br_pos, br_neg, wX, ↓reduceIte, Nat.reduceEqDiff, Nat.reduceAdd, Nat.reduceSub, Nat.reduceMul, Nat.reduceLeDiff, Nat.reduceLT, Nat.reduceMod, Nat.reduceDiv, Int.reduceToNat, Nat.min_eq_left, IntKind.bits, Int.reducePow, Int.reduceLT, Int.reduceLE, Int.reduceEq, Int.reduceNe, Int.reduceAdd, Int.reduceSub, and_self, reduceCtorEq, decide_eq_true_eq, decide_eq_false_iff_not, eq_self, implies_true, exists_const, Option.isNone_some, Option.isNone_none, Option.isSome_some, Option.isSome_none, Option.getD_some]
    exact gu _ _ _ _ _ _ B10 (bad (.inr (.inr (.inl d3))))
  by_cases d4 : 9007199254740992 < bN + cN - 1
  · simp (disch := omega) only [dm_t, wA, wB, wL, wW, wY, Int.fdiv_eq_ediv_of_nonneg, Int.tdiv_eq_ediv_of_nonneg, Int.tmod_eq_emod_of_nonneg, chk_pos, decT, decF, br_pos, br_neg, wX, ↓reduceIte, Nat.reduceEqDiff, Nat.reduceAdd, Nat.reduceSub, Nat.reduceMul, Nat.reduceLeDiff, Nat.reduceLT, Nat.reduceMod, Nat.reduceDiv, Int.reduceToNat, Nat.min_eq_left, IntKind.bits, Int.reducePow, Int.reduceLT, Int.reduceLE, Int.reduceEq, Int.reduceNe, Int.reduceAdd, Int.reduceSub, and_self, reduceCtorEq, decide_eq_true_eq, decide_eq_false_iff_not, eq_self, implies_true, exists_const, Option.isNone_some, Option.isNone_none, Option.isSome_some, Option.isSome_none, Option.getD_some]
    exact gu _ _ _ _ _ _ B10 (bad (.inr (.inr (.inr d4))))
  have r5 : readP l = finP l := by rw [r4, readS, if_neg (by rw [← hbd, ← hbN, ← hcN]; omega)]
  have f11 : Fr (fun y => y = xb) g10 (hupd g10 xb (.cells #[.int .i64 (bN : Int), .slice none 0 0] 31)) := Fr.upd (S := fun y => y = xb) rfl _
  have B11 : BS h (hupd g10 xb (.cells #[.int .i64 (bN : Int), .slice none 0 0] 31)) xb sb eb (.int .i64 (bN : Int)) (.slice none 0 0) ((nN : Int) + 4) 0 :=
    ⟨hupd_same _ _ _, f11 _ _ B10.qs hxs.symm, f11 _ _ B10.qe (fun h => by subst h; have := B10.qe; rw [B10.qx] at this; simp at this), B10.nx, B10.ns, B10.ne, Ext.step' B10.ext f11 fun y hy => by rw [hy]; exact B10.nx⟩
  have hfin : ∀ o, prs cN (bd.drop 12) = o → readP l = (match o with | some (l, []) => ⟨(bN : Int), l, (nN : Int) + 4, 0⟩ | _ => badR 152) := by
    intro o ho
    rw [r5, finP, ← hbd, ← hbN, ← hcN, ← hnN, ho]
    rcases o with _ | ⟨a, _ | ⟨z, zs⟩⟩ <;> rfl
  have k := batch_s13 (h := h) (x := xb) (s := sb) (e := eb) (r := rb) (Q0 := Q0) (bd.drop 12) cN (by omega) (bN : Int) (by rw [List.length_drop]; omega)
    (fun g w1 B' hc => gu _ _ _ _ _ _ B' (by
      rcases hc with hc | ⟨a, z, hc, hz⟩
      · rw [hfin _ hc]
      · rw [hfin _ hc]
        cases z with
        | nil => exact absurd rfl hz
        | cons _ _ => rfl))
    (fun g w1 recs B' o' hc => by
      have hr := hfin _ hc
      have q1 := B'.qx
      have hw1 : isCell w1 = true := by obtain ⟨a, c, rfl⟩ := o'.l.len; rfl
      have hwl : (List.all [Value.int .i64 (bN : Int), w1] isCell) = true := by simp [hw1]; rfl
      simp (disch := omega) only [dm_t, wA, wB, wL, wW, wY, Int.fdiv_eq_ediv_of_nonneg, Int.tdiv_eq_ediv_of_nonneg, Int.tmod_eq_emod_of_nonneg, chk_pos, decT, decF, br_pos, br_neg, wX, ↓reduceIte, Nat.reduceEqDiff, Nat.reduceAdd, Nat.reduceSub, Nat.reduceMul, Nat.reduceLeDiff, Nat.reduceLT, Nat.reduceMod, Nat.reduceDiv, Int.reduceToNat, Nat.min_eq_left, IntKind.bits, Int.reducePow, Int.reduceLT, Int.reduceLE, Int.reduceEq, Int.reduceNe, Int.reduceAdd, Int.reduceSub, and_self, reduceCtorEq, decide_eq_true_eq, decide_eq_false_iff_not, eq_self, implies_true, exists_const, Option.isNone_some, Option.isNone_none, Option.isSome_some, Option.isSome_none, Option.getD_some, cellsAt_all q1 2 rfl, cellAt_of B'.qs]
      refine storeH_all (vs := [.int .i64 (bN : Int), w1]) q1 rfl hwl ?_
      have e1 : hupd g xb (.cells [.int .i64 (bN : Int), w1].toArray 31) = g := hupd_id q1
      rw [e1]
      simp (disch := omega) only [dm_t, wA, wB, wL, wW, wY, Int.fdiv_eq_ediv_of_nonneg, Int.tdiv_eq_ediv_of_nonneg, Int.tmod_eq_emod_of_nonneg, chk_pos, decT, decF, br_pos, br_neg, wX, ↓reduceIte, Nat.reduceEqDiff, Nat.reduceAdd, Nat.reduceSub, Nat.reduceMul, Nat.reduceLeDiff, Nat.reduceLT, Nat.reduceMod, Nat.reduceDiv, Int.reduceToNat, Nat.min_eq_left, IntKind.bits, Int.reducePow, Int.reduceLT, Int.reduceLE, Int.reduceEq, Int.reduceNe, Int.reduceAdd, Int.reduceSub, and_self, reduceCtorEq, decide_eq_true_eq, decide_eq_false_iff_not, eq_self, implies_true, exists_const, Option.isNone_some, Option.isNone_none, Option.isSome_some, Option.isSome_none, Option.getD_some, cellAt_of B'.qs]
      refine storeH_all (vs := [.int .i64 ((nN : Int) + 4)]) B'.qs rfl rfl ?_
      have e2 : hupd g sb (.cells [.int .i64 ((nN : Int) + 4)].toArray 3) = g := hupd_id B'.qs
      rw [e2]
      simp (disch := omega) only [dm_t, wA, wB, wL, wW, wY, Int.fdiv_eq_ediv_of_nonneg, Int.tdiv_eq_ediv_of_nonneg, Int.tmod_eq_emod_of_nonneg, chk_pos, decT, decF, br_pos, br_neg, wX, ↓reduceIte, Nat.reduceEqDiff, Nat.reduceAdd, Nat.reduceSub, Nat.reduceMul, Nat.reduceLeDiff, Nat.reduceLT, Nat.reduceMod, Nat.reduceDiv, Int.reduceToNat, Nat.min_eq_left, IntKind.bits, Int.reducePow, Int.reduceLT, Int.reduceLE, Int.reduceEq, Int.reduceNe, Int.reduceAdd, Int.reduceSub, and_self, reduceCtorEq, decide_eq_true_eq, decide_eq_false_iff_not, eq_self, implies_true, exists_const, Option.isNone_some, Option.isNone_none, Option.isSome_some, Option.isSome_none, Option.getD_some]
      refine storeH_all (vs := [.int .i64 0]) B'.qe rfl rfl ?_
      have e3 : hupd g eb (.cells [.int .i64 0].toArray 41) = g := hupd_id B'.qe
      rw [e3]
      subst hQ0
      simp (disch := omega) only [dm_t, wA, wB, wL, wW, wY, Int.fdiv_eq_ediv_of_nonneg, Int.tdiv_eq_ediv_of_nonneg, Int.tmod_eq_emod_of_nonneg, chk_pos, decT, decF, br_pos, br_neg, wX, ↓reduceIte, Nat.reduceEqDiff, Nat.reduceAdd, Nat.reduceSub, Nat.reduceMul, Nat.reduceLeDiff, Nat.reduceLT, Nat.reduceMod, Nat.reduceDiv, Int.reduceToNat, Nat.min_eq_left, IntKind.bits, Int.reducePow, Int.reduceLT, Int.reduceLE, Int.reduceEq, Int.reduceNe, Int.reduceAdd, Int.reduceSub, and_self, reduceCtorEq, decide_eq_true_eq, decide_eq_false_iff_not, eq_self, implies_true, exists_const, Option.isNone_some, Option.isNone_none, Option.isSome_some, Option.isSome_none, Option.getD_some, wD]
      refine rec_idle.mono ?_
      rintro _ _ _ ⟨rfl, rfl, rfl⟩
      rw [aftD_ret, settle_ret, endD_ret]
      simp (disch := omega) only [dm_t, wA, wB, wL, wW, wY, Int.fdiv_eq_ediv_of_nonneg, Int.tdiv_eq_ediv_of_nonneg, Int.tmod_eq_emod_of_nonneg, chk_pos, decT, decF, br_pos, br_neg, wX, ↓reduceIte, Nat.reduceEqDiff, Nat.reduceAdd, Nat.reduceSub, Nat.reduceMul, Nat.reduceLeDiff, Nat.reduceLT, Nat.reduceMod, Nat.reduceDiv, Int.reduceToNat, Nat.min_eq_left, IntKind.bits, Int.reducePow, Int.reduceLT, Int.reduceLE, Int.reduceEq, Int.reduceNe, Int.reduceAdd, Int.reduceSub, and_self, reduceCtorEq, decide_eq_true_eq, decide_eq_false_iff_not, eq_self, implies_true, exists_const, Option.isNone_some, Option.isNone_none, Option.isSome_some, Option.isSome_none, Option.getD_some, cellsAt_all q1 2 rfl, cellAt_of B'.qs, cellAt_of B'.qe]
      rw [hr]
      refine ⟨w1, rfl, OwQ.imp o' (fun y hy => .inl hy) (fun y o hy ho => ho.1) (fun r hr => hr.mono fun y _ _ ho => ho.1), B'.ext⟩)
    B11 v10 hv10 (f11 _ _ q10 hxr.symm) hrbn
  simp (disch := omega) only [dm_t, wA, wB, wL, wW, wY, Int.fdiv_eq_ediv_of_nonneg, Int.tdiv_eq_ediv_of_nonneg, Int.tmod_eq_emod_of_nonneg, chk_pos, decT, decF, br_pos, br_neg, wX, ↓reduceIte, Nat.reduceEqDiff, Nat.reduceAdd, Nat.reduceSub, Nat.reduceMul, Nat.reduceLeDiff, Nat.reduceLT, Nat.reduceMod, Nat.reduceDiv, Int.reduceToNat, Nat.min_eq_left, IntKind.bits, Int.reducePow, Int.reduceLT, Int.reduceLE, Int.reduceEq, Int.reduceNe, Int.reduceAdd, Int.reduceSub, and_self, reduceCtorEq, decide_eq_true_eq, decide_eq_false_iff_not, eq_self, implies_true, exists_const, Option.isNone_some, Option.isNone_none, Option.isSome_some, Option.isSome_none, Option.getD_some, storeH_0 B10.qx, k]
end Go.Proofs.Ytbnjhgfpfajnoaa.rr
