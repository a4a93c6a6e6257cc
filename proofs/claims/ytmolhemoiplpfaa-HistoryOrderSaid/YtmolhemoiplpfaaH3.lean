/-
  history: turn.
-/
import Derived.Test.YtmolhemoiplpfaaH2
namespace Go.Proofs.Ytmolhemoiplpfaa.hi
open Go.Proofs.Ytmolhemoiplpfaa
set_option linter.unusedVariables false
set_option linter.unusedSimpArgs false

/-- An event's cells. -/
structure EvC (g : H) (b : Nat) (x : evT.D) (r q : Value) : Prop where
  c0 : cellAt g ⟨b, 0, none⟩ = some (.int .i64 x.1)
  c1 : cellAt g ⟨b, 1, none⟩ = some (.bool x.2.1)
  c2 : cellsAt g ⟨b, 2, none⟩ 5 = some (cCs x.2.2.1 r).toArray
  c7 : cellsAt g ⟨b, 7, none⟩ 3 = some (yCs x.2.2.2 q).toArray
  ca : cellsAt g ⟨b, 0, none⟩ 10 = some (eCs x r q).toArray
theorem evC {g : H} {b : Nat} {x : evT.D} {r q : Value} (qb : g b = some (.cells (eCs x r q).toArray 41)) : EvC g b x r q :=
  ⟨by rw [cellAt_of qb]; rfl, by rw [cellAt_of qb]; rfl, by rw [cellsAt_of qb (by simp)]; rfl, by rw [cellsAt_of qb (by simp)]; rfl, cellsAt_all qb 10 rfl⟩
theorem turn_ok {S : Nat → Prop} {h0 g : H} {p : Nat} {ve vo : Value} {s : Hs} {cs : List Value} {x : evT.D} (X : HX h0 g p ve vo s) (hx : Rep S evT g cs x) :
    Ok Try.prog 38 #[.pointer (some ⟨p, 0, none⟩), .agg cs.toArray] g fun v h' => v = .int .i64 (turnE s x) ∧ Ext g h' := by
  obtain ⟨r, q, rfl, ⟨hb0, hbc, hby⟩, hr, hq⟩ := rep_ev.1 hx
  have hcl := hb0
  unfold inI at hcl
  obtain ⟨ea, en, hve⟩ := X.evs.len
  refine c38_ok (args := [_, _]) (by simp) ?_
  simp (disch := omega) only [dm_t, wA, wB, wL, wW, wY, Int.fdiv_eq_ediv_of_nonneg, Int.tdiv_eq_ediv_of_nonneg, Int.tmod_eq_emod_of_nonneg, chk_pos, decT, decF, br_pos, br_neg, wX, ↓reduceIte, Nat.reduceEqDiff, Nat.reduceAdd, Nat.reduceSub, Nat.reduceMul, Nat.reduceLeDiff, Nat.reduceLT, Nat.reduceMod, Nat.reduceDiv, Int.reduceToNat, Nat.min_eq_left, IntKind.bits, Int.reducePow, Int.reduceLT, Int.reduceLE, Int.reduceEq, Int.reduceNe, Int.reduceAdd, Int.reduceSub, and_self, reduceCtorEq, decide_eq_true_eq, decide_eq_false_iff_not, eq_self, implies_true, exists_const, Option.isNone_some, Option.isNone_none, Option.isSome_some, Option.isSome_none, Option.getD_some]
  intro b hb
  generalize hG : hupd g b _ = g1
  obtain ⟨e, qb⟩ := new_ext hG hb
  clear hG
  replace X := X.ext e
  replace hr := hr.ext e
  replace hq := hq.ext e
  have k := evC qb
  have c0 := k.c0
  have c1 := k.c1
  -- behind the first test
  have key : ∀ h', Ext g1 h' → ¬ badE x → 
      vc Try.prog c38_t1 (blockQ 0 (seqQ Try.prog [] c38_s1 (retQ [4] (okR fun v h' => v = .int .i64 (turnE s x) ∧ Ext g h')))) [(0, .pointer (some ⟨p, 0, none⟩)), (3, .pointer (some ⟨b, 0, none⟩)), (5, .bool false)] h' := by
    intro h' e' hnb
    have E := e.trans e'
    have X' := X.ext e'
    have k0 := cellAt_ext e' c0
    have k1 := cellAt_ext e' c1
    have p0 := X'.c0
    rw [hve] at p0
    have hlo : @LE.le Int _ 0 x.1 ∧ @LT.lt Int _ x.1 64 := by
      constructor
      · exact Int.not_lt.1 fun h => hnb (.inl h)
      · exact Int.not_le.1 fun h => hnb (.inr (.inl h))
    by_cases hlen : 65536 ≤ s.evs.length
    · simp (disch := omega) only [dm_t, wA, wB, wL, wW, wY, Int.fdiv_eq_ediv_of_nonneg, Int.tdiv_eq_ediv_of_nonneg, Int.tmod_eq_emod_of_nonneg, chk_pos, decT, decF, br_pos, br_neg, wX, ↓reduceIte, Nat.reduceEqDiff, Nat.reduceAdd, Nat.reduceSub, Nat.reduceMul, Nat.reduceLeDiff, Nat.reduceLT, Nat.reduceMod, Nat.reduceDiv, Int.reduceToNat, Nat.min_eq_left, IntKind.bits, Int.reducePow, Int.reduceLT, Int.reduceLE, Int.reduceEq, Int.reduceNe, Int.reduceAdd, Int.reduceSub, and_self, reduceCtorEq, decide_eq_true_eq, decide_eq_false_iff_not, eq_self, implies_true, exists_const, Option.isNone_some, Option.isNone_none, Option.isSome_some, Option.isSome_none, Option.getD_some, p0]
      exact ⟨by rw [turnE, if_neg hnb, if_pos hlen], E⟩
    obtain ⟨i, hi⟩ : ∃ i : Nat, @Eq Int x.1 (i : Int) := ⟨Int.toNat x.1, by omega⟩
    have hi2 : i < 64 := by omega
    have pi := X'.ci hi2
    rw [hi] at k0
    have hT : turnE s x = if s.opn.getD i false ≠ x.2.1 then 280 else 0 := by rw [turnE, if_neg hnb, if_neg hlen, hi, Int.toNat_natCast]
    by_cases hop : s.opn.getD i false = x.2.1
    · rw [if_neg (by simpa using hop)] at hT
      rw [← hop] at k1
      simp (disch := omega) only [dm_t, wA, wB, wL, wW, wY, Int.fdiv_eq_ediv_of_nonneg, Int.tdiv_eq_ediv_of_nonneg, Int.tmod_eq_emod_of_nonneg, chk_pos, decT, decF, br_pos, br_neg, wX, ↓reduceIte, Nat.reduceEqDiff, Nat.reduceAdd, Nat.reduceSub, Nat.reduceMul, Nat.reduceLeDiff, Nat.reduceLT, Nat.reduceMod, Nat.reduceDiv, Int.reduceToNat, Nat.min_eq_left, IntKind.bits, Int.reducePow, Int.reduceLT, Int.reduceLE, Int.reduceEq, Int.reduceNe, Int.reduceAdd, Int.reduceSub, and_self, reduceCtorEq, decide_eq_true_eq, decide_eq_false_iff_not, eq_self, implies_true, exists_const, Option.isNone_some, Option.isNone_none, Option.isSome_some, Option.isSome_none, Option.getD_some, p0, k0, k1, pi, beq_self_eq_true]
      exact ⟨by rw [hT], E⟩
    · rw [if_pos hop] at hT
      have : (s.opn.getD i false == x.2.1) = false := by simpa using hop
      simp (disch := omega) only [dm_t, wA, wB, wL, wW, wY, Int.fdiv_eq_ediv_of_nonneg, Int.tdiv_eq_ediv_of_nonneg, Int.tmod_eq_emod_of_nonneg, chk_pos, decT, decF, br_pos, br_neg, wX, ↓reduceIte, Nat.reduceEqDiff, Nat.reduceAdd, Nat.reduceSub, Nat.reduceMul, Nat.reduceLeDiff, Nat.reduceLT, Nat.reduceMod, Nat.reduceDiv, Int.reduceToNat, Nat.min_eq_left, IntKind.bits, Int.reducePow, Int.reduceLT, Int.reduceLE, Int.reduceEq, Int.reduceNe, Int.reduceAdd, Int.reduceSub, and_self, reduceCtorEq, decide_eq_true_eq, decide_eq_false_iff_not, eq_self, implies_true, exists_const, Option.isNone_some, Option.isNone_none, Option.isSome_some, Option.isSome_none, Option.getD_some, p0, k0, k1, pi, this]
      exact ⟨by rw [hT], E⟩
  by_cases j1 : @LT.lt Int _ x.1 0
  · simp (disch := omega) only [dm_t, wA, wB, wL, wW, wY, Int.fdiv_eq_ediv_of_nonneg, Int.tdiv_eq_ediv_of_nonneg, Int.tmod_eq_emod_of_nonneg, chk_pos, decT, decF, br_pos, br_neg, wX, ↓reduceIte, Nat.reduceEqDiff, Nat.reduceAdd, Nat.reduceSub, Nat.reduceMul, Nat.reduceLeDiff, Nat.reduceLT, Nat.reduceMod, Nat.reduceDiv, Int.reduceToNat, Nat.min_eq_left, IntKind.bits, Int.reducePow, Int.reduceLT, Int.reduceLE, Int.reduceEq, Int.reduceNe, Int.reduceAdd, Int.reduceSub, and_self, reduceCtorEq, decide_eq_true_eq, decide_eq_false_iff_not, eq_self, implies_true, exists_const, Option.isNone_some, Option.isNone_none, Option.isSome_some, Option.isSome_none, Option.getD_some, c0]
    exact ⟨by rw [turnE, if_pos (.inl j1)], e⟩
  by_cases j2 : @LE.le Int _ 64 x.1
  · simp (disch := omega) only [dm_t, wA, wB, wL, wW, wY, Int.fdiv_eq_ediv_of_nonneg, Int.tdiv_eq_ediv_of_nonneg, Int.tmod_eq_emod_of_nonneg, chk_pos, decT, decF, br_pos, br_neg, wX, ↓reduceIte, Nat.reduceEqDiff, Nat.reduceAdd, Nat.reduceSub, Nat.reduceMul, Nat.reduceLeDiff, Nat.reduceLT, Nat.reduceMod, Nat.reduceDiv, Int.reduceToNat, Nat.min_eq_left, IntKind.bits, Int.reducePow, Int.reduceLT, Int.reduceLE, Int.reduceEq, Int.reduceNe, Int.reduceAdd, Int.reduceSub, and_self, reduceCtorEq, decide_eq_true_eq, decide_eq_false_iff_not, eq_self, implies_true, exists_const, Option.isNone_some, Option.isNone_none, Option.isSome_some, Option.isSome_none, Option.getD_some, c0]
    exact ⟨by rw [turnE, if_pos (.inr (.inl j2))], e⟩
  cases hret : x.2.1 with
  | true =>
    rw [hret] at c1
    simp (disch := omega) only [dm_t, wA, wB, wL, wW, wY, Int.fdiv_eq_ediv_of_nonneg, Int.tdiv_eq_ediv_of_nonneg, Int.tmod_eq_emod_of_nonneg, chk_pos, decT, decF, br_pos, br_neg, wX, ↓reduceIte, Nat.reduceEqDiff, Nat.reduceAdd, Nat.reduceSub, Nat.reduceMul, Nat.reduceLeDiff, Nat.reduceLT, Nat.reduceMod, Nat.reduceDiv, Int.reduceToNat, Nat.min_eq_left, IntKind.bits, Int.reducePow, Int.reduceLT, Int.reduceLE, Int.reduceEq, Int.reduceNe, Int.reduceAdd, Int.reduceSub, and_self, reduceCtorEq, decide_eq_true_eq, decide_eq_false_iff_not, eq_self, implies_true, exists_const, Option.isNone_some, Option.isNone_none, Option.isSome_some, Option.isSome_none, Option.getD_some, c0, c1, k.c2]
    refine (empty_ok (rep_call.2 ⟨r, rfl, hbc, hr⟩)).k ?_
    rintro _ g2 ⟨rfl, e2⟩
    cases hem : emptyC x.2.2.1 with
    | false =>
      simp (disch := omega) only [dm_t, wA, wB, wL, wW, wY, Int.fdiv_eq_ediv_of_nonneg, Int.tdiv_eq_ediv_of_nonneg, Int.tmod_eq_emod_of_nonneg, chk_pos, decT, decF, br_pos, br_neg, wX, ↓reduceIte, Nat.reduceEqDiff, Nat.reduceAdd, Nat.reduceSub, Nat.reduceMul, Nat.reduceLeDiff, Nat.reduceLT, Nat.reduceMod, Nat.reduceDiv, Int.reduceToNat, Nat.min_eq_left, IntKind.bits, Int.reducePow, Int.reduceLT, Int.reduceLE, Int.reduceEq, Int.reduceNe, Int.reduceAdd, Int.reduceSub, and_self, reduceCtorEq, decide_eq_true_eq, decide_eq_false_iff_not, eq_self, implies_true, exists_const, Option.isNone_some, Option.isNone_none, Option.isSome_some, Option.isSome_none, Option.getD_some, cellAt_ext e2 c0, cellAt_ext e2 c1]
      exact ⟨by rw [turnE, if_pos (.inr (.inr (.inl ⟨hret, hem⟩)))], e.trans e2⟩
    | true =>
      have hnb : ¬ badE x := by
        rintro (h | h | ⟨_, h⟩ | ⟨h, _⟩)
        · exact j1 h
        · exact j2 h
        · rw [hem] at h; cases h
        · rw [hret] at h; cases h
      simp (disch := omega) only [dm_t, wV, wB, wL, wW, wU, Int.fdiv_eq_ediv_of_nonneg, Int.tdiv_eq_ediv_of_nonneg, Int.tmod_eq_emod_of_nonneg, chk_pos, decT, decF, br_pos, br_neg, wX, ↓reduceIte, Nat.reduceEqDiff, Nat.reduceAdd, Nat.reduceSub, Nat.reduceMul, Nat.reduceLeDiff, Nat.reduceLT, Nat.reduceMod, Nat.reduceDiv, Int.reduceToNat, Nat.min_eq_left, IntKind.bits, Int.reducePow, Int.reduceLT, Int.reduceLE, Int.reduceEq, Int.reduceNe, Int.reduceAdd, Int.reduceSub, and_self, reduceCtorEq, decide_eq_true_eq, decide_eq_false_iff_not, eq_self, implies_true, exists_const, Option.isNone_some, Option.isNone_none, Option.isSome_some, Option.isSome_none, Option.getD_some, cellAt_ext e2 c0, cellAt_ext e2 c1]
      have kk := key g2 e2 hnb
      simp (disch := omega) only [dm_t, wA, wB, wL, wW, wY, Int.fdiv_eq_ediv_of_nonneg, Int.tdiv_eq_ediv_of_nonneg, Int.tmod_eq_emod_of_nonneg, chk_pos, decT, decF, br_pos, br_neg, wX, ↓reduceIte, Nat.reduceEqDiff, Nat.reduceAdd, Nat.reduceSub, Nat.reduceMul, Nat.reduceLeDiff, Nat.reduceLT, Nat.reduceMod, Nat.reduceDiv, Int.reduceToNat, Nat.min_eq_left, IntKind.bits, Int.reducePow, Int.reduceLT, Int.reduceLE, Int.reduceEq, Int.reduceNe, Int.reduceAdd, Int.reduceSub, and_self, reduceCtorEq, decide_eq_true_eq, decide_eq_false_iff_not, eq_self, implies_true, exists_const, Option.isNone_some, Option.isNone_none, Option.isSome_some, Option.isSome_none, Option.getD_some, kk]
  | false =>
    rw [hret] at c1
    simp (disch := omega) only [dm_t, wA, wB, wL, wW, wY, Int.fdiv_eq_ediv_of_nonneg, Int.tdiv_eq_ediv_of_nonneg, Int.tmod_eq_emod_of_nonneg, chk_pos, decT, decF, br_pos, br_neg, wX, ↓reduceIte, Nat.reduceEqDiff, Nat.reduceAdd, Nat.reduceSub, Nat.reduceMul, Nat.reduceLeDiff, Nat.reduceLT, Nat.reduceMod, Nat.reduceDiv, Int.reduceToNat, Nat.min_eq_left, IntKind.bits, Int.reducePow, Int.reduceLT, Int.reduceLE, Int.reduceEq, Int.reduceNe, Int.reduceAdd, Int.reduceSub, and_self, reduceCtorEq, decide_eq_true_eq, decide_eq_false_iff_not, eq_self, implies_true, exists_const, Option.isNone_some, Option.isNone_none, Option.isSome_some, Option.isSome_none, Option.getD_some, c0, c1, k.c7]
    refine (unsaid_ok (rep_reply.2 ⟨q, rfl, hby, hq⟩)).k ?_
    rintro _ g2 ⟨rfl, e2⟩
    cases hem : unsaidR x.2.2.2 with
    | false =>
      simp (disch := omega) only [dm_t, wA, wB, wL, wW, wY, Int.fdiv_eq_ediv_of_nonneg, Int.tdiv_eq_ediv_of_nonneg, Int.tmod_eq_emod_of_nonneg, chk_pos, decT, decF, br_pos, br_neg, wX, ↓reduceIte, Nat.reduceEqDiff, Nat.reduceAdd, Nat.reduceSub, Nat.reduceMul, Nat.reduceLeDiff, Nat.reduceLT, Nat.reduceMod, Nat.reduceDiv, Int.reduceToNat, Nat.min_eq_left, IntKind.bits, Int.reducePow, Int.reduceLT, Int.reduceLE, Int.reduceEq, Int.reduceNe, Int.reduceAdd, Int.reduceSub, and_self, reduceCtorEq, decide_eq_true_eq, decide_eq_false_iff_not, eq_self, implies_true, exists_const, Option.isNone_some, Option.isNone_none, Option.isSome_some, Option.isSome_none, Option.getD_some, cellAt_ext e2 c0, cellAt_ext e2 c1]
      exact ⟨by rw [turnE, if_pos (.inr (.inr (.inr ⟨hret, hem⟩)))], e.trans e2⟩
    | true =>
      have hnb : ¬ badE x := by
        rintro (h | h | ⟨h, _⟩ | ⟨_, h⟩)
        · exact j1 h
        · exact j2 h
        · rw [hret] at h; cases h
        · rw [hem] at h; cases h
      simp (disch := omega) only [dm_t, wV, wB, wL, wW, wU, Int.fdiv_eq_ediv_of_nonneg, Int.tdiv_eq_ediv_of_nonneg, Int.tmod_eq_emod_of_nonneg, chk_pos, decT, decF, br_pos, br_neg, wX, ↓reduceIte, Nat.reduceEqDiff, Nat.reduceAdd, Nat.reduceSub, Nat.reduceMul, Nat.reduceLeDiff, Nat.reduceLT, Nat.reduceMod, Nat.reduceDiv, Int.reduceToNat, Nat.min_eq_left, IntKind.bits, Int.reducePow, Int.reduceLT, Int.reduceLE, Int.reduceEq, Int.reduceNe, Int.reduceAdd, Int.reduceSub, and_self, reduceCtorEq, decide_eq_true_eq, decide_eq_false_iff_not, eq_self, implies_true, exists_const, Option.isNone_some, Option.isNone_none, Option.isSome_some, Option.isSome_none, Option.getD_some, cellAt_ext e2 c0, cellAt_ext e2 c1]
      have kk := key g2 e2 hnb
      simp (disch := omega) only [dm_t, wA, wB, wL, wW, wY, Int.fdiv_eq_ediv_of_nonneg, Int.tdiv_eq_ediv_of_nonneg, Int.tmod_eq_emod_of_nonneg, chk_pos, decT, decF, br_pos, br_neg, wX, ↓reduceIte, Nat.reduceEqDiff, Nat.reduceAdd, Nat.reduceSub, Nat.reduceMul, Nat.reduceLeDiff, Nat.reduceLT, Nat.reduceMod, Nat.reduceDiv, Int.reduceToNat, Nat.min_eq_left, IntKind.bits, Int.reducePow, Int.reduceLT, Int.reduceLE, Int.reduceEq, Int.reduceNe, Int.reduceAdd, Int.reduceSub, and_self, reduceCtorEq, decide_eq_true_eq, decide_eq_false_iff_not, eq_self, implies_true, exists_const, Option.isNone_some, Option.isNone_none, Option.isSome_some, Option.isSome_none, Option.getD_some, kk]
end Go.Proofs.Ytmolhemoiplpfaa.hi
