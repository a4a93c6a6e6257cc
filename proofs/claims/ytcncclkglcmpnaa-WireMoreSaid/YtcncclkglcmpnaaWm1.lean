/-
  WireMore: the plain law; what first() answers.
-/
import Derived.Test.YtcncclkglcmpnaaWl1
namespace Go.Proofs.Ytcncclkglcmpnaa.wl
open Go.Proofs.Ytcncclkglcmpnaa wi
set_option linter.unusedVariables false
set_option linter.unusedSimpArgs false

/-! ### The plain law -/
theorem rdStr_fits {l : List UInt8} {k k' : Nat} {most : Int} {s : List UInt8} (h : rdStr l k most = .ok (s, k')) : k' = k + 4 + s.length ∧ k' ≤ l.length := by
  unfold rdStr at h
  split at h
  · cases h
  split at h
  · cases h
  split at h
  · cases h
  simp only [Except.ok.injEq, Prod.mk.injEq] at h
  obtain ⟨rfl, rfl⟩ := h
  rw [List.length_take, List.length_drop]
  omega
theorem rdStr_err {l : List UInt8} {k : Nat} {most e : Int} (h : rdStr l k most = .error e) : e = 110 ∨ e = 111 := by
  unfold rdStr at h
  split at h
  · simp only [Except.error.injEq] at h; exact .inr h.symm
  split at h
  · simp only [Except.error.injEq] at h; exact .inl h.symm
  split at h
  · simp only [Except.error.injEq] at h; exact .inr h.symm
  · cases h
theorem take_drop_more {l m : List UInt8} {k n : Nat} (h : k + n ≤ l.length) : ((l ++ m).drop k).take n = (l.drop k).take n := by
  rw [List.drop_append_of_le_length (by omega), List.take_append_of_le_length (by rw [List.length_drop]; omega)]
theorem rdStr_more {l : List UInt8} (m : List UInt8) {k : Nat} {most : Int} (h : rdStr l k most ≠ .error 111) : rdStr (l ++ m) k most = rdStr l k most := by
  unfold rdStr at h ⊢
  by_cases h1 : l.length < k + 4
  · rw [if_pos h1] at h; exact absurd rfl h
  rw [if_neg h1] at h ⊢
  rw [if_neg (by rw [List.length_append]; omega), take_drop_more (by omega)]
  by_cases h2 : most < num ((l.drop k).take 4)
  · rw [if_pos h2, if_pos h2]
  rw [if_neg h2] at h ⊢
  rw [if_neg h2]
  by_cases h3 : l.length < k + 4 + num ((l.drop k).take 4)
  · rw [if_pos h3] at h; exact absurd rfl h
  rw [if_neg h3, if_neg (by rw [List.length_append]; omega), take_drop_more (by omega)]
theorem rdStrs_fits {l : List UInt8} {most : Int} : ∀ {n k k' : Nat} {r : List (List UInt8)}, rdStrs l most n k = .ok (r, k') → r.length = n ∧ (n = 0 ∧ k' = k ∨ k' ≤ l.length) ∧ k' = k + (r.flatMap (· ++ [124])).length + 3 * n := by
  intro n
  induction n with
  | zero =>
    intro k k' r h
    simp only [rdStrs, Except.ok.injEq, Prod.mk.injEq] at h
    obtain ⟨rfl, rfl⟩ := h
    simp
  | succ n ih =>
    intro k k' r h
    unfold rdStrs at h
    split at h
    · cases h
    · rename_i s k1 h1
      split at h
      · cases h
      · rename_i r' k2 h2
        simp only [Except.ok.injEq, Prod.mk.injEq] at h
        obtain ⟨rfl, rfl⟩ := h
        obtain ⟨g1, g2, g3⟩ := ih h2
        obtain ⟨g4, g5⟩ := rdStr_fits h1
        refine ⟨by simp [g1], .inr ?_, ?_⟩
        · rcases g2 with ⟨_, g2⟩ | g2 <;> omega
        · simp only [List.flatMap_cons, List.length_append, List.length_singleton] at *
          omega
theorem rdStrs_err {l : List UInt8} {most e : Int} : ∀ {n k : Nat}, rdStrs l most n k = .error e → e = 110 ∨ e = 111 := by
  intro n
  induction n with
  | zero => intro k h; simp [rdStrs] at h
  | succ n ih =>
    intro k h
    unfold rdStrs at h
    split at h
    · rename_i e' h1
      simp only [Except.error.injEq] at h; subst h
      exact rdStr_err h1
    · split at h
      · rename_i h2
        simp only [Except.error.injEq] at h; subst h
        exact ih h2
      · cases h
theorem rdStrs_more {l : List UInt8} (m : List UInt8) {most : Int} : ∀ {n k : Nat}, rdStrs l most n k ≠ .error 111 → rdStrs (l ++ m) most n k = rdStrs l most n k := by
  intro n
  induction n with
  | zero => intro k h; rfl
  | succ n ih =>
    intro k h
    unfold rdStrs at h ⊢
    have h1 : rdStr l k most ≠ .error 111 := by
      intro he; rw [he] at h; exact h rfl
    rw [rdStr_more m h1]
    cases hr : rdStr l k most with
    | error e => rfl
    | ok p =>
      obtain ⟨s, k1⟩ := p
      rw [hr] at h
      simp only [] at h ⊢
      have h2 : rdStrs l most n k1 ≠ .error 111 := by
        intro he; rw [he] at h; exact h rfl
      rw [ih h2]
def okErr {α : Type} : Except Int α → Int
  | .ok _ => 0
  | .error e => e
/-- What a call answers at the beginning of bytes. -/
def firstOf (l : List UInt8) (kind n most : Int) : List UInt8 × Int :=
  if kind = 0 then (if l.length < 1 then (low 1 0, 111) else (l.take 1, 0))
  else if kind = 1 then (if l.length < 2 then (low 2 0, 111) else (l.take 2, 0))
  else if kind = 2 then (if l.length < 4 then (low 4 0, 111) else (l.take 4, 0))
  else if kind = 3 then (if l.length < 8 then (low 8 0, 111) else (l.take 8, 0))
  else if kind = 4 then (if l.length < 8 then (low 8 0, 111) else (l.take 8, 0))
  else if kind = 6 then (if most < 0 then ([], 2) else match rdStr l 0 most with | .ok (s, _) => (s, 0) | .error e => ([], e))
  else if kind = 7 then (if n < 0 ∨ most < 0 then ([], 2) else match rdList l 0 n most with | .ok (r, _) => (r.flatMap (· ++ [124]), 0) | .error e => ([], e))
  else if n < 0 then ([], 2) else if l.length < n then ([], 111) else ([], 0)
theorem firstOf_more (l m : List UInt8) (kind n most : Int) :
    ((firstOf l kind n most).2 = 111 → (firstOf (l ++ m) kind n most).2 = 0 ∨ (firstOf (l ++ m) kind n most).2 = 110 ∨ (firstOf (l ++ m) kind n most).2 = 111) ∧
    ((firstOf l kind n most).2 ≠ 111 → firstOf (l ++ m) kind n most = firstOf l kind n most) := by
  have hw : ∀ w : Nat, ((if l.length < w then ((low w 0, 111) : List UInt8 × Int) else (l.take w, 0)).2 = 111 → (if (l ++ m).length < w then ((low w 0, 111) : List UInt8 × Int) else ((l ++ m).take w, 0)).2 = 0 ∨ (if (l ++ m).length < w then ((low w 0, 111) : List UInt8 × Int) else ((l ++ m).take w, 0)).2 = 110 ∨ (if (l ++ m).length < w then ((low w 0, 111) : List UInt8 × Int) else ((l ++ m).take w, 0)).2 = 111) ∧
      ((if l.length < w then ((low w 0, 111) : List UInt8 × Int) else (l.take w, 0)).2 ≠ 111 → (if (l ++ m).length < w then ((low w 0, 111) : List UInt8 × Int) else ((l ++ m).take w, 0)) = (if l.length < w then ((low w 0, 111) : List UInt8 × Int) else (l.take w, 0))) := by
    intro w
    refine ⟨fun _ => ?_, fun h => ?_⟩
    · split <;> simp
    · by_cases h1 : l.length < w
      · rw [if_pos h1] at h; exact absurd rfl h
      · rw [if_neg h1, if_neg (by rw [List.length_append]; omega), List.take_append_of_le_length (by omega)]
  unfold firstOf
  by_cases h0 : kind = 0
  · simp only [if_pos h0]; exact hw 1
  by_cases h1 : kind = 1
  · simp only [if_neg h0, if_pos h1]; exact hw 2
  by_cases h2 : kind = 2
  · simp only [if_neg h0, if_neg h1, if_pos h2]; exact hw 4
  by_cases h3 : kind = 3
  · simp only [if_neg h0, if_neg h1, if_neg h2, if_pos h3]; exact hw 8
  by_cases h4 : kind = 4
  · simp only [if_neg h0, if_neg h1, if_neg h2, if_neg h3, if_pos h4]; exact hw 8
  by_cases h6 : kind = 6
  · simp only [if_neg h0, if_neg h1, if_neg h2, if_neg h3, if_neg h4, if_pos h6]
    by_cases hm : most < 0
    · simp [hm]
    simp only [if_neg hm]
    refine ⟨fun _ => ?_, fun h => ?_⟩
    · cases hr : rdStr (l ++ m) 0 most with
      | ok p => exact .inl rfl
      | error e => exact .inr (rdStr_err hr)
    · rw [rdStr_more m]
      intro he; rw [he] at h; exact h rfl
  by_cases h7 : kind = 7
  · simp only [if_neg h0, if_neg h1, if_neg h2, if_neg h3, if_neg h4, if_neg h6, if_pos h7]
    by_cases hm : n < 0 ∨ most < 0
    · simp [hm]
    simp only [if_neg hm]
    refine ⟨fun _ => ?_, fun h => ?_⟩
    · cases hr : rdList (l ++ m) 0 n most with
      | ok p => exact .inl rfl
      | error e =>
        unfold rdList at hr
        split at hr
        · simp only [Except.error.injEq] at hr; exact .inr (.inr hr.symm)
        split at hr
        · simp only [Except.error.injEq] at hr; exact .inr (.inl hr.symm)
        · exact .inr (rdStrs_err hr)
    · have : rdList (l ++ m) 0 n most = rdList l 0 n most := by
        unfold rdList at h ⊢
        by_cases g1 : l.length < 0 + 4
        · rw [if_pos g1] at h; exact absurd rfl h
        rw [if_neg g1] at h ⊢
        rw [if_neg (by rw [List.length_append]; omega), take_drop_more (by omega)]
        by_cases g2 : n < num ((l.drop 0).take 4)
        · rw [if_pos g2, if_pos g2]
        rw [if_neg g2] at h ⊢
        rw [if_neg g2]
        apply rdStrs_more
        intro he; rw [he] at h; exact h rfl
      rw [this]
  simp only [if_neg h0, if_neg h1, if_neg h2, if_neg h3, if_neg h4, if_neg h6, if_neg h7]
  by_cases hn : n < 0
  · simp [hn]
  simp only [if_neg hn]
  refine ⟨fun _ => by split <;> simp, fun h => ?_⟩
  by_cases g1 : (l.length : Int) < n
  · rw [if_pos g1] at h; exact absurd rfl h
  · rw [if_neg g1, if_neg (by rw [List.length_append]; omega)]

/-! ### The walk -/
theorem first_ok {h : H} {b : Value} {l : List UInt8} (hb : By nos h b l) (hl : l.length ≤ 140737488351232) (kind n most : Int) (hm : -9223372036854775808 ≤ most ∧ most ≤ 9223372036854775807) (hn : -9223372036854775808 ≤ n ∧ n ≤ 9223372036854775807) :
    Ok Try.prog 25 #[b, .agg #[.int .i64 kind, .int .i64 n, .int .i64 most]] h fun v h' => v = .tuple #[.string ⟨(firstOf l kind n most).1.toArray⟩, .int .i64 (firstOf l kind n most).2] ∧ Ext h h' := by
  refine c25_ok (args := [_, _]) (by simp) ?_
  simp (disch := omega) only [dm_t, wA, wB, wL, wW, wY, Int.fdiv_eq_ediv_of_nonneg, Int.tdiv_eq_ediv_of_nonneg, Int.tmod_eq_emod_of_nonneg, chk_pos, decT, decF, br_pos, br_neg, wX, ↓reduceIte, Nat.reduceEqDiff, Nat.reduceAdd, Nat.reduceSub, Nat.reduceMul, Nat.reduceLeDiff, Nat.reduceLT, Nat.reduceMod, Nat.reduceDiv, Int.reduceToNat, Nat.min_eq_left, IntKind.bits, Int.reducePow, Int.reduceLT, Int.reduceLE, Int.reduceEq, Int.reduceNe, Int.reduceAdd, Int.reduceSub, and_self, reduceCtorEq, decide_eq_true_eq, decide_eq_false_iff_not, eq_self, implies_true, exists_const, Option.isNone_some, Option.isNone_none, Option.isSome_some, Option.isSome_none, Option.getD_some]
  intro ba hba
  have e0 := Ext.new hba (.cells #[.int .i64 kind, .int .i64 n, .int .i64 most] 49)
  simp (disch := omega) only [dm_t, wA, wB, wL, wW, wY, Int.fdiv_eq_ediv_of_nonneg, Int.tdiv_eq_ediv_of_nonneg, Int.tmod_eq_emod_of_nonneg, chk_pos, decT, decF, br_pos, br_neg, wX, ↓reduceIte, Nat.reduceEqDiff, Nat.reduceAdd, Nat.reduceSub, Nat.reduceMul, Nat.reduceLeDiff, Nat.reduceLT, Nat.reduceMod, Nat.reduceDiv, Int.reduceToNat, Nat.min_eq_left, IntKind.bits, Int.reducePow, Int.reduceLT, Int.reduceLE, Int.reduceEq, Int.reduceNe, Int.reduceAdd, Int.reduceSub, and_self, reduceCtorEq, decide_eq_true_eq, decide_eq_false_iff_not, eq_self, implies_true, exists_const, Option.isNone_some, Option.isNone_none, Option.isSome_some, Option.isSome_none, Option.getD_some]
  refine (New_ok (hb.ext e0) (by omega)).k ?_
  rintro _ h1 ⟨c, s, rfl, hc, r, e1⟩
  have hA : h1 ba = some (.cells #[.int .i64 kind, .int .i64 n, .int .i64 most] 49) := e1.at (hupd_same _ _ _)
  have e01 : Ext h h1 := e0.trans e1
  have hc0 : h c = none := e0.bk hc
  have ends : ∀ {h2 : H}, Fr (fun y => y = c) h1 h2 → Ext h h2 := fun f => Ext.step' e01 f fun x hx => by subst hx; exact hc0
  simp (disch := omega) only [dm_t, wA, wB, wL, wW, wY, Int.fdiv_eq_ediv_of_nonneg, Int.tdiv_eq_ediv_of_nonneg, Int.tmod_eq_emod_of_nonneg, chk_pos, decT, decF, br_pos, br_neg, wX, ↓reduceIte, Nat.reduceEqDiff, Nat.reduceAdd, Nat.reduceSub, Nat.reduceMul, Nat.reduceLeDiff, Nat.reduceLT, Nat.reduceMod, Nat.reduceDiv, Int.reduceToNat, Nat.min_eq_left, IntKind.bits, Int.reducePow, Int.reduceLT, Int.reduceLE, Int.reduceEq, Int.reduceNe, Int.reduceAdd, Int.reduceSub, and_self, reduceCtorEq, decide_eq_true_eq, decide_eq_false_iff_not, eq_self, implies_true, exists_const, Option.isNone_some, Option.isNone_none, Option.isSome_some, Option.isSome_none, Option.getD_some, cellAt_of hA]
  unfold firstOf
  by_cases k0 : kind = 0
  · rw [if_pos k0]
    subst k0
    simp (disch := omega) only [dm_t, wA, wB, wL, wW, wY, Int.fdiv_eq_ediv_of_nonneg, Int.tdiv_eq_ediv_of_nonneg, Int.tmod_eq_emod_of_nonneg, chk_pos, decT, decF, br_pos, br_neg, wX, ↓reduceIte, Nat.reduceEqDiff, Nat.reduceAdd, Nat.reduceSub, Nat.reduceMul, Nat.reduceLeDiff, Nat.reduceLT, Nat.reduceMod, Nat.reduceDiv, Int.reduceToNat, Nat.min_eq_left, IntKind.bits, Int.reducePow, Int.reduceLT, Int.reduceLE, Int.reduceEq, Int.reduceNe, Int.reduceAdd, Int.reduceSub, and_self, reduceCtorEq, decide_eq_true_eq, decide_eq_false_iff_not, eq_self, implies_true, exists_const, Option.isNone_some, Option.isNone_none, Option.isSome_some, Option.isSome_none, Option.getD_some]
    by_cases hw : l.length < 1
    · rw [if_pos hw]
      refine (U8_more r (by omega)).k ?_
      rintro _ _ ⟨rfl, rfl⟩
      simp (disch := omega) only [dm_t, wA, wB, wL, wW, wY, Int.fdiv_eq_ediv_of_nonneg, Int.tdiv_eq_ediv_of_nonneg, Int.tmod_eq_emod_of_nonneg, chk_pos, decT, decF, br_pos, br_neg, wX, ↓reduceIte, Nat.reduceEqDiff, Nat.reduceAdd, Nat.reduceSub, Nat.reduceMul, Nat.reduceLeDiff, Nat.reduceLT, Nat.reduceMod, Nat.reduceDiv, Int.reduceToNat, Nat.min_eq_left, IntKind.bits, Int.reducePow, Int.reduceLT, Int.reduceLE, Int.reduceEq, Int.reduceNe, Int.reduceAdd, Int.reduceSub, and_self, reduceCtorEq, decide_eq_true_eq, decide_eq_false_iff_not, eq_self, implies_true, exists_const, Option.isNone_some, Option.isNone_none, Option.isSome_some, Option.isSome_none, Option.getD_some]
      refine ⟨fun b1 hb1 => ⟨?_, ?_⟩, ?_⟩
      · refine cvbs_of (l := [0]) (slit1 [.int .u8 0] rfl) ?_
        simp (disch := omega) only [dm_t, wA, wB, wL, wW, wY, Int.fdiv_eq_ediv_of_nonneg, Int.tdiv_eq_ediv_of_nonneg, Int.tmod_eq_emod_of_nonneg, chk_pos, decT, decF, br_pos, br_neg, wX, ↓reduceIte, Nat.reduceEqDiff, Nat.reduceAdd, Nat.reduceSub, Nat.reduceMul, Nat.reduceLeDiff, Nat.reduceLT, Nat.reduceMod, Nat.reduceDiv, Int.reduceToNat, Nat.min_eq_left, IntKind.bits, Int.reducePow, Int.reduceLT, Int.reduceLE, Int.reduceEq, Int.reduceNe, Int.reduceAdd, Int.reduceSub, and_self, reduceCtorEq, decide_eq_true_eq, decide_eq_false_iff_not, eq_self, implies_true, exists_const, Option.isNone_some, Option.isNone_none, Option.isSome_some, Option.isSome_none, Option.getD_some]
        refine (num_ok _ _).k ?_
        rintro _ _ ⟨rfl, rfl⟩
        simp (disch := omega) only [dm_t, wA, wB, wL, wW, wY, Int.fdiv_eq_ediv_of_nonneg, Int.tdiv_eq_ediv_of_nonneg, Int.tmod_eq_emod_of_nonneg, chk_pos, decT, decF, br_pos, br_neg, wX, ↓reduceIte, Nat.reduceEqDiff, Nat.reduceAdd, Nat.reduceSub, Nat.reduceMul, Nat.reduceLeDiff, Nat.reduceLT, Nat.reduceMod, Nat.reduceDiv, Int.reduceToNat, Nat.min_eq_left, IntKind.bits, Int.reducePow, Int.reduceLT, Int.reduceLE, Int.reduceEq, Int.reduceNe, Int.reduceAdd, Int.reduceSub, and_self, reduceCtorEq, decide_eq_true_eq, decide_eq_false_iff_not, eq_self, implies_true, exists_const, Option.isNone_some, Option.isNone_none, Option.isSome_some, Option.isSome_none, Option.getD_some]
        first | exact ⟨by rfl, e01.trans (Ext.new hb1 _)⟩ | exact e01.trans (Ext.new hb1 _)
      · refine (num_ok _ _).k ?_
        rintro _ _ ⟨rfl, rfl⟩
        simp (disch := omega) only [dm_t, wA, wB, wL, wW, wY, Int.fdiv_eq_ediv_of_nonneg, Int.tdiv_eq_ediv_of_nonneg, Int.tmod_eq_emod_of_nonneg, chk_pos, decT, decF, br_pos, br_neg, wX, ↓reduceIte, Nat.reduceEqDiff, Nat.reduceAdd, Nat.reduceSub, Nat.reduceMul, Nat.reduceLeDiff, Nat.reduceLT, Nat.reduceMod, Nat.reduceDiv, Int.reduceToNat, Nat.min_eq_left, IntKind.bits, Int.reducePow, Int.reduceLT, Int.reduceLE, Int.reduceEq, Int.reduceNe, Int.reduceAdd, Int.reduceSub, and_self, reduceCtorEq, decide_eq_true_eq, decide_eq_false_iff_not, eq_self, implies_true, exists_const, Option.isNone_some, Option.isNone_none, Option.isSome_some, Option.isSome_none, Option.getD_some]
        refine cvbs_of (l := [0]) (slit1 [.int .u8 0] rfl) ?_
        simp (disch := omega) only [dm_t, wA, wB, wL, wW, wY, Int.fdiv_eq_ediv_of_nonneg, Int.tdiv_eq_ediv_of_nonneg, Int.tmod_eq_emod_of_nonneg, chk_pos, decT, decF, br_pos, br_neg, wX, ↓reduceIte, Nat.reduceEqDiff, Nat.reduceAdd, Nat.reduceSub, Nat.reduceMul, Nat.reduceLeDiff, Nat.reduceLT, Nat.reduceMod, Nat.reduceDiv, Int.reduceToNat, Nat.min_eq_left, IntKind.bits, Int.reducePow, Int.reduceLT, Int.reduceLE, Int.reduceEq, Int.reduceNe, Int.reduceAdd, Int.reduceSub, and_self, reduceCtorEq, decide_eq_true_eq, decide_eq_false_iff_not, eq_self, implies_true, exists_const, Option.isNone_some, Option.isNone_none, Option.isSome_some, Option.isSome_none, Option.getD_some]
        first | exact ⟨by rfl, e01.trans (Ext.new hb1 _)⟩ | exact e01.trans (Ext.new hb1 _)
      · refine (num_ok _ _).k ?_
        rintro _ _ ⟨rfl, rfl⟩
        simp (disch := omega) only [dm_t, wA, wB, wL, wW, wY, Int.fdiv_eq_ediv_of_nonneg, Int.tdiv_eq_ediv_of_nonneg, Int.tmod_eq_emod_of_nonneg, chk_pos, decT, decF, br_pos, br_neg, wX, ↓reduceIte, Nat.reduceEqDiff, Nat.reduceAdd, Nat.reduceSub, Nat.reduceMul, Nat.reduceLeDiff, Nat.reduceLT, Nat.reduceMod, Nat.reduceDiv, Int.reduceToNat, Nat.min_eq_left, IntKind.bits, Int.reducePow, Int.reduceLT, Int.reduceLE, Int.reduceEq, Int.reduceNe, Int.reduceAdd, Int.reduceSub, and_self, reduceCtorEq, decide_eq_true_eq, decide_eq_false_iff_not, eq_self, implies_true, exists_const, Option.isNone_some, Option.isNone_none, Option.isSome_some, Option.isSome_none, Option.getD_some]
        intro b1 hb1
        simp (disch := omega) only [dm_t, wA, wB, wL, wW, wY, Int.fdiv_eq_ediv_of_nonneg, Int.tdiv_eq_ediv_of_nonneg, Int.tmod_eq_emod_of_nonneg, chk_pos, decT, decF, br_pos, br_neg, wX, ↓reduceIte, Nat.reduceEqDiff, Nat.reduceAdd, Nat.reduceSub, Nat.reduceMul, Nat.reduceLeDiff, Nat.reduceLT, Nat.reduceMod, Nat.reduceDiv, Int.reduceToNat, Nat.min_eq_left, IntKind.bits, Int.reducePow, Int.reduceLT, Int.reduceLE, Int.reduceEq, Int.reduceNe, Int.reduceAdd, Int.reduceSub, and_self, reduceCtorEq, decide_eq_true_eq, decide_eq_false_iff_not, eq_self, implies_true, exists_const, Option.isNone_some, Option.isNone_none, Option.isSome_some, Option.isSome_none, Option.getD_some]
        refine cvbs_of (l := [0]) (slit1 [.int .u8 0] rfl) ?_
        simp (disch := omega) only [dm_t, wA, wB, wL, wW, wY, Int.fdiv_eq_ediv_of_nonneg, Int.tdiv_eq_ediv_of_nonneg, Int.tmod_eq_emod_of_nonneg, chk_pos, decT, decF, br_pos, br_neg, wX, ↓reduceIte, Nat.reduceEqDiff, Nat.reduceAdd, Nat.reduceSub, Nat.reduceMul, Nat.reduceLeDiff, Nat.reduceLT, Nat.reduceMod, Nat.reduceDiv, Int.reduceToNat, Nat.min_eq_left, IntKind.bits, Int.reducePow, Int.reduceLT, Int.reduceLE, Int.reduceEq, Int.reduceNe, Int.reduceAdd, Int.reduceSub, and_self, reduceCtorEq, decide_eq_true_eq, decide_eq_false_iff_not, eq_self, implies_true, exists_const, Option.isNone_some, Option.isNone_none, Option.isSome_some, Option.isSome_none, Option.getD_some]
        first | exact ⟨by rfl, e01.trans (Ext.new hb1 _)⟩ | exact e01.trans (Ext.new hb1 _)
    · rw [if_neg hw]
      refine (U8_ok r (by omega)).k ?_
      rintro _ h2 ⟨rfl, r2, f2⟩
      obtain ⟨x, t, rfl⟩ : ∃ x t, l = x :: t := by cases l with | nil => simp at hw | cons x t => exact ⟨x, t, rfl⟩
      rw [show num (List.take 1 (List.drop 0 (x :: t))) = x.toNat by simp [num]]
      simp (disch := omega) only [dm_t, wA, wB, wL, wW, wY, Int.fdiv_eq_ediv_of_nonneg, Int.tdiv_eq_ediv_of_nonneg, Int.tmod_eq_emod_of_nonneg, chk_pos, decT, decF, br_pos, br_neg, wX, ↓reduceIte, Nat.reduceEqDiff, Nat.reduceAdd, Nat.reduceSub, Nat.reduceMul, Nat.reduceLeDiff, Nat.reduceLT, Nat.reduceMod, Nat.reduceDiv, Int.reduceToNat, Nat.min_eq_left, IntKind.bits, Int.reducePow, Int.reduceLT, Int.reduceLE, Int.reduceEq, Int.reduceNe, Int.reduceAdd, Int.reduceSub, and_self, reduceCtorEq, decide_eq_true_eq, decide_eq_false_iff_not, eq_self, implies_true, exists_const, Option.isNone_some, Option.isNone_none, Option.isSome_some, Option.isSome_none, Option.getD_some]
      refine ⟨fun b1 hb1 => ⟨?_, ?_⟩, ?_⟩
      · refine cvbs_of (l := [x]) (slit1 [.int .u8 (x.toNat : Int)] rfl) ?_
        simp (disch := omega) only [dm_t, wA, wB, wL, wW, wY, Int.fdiv_eq_ediv_of_nonneg, Int.tdiv_eq_ediv_of_nonneg, Int.tmod_eq_emod_of_nonneg, chk_pos, decT, decF, br_pos, br_neg, wX, ↓reduceIte, Nat.reduceEqDiff, Nat.reduceAdd, Nat.reduceSub, Nat.reduceMul, Nat.reduceLeDiff, Nat.reduceLT, Nat.reduceMod, Nat.reduceDiv, Int.reduceToNat, Nat.min_eq_left, IntKind.bits, Int.reducePow, Int.reduceLT, Int.reduceLE, Int.reduceEq, Int.reduceNe, Int.reduceAdd, Int.reduceSub, and_self, reduceCtorEq, decide_eq_true_eq, decide_eq_false_iff_not, eq_self, implies_true, exists_const, Option.isNone_some, Option.isNone_none, Option.isSome_some, Option.isSome_none, Option.getD_some]
        refine (num_ok _ _).k ?_
        rintro _ _ ⟨rfl, rfl⟩
        simp (disch := omega) only [dm_t, wA, wB, wL, wW, wY, Int.fdiv_eq_ediv_of_nonneg, Int.tdiv_eq_ediv_of_nonneg, Int.tmod_eq_emod_of_nonneg, chk_pos, decT, decF, br_pos, br_neg, wX, ↓reduceIte, Nat.reduceEqDiff, Nat.reduceAdd, Nat.reduceSub, Nat.reduceMul, Nat.reduceLeDiff, Nat.reduceLT, Nat.reduceMod, Nat.reduceDiv, Int.reduceToNat, Nat.min_eq_left, IntKind.bits, Int.reducePow, Int.reduceLT, Int.reduceLE, Int.reduceEq, Int.reduceNe, Int.reduceAdd, Int.reduceSub, and_self, reduceCtorEq, decide_eq_true_eq, decide_eq_false_iff_not, eq_self, implies_true, exists_const, Option.isNone_some, Option.isNone_none, Option.isSome_some, Option.isSome_none, Option.getD_some]
        first | exact ⟨by rfl, (ends f2).trans (Ext.new hb1 _)⟩ | exact (ends f2).trans (Ext.new hb1 _)
      · refine (num_ok _ _).k ?_
        rintro _ _ ⟨rfl, rfl⟩
        simp (disch := omega) only [dm_t, wA, wB, wL, wW, wY, Int.fdiv_eq_ediv_of_nonneg, Int.tdiv_eq_ediv_of_nonneg, Int.tmod_eq_emod_of_nonneg, chk_pos, decT, decF, br_pos, br_neg, wX, ↓reduceIte, Nat.reduceEqDiff, Nat.reduceAdd, Nat.reduceSub, Nat.reduceMul, Nat.reduceLeDiff, Nat.reduceLT, Nat.reduceMod, Nat.reduceDiv, Int.reduceToNat, Nat.min_eq_left, IntKind.bits, Int.reducePow, Int.reduceLT, Int.reduceLE, Int.reduceEq, Int.reduceNe, Int.reduceAdd, Int.reduceSub, and_self, reduceCtorEq, decide_eq_true_eq, decide_eq_false_iff_not, eq_self, implies_true, exists_const, Option.isNone_some, Option.isNone_none, Option.isSome_some, Option.isSome_none, Option.getD_some]
        refine cvbs_of (l := [x]) (slit1 [.int .u8 (x.toNat : Int)] rfl) ?_
        simp (disch := omega) only [dm_t, wA, wB, wL, wW, wY, Int.fdiv_eq_ediv_of_nonneg, Int.tdiv_eq_ediv_of_nonneg, Int.tmod_eq_emod_of_nonneg, chk_pos, decT, decF, br_pos, br_neg, wX, ↓reduceIte, Nat.reduceEqDiff, Nat.reduceAdd, Nat.reduceSub, Nat.reduceMul, Nat.reduceLeDiff, Nat.reduceLT, Nat.reduceMod, Nat.reduceDiv, Int.reduceToNat, Nat.min_eq_left, IntKind.bits, Int.reducePow, Int.reduceLT, Int.reduceLE, Int.reduceEq, Int.reduceNe, Int.reduceAdd, Int.reduceSub, and_self, reduceCtorEq, decide_eq_true_eq, decide_eq_false_iff_not, eq_self, implies_true, exists_const, Option.isNone_some, Option.isNone_none, Option.isSome_some, Option.isSome_none, Option.getD_some]
        first | exact ⟨by rfl, (ends f2).trans (Ext.new hb1 _)⟩ | exact (ends f2).trans (Ext.new hb1 _)
      · refine (num_ok _ _).k ?_
        rintro _ _ ⟨rfl, rfl⟩
        simp (disch := omega) only [dm_t, wA, wB, wL, wW, wY, Int.fdiv_eq_ediv_of_nonneg, Int.tdiv_eq_ediv_of_nonneg, Int.tmod_eq_emod_of_nonneg, chk_pos, decT, decF, br_pos, br_neg, wX, ↓reduceIte, Nat.reduceEqDiff, Nat.reduceAdd, Nat.reduceSub, Nat.reduceMul, Nat.reduceLeDiff, Nat.reduceLT, Nat.reduceMod, Nat.reduceDiv, Int.reduceToNat, Nat.min_eq_left, IntKind.bits, Int.reducePow, Int.reduceLT, Int.reduceLE, Int.reduceEq, Int.reduceNe, Int.reduceAdd, Int.reduceSub, and_self, reduceCtorEq, decide_eq_true_eq, decide_eq_false_iff_not, eq_self, implies_true, exists_const, Option.isNone_some, Option.isNone_none, Option.isSome_some, Option.isSome_none, Option.getD_some]
        intro b1 hb1
        simp (disch := omega) only [dm_t, wA, wB, wL, wW, wY, Int.fdiv_eq_ediv_of_nonneg, Int.tdiv_eq_ediv_of_nonneg, Int.tmod_eq_emod_of_nonneg, chk_pos, decT, decF, br_pos, br_neg, wX, ↓reduceIte, Nat.reduceEqDiff, Nat.reduceAdd, Nat.reduceSub, Nat.reduceMul, Nat.reduceLeDiff, Nat.reduceLT, Nat.reduceMod, Nat.reduceDiv, Int.reduceToNat, Nat.min_eq_left, IntKind.bits, Int.reducePow, Int.reduceLT, Int.reduceLE, Int.reduceEq, Int.reduceNe, Int.reduceAdd, Int.reduceSub, and_self, reduceCtorEq, decide_eq_true_eq, decide_eq_false_iff_not, eq_self, implies_true, exists_const, Option.isNone_some, Option.isNone_none, Option.isSome_some, Option.isSome_none, Option.getD_some]
        refine cvbs_of (l := [x]) (slit1 [.int .u8 (x.toNat : Int)] rfl) ?_
        simp (disch := omega) only [dm_t, wA, wB, wL, wW, wY, Int.fdiv_eq_ediv_of_nonneg, Int.tdiv_eq_ediv_of_nonneg, Int.tmod_eq_emod_of_nonneg, chk_pos, decT, decF, br_pos, br_neg, wX, ↓reduceIte, Nat.reduceEqDiff, Nat.reduceAdd, Nat.reduceSub, Nat.reduceMul, Nat.reduceLeDiff, Nat.reduceLT, Nat.reduceMod, Nat.reduceDiv, Int.reduceToNat, Nat.min_eq_left, IntKind.bits, Int.reducePow, Int.reduceLT, Int.reduceLE, Int.reduceEq, Int.reduceNe, Int.reduceAdd, Int.reduceSub, and_self, reduceCtorEq, decide_eq_true_eq, decide_eq_false_iff_not, eq_self, implies_true, exists_const, Option.isNone_some, Option.isNone_none, Option.isSome_some, Option.isSome_none, Option.getD_some]
        first | exact ⟨by rfl, (ends f2).trans (Ext.new hb1 _)⟩ | exact (ends f2).trans (Ext.new hb1 _)
  rw [if_neg k0]
  by_cases k1 : kind = 1
  · rw [if_pos k1]
    subst k1
    simp (disch := omega) only [dm_t, wA, wB, wL, wW, wY, Int.fdiv_eq_ediv_of_nonneg, Int.tdiv_eq_ediv_of_nonneg, Int.tmod_eq_emod_of_nonneg, chk_pos, decT, decF, br_pos, br_neg, wX, ↓reduceIte, Nat.reduceEqDiff, Nat.reduceAdd, Nat.reduceSub, Nat.reduceMul, Nat.reduceLeDiff, Nat.reduceLT, Nat.reduceMod, Nat.reduceDiv, Int.reduceToNat, Nat.min_eq_left, IntKind.bits, Int.reducePow, Int.reduceLT, Int.reduceLE, Int.reduceEq, Int.reduceNe, Int.reduceAdd, Int.reduceSub, and_self, reduceCtorEq, decide_eq_true_eq, decide_eq_false_iff_not, eq_self, implies_true, exists_const, Option.isNone_some, Option.isNone_none, Option.isSome_some, Option.isSome_none, Option.getD_some]
    by_cases hw : l.length < 2
    · rw [if_pos hw]
      refine (U16_more r (by omega)).k ?_
      rintro _ _ ⟨rfl, rfl⟩
      simp (disch := omega) only [dm_t, wA, wB, wL, wW, wY, Int.fdiv_eq_ediv_of_nonneg, Int.tdiv_eq_ediv_of_nonneg, Int.tmod_eq_emod_of_nonneg, chk_pos, decT, decF, br_pos, br_neg, wX, ↓reduceIte, Nat.reduceEqDiff, Nat.reduceAdd, Nat.reduceSub, Nat.reduceMul, Nat.reduceLeDiff, Nat.reduceLT, Nat.reduceMod, Nat.reduceDiv, Int.reduceToNat, Nat.min_eq_left, IntKind.bits, Int.reducePow, Int.reduceLT, Int.reduceLE, Int.reduceEq, Int.reduceNe, Int.reduceAdd, Int.reduceSub, and_self, reduceCtorEq, decide_eq_true_eq, decide_eq_false_iff_not, eq_self, implies_true, exists_const, Option.isNone_some, Option.isNone_none, Option.isSome_some, Option.isSome_none, Option.getD_some]
      refine (u16_ok (l := []) (By.nil (S := nos)) 0 (by omega) (by simp)).k ?_
      rintro v h2 ⟨o2, e2⟩
      simp (disch := omega) only [dm_t, wA, wB, wL, wW, wY, Int.fdiv_eq_ediv_of_nonneg, Int.tdiv_eq_ediv_of_nonneg, Int.tmod_eq_emod_of_nonneg, chk_pos, decT, decF, br_pos, br_neg, wX, ↓reduceIte, Nat.reduceEqDiff, Nat.reduceAdd, Nat.reduceSub, Nat.reduceMul, Nat.reduceLeDiff, Nat.reduceLT, Nat.reduceMod, Nat.reduceDiv, Int.reduceToNat, Nat.min_eq_left, IntKind.bits, Int.reducePow, Int.reduceLT, Int.reduceLE, Int.reduceEq, Int.reduceNe, Int.reduceAdd, Int.reduceSub, and_self, reduceCtorEq, decide_eq_true_eq, decide_eq_false_iff_not, eq_self, implies_true, exists_const, Option.isNone_some, Option.isNone_none, Option.isSome_some, Option.isSome_none, Option.getD_some]
      refine ⟨?_, ?_⟩
      · refine cvbs_of o2.s0 ?_
        simp (disch := omega) only [dm_t, wA, wB, wL, wW, wY, Int.fdiv_eq_ediv_of_nonneg, Int.tdiv_eq_ediv_of_nonneg, Int.tmod_eq_emod_of_nonneg, chk_pos, decT, decF, br_pos, br_neg, wX, ↓reduceIte, Nat.reduceEqDiff, Nat.reduceAdd, Nat.reduceSub, Nat.reduceMul, Nat.reduceLeDiff, Nat.reduceLT, Nat.reduceMod, Nat.reduceDiv, Int.reduceToNat, Nat.min_eq_left, IntKind.bits, Int.reducePow, Int.reduceLT, Int.reduceLE, Int.reduceEq, Int.reduceNe, Int.reduceAdd, Int.reduceSub, and_self, reduceCtorEq, decide_eq_true_eq, decide_eq_false_iff_not, eq_self, implies_true, exists_const, Option.isNone_some, Option.isNone_none, Option.isSome_some, Option.isSome_none, Option.getD_some]
        refine (num_ok _ _).k ?_
        rintro _ _ ⟨rfl, rfl⟩
        simp (disch := omega) only [dm_t, wA, wB, wL, wW, wY, Int.fdiv_eq_ediv_of_nonneg, Int.tdiv_eq_ediv_of_nonneg, Int.tmod_eq_emod_of_nonneg, chk_pos, decT, decF, br_pos, br_neg, wX, ↓reduceIte, Nat.reduceEqDiff, Nat.reduceAdd, Nat.reduceSub, Nat.reduceMul, Nat.reduceLeDiff, Nat.reduceLT, Nat.reduceMod, Nat.reduceDiv, Int.reduceToNat, Nat.min_eq_left, IntKind.bits, Int.reducePow, Int.reduceLT, Int.reduceLE, Int.reduceEq, Int.reduceNe, Int.reduceAdd, Int.reduceSub, and_self, reduceCtorEq, decide_eq_true_eq, decide_eq_false_iff_not, eq_self, implies_true, exists_const, Option.isNone_some, Option.isNone_none, Option.isSome_some, Option.isSome_none, Option.getD_some]
        first | exact ⟨by rfl, e01.trans e2⟩ | exact e01.trans e2
      · refine (num_ok _ _).k ?_
        rintro _ _ ⟨rfl, rfl⟩
        simp (disch := omega) only [dm_t, wA, wB, wL, wW, wY, Int.fdiv_eq_ediv_of_nonneg, Int.tdiv_eq_ediv_of_nonneg, Int.tmod_eq_emod_of_nonneg, chk_pos, decT, decF, br_pos, br_neg, wX, ↓reduceIte, Nat.reduceEqDiff, Nat.reduceAdd, Nat.reduceSub, Nat.reduceMul, Nat.reduceLeDiff, Nat.reduceLT, Nat.reduceMod, Nat.reduceDiv, Int.reduceToNat, Nat.min_eq_left, IntKind.bits, Int.reducePow, Int.reduceLT, Int.reduceLE, Int.reduceEq, Int.reduceNe, Int.reduceAdd, Int.reduceSub, and_self, reduceCtorEq, decide_eq_true_eq, decide_eq_false_iff_not, eq_self, implies_true, exists_const, Option.isNone_some, Option.isNone_none, Option.isSome_some, Option.isSome_none, Option.getD_some]
        refine cvbs_of o2.s0 ?_
        simp (disch := omega) only [dm_t, wA, wB, wL, wW, wY, Int.fdiv_eq_ediv_of_nonneg, Int.tdiv_eq_ediv_of_nonneg, Int.tmod_eq_emod_of_nonneg, chk_pos, decT, decF, br_pos, br_neg, wX, ↓reduceIte, Nat.reduceEqDiff, Nat.reduceAdd, Nat.reduceSub, Nat.reduceMul, Nat.reduceLeDiff, Nat.reduceLT, Nat.reduceMod, Nat.reduceDiv, Int.reduceToNat, Nat.min_eq_left, IntKind.bits, Int.reducePow, Int.reduceLT, Int.reduceLE, Int.reduceEq, Int.reduceNe, Int.reduceAdd, Int.reduceSub, and_self, reduceCtorEq, decide_eq_true_eq, decide_eq_false_iff_not, eq_self, implies_true, exists_const, Option.isNone_some, Option.isNone_none, Option.isSome_some, Option.isSome_none, Option.getD_some]
        first | exact ⟨by rfl, e01.trans e2⟩ | exact e01.trans e2
    · rw [if_neg hw]
      have hw2 : ((l.drop 0).take 2).length = 2 := by rw [List.length_take, List.length_drop]; omega
      have hx := num_lt ((l.drop 0).take 2)
      have hln := low_num ((l.drop 0).take 2)
      rw [hw2] at hx hln
      refine (U16_ok r (by omega)).k ?_
      rintro _ h2 ⟨rfl, r2, f2⟩
      simp (disch := omega) only [dm_t, wA, wB, wL, wW, wY, Int.fdiv_eq_ediv_of_nonneg, Int.tdiv_eq_ediv_of_nonneg, Int.tmod_eq_emod_of_nonneg, chk_pos, decT, decF, br_pos, br_neg, wX, ↓reduceIte, Nat.reduceEqDiff, Nat.reduceAdd, Nat.reduceSub, Nat.reduceMul, Nat.reduceLeDiff, Nat.reduceLT, Nat.reduceMod, Nat.reduceDiv, Int.reduceToNat, Nat.min_eq_left, IntKind.bits, Int.reducePow, Int.reduceLT, Int.reduceLE, Int.reduceEq, Int.reduceNe, Int.reduceAdd, Int.reduceSub, and_self, reduceCtorEq, decide_eq_true_eq, decide_eq_false_iff_not, eq_self, implies_true, exists_const, Option.isNone_some, Option.isNone_none, Option.isSome_some, Option.isSome_none, Option.getD_some]
      refine (u16_ok (l := []) (By.nil (S := nos)) (num ((l.drop 0).take 2)) hx (by simp)).k ?_
      rintro v h3 ⟨o3, e3⟩
      rw [List.nil_append, hln] at o3
      simp (disch := omega) only [dm_t, wA, wB, wL, wW, wY, Int.fdiv_eq_ediv_of_nonneg, Int.tdiv_eq_ediv_of_nonneg, Int.tmod_eq_emod_of_nonneg, chk_pos, decT, decF, br_pos, br_neg, wX, ↓reduceIte, Nat.reduceEqDiff, Nat.reduceAdd, Nat.reduceSub, Nat.reduceMul, Nat.reduceLeDiff, Nat.reduceLT, Nat.reduceMod, Nat.reduceDiv, Int.reduceToNat, Nat.min_eq_left, IntKind.bits, Int.reducePow, Int.reduceLT, Int.reduceLE, Int.reduceEq, Int.reduceNe, Int.reduceAdd, Int.reduceSub, and_self, reduceCtorEq, decide_eq_true_eq, decide_eq_false_iff_not, eq_self, implies_true, exists_const, Option.isNone_some, Option.isNone_none, Option.isSome_some, Option.isSome_none, Option.getD_some]
      refine ⟨?_, ?_⟩
      · refine cvbs_of o3.s0 ?_
        simp (disch := omega) only [dm_t, wA, wB, wL, wW, wY, Int.fdiv_eq_ediv_of_nonneg, Int.tdiv_eq_ediv_of_nonneg, Int.tmod_eq_emod_of_nonneg, chk_pos, decT, decF, br_pos, br_neg, wX, ↓reduceIte, Nat.reduceEqDiff, Nat.reduceAdd, Nat.reduceSub, Nat.reduceMul, Nat.reduceLeDiff, Nat.reduceLT, Nat.reduceMod, Nat.reduceDiv, Int.reduceToNat, Nat.min_eq_left, IntKind.bits, Int.reducePow, Int.reduceLT, Int.reduceLE, Int.reduceEq, Int.reduceNe, Int.reduceAdd, Int.reduceSub, and_self, reduceCtorEq, decide_eq_true_eq, decide_eq_false_iff_not, eq_self, implies_true, exists_const, Option.isNone_some, Option.isNone_none, Option.isSome_some, Option.isSome_none, Option.getD_some]
        refine (num_ok _ _).k ?_
        rintro _ _ ⟨rfl, rfl⟩
        simp (disch := omega) only [dm_t, wA, wB, wL, wW, wY, Int.fdiv_eq_ediv_of_nonneg, Int.tdiv_eq_ediv_of_nonneg, Int.tmod_eq_emod_of_nonneg, chk_pos, decT, decF, br_pos, br_neg, wX, ↓reduceIte, Nat.reduceEqDiff, Nat.reduceAdd, Nat.reduceSub, Nat.reduceMul, Nat.reduceLeDiff, Nat.reduceLT, Nat.reduceMod, Nat.reduceDiv, Int.reduceToNat, Nat.min_eq_left, IntKind.bits, Int.reducePow, Int.reduceLT, Int.reduceLE, Int.reduceEq, Int.reduceNe, Int.reduceAdd, Int.reduceSub, and_self, reduceCtorEq, decide_eq_true_eq, decide_eq_false_iff_not, eq_self, implies_true, exists_const, Option.isNone_some, Option.isNone_none, Option.isSome_some, Option.isSome_none, Option.getD_some]
        first | exact ⟨by rfl, (ends f2).trans e3⟩ | exact (ends f2).trans e3
      · refine (num_ok _ _).k ?_
        rintro _ _ ⟨rfl, rfl⟩
        simp (disch := omega) only [dm_t, wA, wB, wL, wW, wY, Int.fdiv_eq_ediv_of_nonneg, Int.tdiv_eq_ediv_of_nonneg, Int.tmod_eq_emod_of_nonneg, chk_pos, decT, decF, br_pos, br_neg, wX, ↓reduceIte, Nat.reduceEqDiff, Nat.reduceAdd, Nat.reduceSub, Nat.reduceMul, Nat.reduceLeDiff, Nat.reduceLT, Nat.reduceMod, Nat.reduceDiv, Int.reduceToNat, Nat.min_eq_left, IntKind.bits, Int.reducePow, Int.reduceLT, Int.reduceLE, Int.reduceEq, Int.reduceNe, Int.reduceAdd, Int.reduceSub, and_self, reduceCtorEq, decide_eq_true_eq, decide_eq_false_iff_not, eq_self, implies_true, exists_const, Option.isNone_some, Option.isNone_none, Option.isSome_some, Option.isSome_none, Option.getD_some]
        refine cvbs_of o3.s0 ?_
        simp (disch := omega) only [dm_t, wA, wB, wL, wW, wY, Int.fdiv_eq_ediv_of_nonneg, Int.tdiv_eq_ediv_of_nonneg, Int.tmod_eq_emod_of_nonneg, chk_pos, decT, decF, br_pos, br_neg, wX, ↓reduceIte, Nat.reduceEqDiff, Nat.reduceAdd, Nat.reduceSub, Nat.reduceMul, Nat.reduceLeDiff, Nat.reduceLT, Nat.reduceMod, Nat.reduceDiv, Int.reduceToNat, Nat.min_eq_left, IntKind.bits, Int.reducePow, Int.reduceLT, Int.reduceLE, Int.reduceEq, Int.reduceNe, Int.reduceAdd, Int.reduceSub, and_self, reduceCtorEq, decide_eq_true_eq, decide_eq_false_iff_not, eq_self, implies_true, exists_const, Option.isNone_some, Option.isNone_none, Option.isSome_some, Option.isSome_none, Option.getD_some]
        first | exact ⟨by rfl, (ends f2).trans e3⟩ | exact (ends f2).trans e3
  rw [if_neg k1]
  by_cases k2 : kind = 2
  · rw [if_pos k2]
    subst k2
    simp (disch := omega) only [dm_t, wA, wB, wL, wW, wY, Int.fdiv_eq_ediv_of_nonneg, Int.tdiv_eq_ediv_of_nonneg, Int.tmod_eq_emod_of_nonneg, chk_pos, decT, decF, br_pos, br_neg, wX, ↓reduceIte, Nat.reduceEqDiff, Nat.reduceAdd, Nat.reduceSub, Nat.reduceMul, Nat.reduceLeDiff, Nat.reduceLT, Nat.reduceMod, Nat.reduceDiv, Int.reduceToNat, Nat.min_eq_left, IntKind.bits, Int.reducePow, Int.reduceLT, Int.reduceLE, Int.reduceEq, Int.reduceNe, Int.reduceAdd, Int.reduceSub, and_self, reduceCtorEq, decide_eq_true_eq, decide_eq_false_iff_not, eq_self, implies_true, exists_const, Option.isNone_some, Option.isNone_none, Option.isSome_some, Option.isSome_none, Option.getD_some]
    by_cases hw : l.length < 4
    · rw [if_pos hw]
      refine (U32_more r (by omega)).k ?_
      rintro _ _ ⟨rfl, rfl⟩
      simp (disch := omega) only [dm_t, wA, wB, wL, wW, wY, Int.fdiv_eq_ediv_of_nonneg, Int.tdiv_eq_ediv_of_nonneg, Int.tmod_eq_emod_of_nonneg, chk_pos, decT, decF, br_pos, br_neg, wX, ↓reduceIte, Nat.reduceEqDiff, Nat.reduceAdd, Nat.reduceSub, Nat.reduceMul, Nat.reduceLeDiff, Nat.reduceLT, Nat.reduceMod, Nat.reduceDiv, Int.reduceToNat, Nat.min_eq_left, IntKind.bits, Int.reducePow, Int.reduceLT, Int.reduceLE, Int.reduceEq, Int.reduceNe, Int.reduceAdd, Int.reduceSub, and_self, reduceCtorEq, decide_eq_true_eq, decide_eq_false_iff_not, eq_self, implies_true, exists_const, Option.isNone_some, Option.isNone_none, Option.isSome_some, Option.isSome_none, Option.getD_some]
      refine (u32_ok (l := []) (By.nil (S := nos)) 0 (by omega) (by simp)).k ?_
      rintro v h2 ⟨o2, e2⟩
      simp (disch := omega) only [dm_t, wA, wB, wL, wW, wY, Int.fdiv_eq_ediv_of_nonneg, Int.tdiv_eq_ediv_of_nonneg, Int.tmod_eq_emod_of_nonneg, chk_pos, decT, decF, br_pos, br_neg, wX, ↓reduceIte, Nat.reduceEqDiff, Nat.reduceAdd, Nat.reduceSub, Nat.reduceMul, Nat.reduceLeDiff, Nat.reduceLT, Nat.reduceMod, Nat.reduceDiv, Int.reduceToNat, Nat.min_eq_left, IntKind.bits, Int.reducePow, Int.reduceLT, Int.reduceLE, Int.reduceEq, Int.reduceNe, Int.reduceAdd, Int.reduceSub, and_self, reduceCtorEq, decide_eq_true_eq, decide_eq_false_iff_not, eq_self, implies_true, exists_const, Option.isNone_some, Option.isNone_none, Option.isSome_some, Option.isSome_none, Option.getD_some]
      refine ⟨?_, ?_⟩
      · refine cvbs_of o2.s0 ?_
        simp (disch := omega) only [dm_t, wA, wB, wL, wW, wY, Int.fdiv_eq_ediv_of_nonneg, Int.tdiv_eq_ediv_of_nonneg, Int.tmod_eq_emod_of_nonneg, chk_pos, decT, decF, br_pos, br_neg, wX, ↓reduceIte, Nat.reduceEqDiff, Nat.reduceAdd, Nat.reduceSub, Nat.reduceMul, Nat.reduceLeDiff, Nat.reduceLT, Nat.reduceMod, Nat.reduceDiv, Int.reduceToNat, Nat.min_eq_left, IntKind.bits, Int.reducePow, Int.reduceLT, Int.reduceLE, Int.reduceEq, Int.reduceNe, Int.reduceAdd, Int.reduceSub, and_self, reduceCtorEq, decide_eq_true_eq, decide_eq_false_iff_not, eq_self, implies_true, exists_const, Option.isNone_some, Option.isNone_none, Option.isSome_some, Option.isSome_none, Option.getD_some]
        refine (num_ok _ _).k ?_
        rintro _ _ ⟨rfl, rfl⟩
        simp (disch := omega) only [dm_t, wA, wB, wL, wW, wY, Int.fdiv_eq_ediv_of_nonneg, Int.tdiv_eq_ediv_of_nonneg, Int.tmod_eq_emod_of_nonneg, chk_pos, decT, decF, br_pos, br_neg, wX, ↓reduceIte, Nat.reduceEqDiff, Nat.reduceAdd, Nat.reduceSub, Nat.reduceMul, Nat.reduceLeDiff, Nat.reduceLT, Nat.reduceMod, Nat.reduceDiv, Int.reduceToNat, Nat.min_eq_left, IntKind.bits, Int.reducePow, Int.reduceLT, Int.reduceLE, Int.reduceEq, Int.reduceNe, Int.reduceAdd, Int.reduceSub, and_self, reduceCtorEq, decide_eq_true_eq, decide_eq_false_iff_not, eq_self, implies_true, exists_const, Option.isNone_some, Option.isNone_none, Option.isSome_some, Option.isSome_none, Option.getD_some]
        first | exact ⟨by rfl, e01.trans e2⟩ | exact e01.trans e2
      · refine (num_ok _ _).k ?_
        rintro _ _ ⟨rfl, rfl⟩
        simp (disch := omega) only [dm_t, wA, wB, wL, wW, wY, Int.fdiv_eq_ediv_of_nonneg, Int.tdiv_eq_ediv_of_nonneg, Int.tmod_eq_emod_of_nonneg, chk_pos, decT, decF, br_pos, br_neg, wX, ↓reduceIte, Nat.reduceEqDiff, Nat.reduceAdd, Nat.reduceSub, Nat.reduceMul, Nat.reduceLeDiff, Nat.reduceLT, Nat.reduceMod, Nat.reduceDiv, Int.reduceToNat, Nat.min_eq_left, IntKind.bits, Int.reducePow, Int.reduceLT, Int.reduceLE, Int.reduceEq, Int.reduceNe, Int.reduceAdd, Int.reduceSub, and_self, reduceCtorEq, decide_eq_true_eq, decide_eq_false_iff_not, eq_self, implies_true, exists_const, Option.isNone_some, Option.isNone_none, Option.isSome_some, Option.isSome_none, Option.getD_some]
        refine cvbs_of o2.s0 ?_
        simp (disch := omega) only [dm_t, wA, wB, wL, wW, wY, Int.fdiv_eq_ediv_of_nonneg, Int.tdiv_eq_ediv_of_nonneg, Int.tmod_eq_emod_of_nonneg, chk_pos, decT, decF, br_pos, br_neg, wX, ↓reduceIte, Nat.reduceEqDiff, Nat.reduceAdd, Nat.reduceSub, Nat.reduceMul, Nat.reduceLeDiff, Nat.reduceLT, Nat.reduceMod, Nat.reduceDiv, Int.reduceToNat, Nat.min_eq_left, IntKind.bits, Int.reducePow, Int.reduceLT, Int.reduceLE, Int.reduceEq, Int.reduceNe, Int.reduceAdd, Int.reduceSub, and_self, reduceCtorEq, decide_eq_true_eq, decide_eq_false_iff_not, eq_self, implies_true, exists_const, Option.isNone_some, Option.isNone_none, Option.isSome_some, Option.isSome_none, Option.getD_some]
        first | exact ⟨by rfl, e01.trans e2⟩ | exact e01.trans e2
    · rw [if_neg hw]
      have hw2 : ((l.drop 0).take 4).length = 4 := by rw [List.length_take, List.length_drop]; omega
      have hx := num_lt ((l.drop 0).take 4)
      have hln := low_num ((l.drop 0).take 4)
      rw [hw2] at hx hln
      refine (U32_ok r (by omega)).k ?_
      rintro _ h2 ⟨rfl, r2, f2⟩
      simp (disch := omega) only [dm_t, wA, wB, wL, wW, wY, Int.fdiv_eq_ediv_of_nonneg, Int.tdiv_eq_ediv_of_nonneg, Int.tmod_eq_emod_of_nonneg, chk_pos, decT, decF, br_pos, br_neg, wX, ↓reduceIte, Nat.reduceEqDiff, Nat.reduceAdd, Nat.reduceSub, Nat.reduceMul, Nat.reduceLeDiff, Nat.reduceLT, Nat.reduceMod, Nat.reduceDiv, Int.reduceToNat, Nat.min_eq_left, IntKind.bits, Int.reducePow, Int.reduceLT, Int.reduceLE, Int.reduceEq, Int.reduceNe, Int.reduceAdd, Int.reduceSub, and_self, reduceCtorEq, decide_eq_true_eq, decide_eq_false_iff_not, eq_self, implies_true, exists_const, Option.isNone_some, Option.isNone_none, Option.isSome_some, Option.isSome_none, Option.getD_some]
      refine (u32_ok (l := []) (By.nil (S := nos)) (num ((l.drop 0).take 4)) hx (by simp)).k ?_
      rintro v h3 ⟨o3, e3⟩
      rw [List.nil_append, hln] at o3
      simp (disch := omega) only [dm_t, wA, wB, wL, wW, wY, Int.fdiv_eq_ediv_of_nonneg, Int.tdiv_eq_ediv_of_nonneg, Int.tmod_eq_emod_of_nonneg, chk_pos, decT, decF, br_pos, br_neg, wX, ↓reduceIte, Nat.reduceEqDiff, Nat.reduceAdd, Nat.reduceSub, Nat.reduceMul, Nat.reduceLeDiff, Nat.reduceLT, Nat.reduceMod, Nat.reduceDiv, Int.reduceToNat, Nat.min_eq_left, IntKind.bits, Int.reducePow, Int.reduceLT, Int.reduceLE, Int.reduceEq, Int.reduceNe, Int.reduceAdd, Int.reduceSub, and_self, reduceCtorEq, decide_eq_true_eq, decide_eq_false_iff_not, eq_self, implies_true, exists_const, Option.isNone_some, Option.isNone_none, Option.isSome_some, Option.isSome_none, Option.getD_some]
      refine ⟨?_, ?_⟩
      · refine cvbs_of o3.s0 ?_
        simp (disch := omega) only [dm_t, wA, wB, wL, wW, wY, Int.fdiv_eq_ediv_of_nonneg, Int.tdiv_eq_ediv_of_nonneg, Int.tmod_eq_emod_of_nonneg, chk_pos, decT, decF, br_pos, br_neg, wX, ↓reduceIte, Nat.reduceEqDiff, Nat.reduceAdd, Nat.reduceSub, Nat.reduceMul, Nat.reduceLeDiff, Nat.reduceLT, Nat.reduceMod, Nat.reduceDiv, Int.reduceToNat, Nat.min_eq_left, IntKind.bits, Int.reducePow, Int.reduceLT, Int.reduceLE, Int.reduceEq, Int.reduceNe, Int.reduceAdd, Int.reduceSub, and_self, reduceCtorEq, decide_eq_true_eq, decide_eq_false_iff_not, eq_self, implies_true, exists_const, Option.isNone_some, Option.isNone_none, Option.isSome_some, Option.isSome_none, Option.getD_some]
        refine (num_ok _ _).k ?_
        rintro _ _ ⟨rfl, rfl⟩
        simp (disch := omega) only [dm_t, wA, wB, wL, wW, wY, Int.fdiv_eq_ediv_of_nonneg, Int.tdiv_eq_ediv_of_nonneg, Int.tmod_eq_emod_of_nonneg, chk_pos, decT, decF, br_pos, br_neg, wX, ↓reduceIte, Nat.reduceEqDiff, Nat.reduceAdd, Nat.reduceSub, Nat.reduceMul, Nat.reduceLeDiff, Nat.reduceLT, Nat.reduceMod, Nat.reduceDiv, Int.reduceToNat, Nat.min_eq_left, IntKind.bits, Int.reducePow, Int.reduceLT, Int.reduceLE, Int.reduceEq, Int.reduceNe, Int.reduceAdd, Int.reduceSub, and_self, reduceCtorEq, decide_eq_true_eq, decide_eq_false_iff_not, eq_self, implies_true, exists_const, Option.isNone_some, Option.isNone_none, Option.isSome_some, Option.isSome_none, Option.getD_some]
        first | exact ⟨by rfl, (ends f2).trans e3⟩ | exact (ends f2).trans e3
      · refine (num_ok _ _).k ?_
        rintro _ _ ⟨rfl, rfl⟩
        simp (disch := omega) only [dm_t, wA, wB, wL, wW, wY, Int.fdiv_eq_ediv_of_nonneg, Int.tdiv_eq_ediv_of_nonneg, Int.tmod_eq_emod_of_nonneg, chk_pos, decT, decF, br_pos, br_neg, wX, ↓reduceIte, Nat.reduceEqDiff, Nat.reduceAdd, Nat.reduceSub, Nat.reduceMul, Nat.reduceLeDiff, Nat.reduceLT, Nat.reduceMod, Nat.reduceDiv, Int.reduceToNat, Nat.min_eq_left, IntKind.bits, Int.reducePow, Int.reduceLT, Int.reduceLE, Int.reduceEq, Int.reduceNe, Int.reduceAdd, Int.reduceSub, and_self, reduceCtorEq, decide_eq_true_eq, decide_eq_false_iff_not, eq_self, implies_true, exists_const, Option.isNone_some, Option.isNone_none, Option.isSome_some, Option.isSome_none, Option.getD_some]
        refine cvbs_of o3.s0 ?_
        simp (disch := omega) only [dm_t, wA, wB, wL, wW, wY, Int.fdiv_eq_ediv_of_nonneg, Int.tdiv_eq_ediv_of_nonneg, Int.tmod_eq_emod_of_nonneg, chk_pos, decT, decF, br_pos, br_neg, wX, ↓reduceIte, Nat.reduceEqDiff, Nat.reduceAdd, Nat.reduceSub, Nat.reduceMul, Nat.reduceLeDiff, Nat.reduceLT, Nat.reduceMod, Nat.reduceDiv, Int.reduceToNat, Nat.min_eq_left, IntKind.bits, Int.reducePow, Int.reduceLT, Int.reduceLE, Int.reduceEq, Int.reduceNe, Int.reduceAdd, Int.reduceSub, and_self, reduceCtorEq, decide_eq_true_eq, decide_eq_false_iff_not, eq_self, implies_true, exists_const, Option.isNone_some, Option.isNone_none, Option.isSome_some, Option.isSome_none, Option.getD_some]
        first | exact ⟨by rfl, (ends f2).trans e3⟩ | exact (ends f2).trans e3
  rw [if_neg k2]
  by_cases k3 : kind = 3
  · rw [if_pos k3]
    subst k3
    simp (disch := omega) only [dm_t, wA, wB, wL, wW, wY, Int.fdiv_eq_ediv_of_nonneg, Int.tdiv_eq_ediv_of_nonneg, Int.tmod_eq_emod_of_nonneg, chk_pos, decT, decF, br_pos, br_neg, wX, ↓reduceIte, Nat.reduceEqDiff, Nat.reduceAdd, Nat.reduceSub, Nat.reduceMul, Nat.reduceLeDiff, Nat.reduceLT, Nat.reduceMod, Nat.reduceDiv, Int.reduceToNat, Nat.min_eq_left, IntKind.bits, Int.reducePow, Int.reduceLT, Int.reduceLE, Int.reduceEq, Int.reduceNe, Int.reduceAdd, Int.reduceSub, and_self, reduceCtorEq, decide_eq_true_eq, decide_eq_false_iff_not, eq_self, implies_true, exists_const, Option.isNone_some, Option.isNone_none, Option.isSome_some, Option.isSome_none, Option.getD_some]
    by_cases hw : l.length < 8
    · rw [if_pos hw]
      refine (U64_more r (by omega)).k ?_
      rintro _ _ ⟨rfl, rfl⟩
      simp (disch := omega) only [dm_t, wA, wB, wL, wW, wY, Int.fdiv_eq_ediv_of_nonneg, Int.tdiv_eq_ediv_of_nonneg, Int.tmod_eq_emod_of_nonneg, chk_pos, decT, decF, br_pos, br_neg, wX, ↓reduceIte, Nat.reduceEqDiff, Nat.reduceAdd, Nat.reduceSub, Nat.reduceMul, Nat.reduceLeDiff, Nat.reduceLT, Nat.reduceMod, Nat.reduceDiv, Int.reduceToNat, Nat.min_eq_left, IntKind.bits, Int.reducePow, Int.reduceLT, Int.reduceLE, Int.reduceEq, Int.reduceNe, Int.reduceAdd, Int.reduceSub, and_self, reduceCtorEq, decide_eq_true_eq, decide_eq_false_iff_not, eq_self, implies_true, exists_const, Option.isNone_some, Option.isNone_none, Option.isSome_some, Option.isSome_none, Option.getD_some]
      refine (u64_ok (l := []) (By.nil (S := nos)) 0 (by omega) (by simp)).k ?_
      rintro v h2 ⟨o2, e2⟩
      simp (disch := omega) only [dm_t, wA, wB, wL, wW, wY, Int.fdiv_eq_ediv_of_nonneg, Int.tdiv_eq_ediv_of_nonneg, Int.tmod_eq_emod_of_nonneg, chk_pos, decT, decF, br_pos, br_neg, wX, ↓reduceIte, Nat.reduceEqDiff, Nat.reduceAdd, Nat.reduceSub, Nat.reduceMul, Nat.reduceLeDiff, Nat.reduceLT, Nat.reduceMod, Nat.reduceDiv, Int.reduceToNat, Nat.min_eq_left, IntKind.bits, Int.reducePow, Int.reduceLT, Int.reduceLE, Int.reduceEq, Int.reduceNe, Int.reduceAdd, Int.reduceSub, and_self, reduceCtorEq, decide_eq_true_eq, decide_eq_false_iff_not, eq_self, implies_true, exists_const, Option.isNone_some, Option.isNone_none, Option.isSome_some, Option.isSome_none, Option.getD_some]
      refine ⟨?_, ?_⟩
      · refine cvbs_of o2.s0 ?_
        simp (disch := omega) only [dm_t, wA, wB, wL, wW, wY, Int.fdiv_eq_ediv_of_nonneg, Int.tdiv_eq_ediv_of_nonneg, Int.tmod_eq_emod_of_nonneg, chk_pos, decT, decF, br_pos, br_neg, wX, ↓reduceIte, Nat.reduceEqDiff, Nat.reduceAdd, Nat.reduceSub, Nat.reduceMul, Nat.reduceLeDiff, Nat.reduceLT, Nat.reduceMod, Nat.reduceDiv, Int.reduceToNat, Nat.min_eq_left, IntKind.bits, Int.reducePow, Int.reduceLT, Int.reduceLE, Int.reduceEq, Int.reduceNe, Int.reduceAdd, Int.reduceSub, and_self, reduceCtorEq, decide_eq_true_eq, decide_eq_false_iff_not, eq_self, implies_true, exists_const, Option.isNone_some, Option.isNone_none, Option.isSome_some, Option.isSome_none, Option.getD_some]
        refine (num_ok _ _).k ?_
        rintro _ _ ⟨rfl, rfl⟩
        simp (disch := omega) only [dm_t, wA, wB, wL, wW, wY, Int.fdiv_eq_ediv_of_nonneg, Int.tdiv_eq_ediv_of_nonneg, Int.tmod_eq_emod_of_nonneg, chk_pos, decT, decF, br_pos, br_neg, wX, ↓reduceIte, Nat.reduceEqDiff, Nat.reduceAdd, Nat.reduceSub, Nat.reduceMul, Nat.reduceLeDiff, Nat.reduceLT, Nat.reduceMod, Nat.reduceDiv, Int.reduceToNat, Nat.min_eq_left, IntKind.bits, Int.reducePow, Int.reduceLT, Int.reduceLE, Int.reduceEq, Int.reduceNe, Int.reduceAdd, Int.reduceSub, and_self, reduceCtorEq, decide_eq_true_eq, decide_eq_false_iff_not, eq_self, implies_true, exists_const, Option.isNone_some, Option.isNone_none, Option.isSome_some, Option.isSome_none, Option.getD_some]
        first | exact ⟨by rfl, e01.trans e2⟩ | exact e01.trans e2
      · refine (num_ok _ _).k ?_
        rintro _ _ ⟨rfl, rfl⟩
        simp (disch := omega) only [dm_t, wA, wB, wL, wW, wY, Int.fdiv_eq_ediv_of_nonneg, Int.tdiv_eq_ediv_of_nonneg, Int.tmod_eq_emod_of_nonneg, chk_pos, decT, decF, br_pos, br_neg, wX, ↓reduceIte, Nat.reduceEqDiff, Nat.reduceAdd, Nat.reduceSub, Nat.reduceMul, Nat.reduceLeDiff, Nat.reduceLT, Nat.reduceMod, Nat.reduceDiv, Int.reduceToNat, Nat.min_eq_left, IntKind.bits, Int.reducePow, Int.reduceLT, Int.reduceLE, Int.reduceEq, Int.reduceNe, Int.reduceAdd, Int.reduceSub, and_self, reduceCtorEq, decide_eq_true_eq, decide_eq_false_iff_not, eq_self, implies_true, exists_const, Option.isNone_some, Option.isNone_none, Option.isSome_some, Option.isSome_none, Option.getD_some]
        refine cvbs_of o2.s0 ?_
        simp (disch := omega) only [dm_t, wA, wB, wL, wW, wY, Int.fdiv_eq_ediv_of_nonneg, Int.tdiv_eq_ediv_of_nonneg, Int.tmod_eq_emod_of_nonneg, chk_pos, decT, decF, br_pos, br_neg, wX, ↓reduceIte, Nat.reduceEqDiff, Nat.reduceAdd, Nat.reduceSub, Nat.reduceMul, Nat.reduceLeDiff, Nat.reduceLT, Nat.reduceMod, Nat.reduceDiv, Int.reduceToNat, Nat.min_eq_left, IntKind.bits, Int.reducePow, Int.reduceLT, Int.reduceLE, Int.reduceEq, Int.reduceNe, Int.reduceAdd, Int.reduceSub, and_self, reduceCtorEq, decide_eq_true_eq, decide_eq_false_iff_not, eq_self, implies_true, exists_const, Option.isNone_some, Option.isNone_none, Option.isSome_some, Option.isSome_none, Option.getD_some]
        first | exact ⟨by rfl, e01.trans e2⟩ | exact e01.trans e2
    · rw [if_neg hw]
      have hw2 : ((l.drop 0).take 8).length = 8 := by rw [List.length_take, List.length_drop]; omega
      have hx := num_lt ((l.drop 0).take 8)
      have hln := low_num ((l.drop 0).take 8)
      rw [hw2] at hx hln
      refine (U64_ok r (by omega)).k ?_
      rintro _ h2 ⟨rfl, r2, f2⟩
      simp (disch := omega) only [dm_t, wA, wB, wL, wW, wY, Int.fdiv_eq_ediv_of_nonneg, Int.tdiv_eq_ediv_of_nonneg, Int.tmod_eq_emod_of_nonneg, chk_pos, decT, decF, br_pos, br_neg, wX, ↓reduceIte, Nat.reduceEqDiff, Nat.reduceAdd, Nat.reduceSub, Nat.reduceMul, Nat.reduceLeDiff, Nat.reduceLT, Nat.reduceMod, Nat.reduceDiv, Int.reduceToNat, Nat.min_eq_left, IntKind.bits, Int.reducePow, Int.reduceLT, Int.reduceLE, Int.reduceEq, Int.reduceNe, Int.reduceAdd, Int.reduceSub, and_self, reduceCtorEq, decide_eq_true_eq, decide_eq_false_iff_not, eq_self, implies_true, exists_const, Option.isNone_some, Option.isNone_none, Option.isSome_some, Option.isSome_none, Option.getD_some]
      refine (u64_ok (l := []) (By.nil (S := nos)) (num ((l.drop 0).take 8)) hx (by simp)).k ?_
      rintro v h3 ⟨o3, e3⟩
      rw [List.nil_append, hln] at o3
      simp (disch := omega) only [dm_t, wA, wB, wL, wW, wY, Int.fdiv_eq_ediv_of_nonneg, Int.tdiv_eq_ediv_of_nonneg, Int.tmod_eq_emod_of_nonneg, chk_pos, decT, decF, br_pos, br_neg, wX, ↓reduceIte, Nat.reduceEqDiff, Nat.reduceAdd, Nat.reduceSub, Nat.reduceMul, Nat.reduceLeDiff, Nat.reduceLT, Nat.reduceMod, Nat.reduceDiv, Int.reduceToNat, Nat.min_eq_left, IntKind.bits, Int.reducePow, Int.reduceLT, Int.reduceLE, Int.reduceEq, Int.reduceNe, Int.reduceAdd, Int.reduceSub, and_self, reduceCtorEq, decide_eq_true_eq, decide_eq_false_iff_not, eq_self, implies_true, exists_const, Option.isNone_some, Option.isNone_none, Option.isSome_some, Option.isSome_none, Option.getD_some]
      refine ⟨?_, ?_⟩
      · refine cvbs_of o3.s0 ?_
        simp (disch := omega) only [dm_t, wA, wB, wL, wW, wY, Int.fdiv_eq_ediv_of_nonneg, Int.tdiv_eq_ediv_of_nonneg, Int.tmod_eq_emod_of_nonneg, chk_pos, decT, decF, br_pos, br_neg, wX, ↓reduceIte, Nat.reduceEqDiff, Nat.reduceAdd, Nat.reduceSub, Nat.reduceMul, Nat.reduceLeDiff, Nat.reduceLT, Nat.reduceMod, Nat.reduceDiv, Int.reduceToNat, Nat.min_eq_left, IntKind.bits, Int.reducePow, Int.reduceLT, Int.reduceLE, Int.reduceEq, Int.reduceNe, Int.reduceAdd, Int.reduceSub, and_self, reduceCtorEq, decide_eq_true_eq, decide_eq_false_iff_not, eq_self, implies_true, exists_const, Option.isNone_some, Option.isNone_none, Option.isSome_some, Option.isSome_none, Option.getD_some]
        refine (num_ok _ _).k ?_
        rintro _ _ ⟨rfl, rfl⟩
        simp (disch := omega) only [dm_t, wA, wB, wL, wW, wY, Int.fdiv_eq_ediv_of_nonneg, Int.tdiv_eq_ediv_of_nonneg, Int.tmod_eq_emod_of_nonneg, chk_pos, decT, decF, br_pos, br_neg, wX, ↓reduceIte, Nat.reduceEqDiff, Nat.reduceAdd, Nat.reduceSub, Nat.reduceMul, Nat.reduceLeDiff, Nat.reduceLT, Nat.reduceMod, Nat.reduceDiv, Int.reduceToNat, Nat.min_eq_left, IntKind.bits, Int.reducePow, Int.reduceLT, Int.reduceLE, Int.reduceEq, Int.reduceNe, Int.reduceAdd, Int.reduceSub, and_self, reduceCtorEq, decide_eq_true_eq, decide_eq_false_iff_not, eq_self, implies_true, exists_const, Option.isNone_some, Option.isNone_none, Option.isSome_some, Option.isSome_none, Option.getD_some]
        first | exact ⟨by rfl, (ends f2).trans e3⟩ | exact (ends f2).trans e3
      · refine (num_ok _ _).k ?_
        rintro _ _ ⟨rfl, rfl⟩
        simp (disch := omega) only [dm_t, wA, wB, wL, wW, wY, Int.fdiv_eq_ediv_of_nonneg, Int.tdiv_eq_ediv_of_nonneg, Int.tmod_eq_emod_of_nonneg, chk_pos, decT, decF, br_pos, br_neg, wX, ↓reduceIte, Nat.reduceEqDiff, Nat.reduceAdd, Nat.reduceSub, Nat.reduceMul, Nat.reduceLeDiff, Nat.reduceLT, Nat.reduceMod, Nat.reduceDiv, Int.reduceToNat, Nat.min_eq_left, IntKind.bits, Int.reducePow, Int.reduceLT, Int.reduceLE, Int.reduceEq, Int.reduceNe, Int.reduceAdd, Int.reduceSub, and_self, reduceCtorEq, decide_eq_true_eq, decide_eq_false_iff_not, eq_self, implies_true, exists_const, Option.isNone_some, Option.isNone_none, Option.isSome_some, Option.isSome_none, Option.getD_some]
        refine cvbs_of o3.s0 ?_
        simp (disch := omega) only [dm_t, wA, wB, wL, wW, wY, Int.fdiv_eq_ediv_of_nonneg, Int.tdiv_eq_ediv_of_nonneg, Int.tmod_eq_emod_of_nonneg, chk_pos, decT, decF, br_pos, br_neg, wX, ↓reduceIte, Nat.reduceEqDiff, Nat.reduceAdd, Nat.reduceSub, Nat.reduceMul, Nat.reduceLeDiff, Nat.reduceLT, Nat.reduceMod, Nat.reduceDiv, Int.reduceToNat, Nat.min_eq_left, IntKind.bits, Int.reducePow, Int.reduceLT, Int.reduceLE, Int.reduceEq, Int.reduceNe, Int.reduceAdd, Int.reduceSub, and_self, reduceCtorEq, decide_eq_true_eq, decide_eq_false_iff_not, eq_self, implies_true, exists_const, Option.isNone_some, Option.isNone_none, Option.isSome_some, Option.isSome_none, Option.getD_some]
        first | exact ⟨by rfl, (ends f2).trans e3⟩ | exact (ends f2).trans e3
  rw [if_neg k3]
  by_cases k4 : kind = 4
  · rw [if_pos k4]
    subst k4
    simp (disch := omega) only [dm_t, wA, wB, wL, wW, wY, Int.fdiv_eq_ediv_of_nonneg, Int.tdiv_eq_ediv_of_nonneg, Int.tmod_eq_emod_of_nonneg, chk_pos, decT, decF, br_pos, br_neg, wX, ↓reduceIte, Nat.reduceEqDiff, Nat.reduceAdd, Nat.reduceSub, Nat.reduceMul, Nat.reduceLeDiff, Nat.reduceLT, Nat.reduceMod, Nat.reduceDiv, Int.reduceToNat, Nat.min_eq_left, IntKind.bits, Int.reducePow, Int.reduceLT, Int.reduceLE, Int.reduceEq, Int.reduceNe, Int.reduceAdd, Int.reduceSub, and_self, reduceCtorEq, decide_eq_true_eq, decide_eq_false_iff_not, eq_self, implies_true, exists_const, Option.isNone_some, Option.isNone_none, Option.isSome_some, Option.isSome_none, Option.getD_some]
    by_cases hw : l.length < 8
    · rw [if_pos hw]
      refine (I64_more r (by omega)).k ?_
      rintro _ _ ⟨rfl, rfl⟩
      simp (disch := omega) only [dm_t, wA, wB, wL, wW, wY, Int.fdiv_eq_ediv_of_nonneg, Int.tdiv_eq_ediv_of_nonneg, Int.tmod_eq_emod_of_nonneg, chk_pos, decT, decF, br_pos, br_neg, wX, ↓reduceIte, Nat.reduceEqDiff, Nat.reduceAdd, Nat.reduceSub, Nat.reduceMul, Nat.reduceLeDiff, Nat.reduceLT, Nat.reduceMod, Nat.reduceDiv, Int.reduceToNat, Nat.min_eq_left, IntKind.bits, Int.reducePow, Int.reduceLT, Int.reduceLE, Int.reduceEq, Int.reduceNe, Int.reduceAdd, Int.reduceSub, and_self, reduceCtorEq, decide_eq_true_eq, decide_eq_false_iff_not, eq_self, implies_true, exists_const, Option.isNone_some, Option.isNone_none, Option.isSome_some, Option.isSome_none, Option.getD_some]
      refine (i64_ok (l := []) (By.nil (S := nos)) 0 (by simp)).k ?_
      rintro v h2 ⟨o2, e2⟩
      simp (disch := omega) only [dm_t, wA, wB, wL, wW, wY, Int.fdiv_eq_ediv_of_nonneg, Int.tdiv_eq_ediv_of_nonneg, Int.tmod_eq_emod_of_nonneg, chk_pos, decT, decF, br_pos, br_neg, wX, ↓reduceIte, Nat.reduceEqDiff, Nat.reduceAdd, Nat.reduceSub, Nat.reduceMul, Nat.reduceLeDiff, Nat.reduceLT, Nat.reduceMod, Nat.reduceDiv, Int.reduceToNat, Nat.min_eq_left, IntKind.bits, Int.reducePow, Int.reduceLT, Int.reduceLE, Int.reduceEq, Int.reduceNe, Int.reduceAdd, Int.reduceSub, and_self, reduceCtorEq, decide_eq_true_eq, decide_eq_false_iff_not, eq_self, implies_true, exists_const, Option.isNone_some, Option.isNone_none, Option.isSome_some, Option.isSome_none, Option.getD_some]
      refine ⟨?_, ?_⟩
      · refine cvbs_of o2.s0 ?_
        simp (disch := omega) only [dm_t, wA, wB, wL, wW, wY, Int.fdiv_eq_ediv_of_nonneg, Int.tdiv_eq_ediv_of_nonneg, Int.tmod_eq_emod_of_nonneg, chk_pos, decT, decF, br_pos, br_neg, wX, ↓reduceIte, Nat.reduceEqDiff, Nat.reduceAdd, Nat.reduceSub, Nat.reduceMul, Nat.reduceLeDiff, Nat.reduceLT, Nat.reduceMod, Nat.reduceDiv, Int.reduceToNat, Nat.min_eq_left, IntKind.bits, Int.reducePow, Int.reduceLT, Int.reduceLE, Int.reduceEq, Int.reduceNe, Int.reduceAdd, Int.reduceSub, and_self, reduceCtorEq, decide_eq_true_eq, decide_eq_false_iff_not, eq_self, implies_true, exists_const, Option.isNone_some, Option.isNone_none, Option.isSome_some, Option.isSome_none, Option.getD_some]
        refine (num_ok _ _).k ?_
        rintro _ _ ⟨rfl, rfl⟩
        simp (disch := omega) only [dm_t, wA, wB, wL, wW, wY, Int.fdiv_eq_ediv_of_nonneg, Int.tdiv_eq_ediv_of_nonneg, Int.tmod_eq_emod_of_nonneg, chk_pos, decT, decF, br_pos, br_neg, wX, ↓reduceIte, Nat.reduceEqDiff, Nat.reduceAdd, Nat.reduceSub, Nat.reduceMul, Nat.reduceLeDiff, Nat.reduceLT, Nat.reduceMod, Nat.reduceDiv, Int.reduceToNat, Nat.min_eq_left, IntKind.bits, Int.reducePow, Int.reduceLT, Int.reduceLE, Int.reduceEq, Int.reduceNe, Int.reduceAdd, Int.reduceSub, and_self, reduceCtorEq, decide_eq_true_eq, decide_eq_false_iff_not, eq_self, implies_true, exists_const, Option.isNone_some, Option.isNone_none, Option.isSome_some, Option.isSome_none, Option.getD_some]
        first | exact ⟨by rfl, e01.trans e2⟩ | exact e01.trans e2
      · refine (num_ok _ _).k ?_
        rintro _ _ ⟨rfl, rfl⟩
        simp (disch := omega) only [dm_t, wA, wB, wL, wW, wY, Int.fdiv_eq_ediv_of_nonneg, Int.tdiv_eq_ediv_of_nonneg, Int.tmod_eq_emod_of_nonneg, chk_pos, decT, decF, br_pos, br_neg, wX, ↓reduceIte, Nat.reduceEqDiff, Nat.reduceAdd, Nat.reduceSub, Nat.reduceMul, Nat.reduceLeDiff, Nat.reduceLT, Nat.reduceMod, Nat.reduceDiv, Int.reduceToNat, Nat.min_eq_left, IntKind.bits, Int.reducePow, Int.reduceLT, Int.reduceLE, Int.reduceEq, Int.reduceNe, Int.reduceAdd, Int.reduceSub, and_self, reduceCtorEq, decide_eq_true_eq, decide_eq_false_iff_not, eq_self, implies_true, exists_const, Option.isNone_some, Option.isNone_none, Option.isSome_some, Option.isSome_none, Option.getD_some]
        refine cvbs_of o2.s0 ?_
        simp (disch := omega) only [dm_t, wA, wB, wL, wW, wY, Int.fdiv_eq_ediv_of_nonneg, Int.tdiv_eq_ediv_of_nonneg, Int.tmod_eq_emod_of_nonneg, chk_pos, decT, decF, br_pos, br_neg, wX, ↓reduceIte, Nat.reduceEqDiff, Nat.reduceAdd, Nat.reduceSub, Nat.reduceMul, Nat.reduceLeDiff, Nat.reduceLT, Nat.reduceMod, Nat.reduceDiv, Int.reduceToNat, Nat.min_eq_left, IntKind.bits, Int.reducePow, Int.reduceLT, Int.reduceLE, Int.reduceEq, Int.reduceNe, Int.reduceAdd, Int.reduceSub, and_self, reduceCtorEq, decide_eq_true_eq, decide_eq_false_iff_not, eq_self, implies_true, exists_const, Option.isNone_some, Option.isNone_none, Option.isSome_some, Option.isSome_none, Option.getD_some]
        first | exact ⟨by rfl, e01.trans e2⟩ | exact e01.trans e2
    · rw [if_neg hw]
      have hw2 : ((l.drop 0).take 8).length = 8 := by rw [List.length_take, List.length_drop]; omega
      have hx := num_lt ((l.drop 0).take 8)
      have hln := low_num ((l.drop 0).take 8)
      rw [hw2] at hx hln
      refine (I64_ok r (by omega)).k ?_
      rintro _ h2 ⟨rfl, r2, f2⟩
      simp (disch := omega) only [dm_t, wA, wB, wL, wW, wY, Int.fdiv_eq_ediv_of_nonneg, Int.tdiv_eq_ediv_of_nonneg, Int.tmod_eq_emod_of_nonneg, chk_pos, decT, decF, br_pos, br_neg, wX, ↓reduceIte, Nat.reduceEqDiff, Nat.reduceAdd, Nat.reduceSub, Nat.reduceMul, Nat.reduceLeDiff, Nat.reduceLT, Nat.reduceMod, Nat.reduceDiv, Int.reduceToNat, Nat.min_eq_left, IntKind.bits, Int.reducePow, Int.reduceLT, Int.reduceLE, Int.reduceEq, Int.reduceNe, Int.reduceAdd, Int.reduceSub, and_self, reduceCtorEq, decide_eq_true_eq, decide_eq_false_iff_not, eq_self, implies_true, exists_const, Option.isNone_some, Option.isNone_none, Option.isSome_some, Option.isSome_none, Option.getD_some]
      have hbs := bits_sgn _ hx
      refine (i64_ok (l := []) (By.nil (S := nos)) (sgn64 (num ((l.drop 0).take 8))) (by simp)).k ?_
      rintro v h3 ⟨o3, e3⟩
      rw [List.nil_append, hbs, hln] at o3
      simp (disch := omega) only [dm_t, wA, wB, wL, wW, wY, Int.fdiv_eq_ediv_of_nonneg, Int.tdiv_eq_ediv_of_nonneg, Int.tmod_eq_emod_of_nonneg, chk_pos, decT, decF, br_pos, br_neg, wX, ↓reduceIte, Nat.reduceEqDiff, Nat.reduceAdd, Nat.reduceSub, Nat.reduceMul, Nat.reduceLeDiff, Nat.reduceLT, Nat.reduceMod, Nat.reduceDiv, Int.reduceToNat, Nat.min_eq_left, IntKind.bits, Int.reducePow, Int.reduceLT, Int.reduceLE, Int.reduceEq, Int.reduceNe, Int.reduceAdd, Int.reduceSub, and_self, reduceCtorEq, decide_eq_true_eq, decide_eq_false_iff_not, eq_self, implies_true, exists_const, Option.isNone_some, Option.isNone_none, Option.isSome_some, Option.isSome_none, Option.getD_some]
      refine ⟨?_, ?_⟩
      · refine cvbs_of o3.s0 ?_
        simp (disch := omega) only [dm_t, wA, wB, wL, wW, wY, Int.fdiv_eq_ediv_of_nonneg, Int.tdiv_eq_ediv_of_nonneg, Int.tmod_eq_emod_of_nonneg, chk_pos, decT, decF, br_pos, br_neg, wX, ↓reduceIte, Nat.reduceEqDiff, Nat.reduceAdd, Nat.reduceSub, Nat.reduceMul, Nat.reduceLeDiff, Nat.reduceLT, Nat.reduceMod, Nat.reduceDiv, Int.reduceToNat, Nat.min_eq_left, IntKind.bits, Int.reducePow, Int.reduceLT, Int.reduceLE, Int.reduceEq, Int.reduceNe, Int.reduceAdd, Int.reduceSub, and_self, reduceCtorEq, decide_eq_true_eq, decide_eq_false_iff_not, eq_self, implies_true, exists_const, Option.isNone_some, Option.isNone_none, Option.isSome_some, Option.isSome_none, Option.getD_some]
        refine (num_ok _ _).k ?_
        rintro _ _ ⟨rfl, rfl⟩
        simp (disch := omega) only [dm_t, wA, wB, wL, wW, wY, Int.fdiv_eq_ediv_of_nonneg, Int.tdiv_eq_ediv_of_nonneg, Int.tmod_eq_emod_of_nonneg, chk_pos, decT, decF, br_pos, br_neg, wX, ↓reduceIte, Nat.reduceEqDiff, Nat.reduceAdd, Nat.reduceSub, Nat.reduceMul, Nat.reduceLeDiff, Nat.reduceLT, Nat.reduceMod, Nat.reduceDiv, Int.reduceToNat, Nat.min_eq_left, IntKind.bits, Int.reducePow, Int.reduceLT, Int.reduceLE, Int.reduceEq, Int.reduceNe, Int.reduceAdd, Int.reduceSub, and_self, reduceCtorEq, decide_eq_true_eq, decide_eq_false_iff_not, eq_self, implies_true, exists_const, Option.isNone_some, Option.isNone_none, Option.isSome_some, Option.isSome_none, Option.getD_some]
        first | exact ⟨by rfl, (ends f2).trans e3⟩ | exact (ends f2).trans e3
      · refine (num_ok _ _).k ?_
        rintro _ _ ⟨rfl, rfl⟩
        simp (disch := omega) only [dm_t, wA, wB, wL, wW, wY, Int.fdiv_eq_ediv_of_nonneg, Int.tdiv_eq_ediv_of_nonneg, Int.tmod_eq_emod_of_nonneg, chk_pos, decT, decF, br_pos, br_neg, wX, ↓reduceIte, Nat.reduceEqDiff, Nat.reduceAdd, Nat.reduceSub, Nat.reduceMul, Nat.reduceLeDiff, Nat.reduceLT, Nat.reduceMod, Nat.reduceDiv, Int.reduceToNat, Nat.min_eq_left, IntKind.bits, Int.reducePow, Int.reduceLT, Int.reduceLE, Int.reduceEq, Int.reduceNe, Int.reduceAdd, Int.reduceSub, and_self, reduceCtorEq, decide_eq_true_eq, decide_eq_false_iff_not, eq_self, implies_true, exists_const, Option.isNone_some, Option.isNone_none, Option.isSome_some, Option.isSome_none, Option.getD_some]
        refine cvbs_of o3.s0 ?_
        simp (disch := omega) only [dm_t, wA, wB, wL, wW, wY, Int.fdiv_eq_ediv_of_nonneg, Int.tdiv_eq_ediv_of_nonneg, Int.tmod_eq_emod_of_nonneg, chk_pos, decT, decF, br_pos, br_neg, wX, ↓reduceIte, Nat.reduceEqDiff, Nat.reduceAdd, Nat.reduceSub, Nat.reduceMul, Nat.reduceLeDiff, Nat.reduceLT, Nat.reduceMod, Nat.reduceDiv, Int.reduceToNat, Nat.min_eq_left, IntKind.bits, Int.reducePow, Int.reduceLT, Int.reduceLE, Int.reduceEq, Int.reduceNe, Int.reduceAdd, Int.reduceSub, and_self, reduceCtorEq, decide_eq_true_eq, decide_eq_false_iff_not, eq_self, implies_true, exists_const, Option.isNone_some, Option.isNone_none, Option.isSome_some, Option.isSome_none, Option.getD_some]
        first | exact ⟨by rfl, (ends f2).trans e3⟩ | exact (ends f2).trans e3
  rw [if_neg k4]
  by_cases k6 : kind = 6
  · rw [if_pos k6]
    subst k6
    simp (disch := omega) only [dm_t, wA, wB, wL, wW, wY, Int.fdiv_eq_ediv_of_nonneg, Int.tdiv_eq_ediv_of_nonneg, Int.tmod_eq_emod_of_nonneg, chk_pos, decT, decF, br_pos, br_neg, wX, ↓reduceIte, Nat.reduceEqDiff, Nat.reduceAdd, Nat.reduceSub, Nat.reduceMul, Nat.reduceLeDiff, Nat.reduceLT, Nat.reduceMod, Nat.reduceDiv, Int.reduceToNat, Nat.min_eq_left, IntKind.bits, Int.reducePow, Int.reduceLT, Int.reduceLE, Int.reduceEq, Int.reduceNe, Int.reduceAdd, Int.reduceSub, and_self, reduceCtorEq, decide_eq_true_eq, decide_eq_false_iff_not, eq_self, implies_true, exists_const, Option.isNone_some, Option.isNone_none, Option.isSome_some, Option.isSome_none, Option.getD_some, cellAt_of hA]
    by_cases hm0 : most < 0
    · rw [if_pos hm0]
      refine (String_neg r most hm0).k ?_
      rintro _ _ ⟨rfl, rfl⟩
      simp (disch := omega) only [dm_t, wA, wB, wL, wW, wY, Int.fdiv_eq_ediv_of_nonneg, Int.tdiv_eq_ediv_of_nonneg, Int.tmod_eq_emod_of_nonneg, chk_pos, decT, decF, br_pos, br_neg, wX, ↓reduceIte, Nat.reduceEqDiff, Nat.reduceAdd, Nat.reduceSub, Nat.reduceMul, Nat.reduceLeDiff, Nat.reduceLT, Nat.reduceMod, Nat.reduceDiv, Int.reduceToNat, Nat.min_eq_left, IntKind.bits, Int.reducePow, Int.reduceLT, Int.reduceLE, Int.reduceEq, Int.reduceNe, Int.reduceAdd, Int.reduceSub, and_self, reduceCtorEq, decide_eq_true_eq, decide_eq_false_iff_not, eq_self, implies_true, exists_const, Option.isNone_some, Option.isNone_none, Option.isSome_some, Option.isSome_none, Option.getD_some]
      refine ⟨?_, ?_⟩
      · refine cvbs_of (l := []) (By.nil (S := nos)) ?_
        simp (disch := omega) only [dm_t, wA, wB, wL, wW, wY, Int.fdiv_eq_ediv_of_nonneg, Int.tdiv_eq_ediv_of_nonneg, Int.tmod_eq_emod_of_nonneg, chk_pos, decT, decF, br_pos, br_neg, wX, ↓reduceIte, Nat.reduceEqDiff, Nat.reduceAdd, Nat.reduceSub, Nat.reduceMul, Nat.reduceLeDiff, Nat.reduceLT, Nat.reduceMod, Nat.reduceDiv, Int.reduceToNat, Nat.min_eq_left, IntKind.bits, Int.reducePow, Int.reduceLT, Int.reduceLE, Int.reduceEq, Int.reduceNe, Int.reduceAdd, Int.reduceSub, and_self, reduceCtorEq, decide_eq_true_eq, decide_eq_false_iff_not, eq_self, implies_true, exists_const, Option.isNone_some, Option.isNone_none, Option.isSome_some, Option.isSome_none, Option.getD_some]
        refine (num_ok _ _).k ?_
        rintro _ _ ⟨rfl, rfl⟩
        simp (disch := omega) only [dm_t, wA, wB, wL, wW, wY, Int.fdiv_eq_ediv_of_nonneg, Int.tdiv_eq_ediv_of_nonneg, Int.tmod_eq_emod_of_nonneg, chk_pos, decT, decF, br_pos, br_neg, wX, ↓reduceIte, Nat.reduceEqDiff, Nat.reduceAdd, Nat.reduceSub, Nat.reduceMul, Nat.reduceLeDiff, Nat.reduceLT, Nat.reduceMod, Nat.reduceDiv, Int.reduceToNat, Nat.min_eq_left, IntKind.bits, Int.reducePow, Int.reduceLT, Int.reduceLE, Int.reduceEq, Int.reduceNe, Int.reduceAdd, Int.reduceSub, and_self, reduceCtorEq, decide_eq_true_eq, decide_eq_false_iff_not, eq_self, implies_true, exists_const, Option.isNone_some, Option.isNone_none, Option.isSome_some, Option.isSome_none, Option.getD_some]
        first | exact ⟨by rfl, e01⟩ | exact e01
      · refine (num_ok _ _).k ?_
        rintro _ _ ⟨rfl, rfl⟩
        simp (disch := omega) only [dm_t, wA, wB, wL, wW, wY, Int.fdiv_eq_ediv_of_nonneg, Int.tdiv_eq_ediv_of_nonneg, Int.tmod_eq_emod_of_nonneg, chk_pos, decT, decF, br_pos, br_neg, wX, ↓reduceIte, Nat.reduceEqDiff, Nat.reduceAdd, Nat.reduceSub, Nat.reduceMul, Nat.reduceLeDiff, Nat.reduceLT, Nat.reduceMod, Nat.reduceDiv, Int.reduceToNat, Nat.min_eq_left, IntKind.bits, Int.reducePow, Int.reduceLT, Int.reduceLE, Int.reduceEq, Int.reduceNe, Int.reduceAdd, Int.reduceSub, and_self, reduceCtorEq, decide_eq_true_eq, decide_eq_false_iff_not, eq_self, implies_true, exists_const, Option.isNone_some, Option.isNone_none, Option.isSome_some, Option.isSome_none, Option.getD_some]
        refine cvbs_of (l := []) (By.nil (S := nos)) ?_
        simp (disch := omega) only [dm_t, wA, wB, wL, wW, wY, Int.fdiv_eq_ediv_of_nonneg, Int.tdiv_eq_ediv_of_nonneg, Int.tmod_eq_emod_of_nonneg, chk_pos, decT, decF, br_pos, br_neg, wX, ↓reduceIte, Nat.reduceEqDiff, Nat.reduceAdd, Nat.reduceSub, Nat.reduceMul, Nat.reduceLeDiff, Nat.reduceLT, Nat.reduceMod, Nat.reduceDiv, Int.reduceToNat, Nat.min_eq_left, IntKind.bits, Int.reducePow, Int.reduceLT, Int.reduceLE, Int.reduceEq, Int.reduceNe, Int.reduceAdd, Int.reduceSub, and_self, reduceCtorEq, decide_eq_true_eq, decide_eq_false_iff_not, eq_self, implies_true, exists_const, Option.isNone_some, Option.isNone_none, Option.isSome_some, Option.isSome_none, Option.getD_some]
        first | exact ⟨by rfl, e01⟩ | exact e01
    · rw [if_neg hm0]
      refine (String_ok r most (by omega) hm.2).k ?_
      rintro _ h2 ⟨q, f2⟩
      cases hr : rdStr l 0 most with
      | error e =>
        rw [hr] at q
        obtain ⟨rfl, r2⟩ := q
        simp (disch := omega) only [dm_t, wA, wB, wL, wW, wY, Int.fdiv_eq_ediv_of_nonneg, Int.tdiv_eq_ediv_of_nonneg, Int.tmod_eq_emod_of_nonneg, chk_pos, decT, decF, br_pos, br_neg, wX, ↓reduceIte, Nat.reduceEqDiff, Nat.reduceAdd, Nat.reduceSub, Nat.reduceMul, Nat.reduceLeDiff, Nat.reduceLT, Nat.reduceMod, Nat.reduceDiv, Int.reduceToNat, Nat.min_eq_left, IntKind.bits, Int.reducePow, Int.reduceLT, Int.reduceLE, Int.reduceEq, Int.reduceNe, Int.reduceAdd, Int.reduceSub, and_self, reduceCtorEq, decide_eq_true_eq, decide_eq_false_iff_not, eq_self, implies_true, exists_const, Option.isNone_some, Option.isNone_none, Option.isSome_some, Option.isSome_none, Option.getD_some]
        refine ⟨?_, ?_⟩
        · refine cvbs_of (l := []) (By.nil (S := nos)) ?_
          simp (disch := omega) only [dm_t, wA, wB, wL, wW, wY, Int.fdiv_eq_ediv_of_nonneg, Int.tdiv_eq_ediv_of_nonneg, Int.tmod_eq_emod_of_nonneg, chk_pos, decT, decF, br_pos, br_neg, wX, ↓reduceIte, Nat.reduceEqDiff, Nat.reduceAdd, Nat.reduceSub, Nat.reduceMul, Nat.reduceLeDiff, Nat.reduceLT, Nat.reduceMod, Nat.reduceDiv, Int.reduceToNat, Nat.min_eq_left, IntKind.bits, Int.reducePow, Int.reduceLT, Int.reduceLE, Int.reduceEq, Int.reduceNe, Int.reduceAdd, Int.reduceSub, and_self, reduceCtorEq, decide_eq_true_eq, decide_eq_false_iff_not, eq_self, implies_true, exists_const, Option.isNone_some, Option.isNone_none, Option.isSome_some, Option.isSome_none, Option.getD_some]
          refine (num_ok _ _).k ?_
          rintro _ _ ⟨rfl, rfl⟩
          simp (disch := omega) only [dm_t, wA, wB, wL, wW, wY, Int.fdiv_eq_ediv_of_nonneg, Int.tdiv_eq_ediv_of_nonneg, Int.tmod_eq_emod_of_nonneg, chk_pos, decT, decF, br_pos, br_neg, wX, ↓reduceIte, Nat.reduceEqDiff, Nat.reduceAdd, Nat.reduceSub, Nat.reduceMul, Nat.reduceLeDiff, Nat.reduceLT, Nat.reduceMod, Nat.reduceDiv, Int.reduceToNat, Nat.min_eq_left, IntKind.bits, Int.reducePow, Int.reduceLT, Int.reduceLE, Int.reduceEq, Int.reduceNe, Int.reduceAdd, Int.reduceSub, and_self, reduceCtorEq, decide_eq_true_eq, decide_eq_false_iff_not, eq_self, implies_true, exists_const, Option.isNone_some, Option.isNone_none, Option.isSome_some, Option.isSome_none, Option.getD_some]
          first | exact ⟨by rfl, ends f2⟩ | exact ends f2
        · refine (num_ok _ _).k ?_
          rintro _ _ ⟨rfl, rfl⟩
          simp (disch := omega) only [dm_t, wA, wB, wL, wW, wY, Int.fdiv_eq_ediv_of_nonneg, Int.tdiv_eq_ediv_of_nonneg, Int.tmod_eq_emod_of_nonneg, chk_pos, decT, decF, br_pos, br_neg, wX, ↓reduceIte, Nat.reduceEqDiff, Nat.reduceAdd, Nat.reduceSub, Nat.reduceMul, Nat.reduceLeDiff, Nat.reduceLT, Nat.reduceMod, Nat.reduceDiv, Int.reduceToNat, Nat.min_eq_left, IntKind.bits, Int.reducePow, Int.reduceLT, Int.reduceLE, Int.reduceEq, Int.reduceNe, Int.reduceAdd, Int.reduceSub, and_self, reduceCtorEq, decide_eq_true_eq, decide_eq_false_iff_not, eq_self, implies_true, exists_const, Option.isNone_some, Option.isNone_none, Option.isSome_some, Option.isSome_none, Option.getD_some]
          refine cvbs_of (l := []) (By.nil (S := nos)) ?_
          simp (disch := omega) only [dm_t, wA, wB, wL, wW, wY, Int.fdiv_eq_ediv_of_nonneg, Int.tdiv_eq_ediv_of_nonneg, Int.tmod_eq_emod_of_nonneg, chk_pos, decT, decF, br_pos, br_neg, wX, ↓reduceIte, Nat.reduceEqDiff, Nat.reduceAdd, Nat.reduceSub, Nat.reduceMul, Nat.reduceLeDiff, Nat.reduceLT, Nat.reduceMod, Nat.reduceDiv, Int.reduceToNat, Nat.min_eq_left, IntKind.bits, Int.reducePow, Int.reduceLT, Int.reduceLE, Int.reduceEq, Int.reduceNe, Int.reduceAdd, Int.reduceSub, and_self, reduceCtorEq, decide_eq_true_eq, decide_eq_false_iff_not, eq_self, implies_true, exists_const, Option.isNone_some, Option.isNone_none, Option.isSome_some, Option.isSome_none, Option.getD_some]
          first | exact ⟨by rfl, ends f2⟩ | exact ends f2
      | ok p =>
        obtain ⟨y, k'⟩ := p
        rw [hr] at q
        obtain ⟨w, rfl, o2, r2⟩ := q
        simp (disch := omega) only [dm_t, wA, wB, wL, wW, wY, Int.fdiv_eq_ediv_of_nonneg, Int.tdiv_eq_ediv_of_nonneg, Int.tmod_eq_emod_of_nonneg, chk_pos, decT, decF, br_pos, br_neg, wX, ↓reduceIte, Nat.reduceEqDiff, Nat.reduceAdd, Nat.reduceSub, Nat.reduceMul, Nat.reduceLeDiff, Nat.reduceLT, Nat.reduceMod, Nat.reduceDiv, Int.reduceToNat, Nat.min_eq_left, IntKind.bits, Int.reducePow, Int.reduceLT, Int.reduceLE, Int.reduceEq, Int.reduceNe, Int.reduceAdd, Int.reduceSub, and_self, reduceCtorEq, decide_eq_true_eq, decide_eq_false_iff_not, eq_self, implies_true, exists_const, Option.isNone_some, Option.isNone_none, Option.isSome_some, Option.isSome_none, Option.getD_some]
        refine ⟨?_, ?_⟩
        · refine cvbs_of o2.s0 ?_
          simp (disch := omega) only [dm_t, wA, wB, wL, wW, wY, Int.fdiv_eq_ediv_of_nonneg, Int.tdiv_eq_ediv_of_nonneg, Int.tmod_eq_emod_of_nonneg, chk_pos, decT, decF, br_pos, br_neg, wX, ↓reduceIte, Nat.reduceEqDiff, Nat.reduceAdd, Nat.reduceSub, Nat.reduceMul, Nat.reduceLeDiff, Nat.reduceLT, Nat.reduceMod, Nat.reduceDiv, Int.reduceToNat, Nat.min_eq_left, IntKind.bits, Int.reducePow, Int.reduceLT, Int.reduceLE, Int.reduceEq, Int.reduceNe, Int.reduceAdd, Int.reduceSub, and_self, reduceCtorEq, decide_eq_true_eq, decide_eq_false_iff_not, eq_self, implies_true, exists_const, Option.isNone_some, Option.isNone_none, Option.isSome_some, Option.isSome_none, Option.getD_some]
          refine (num_ok _ _).k ?_
          rintro _ _ ⟨rfl, rfl⟩
          simp (disch := omega) only [dm_t, wA, wB, wL, wW, wY, Int.fdiv_eq_ediv_of_nonneg, Int.tdiv_eq_ediv_of_nonneg, Int.tmod_eq_emod_of_nonneg, chk_pos, decT, decF, br_pos, br_neg, wX, ↓reduceIte, Nat.reduceEqDiff, Nat.reduceAdd, Nat.reduceSub, Nat.reduceMul, Nat.reduceLeDiff, Nat.reduceLT, Nat.reduceMod, Nat.reduceDiv, Int.reduceToNat, Nat.min_eq_left, IntKind.bits, Int.reducePow, Int.reduceLT, Int.reduceLE, Int.reduceEq, Int.reduceNe, Int.reduceAdd, Int.reduceSub, and_self, reduceCtorEq, decide_eq_true_eq, decide_eq_false_iff_not, eq_self, implies_true, exists_const, Option.isNone_some, Option.isNone_none, Option.isSome_some, Option.isSome_none, Option.getD_some]
          first | exact ⟨by rfl, ends f2⟩ | exact ends f2
        · refine (num_ok _ _).k ?_
          rintro _ _ ⟨rfl, rfl⟩
          simp (disch := omega) only [dm_t, wA, wB, wL, wW, wY, Int.fdiv_eq_ediv_of_nonneg, Int.tdiv_eq_ediv_of_nonneg, Int.tmod_eq_emod_of_nonneg, chk_pos, decT, decF, br_pos, br_neg, wX, ↓reduceIte, Nat.reduceEqDiff, Nat.reduceAdd, Nat.reduceSub, Nat.reduceMul, Nat.reduceLeDiff, Nat.reduceLT, Nat.reduceMod, Nat.reduceDiv, Int.reduceToNat, Nat.min_eq_left, IntKind.bits, Int.reducePow, Int.reduceLT, Int.reduceLE, Int.reduceEq, Int.reduceNe, Int.reduceAdd, Int.reduceSub, and_self, reduceCtorEq, decide_eq_true_eq, decide_eq_false_iff_not, eq_self, implies_true, exists_const, Option.isNone_some, Option.isNone_none, Option.isSome_some, Option.isSome_none, Option.getD_some]
          refine cvbs_of o2.s0 ?_
          simp (disch := omega) only [dm_t, wA, wB, wL, wW, wY, Int.fdiv_eq_ediv_of_nonneg, Int.tdiv_eq_ediv_of_nonneg, Int.tmod_eq_emod_of_nonneg, chk_pos, decT, decF, br_pos, br_neg, wX, ↓reduceIte, Nat.reduceEqDiff, Nat.reduceAdd, Nat.reduceSub, Nat.reduceMul, Nat.reduceLeDiff, Nat.reduceLT, Nat.reduceMod, Nat.reduceDiv, Int.reduceToNat, Nat.min_eq_left, IntKind.bits, Int.reducePow, Int.reduceLT, Int.reduceLE, Int.reduceEq, Int.reduceNe, Int.reduceAdd, Int.reduceSub, and_self, reduceCtorEq, decide_eq_true_eq, decide_eq_false_iff_not, eq_self, implies_true, exists_const, Option.isNone_some, Option.isNone_none, Option.isSome_some, Option.isSome_none, Option.getD_some]
          first | exact ⟨by rfl, ends f2⟩ | exact ends f2
  rw [if_neg k6]
  by_cases k7 : kind = 7
  · rw [if_pos k7]
    subst k7
    simp (disch := omega) only [dm_t, wA, wB, wL, wW, wY, Int.fdiv_eq_ediv_of_nonneg, Int.tdiv_eq_ediv_of_nonneg, Int.tmod_eq_emod_of_nonneg, chk_pos, decT, decF, br_pos, br_neg, wX, ↓reduceIte, Nat.reduceEqDiff, Nat.reduceAdd, Nat.reduceSub, Nat.reduceMul, Nat.reduceLeDiff, Nat.reduceLT, Nat.reduceMod, Nat.reduceDiv, Int.reduceToNat, Nat.min_eq_left, IntKind.bits, Int.reducePow, Int.reduceLT, Int.reduceLE, Int.reduceEq, Int.reduceNe, Int.reduceAdd, Int.reduceSub, and_self, reduceCtorEq, decide_eq_true_eq, decide_eq_false_iff_not, eq_self, implies_true, exists_const, Option.isNone_some, Option.isNone_none, Option.isSome_some, Option.isSome_none, Option.getD_some, cellAt_of hA]
    by_cases hm0 : n < 0 ∨ most < 0
    · rw [if_pos hm0]
      refine (List_neg r n most hm0).k ?_
      rintro _ _ ⟨rfl, rfl⟩
      simp (disch := omega) only [dm_t, wA, wB, wL, wW, wY, Int.fdiv_eq_ediv_of_nonneg, Int.tdiv_eq_ediv_of_nonneg, Int.tmod_eq_emod_of_nonneg, chk_pos, decT, decF, br_pos, br_neg, wX, ↓reduceIte, Nat.reduceEqDiff, Nat.reduceAdd, Nat.reduceSub, Nat.reduceMul, Nat.reduceLeDiff, Nat.reduceLT, Nat.reduceMod, Nat.reduceDiv, Int.reduceToNat, Nat.min_eq_left, IntKind.bits, Int.reducePow, Int.reduceLT, Int.reduceLE, Int.reduceEq, Int.reduceNe, Int.reduceAdd, Int.reduceSub, and_self, reduceCtorEq, decide_eq_true_eq, decide_eq_false_iff_not, eq_self, implies_true, exists_const, Option.isNone_some, Option.isNone_none, Option.isSome_some, Option.isSome_none, Option.getD_some]
      refine vc_loop2 (fun vs vi h' => h' = h1 ∧ vs = .string ⟨#[]⟩ ∧ vi = .int .i64 0) (fun _ _ _ => 0) ?_ ?_
      · simp (disch := omega) only [dm_t, wA, wB, wL, wW, wY, Int.fdiv_eq_ediv_of_nonneg, Int.tdiv_eq_ediv_of_nonneg, Int.tmod_eq_emod_of_nonneg, chk_pos, decT, decF, br_pos, br_neg, wX, ↓reduceIte, Nat.reduceEqDiff, Nat.reduceAdd, Nat.reduceSub, Nat.reduceMul, Nat.reduceLeDiff, Nat.reduceLT, Nat.reduceMod, Nat.reduceDiv, Int.reduceToNat, Nat.min_eq_left, IntKind.bits, Int.reducePow, Int.reduceLT, Int.reduceLE, Int.reduceEq, Int.reduceNe, Int.reduceAdd, Int.reduceSub, and_self, reduceCtorEq, decide_eq_true_eq, decide_eq_false_iff_not, eq_self, implies_true, exists_const, Option.isNone_some, Option.isNone_none, Option.isSome_some, Option.isSome_none, Option.getD_some]
      rintro _ _ _ ⟨rfl, rfl, rfl⟩
      simp (disch := omega) only [dm_t, wA, wB, wL, wW, wY, Int.fdiv_eq_ediv_of_nonneg, Int.tdiv_eq_ediv_of_nonneg, Int.tmod_eq_emod_of_nonneg, chk_pos, decT, decF, br_pos, br_neg, wX, ↓reduceIte, Nat.reduceEqDiff, Nat.reduceAdd, Nat.reduceSub, Nat.reduceMul, Nat.reduceLeDiff, Nat.reduceLT, Nat.reduceMod, Nat.reduceDiv, Int.reduceToNat, Nat.min_eq_left, IntKind.bits, Int.reducePow, Int.reduceLT, Int.reduceLE, Int.reduceEq, Int.reduceNe, Int.reduceAdd, Int.reduceSub, and_self, reduceCtorEq, decide_eq_true_eq, decide_eq_false_iff_not, eq_self, implies_true, exists_const, Option.isNone_some, Option.isNone_none, Option.isSome_some, Option.isSome_none, Option.getD_some]
      refine (num_ok _ _).k ?_
      rintro _ _ ⟨rfl, rfl⟩
      simp (disch := omega) only [dm_t, wA, wB, wL, wW, wY, Int.fdiv_eq_ediv_of_nonneg, Int.tdiv_eq_ediv_of_nonneg, Int.tmod_eq_emod_of_nonneg, chk_pos, decT, decF, br_pos, br_neg, wX, ↓reduceIte, Nat.reduceEqDiff, Nat.reduceAdd, Nat.reduceSub, Nat.reduceMul, Nat.reduceLeDiff, Nat.reduceLT, Nat.reduceMod, Nat.reduceDiv, Int.reduceToNat, Nat.min_eq_left, IntKind.bits, Int.reducePow, Int.reduceLT, Int.reduceLE, Int.reduceEq, Int.reduceNe, Int.reduceAdd, Int.reduceSub, and_self, reduceCtorEq, decide_eq_true_eq, decide_eq_false_iff_not, eq_self, implies_true, exists_const, Option.isNone_some, Option.isNone_none, Option.isSome_some, Option.isSome_none, Option.getD_some]
      exact e01
    · rw [if_neg hm0]
      refine (List_ok r n most (by omega) (by omega) hn.2 hm.2).k ?_
      rintro _ h2 ⟨q, f2⟩
      cases hr : rdList l 0 n most with
      | error e =>
        rw [hr] at q
        obtain ⟨rfl, r2⟩ := q
        simp (disch := omega) only [dm_t, wA, wB, wL, wW, wY, Int.fdiv_eq_ediv_of_nonneg, Int.tdiv_eq_ediv_of_nonneg, Int.tmod_eq_emod_of_nonneg, chk_pos, decT, decF, br_pos, br_neg, wX, ↓reduceIte, Nat.reduceEqDiff, Nat.reduceAdd, Nat.reduceSub, Nat.reduceMul, Nat.reduceLeDiff, Nat.reduceLT, Nat.reduceMod, Nat.reduceDiv, Int.reduceToNat, Nat.min_eq_left, IntKind.bits, Int.reducePow, Int.reduceLT, Int.reduceLE, Int.reduceEq, Int.reduceNe, Int.reduceAdd, Int.reduceSub, and_self, reduceCtorEq, decide_eq_true_eq, decide_eq_false_iff_not, eq_self, implies_true, exists_const, Option.isNone_some, Option.isNone_none, Option.isSome_some, Option.isSome_none, Option.getD_some]
        refine vc_loop2 (fun vs vi h' => h' = h2 ∧ vs = .string ⟨#[]⟩ ∧ vi = .int .i64 0) (fun _ _ _ => 0) ?_ ?_
        · simp (disch := omega) only [dm_t, wA, wB, wL, wW, wY, Int.fdiv_eq_ediv_of_nonneg, Int.tdiv_eq_ediv_of_nonneg, Int.tmod_eq_emod_of_nonneg, chk_pos, decT, decF, br_pos, br_neg, wX, ↓reduceIte, Nat.reduceEqDiff, Nat.reduceAdd, Nat.reduceSub, Nat.reduceMul, Nat.reduceLeDiff, Nat.reduceLT, Nat.reduceMod, Nat.reduceDiv, Int.reduceToNat, Nat.min_eq_left, IntKind.bits, Int.reducePow, Int.reduceLT, Int.reduceLE, Int.reduceEq, Int.reduceNe, Int.reduceAdd, Int.reduceSub, and_self, reduceCtorEq, decide_eq_true_eq, decide_eq_false_iff_not, eq_self, implies_true, exists_const, Option.isNone_some, Option.isNone_none, Option.isSome_some, Option.isSome_none, Option.getD_some]
        rintro _ _ _ ⟨rfl, rfl, rfl⟩
        simp (disch := omega) only [dm_t, wA, wB, wL, wW, wY, Int.fdiv_eq_ediv_of_nonneg, Int.tdiv_eq_ediv_of_nonneg, Int.tmod_eq_emod_of_nonneg, chk_pos, decT, decF, br_pos, br_neg, wX, ↓reduceIte, Nat.reduceEqDiff, Nat.reduceAdd, Nat.reduceSub, Nat.reduceMul, Nat.reduceLeDiff, Nat.reduceLT, Nat.reduceMod, Nat.reduceDiv, Int.reduceToNat, Nat.min_eq_left, IntKind.bits, Int.reducePow, Int.reduceLT, Int.reduceLE, Int.reduceEq, Int.reduceNe, Int.reduceAdd, Int.reduceSub, and_self, reduceCtorEq, decide_eq_true_eq, decide_eq_false_iff_not, eq_self, implies_true, exists_const, Option.isNone_some, Option.isNone_none, Option.isSome_some, Option.isSome_none, Option.getD_some]
        refine (num_ok _ _).k ?_
        rintro _ _ ⟨rfl, rfl⟩
        simp (disch := omega) only [dm_t, wA, wB, wL, wW, wY, Int.fdiv_eq_ediv_of_nonneg, Int.tdiv_eq_ediv_of_nonneg, Int.tmod_eq_emod_of_nonneg, chk_pos, decT, decF, br_pos, br_neg, wX, ↓reduceIte, Nat.reduceEqDiff, Nat.reduceAdd, Nat.reduceSub, Nat.reduceMul, Nat.reduceLeDiff, Nat.reduceLT, Nat.reduceMod, Nat.reduceDiv, Int.reduceToNat, Nat.min_eq_left, IntKind.bits, Int.reducePow, Int.reduceLT, Int.reduceLE, Int.reduceEq, Int.reduceNe, Int.reduceAdd, Int.reduceSub, and_self, reduceCtorEq, decide_eq_true_eq, decide_eq_false_iff_not, eq_self, implies_true, exists_const, Option.isNone_some, Option.isNone_none, Option.isSome_some, Option.isSome_none, Option.getD_some]
        exact ends f2
      | ok p =>
        obtain ⟨ss, k'⟩ := p
        rw [hr] at q
        obtain ⟨w, rfl, o2, r2⟩ := q
        obtain ⟨wa, wc, rfl⟩ := o2.len
        have hlen : (ss.flatMap (· ++ [124])).length ≤ l.length ∧ ss.length ≤ l.length := by
          unfold rdList at hr
          split at hr
          · cases hr
          split at hr
          · cases hr
          obtain ⟨g1, g2, g3⟩ := rdStrs_fits hr
          rcases g2 with ⟨g2, g4⟩ | g2 <;> omega
        simp (disch := omega) only [dm_t, wA, wB, wL, wW, wY, Int.fdiv_eq_ediv_of_nonneg, Int.tdiv_eq_ediv_of_nonneg, Int.tmod_eq_emod_of_nonneg, chk_pos, decT, decF, br_pos, br_neg, wX, ↓reduceIte, Nat.reduceEqDiff, Nat.reduceAdd, Nat.reduceSub, Nat.reduceMul, Nat.reduceLeDiff, Nat.reduceLT, Nat.reduceMod, Nat.reduceDiv, Int.reduceToNat, Nat.min_eq_left, IntKind.bits, Int.reducePow, Int.reduceLT, Int.reduceLE, Int.reduceEq, Int.reduceNe, Int.reduceAdd, Int.reduceSub, and_self, reduceCtorEq, decide_eq_true_eq, decide_eq_false_iff_not, eq_self, implies_true, exists_const, Option.isNone_some, Option.isNone_none, Option.isSome_some, Option.isSome_none, Option.getD_some]
        refine vc_loop2 (fun vs vi h' => h' = h2 ∧ ∃ i : Nat, i ≤ ss.length ∧ vs = .string ⟨((ss.take i).flatMap (· ++ [124])).toArray⟩ ∧ vi = .int .i64 i) (fun _ vi _ => ss.length - m1 vi) ?_ ?_
        · simp (disch := omega) only [dm_t, wA, wB, wL, wW, wY, Int.fdiv_eq_ediv_of_nonneg, Int.tdiv_eq_ediv_of_nonneg, Int.tmod_eq_emod_of_nonneg, chk_pos, decT, decF, br_pos, br_neg, wX, ↓reduceIte, Nat.reduceEqDiff, Nat.reduceAdd, Nat.reduceSub, Nat.reduceMul, Nat.reduceLeDiff, Nat.reduceLT, Nat.reduceMod, Nat.reduceDiv, Int.reduceToNat, Nat.min_eq_left, IntKind.bits, Int.reducePow, Int.reduceLT, Int.reduceLE, Int.reduceEq, Int.reduceNe, Int.reduceAdd, Int.reduceSub, and_self, reduceCtorEq, decide_eq_true_eq, decide_eq_false_iff_not, eq_self, implies_true, exists_const, Option.isNone_some, Option.isNone_none, Option.isSome_some, Option.isSome_none, Option.getD_some]
          exact ⟨0, by omega, rfl, rfl⟩
        rintro _ _ _ ⟨rfl, i, hi, rfl, rfl⟩
        by_cases hlt : i < ss.length
        · simp (disch := omega) only [dm_t, wA, wB, wL, wW, wY, Int.fdiv_eq_ediv_of_nonneg, Int.tdiv_eq_ediv_of_nonneg, Int.tmod_eq_emod_of_nonneg, chk_pos, decT, decF, br_pos, br_neg, wX, ↓reduceIte, Nat.reduceEqDiff, Nat.reduceAdd, Nat.reduceSub, Nat.reduceMul, Nat.reduceLeDiff, Nat.reduceLT, Nat.reduceMod, Nat.reduceDiv, Int.reduceToNat, Nat.min_eq_left, IntKind.bits, Int.reducePow, Int.reduceLT, Int.reduceLE, Int.reduceEq, Int.reduceNe, Int.reduceAdd, Int.reduceSub, and_self, reduceCtorEq, decide_eq_true_eq, decide_eq_false_iff_not, eq_self, implies_true, exists_const, Option.isNone_some, Option.isNone_none, Option.isSome_some, Option.isSome_none, Option.getD_some]
          refine RepL.at1 o2.rep rfl i rfl hlt ?_
          intro pb po w hw1 hw2
          have hw3 := repB.1 hw2
          simp (disch := omega) only [dm_t, wA, wB, wL, wW, wY, Int.fdiv_eq_ediv_of_nonneg, Int.tdiv_eq_ediv_of_nonneg, Int.tmod_eq_emod_of_nonneg, chk_pos, decT, decF, br_pos, br_neg, wX, ↓reduceIte, Nat.reduceEqDiff, Nat.reduceAdd, Nat.reduceSub, Nat.reduceMul, Nat.reduceLeDiff, Nat.reduceLT, Nat.reduceMod, Nat.reduceDiv, Int.reduceToNat, Nat.min_eq_left, IntKind.bits, Int.reducePow, Int.reduceLT, Int.reduceLE, Int.reduceEq, Int.reduceNe, Int.reduceAdd, Int.reduceSub, and_self, reduceCtorEq, decide_eq_true_eq, decide_eq_false_iff_not, eq_self, implies_true, exists_const, Option.isNone_some, Option.isNone_none, Option.isSome_some, Option.isSome_none, Option.getD_some, hw1]
          refine cvbs_of hw3 ?_
          have hsplit : ss.flatMap (· ++ [124]) = (ss.take i).flatMap (· ++ [124]) ++ ((ss[i] ++ [124]) ++ (ss.drop (i + 1)).flatMap (· ++ [124])) := by
            conv => lhs; rw [← List.take_append_drop i ss, List.drop_eq_getElem_cons hlt, List.flatMap_append, List.flatMap_cons]
          have hsl := congrArg List.length hsplit
          simp only [List.length_append, List.length_singleton] at hsl
          simp (disch := omega) only [dm_t, wA, wB, wL, wW, wY, Int.fdiv_eq_ediv_of_nonneg, Int.tdiv_eq_ediv_of_nonneg, Int.tmod_eq_emod_of_nonneg, chk_pos, decT, decF, br_pos, br_neg, wX, ↓reduceIte, Nat.reduceEqDiff, Nat.reduceAdd, Nat.reduceSub, Nat.reduceMul, Nat.reduceLeDiff, Nat.reduceLT, Nat.reduceMod, Nat.reduceDiv, Int.reduceToNat, Nat.min_eq_left, IntKind.bits, Int.reducePow, Int.reduceLT, Int.reduceLE, Int.reduceEq, Int.reduceNe, Int.reduceAdd, Int.reduceSub, and_self, reduceCtorEq, decide_eq_true_eq, decide_eq_false_iff_not, eq_self, implies_true, exists_const, Option.isNone_some, Option.isNone_none, Option.isSome_some, Option.isSome_none, Option.getD_some, size_mk, mk_append, List.length_append, List.length_singleton]
          refine ⟨⟨i + 1, by omega, ?_, by simp⟩, by simp [m1]; omega⟩
          rw [List.take_succ_eq_append_getElem hlt, List.flatMap_append]
          simp
        · obtain rfl : i = ss.length := by omega
          simp (disch := omega) only [dm_t, wA, wB, wL, wW, wY, Int.fdiv_eq_ediv_of_nonneg, Int.tdiv_eq_ediv_of_nonneg, Int.tmod_eq_emod_of_nonneg, chk_pos, decT, decF, br_pos, br_neg, wX, ↓reduceIte, Nat.reduceEqDiff, Nat.reduceAdd, Nat.reduceSub, Nat.reduceMul, Nat.reduceLeDiff, Nat.reduceLT, Nat.reduceMod, Nat.reduceDiv, Int.reduceToNat, Nat.min_eq_left, IntKind.bits, Int.reducePow, Int.reduceLT, Int.reduceLE, Int.reduceEq, Int.reduceNe, Int.reduceAdd, Int.reduceSub, and_self, reduceCtorEq, decide_eq_true_eq, decide_eq_false_iff_not, eq_self, implies_true, exists_const, Option.isNone_some, Option.isNone_none, Option.isSome_some, Option.isSome_none, Option.getD_some]
          refine (num_ok _ _).k ?_
          rintro _ _ ⟨rfl, rfl⟩
          rw [List.take_length]
          simp (disch := omega) only [dm_t, wA, wB, wL, wW, wY, Int.fdiv_eq_ediv_of_nonneg, Int.tdiv_eq_ediv_of_nonneg, Int.tmod_eq_emod_of_nonneg, chk_pos, decT, decF, br_pos, br_neg, wX, ↓reduceIte, Nat.reduceEqDiff, Nat.reduceAdd, Nat.reduceSub, Nat.reduceMul, Nat.reduceLeDiff, Nat.reduceLT, Nat.reduceMod, Nat.reduceDiv, Int.reduceToNat, Nat.min_eq_left, IntKind.bits, Int.reducePow, Int.reduceLT, Int.reduceLE, Int.reduceEq, Int.reduceNe, Int.reduceAdd, Int.reduceSub, and_self, reduceCtorEq, decide_eq_true_eq, decide_eq_false_iff_not, eq_self, implies_true, exists_const, Option.isNone_some, Option.isNone_none, Option.isSome_some, Option.isSome_none, Option.getD_some]
          exact ends f2
  rw [if_neg k7]
  simp (disch := omega) only [dm_t, wA, wB, wL, wW, wY, Int.fdiv_eq_ediv_of_nonneg, Int.tdiv_eq_ediv_of_nonneg, Int.tmod_eq_emod_of_nonneg, chk_pos, decT, decF, br_pos, br_neg, wX, ↓reduceIte, Nat.reduceEqDiff, Nat.reduceAdd, Nat.reduceSub, Nat.reduceMul, Nat.reduceLeDiff, Nat.reduceLT, Nat.reduceMod, Nat.reduceDiv, Int.reduceToNat, Nat.min_eq_left, IntKind.bits, Int.reducePow, Int.reduceLT, Int.reduceLE, Int.reduceEq, Int.reduceNe, Int.reduceAdd, Int.reduceSub, and_self, reduceCtorEq, decide_eq_true_eq, decide_eq_false_iff_not, eq_self, implies_true, exists_const, Option.isNone_some, Option.isNone_none, Option.isSome_some, Option.isSome_none, Option.getD_some, cellAt_of hA]
  by_cases hn0 : n < 0
  · rw [if_pos hn0]
    refine (Skip_neg r n hn0).k ?_
    rintro _ _ ⟨rfl, rfl⟩
    simp (disch := omega) only [dm_t, wA, wB, wL, wW, wY, Int.fdiv_eq_ediv_of_nonneg, Int.tdiv_eq_ediv_of_nonneg, Int.tmod_eq_emod_of_nonneg, chk_pos, decT, decF, br_pos, br_neg, wX, ↓reduceIte, Nat.reduceEqDiff, Nat.reduceAdd, Nat.reduceSub, Nat.reduceMul, Nat.reduceLeDiff, Nat.reduceLT, Nat.reduceMod, Nat.reduceDiv, Int.reduceToNat, Nat.min_eq_left, IntKind.bits, Int.reducePow, Int.reduceLT, Int.reduceLE, Int.reduceEq, Int.reduceNe, Int.reduceAdd, Int.reduceSub, and_self, reduceCtorEq, decide_eq_true_eq, decide_eq_false_iff_not, eq_self, implies_true, exists_const, Option.isNone_some, Option.isNone_none, Option.isSome_some, Option.isSome_none, Option.getD_some]
    refine (num_ok _ _).k ?_
    rintro _ _ ⟨rfl, rfl⟩
    simp (disch := omega) only [dm_t, wA, wB, wL, wW, wY, Int.fdiv_eq_ediv_of_nonneg, Int.tdiv_eq_ediv_of_nonneg, Int.tmod_eq_emod_of_nonneg, chk_pos, decT, decF, br_pos, br_neg, wX, ↓reduceIte, Nat.reduceEqDiff, Nat.reduceAdd, Nat.reduceSub, Nat.reduceMul, Nat.reduceLeDiff, Nat.reduceLT, Nat.reduceMod, Nat.reduceDiv, Int.reduceToNat, Nat.min_eq_left, IntKind.bits, Int.reducePow, Int.reduceLT, Int.reduceLE, Int.reduceEq, Int.reduceNe, Int.reduceAdd, Int.reduceSub, and_self, reduceCtorEq, decide_eq_true_eq, decide_eq_false_iff_not, eq_self, implies_true, exists_const, Option.isNone_some, Option.isNone_none, Option.isSome_some, Option.isSome_none, Option.getD_some]
    exact e01
  rw [if_neg hn0]
  by_cases hn1 : (l.length : Int) < n
  · rw [if_pos hn1]
    refine (Skip_more r n (by omega) (by omega)).k ?_
    rintro _ _ ⟨rfl, rfl⟩
    simp (disch := omega) only [dm_t, wA, wB, wL, wW, wY, Int.fdiv_eq_ediv_of_nonneg, Int.tdiv_eq_ediv_of_nonneg, Int.tmod_eq_emod_of_nonneg, chk_pos, decT, decF, br_pos, br_neg, wX, ↓reduceIte, Nat.reduceEqDiff, Nat.reduceAdd, Nat.reduceSub, Nat.reduceMul, Nat.reduceLeDiff, Nat.reduceLT, Nat.reduceMod, Nat.reduceDiv, Int.reduceToNat, Nat.min_eq_left, IntKind.bits, Int.reducePow, Int.reduceLT, Int.reduceLE, Int.reduceEq, Int.reduceNe, Int.reduceAdd, Int.reduceSub, and_self, reduceCtorEq, decide_eq_true_eq, decide_eq_false_iff_not, eq_self, implies_true, exists_const, Option.isNone_some, Option.isNone_none, Option.isSome_some, Option.isSome_none, Option.getD_some]
    refine (num_ok _ _).k ?_
    rintro _ _ ⟨rfl, rfl⟩
    simp (disch := omega) only [dm_t, wA, wB, wL, wW, wY, Int.fdiv_eq_ediv_of_nonneg, Int.tdiv_eq_ediv_of_nonneg, Int.tmod_eq_emod_of_nonneg, chk_pos, decT, decF, br_pos, br_neg, wX, ↓reduceIte, Nat.reduceEqDiff, Nat.reduceAdd, Nat.reduceSub, Nat.reduceMul, Nat.reduceLeDiff, Nat.reduceLT, Nat.reduceMod, Nat.reduceDiv, Int.reduceToNat, Nat.min_eq_left, IntKind.bits, Int.reducePow, Int.reduceLT, Int.reduceLE, Int.reduceEq, Int.reduceNe, Int.reduceAdd, Int.reduceSub, and_self, reduceCtorEq, decide_eq_true_eq, decide_eq_false_iff_not, eq_self, implies_true, exists_const, Option.isNone_some, Option.isNone_none, Option.isSome_some, Option.isSome_none, Option.getD_some]
    exact e01
  · rw [if_neg hn1]
    obtain ⟨m, rfl⟩ := Int.eq_ofNat_of_zero_le (by omega : 0 ≤ n)
    refine (Skip_ok r m (by omega)).k ?_
    rintro _ h2 ⟨rfl, r2, f2⟩
    simp (disch := omega) only [dm_t, wA, wB, wL, wW, wY, Int.fdiv_eq_ediv_of_nonneg, Int.tdiv_eq_ediv_of_nonneg, Int.tmod_eq_emod_of_nonneg, chk_pos, decT, decF, br_pos, br_neg, wX, ↓reduceIte, Nat.reduceEqDiff, Nat.reduceAdd, Nat.reduceSub, Nat.reduceMul, Nat.reduceLeDiff, Nat.reduceLT, Nat.reduceMod, Nat.reduceDiv, Int.reduceToNat, Nat.min_eq_left, IntKind.bits, Int.reducePow, Int.reduceLT, Int.reduceLE, Int.reduceEq, Int.reduceNe, Int.reduceAdd, Int.reduceSub, and_self, reduceCtorEq, decide_eq_true_eq, decide_eq_false_iff_not, eq_self, implies_true, exists_const, Option.isNone_some, Option.isNone_none, Option.isSome_some, Option.isSome_none, Option.getD_some]
    refine (num_ok _ _).k ?_
    rintro _ _ ⟨rfl, rfl⟩
    simp (disch := omega) only [dm_t, wA, wB, wL, wW, wY, Int.fdiv_eq_ediv_of_nonneg, Int.tdiv_eq_ediv_of_nonneg, Int.tmod_eq_emod_of_nonneg, chk_pos, decT, decF, br_pos, br_neg, wX, ↓reduceIte, Nat.reduceEqDiff, Nat.reduceAdd, Nat.reduceSub, Nat.reduceMul, Nat.reduceLeDiff, Nat.reduceLT, Nat.reduceMod, Nat.reduceDiv, Int.reduceToNat, Nat.min_eq_left, IntKind.bits, Int.reducePow, Int.reduceLT, Int.reduceLE, Int.reduceEq, Int.reduceNe, Int.reduceAdd, Int.reduceSub, and_self, reduceCtorEq, decide_eq_true_eq, decide_eq_false_iff_not, eq_self, implies_true, exists_const, Option.isNone_some, Option.isNone_none, Option.isSome_some, Option.isSome_none, Option.getD_some]
    exact ends f2
end Go.Proofs.Ytcncclkglcmpnaa.wl
