/-
  model: Cut, Fits; scripts.
-/
import Derived.Test.YtpgkkpjdajkobaaMk
import Derived.Test.YtpgkkpjdajkobaaR4
namespace Go.Proofs.Ytpgkkpjdajkobaa.mo
open Go.Proofs.Ytpgkkpjdajkobaa rr
set_option linter.unusedVariables false
set_option linter.unusedSimpArgs false
/-- A beginning of an own list. -/
theorem _root_.Go.Proofs.Ytpgkkpjdajkobaa.OwL.cutp {S O : Nat → Prop} {t : Ty} {h : H} {E : TypeId} {a : Option Addr} {n c : Nat} {xs : List t.D} (s : OwL S t O h E (.slice a n c) xs) (u : Nat) (hu : u ≤ xs.length) :
    ∃ v, slcV t.sz a n c true ((0 : Nat) : Int) (u : Int) (u : Int) = some v ∧ OwL S t O h E v (xs.take u) ∧ ∀ x, isAt v x → isAt (.slice a n c) x := by
  obtain ⟨rows, h1, h2, h3⟩ := s
  have hn : n = rows.length ∧ n ≤ c := by
    obtain ⟨_, ⟨s1, rfl⟩ | ⟨b, o, cp, cc, fr, s1, s2, s3, s4, s5, s6, s7⟩⟩ := h1
    · simp only [Value.slice.injEq] at s1; obtain ⟨_, rfl, rfl⟩ := s1; simp
    · simp only [Value.slice.injEq] at s1; obtain ⟨_, rfl, rfl⟩ := s1; omega
  obtain ⟨v, e1, e2, e3⟩ := OwK.cut h1 (m3 := true) (lo := ((0 : Nat) : Int)) (hi := (u : Int)) (mx := (u : Int)) (l := 0) (u := u) (m := u) rfl rfl rfl (Nat.zero_le _) (by omega) (Nat.le_refl _) (by omega) (.inl rfl)
  refine ⟨v, e1, ⟨(rows.drop 0).take (u - 0), e2, by simp [h2], ?_⟩, e3⟩
  intro i r x hr hx
  simp only [List.drop_zero, Nat.sub_zero, List.getElem?_take] at hr hx
  split at hr
  · rw [if_pos ‹_›] at hx
    exact (h3 i r x hr hx).mono fun y _ _ hy => hy.imp (e3 y) id
  · cases hr
section
variable {S : Nat → Prop} {h0 g : H} {p : Nat} {pv : Value} {vs : List Value} {ps : List (List rc.D)}
def CutR (S : Nat → Prop) (h0 g : H) (p : Nat) (pv : Value) (vs : List Value) (ps : List (List rc.D)) (k e : Int) (v : Value) (h' : H) : Prop :=
  if inP ps k then if 0 ≤ e ∧ e ≤ (ps.getD k.toNat []).length then v = .int .i64 0 ∧ ∃ vs', MX S h0 h' p pv vs' (ps.set k.toNat ((ps.getD k.toNat []).take e.toNat)) ∧ (∀ y, MF p pv vs' y → MF p pv vs y) ∧ Fr (MF p pv vs) g h' else v = .int .i64 4 ∧ g = h' else v = .int .i64 7 ∧ g = h'
theorem Cut_ok (X : MX S h0 g p pv vs ps) (hS : ∀ y, S y → g y ≠ none) (k e : Int) (hps : ∀ l ∈ ps, l.length ≤ 4611686018427387904) : Ok Try.prog 16 #[.pointer (some ⟨p, 0, none⟩), .int .i64 k, .int .i64 e] g fun v h' => CutR S h0 g p pv vs ps k e v h' := by
  refine c16_ok (args := [_, _, _]) (by simp) ?_
  simp (disch := omega) only [dm_t, wA, wB, wL, wW, wY, Int.fdiv_eq_ediv_of_nonneg, Int.tdiv_eq_ediv_of_nonneg, Int.tmod_eq_emod_of_nonneg, chk_pos, decT, decF, br_pos, br_neg, wX, ↓reduceIte, Nat.reduceEqDiff, Nat.reduceAdd, Nat.reduceSub, Nat.reduceMul, Nat.reduceLeDiff, Nat.reduceLT, Nat.reduceMod, Nat.reduceDiv, Int.reduceToNat, Nat.min_eq_left, IntKind.bits, Int.reducePow, Int.reduceLT, Int.reduceLE, Int.reduceEq, Int.reduceNe, Int.reduceAdd, Int.reduceSub, and_self, reduceCtorEq, decide_eq_true_eq, decide_eq_false_iff_not, eq_self, implies_true, exists_const, Option.isNone_some, Option.isNone_none, Option.isSome_some, Option.isSome_none, Option.getD_some]
  refine (none_ok X).k ?_
  rintro _ _ ⟨rfl, rfl⟩
  simp (disch := omega) only [dm_t, wA, wB, wL, wW, wY, Int.fdiv_eq_ediv_of_nonneg, Int.tdiv_eq_ediv_of_nonneg, Int.tmod_eq_emod_of_nonneg, chk_pos, decT, decF, br_pos, br_neg, wX, ↓reduceIte, Nat.reduceEqDiff, Nat.reduceAdd, Nat.reduceSub, Nat.reduceMul, Nat.reduceLeDiff, Nat.reduceLT, Nat.reduceMod, Nat.reduceDiv, Int.reduceToNat, Nat.min_eq_left, IntKind.bits, Int.reducePow, Int.reduceLT, Int.reduceLE, Int.reduceEq, Int.reduceNe, Int.reduceAdd, Int.reduceSub, and_self, reduceCtorEq, decide_eq_true_eq, decide_eq_false_iff_not, eq_self, implies_true, exists_const, Option.isNone_some, Option.isNone_none, Option.isSome_some, Option.isSome_none, Option.getD_some]
  refine (part_ok X k).k ?_
  rintro _ _ ⟨rfl, rfl⟩
  by_cases hp : inP ps k
  · have hd : decide (inP ps k) = true := by simpa using hp
    rw [hd]
    obtain ⟨i, rfl⟩ : ∃ i : Nat, k = (i : Int) := ⟨k.toNat, by have := hp.1; omega⟩
    have hil : i < ps.length := by have := hp.2; omega
    have hiv : i < vs.length := by rw [X.len]; exact hil
    have hli := hps _ (List.getElem_mem hil)
    have hgd : ps.getD (i : Int).toNat [] = ps[i] := by simp [List.getD_eq_getElem?_getD, hil]
    obtain ⟨b, o, i1, t1⟩ := S1.load X.par.s0 hiv .i64
    obtain ⟨va, vc, hva⟩ := (X.recAt hil).len
    rw [hva] at t1
    by_cases h1 : e < 0
    · simp (disch := omega) only [dm_t, wA, wB, wL, wW, wY, Int.fdiv_eq_ediv_of_nonneg, Int.tdiv_eq_ediv_of_nonneg, Int.tmod_eq_emod_of_nonneg, chk_pos, decT, decF, br_pos, br_neg, wX, ↓reduceIte, Nat.reduceEqDiff, Nat.reduceAdd, Nat.reduceSub, Nat.reduceMul, Nat.reduceLeDiff, Nat.reduceLT, Nat.reduceMod, Nat.reduceDiv, Int.reduceToNat, Nat.min_eq_left, IntKind.bits, Int.reducePow, Int.reduceLT, Int.reduceLE, Int.reduceEq, Int.reduceNe, Int.reduceAdd, Int.reduceSub, and_self, reduceCtorEq, decide_eq_true_eq, decide_eq_false_iff_not, eq_self, implies_true, exists_const, Option.isNone_some, Option.isNone_none, Option.isSome_some, Option.isSome_none, Option.getD_some]
      rw [CutR, if_pos hp, hgd, if_neg (by omega)]
      exact ⟨rfl, rfl⟩
    by_cases h2 : (ps[i].length : Int) < e
    · simp (disch := omega) only [dm_t, wA, wB, wL, wW, wY, Int.fdiv_eq_ediv_of_nonneg, Int.tdiv_eq_ediv_of_nonneg, Int.tmod_eq_emod_of_nonneg, chk_pos, decT, decF, br_pos, br_neg, wX, ↓reduceIte, Nat.reduceEqDiff, Nat.reduceAdd, Nat.reduceSub, Nat.reduceMul, Nat.reduceLeDiff, Nat.reduceLT, Nat.reduceMod, Nat.reduceDiv, Int.reduceToNat, Nat.min_eq_left, IntKind.bits, Int.reducePow, Int.reduceLT, Int.reduceLE, Int.reduceEq, Int.reduceNe, Int.reduceAdd, Int.reduceSub, and_self, reduceCtorEq, decide_eq_true_eq, decide_eq_false_iff_not, eq_self, implies_true, exists_const, Option.isNone_some, Option.isNone_none, Option.isSome_some, Option.isSome_none, Option.getD_some, X.cell, i1, t1]
      rw [CutR, if_pos hp, hgd, if_neg (by omega)]
      exact ⟨rfl, rfl⟩
    obtain ⟨u, rfl⟩ : ∃ u : Nat, e = (u : Int) := ⟨e.toNat, by omega⟩
    have own := X.recAt hil
    rw [hva] at own
    obtain ⟨w, c1, c2, c3⟩ := own.cutp u (by omega)
    rw [sz_rc] at c1
    obtain ⟨b8, o8, i8, hst⟩ := MX.store (k := i) X hil hS (Fr.refl _ g) c2 (by rw [hva]; exact fun y hy => .inl (c3 y hy)) .i64
    rw [i1] at i8
    simp only [Option.some.injEq, Value.pointer.injEq, Addr.mk.injEq, and_true] at i8
    obtain ⟨rfl, rfl⟩ := i8
    simp (disch := omega) only [dm_t, wA, wB, wL, wW, wY, Int.fdiv_eq_ediv_of_nonneg, Int.tdiv_eq_ediv_of_nonneg, Int.tmod_eq_emod_of_nonneg, chk_pos, decT, decF, br_pos, br_neg, wX, ↓reduceIte, Nat.reduceEqDiff, Nat.reduceAdd, Nat.reduceSub, Nat.reduceMul, Nat.reduceLeDiff, Nat.reduceLT, Nat.reduceMod, Nat.reduceDiv, Int.reduceToNat, Nat.min_eq_left, IntKind.bits, Int.reducePow, Int.reduceLT, Int.reduceLE, Int.reduceEq, Int.reduceNe, Int.reduceAdd, Int.reduceSub, and_self, reduceCtorEq, decide_eq_true_eq, decide_eq_false_iff_not, eq_self, implies_true, exists_const, Option.isNone_some, Option.isNone_none, Option.isSome_some, Option.isSome_none, Option.getD_some, X.cell, i1, t1, c1]
    refine hst _ fun g2 X2 F2 => ?_
    simp (disch := omega) only [dm_t, wA, wB, wL, wW, wY, Int.fdiv_eq_ediv_of_nonneg, Int.tdiv_eq_ediv_of_nonneg, Int.tmod_eq_emod_of_nonneg, chk_pos, decT, decF, br_pos, br_neg, wX, ↓reduceIte, Nat.reduceEqDiff, Nat.reduceAdd, Nat.reduceSub, Nat.reduceMul, Nat.reduceLeDiff, Nat.reduceLT, Nat.reduceMod, Nat.reduceDiv, Int.reduceToNat, Nat.min_eq_left, IntKind.bits, Int.reducePow, Int.reduceLT, Int.reduceLE, Int.reduceEq, Int.reduceNe, Int.reduceAdd, Int.reduceSub, and_self, reduceCtorEq, decide_eq_true_eq, decide_eq_false_iff_not, eq_self, implies_true, exists_const, Option.isNone_some, Option.isNone_none, Option.isSome_some, Option.isSome_none, Option.getD_some]
    rw [CutR, if_pos hp, hgd, if_pos (by omega)]
    refine ⟨rfl, _, X2, ?_, F2⟩
    rintro y (hy | hy | ⟨v, hv, hy⟩)
    · exact .inl hy
    · exact .inr (.inl hy)
    · rcases List.mem_or_eq_of_mem_set hv with hv | rfl
      · exact .inr (.inr ⟨v, hv, hy⟩)
      · exact .inr (.inr ⟨vs[i], List.getElem_mem hiv, hva ▸ c3 y hy⟩)
  · have hd : decide (inP ps k) = false := by simpa using hp
    rw [hd]
    simp (disch := omega) only [dm_t, wA, wB, wL, wW, wY, Int.fdiv_eq_ediv_of_nonneg, Int.tdiv_eq_ediv_of_nonneg, Int.tmod_eq_emod_of_nonneg, chk_pos, decT, decF, br_pos, br_neg, wX, ↓reduceIte, Nat.reduceEqDiff, Nat.reduceAdd, Nat.reduceSub, Nat.reduceMul, Nat.reduceLeDiff, Nat.reduceLT, Nat.reduceMod, Nat.reduceDiv, Int.reduceToNat, Nat.min_eq_left, IntKind.bits, Int.reducePow, Int.reduceLT, Int.reduceLE, Int.reduceEq, Int.reduceNe, Int.reduceAdd, Int.reduceSub, and_self, reduceCtorEq, decide_eq_true_eq, decide_eq_false_iff_not, eq_self, implies_true, exists_const, Option.isNone_some, Option.isNone_none, Option.isSome_some, Option.isSome_none, Option.getD_some]
    rw [CutR, if_neg hp]
    exact ⟨rfl, rfl⟩
end
/-! ### Does a reply fit? -/
def fitsP (ps : List (List rc.D)) (x : callT.D) (y : replyT.D) : Prop :=
  if (@Eq Int y.1 6 ∨ @Eq Int y.1 9) ∧ @Eq Int x.1 1 then @Eq Int y.2.1 0 ∧ y.2.2.length = 0 else y = tryP ps x
theorem YR.rep {g h' : H} {cs : List Value} {r : replyT.D} (y : YR g h' cs r) : Rep nos replyT h' cs r := by
  obtain ⟨v, h1, h2, h3⟩ := y
  exact rep_reply.2 ⟨v, h1, h2, h3.l.mono0.repS fun _ _ h => h⟩
theorem reply_ext {y z : replyT.D} (h1 : @Eq Int y.1 z.1) (h2 : @Eq Int y.2.1 z.2.1) (h3 : y.2.2 = z.2.2) : y = z := Prod.ext h1 (Prod.ext h2 h3)
theorem Fits1c_ok {T : Nat → Prop} {g : H} {cs : List Value} {y z : replyT.D} {w : Nat} {zv : Value} (hy : Rep T replyT g cs y) (hw : g w = some (.cells (yCs z zv).toArray 36)) (hz : RepL nos rc g zv z.2.2) (hl : y.2.2.length ≤ 4611686018427387904) :
    Ok Try.prog 36 #[.agg cs.toArray, .pointer (some ⟨w, 0, none⟩)] g fun v h' => v = .bool (decide (y = z)) ∧ Ext g h' := by
  obtain ⟨r, rfl, hb, hr⟩ := rep_reply.1 hy
  refine c36_ok (args := [_, _]) (by simp) ?_
  simp (disch := omega) only [dm_t, wA, wB, wL, wW, wY, Int.fdiv_eq_ediv_of_nonneg, Int.tdiv_eq_ediv_of_nonneg, Int.tmod_eq_emod_of_nonneg, chk_pos, decT, decF, br_pos, br_neg, wX, ↓reduceIte, Nat.reduceEqDiff, Nat.reduceAdd, Nat.reduceSub, Nat.reduceMul, Nat.reduceLeDiff, Nat.reduceLT, Nat.reduceMod, Nat.reduceDiv, Int.reduceToNat, Nat.min_eq_left, IntKind.bits, Int.reducePow, Int.reduceLT, Int.reduceLE, Int.reduceEq, Int.reduceNe, Int.reduceAdd, Int.reduceSub, and_self, reduceCtorEq, decide_eq_true_eq, decide_eq_false_iff_not, eq_self, implies_true, exists_const, Option.isNone_some, Option.isNone_none, Option.isSome_some, Option.isSome_none, Option.getD_some]
  intro b hb
  generalize hG : hupd g b _ = g1
  obtain ⟨e1, qb⟩ := new_ext hG hb
  clear hG
  have qw := e1.at hw
  have b0 : cellAt g1 ⟨b, 0, none⟩ = some (.int .i64 y.1) := by rw [cellAt_of qb]; rfl
  have b1 : cellAt g1 ⟨b, 1, none⟩ = some (.int .i64 y.2.1) := by rw [cellAt_of qb]; rfl
  have b2 : cellAt g1 ⟨b, 2, none⟩ = some r := by rw [cellAt_of qb]; rfl
  have w0 : cellAt g1 ⟨w, 0, none⟩ = some (.int .i64 z.1) := by rw [cellAt_of qw]; rfl
  have w1 : cellAt g1 ⟨w, 1, none⟩ = some (.int .i64 z.2.1) := by rw [cellAt_of qw]; rfl
  have w2 : cellAt g1 ⟨w, 2, none⟩ = some zv := by rw [cellAt_of qw]; rfl
  have no : ¬ y = z → Value.bool false = .bool (decide (y = z)) := fun h => by simp [h]
  by_cases h1 : @Eq Int y.1 z.1
  · rw [← h1] at w0
    by_cases h2 : @Eq Int y.2.1 z.2.1
    · rw [← h2] at w1
      simp (disch := omega) only [dm_t, wA, wB, wL, wW, wY, Int.fdiv_eq_ediv_of_nonneg, Int.tdiv_eq_ediv_of_nonneg, Int.tmod_eq_emod_of_nonneg, chk_pos, decT, decF, br_pos, br_neg, wX, ↓reduceIte, Nat.reduceEqDiff, Nat.reduceAdd, Nat.reduceSub, Nat.reduceMul, Nat.reduceLeDiff, Nat.reduceLT, Nat.reduceMod, Nat.reduceDiv, Int.reduceToNat, Nat.min_eq_left, IntKind.bits, Int.reducePow, Int.reduceLT, Int.reduceLE, Int.reduceEq, Int.reduceNe, Int.reduceAdd, Int.reduceSub, and_self, reduceCtorEq, decide_eq_true_eq, decide_eq_false_iff_not, eq_self, implies_true, exists_const, Option.isNone_some, Option.isNone_none, Option.isSome_some, Option.isSome_none, Option.getD_some, b0, b1, b2, w0, w1, w2]
      refine (SameAll_ok (hr.ext e1) (hz.ext e1) hl).k ?_
      rintro _ g2 ⟨rfl, e2⟩
      simp (disch := omega) only [dm_t, wA, wB, wL, wW, wY, Int.fdiv_eq_ediv_of_nonneg, Int.tdiv_eq_ediv_of_nonneg, Int.tmod_eq_emod_of_nonneg, chk_pos, decT, decF, br_pos, br_neg, wX, ↓reduceIte, Nat.reduceEqDiff, Nat.reduceAdd, Nat.reduceSub, Nat.reduceMul, Nat.reduceLeDiff, Nat.reduceLT, Nat.reduceMod, Nat.reduceDiv, Int.reduceToNat, Nat.min_eq_left, IntKind.bits, Int.reducePow, Int.reduceLT, Int.reduceLE, Int.reduceEq, Int.reduceNe, Int.reduceAdd, Int.reduceSub, and_self, reduceCtorEq, decide_eq_true_eq, decide_eq_false_iff_not, eq_self, implies_true, exists_const, Option.isNone_some, Option.isNone_none, Option.isSome_some, Option.isSome_none, Option.getD_some]
      refine ⟨?_, e1.trans e2⟩
      congr 1
      exact decide_eq_decide.2 ⟨fun h3 => reply_ext h1 h2 h3, fun h => by rw [h]⟩
    · simp (disch := omega) only [dm_t, wA, wB, wL, wW, wY, Int.fdiv_eq_ediv_of_nonneg, Int.tdiv_eq_ediv_of_nonneg, Int.tmod_eq_emod_of_nonneg, chk_pos, decT, decF, br_pos, br_neg, wX, ↓reduceIte, Nat.reduceEqDiff, Nat.reduceAdd, Nat.reduceSub, Nat.reduceMul, Nat.reduceLeDiff, Nat.reduceLT, Nat.reduceMod, Nat.reduceDiv, Int.reduceToNat, Nat.min_eq_left, IntKind.bits, Int.reducePow, Int.reduceLT, Int.reduceLE, Int.reduceEq, Int.reduceNe, Int.reduceAdd, Int.reduceSub, and_self, reduceCtorEq, decide_eq_true_eq, decide_eq_false_iff_not, eq_self, implies_true, exists_const, Option.isNone_some, Option.isNone_none, Option.isSome_some, Option.isSome_none, Option.getD_some, b0, b1, b2, w0, w1, w2]
      exact ⟨no fun h => h2 (by rw [h]), e1⟩
  · simp (disch := omega) only [dm_t, wA, wB, wL, wW, wY, Int.fdiv_eq_ediv_of_nonneg, Int.tdiv_eq_ediv_of_nonneg, Int.tmod_eq_emod_of_nonneg, chk_pos, decT, decF, br_pos, br_neg, wX, ↓reduceIte, Nat.reduceEqDiff, Nat.reduceAdd, Nat.reduceSub, Nat.reduceMul, Nat.reduceLeDiff, Nat.reduceLT, Nat.reduceMod, Nat.reduceDiv, Int.reduceToNat, Nat.min_eq_left, IntKind.bits, Int.reducePow, Int.reduceLT, Int.reduceLE, Int.reduceEq, Int.reduceNe, Int.reduceAdd, Int.reduceSub, and_self, reduceCtorEq, decide_eq_true_eq, decide_eq_false_iff_not, eq_self, implies_true, exists_const, Option.isNone_some, Option.isNone_none, Option.isSome_some, Option.isSome_none, Option.getD_some, b0, b1, b2, w0, w1, w2]
    exact ⟨no fun h => h1 (by rw [h]), e1⟩
section
variable {S : Nat → Prop} {h0 g : H} {p : Nat} {pv : Value} {vs : List Value} {ps : List (List rc.D)}
theorem Fits_ok {T : Nat → Prop} {cs ds : List Value} {x : callT.D} {y : replyT.D} (X : MX S h0 g p pv vs ps) (hx : Rep nos callT g cs x) (hy : Rep T replyT g ds y) (hl : x.2.2.1.length ≤ 4611686018427387904) (hl2 : y.2.2.length ≤ 4611686018427387904) (hps : ∀ l ∈ ps, lims l) :
    Ok Try.prog 14 #[.pointer (some ⟨p, 0, none⟩), .agg cs.toArray, .agg ds.toArray] g fun v h' => (∃ b, v = .bool b ∧ (b = true ↔ fitsP ps x y)) ∧ Ext g h' := by
  obtain ⟨r, rfl, hb, hr⟩ := rep_call.1 hx
  obtain ⟨q, rfl, hqb, hq⟩ := rep_reply.1 hy
  obtain ⟨qa, qc, rfl⟩ := hq.len
  refine c14_ok (args := [_, _, _]) (by simp) ?_
  simp (disch := omega) only [dm_t, wA, wB, wL, wW, wY, Int.fdiv_eq_ediv_of_nonneg, Int.tdiv_eq_ediv_of_nonneg, Int.tmod_eq_emod_of_nonneg, chk_pos, decT, decF, br_pos, br_neg, wX, ↓reduceIte, Nat.reduceEqDiff, Nat.reduceAdd, Nat.reduceSub, Nat.reduceMul, Nat.reduceLeDiff, Nat.reduceLT, Nat.reduceMod, Nat.reduceDiv, Int.reduceToNat, Nat.min_eq_left, IntKind.bits, Int.reducePow, Int.reduceLT, Int.reduceLE, Int.reduceEq, Int.reduceNe, Int.reduceAdd, Int.reduceSub, and_self, reduceCtorEq, decide_eq_true_eq, decide_eq_false_iff_not, eq_self, implies_true, exists_const, Option.isNone_some, Option.isNone_none, Option.isSome_some, Option.isSome_none, Option.getD_some]
  intro b hbn d hd
  generalize hG : hupd g b _ = g1 at hd ⊢
  obtain ⟨e1, qb⟩ := new_ext hG hbn
  clear hG
  generalize hG : hupd g1 d _ = g2
  obtain ⟨e2, qd⟩ := new_ext hG hd
  clear hG
  have E2 := e1.trans e2
  replace qb := e2.at qb
  have k := caC qb
  refine (none_ok (X.ext E2)).k ?_
  rintro _ _ ⟨rfl, rfl⟩
  simp (disch := omega) only [dm_t, wA, wB, wL, wW, wY, Int.fdiv_eq_ediv_of_nonneg, Int.tdiv_eq_ediv_of_nonneg, Int.tmod_eq_emod_of_nonneg, chk_pos, decT, decF, br_pos, br_neg, wX, ↓reduceIte, Nat.reduceEqDiff, Nat.reduceAdd, Nat.reduceSub, Nat.reduceMul, Nat.reduceLeDiff, Nat.reduceLT, Nat.reduceMod, Nat.reduceDiv, Int.reduceToNat, Nat.min_eq_left, IntKind.bits, Int.reducePow, Int.reduceLT, Int.reduceLE, Int.reduceEq, Int.reduceNe, Int.reduceAdd, Int.reduceSub, and_self, reduceCtorEq, decide_eq_true_eq, decide_eq_false_iff_not, eq_self, implies_true, exists_const, Option.isNone_some, Option.isNone_none, Option.isSome_some, Option.isSome_none, Option.getD_some, k.ca]
  refine (Try_ok (X.ext E2) (hx.ext E2) hl hps).k ?_
  rintro _ g3 ⟨cs', rfl, ⟨hyr, -⟩, e3⟩
  obtain ⟨zv, rfl, hyb, how⟩ := id hyr
  obtain ⟨wa, wn, rfl⟩ := how.l.len
  simp (disch := omega) only [dm_t, wA, wB, wL, wW, wY, Int.fdiv_eq_ediv_of_nonneg, Int.tdiv_eq_ediv_of_nonneg, Int.tmod_eq_emod_of_nonneg, chk_pos, decT, decF, br_pos, br_neg, wX, ↓reduceIte, Nat.reduceEqDiff, Nat.reduceAdd, Nat.reduceSub, Nat.reduceMul, Nat.reduceLeDiff, Nat.reduceLT, Nat.reduceMod, Nat.reduceDiv, Int.reduceToNat, Nat.min_eq_left, IntKind.bits, Int.reducePow, Int.reduceLT, Int.reduceLE, Int.reduceEq, Int.reduceNe, Int.reduceAdd, Int.reduceSub, and_self, reduceCtorEq, decide_eq_true_eq, decide_eq_false_iff_not, eq_self, implies_true, exists_const, Option.isNone_some, Option.isNone_none, Option.isSome_some, Option.isSome_none, Option.getD_some]
  intro t ht
  simp (disch := omega) only [dm_t, wA, wB, wL, wW, wY, Int.fdiv_eq_ediv_of_nonneg, Int.tdiv_eq_ediv_of_nonneg, Int.tmod_eq_emod_of_nonneg, chk_pos, decT, decF, br_pos, br_neg, wX, ↓reduceIte, Nat.reduceEqDiff, Nat.reduceAdd, Nat.reduceSub, Nat.reduceMul, Nat.reduceLeDiff, Nat.reduceLT, Nat.reduceMod, Nat.reduceDiv, Int.reduceToNat, Nat.min_eq_left, IntKind.bits, Int.reducePow, Int.reduceLT, Int.reduceLE, Int.reduceEq, Int.reduceNe, Int.reduceAdd, Int.reduceSub, and_self, reduceCtorEq, decide_eq_true_eq, decide_eq_false_iff_not, eq_self, implies_true, exists_const, Option.isNone_some, Option.isNone_none, Option.isSome_some, Option.isSome_none, Option.getD_some]
  refine res3 _ _ (hupd_same _ _ _) rfl rfl ?_
  intro g4 kt qt f4
  have e4 : Ext g3 g4 := Ext.step' (Ext.new ht _) f4 fun y hy => by rw [hy]; exact ht
  have E4 := (E2.trans e3).trans e4
  have k4 := caC (e4.at (e3.at qb))
  have qd4 := e4.at (e3.at qd)
  have d0 : cellAt g4 ⟨d, 0, none⟩ = some (.int .i64 y.1) := by rw [cellAt_of qd4]; rfl
  have d1 : cellAt g4 ⟨d, 1, none⟩ = some (.int .i64 y.2.1) := by rw [cellAt_of qd4]; rfl
  have d2 : cellAt g4 ⟨d, 2, none⟩ = some (.slice qa y.2.2.length qc) := by rw [cellAt_of qd4]; rfl
  have da : cellsAt g4 ⟨d, 0, none⟩ 3 = some (yCs y (.slice qa y.2.2.length qc)).toArray := cellsAt_all qd4 3 rfl
  have hz : RepL nos rc g4 (.slice wa (tryP ps x).2.2.length wn) (tryP ps x).2.2 := (how.l.mono0.repS fun _ _ h => h).ext e4
  have hcl := Fits1c_ok (hy.ext E4) qt hz hl2
  have yes : ((@Eq Int y.1 6 ∨ @Eq Int y.1 9) ∧ @Eq Int x.1 1) → fitsP ps x y = (@Eq Int y.2.1 0 ∧ y.2.2.length = 0) := fun h => by rw [fitsP, if_pos h]
  have not : ¬ ((@Eq Int y.1 6 ∨ @Eq Int y.1 9) ∧ @Eq Int x.1 1) → fitsP ps x y = (y = tryP ps x) := fun h => by rw [fitsP, if_neg h]
  have fin : ∀ {K : Value → H → Prop} {X : List PanicEntry → H → Prop}, fitsP ps x y = (y = tryP ps x) → (∀ v g5, (∃ b, v = .bool b ∧ (b = true ↔ fitsP ps x y)) → Ext g g5 → K v g5) → callK Try.prog 36 #[.agg (yCs y (.slice qa y.2.2.length qc)).toArray, .pointer (some ⟨t, 0, none⟩)] g4 K X := by
    intro K X hf hK
    refine hcl.k ?_
    rintro _ g5 ⟨rfl, e5⟩
    exact hK _ _ ⟨_, rfl, by rw [hf, decide_eq_true_eq]⟩ (E4.trans e5)
  by_cases h1 : @Eq Int x.1 1
  · have c0 := k4.c0
    rw [h1] at c0
    by_cases h69 : @Eq Int y.1 6 ∨ @Eq Int y.1 9
    · have hf := yes ⟨h69, h1⟩
      by_cases h2 : @Eq Int y.2.1 0
      · have hlen : (@Eq Int (y.2.2.length : Int) 0 ↔ fitsP ps x y) := by
          rw [hf]
          exact ⟨fun h => ⟨h2, by omega⟩, fun h => by have := h.2; omega⟩
        rw [h2] at d1
        rcases h69 with h6 | h6
        all_goals
          rw [h6] at d0
          simp (disch := omega) only [dm_t, wA, wB, wL, wW, wY, Int.fdiv_eq_ediv_of_nonneg, Int.tdiv_eq_ediv_of_nonneg, Int.tmod_eq_emod_of_nonneg, chk_pos, decT, decF, br_pos, br_neg, wX, ↓reduceIte, Nat.reduceEqDiff, Nat.reduceAdd, Nat.reduceSub, Nat.reduceMul, Nat.reduceLeDiff, Nat.reduceLT, Nat.reduceMod, Nat.reduceDiv, Int.reduceToNat, Nat.min_eq_left, IntKind.bits, Int.reducePow, Int.reduceLT, Int.reduceLE, Int.reduceEq, Int.reduceNe, Int.reduceAdd, Int.reduceSub, and_self, reduceCtorEq, decide_eq_true_eq, decide_eq_false_iff_not, eq_self, implies_true, exists_const, Option.isNone_some, Option.isNone_none, Option.isSome_some, Option.isSome_none, Option.getD_some, d0, d1, d2, c0]
          exact ⟨⟨_, rfl, by rw [decide_eq_true_eq]; exact hlen⟩, E4⟩
      · have hno : ¬ fitsP ps x y := by rw [hf]; exact fun h => h2 h.1
        rcases h69 with h6 | h6
        all_goals
          rw [h6] at d0
          simp (disch := omega) only [dm_t, wA, wB, wL, wW, wY, Int.fdiv_eq_ediv_of_nonneg, Int.tdiv_eq_ediv_of_nonneg, Int.tmod_eq_emod_of_nonneg, chk_pos, decT, decF, br_pos, br_neg, wX, ↓reduceIte, Nat.reduceEqDiff, Nat.reduceAdd, Nat.reduceSub, Nat.reduceMul, Nat.reduceLeDiff, Nat.reduceLT, Nat.reduceMod, Nat.reduceDiv, Int.reduceToNat, Nat.min_eq_left, IntKind.bits, Int.reducePow, Int.reduceLT, Int.reduceLE, Int.reduceEq, Int.reduceNe, Int.reduceAdd, Int.reduceSub, and_self, reduceCtorEq, decide_eq_true_eq, decide_eq_false_iff_not, eq_self, implies_true, exists_const, Option.isNone_some, Option.isNone_none, Option.isSome_some, Option.isSome_none, Option.getD_some, d0, d1, d2, c0]
          exact ⟨⟨_, rfl, by simp [hno]⟩, E4⟩
    · have hf := not fun h => h69 h.1
      have h6 : ¬ @Eq Int y.1 6 := fun h => h69 (.inl h)
      have h9 : ¬ @Eq Int y.1 9 := fun h => h69 (.inr h)
      simp (disch := omega) only [dm_t, wA, wB, wL, wW, wY, Int.fdiv_eq_ediv_of_nonneg, Int.tdiv_eq_ediv_of_nonneg, Int.tmod_eq_emod_of_nonneg, chk_pos, decT, decF, br_pos, br_neg, wX, ↓reduceIte, Nat.reduceEqDiff, Nat.reduceAdd, Nat.reduceSub, Nat.reduceMul, Nat.reduceLeDiff, Nat.reduceLT, Nat.reduceMod, Nat.reduceDiv, Int.reduceToNat, Nat.min_eq_left, IntKind.bits, Int.reducePow, Int.reduceLT, Int.reduceLE, Int.reduceEq, Int.reduceNe, Int.reduceAdd, Int.reduceSub, and_self, reduceCtorEq, decide_eq_true_eq, decide_eq_false_iff_not, eq_self, implies_true, exists_const, Option.isNone_some, Option.isNone_none, Option.isSome_some, Option.isSome_none, Option.getD_some, d0, da]
      refine ⟨by rfl, fin hf ?_⟩
      intro v g5 hv hE
      obtain ⟨bb, rfl, hb⟩ := hv
      simp (disch := omega) only [dm_t, wA, wB, wL, wW, wY, Int.fdiv_eq_ediv_of_nonneg, Int.tdiv_eq_ediv_of_nonneg, Int.tmod_eq_emod_of_nonneg, chk_pos, decT, decF, br_pos, br_neg, wX, ↓reduceIte, Nat.reduceEqDiff, Nat.reduceAdd, Nat.reduceSub, Nat.reduceMul, Nat.reduceLeDiff, Nat.reduceLT, Nat.reduceMod, Nat.reduceDiv, Int.reduceToNat, Nat.min_eq_left, IntKind.bits, Int.reducePow, Int.reduceLT, Int.reduceLE, Int.reduceEq, Int.reduceNe, Int.reduceAdd, Int.reduceSub, and_self, reduceCtorEq, decide_eq_true_eq, decide_eq_false_iff_not, eq_self, implies_true, exists_const, Option.isNone_some, Option.isNone_none, Option.isSome_some, Option.isSome_none, Option.getD_some]
      exact ⟨⟨_, rfl, hb⟩, hE⟩
  · have hf := not fun h => h1 h.2
    have c0 := k4.c0
    by_cases h6 : @Eq Int y.1 6
    · rw [h6] at d0
      simp (disch := omega) only [dm_t, wA, wB, wL, wW, wY, Int.fdiv_eq_ediv_of_nonneg, Int.tdiv_eq_ediv_of_nonneg, Int.tmod_eq_emod_of_nonneg, chk_pos, decT, decF, br_pos, br_neg, wX, ↓reduceIte, Nat.reduceEqDiff, Nat.reduceAdd, Nat.reduceSub, Nat.reduceMul, Nat.reduceLeDiff, Nat.reduceLT, Nat.reduceMod, Nat.reduceDiv, Int.reduceToNat, Nat.min_eq_left, IntKind.bits, Int.reducePow, Int.reduceLT, Int.reduceLE, Int.reduceEq, Int.reduceNe, Int.reduceAdd, Int.reduceSub, and_self, reduceCtorEq, decide_eq_true_eq, decide_eq_false_iff_not, eq_self, implies_true, exists_const, Option.isNone_some, Option.isNone_none, Option.isSome_some, Option.isSome_none, Option.getD_some, d0, c0, da]
      refine ⟨by rfl, fin hf ?_⟩
      intro v g5 hv hE
      obtain ⟨bb, rfl, hb⟩ := hv
      simp (disch := omega) only [dm_t, wA, wB, wL, wW, wY, Int.fdiv_eq_ediv_of_nonneg, Int.tdiv_eq_ediv_of_nonneg, Int.tmod_eq_emod_of_nonneg, chk_pos, decT, decF, br_pos, br_neg, wX, ↓reduceIte, Nat.reduceEqDiff, Nat.reduceAdd, Nat.reduceSub, Nat.reduceMul, Nat.reduceLeDiff, Nat.reduceLT, Nat.reduceMod, Nat.reduceDiv, Int.reduceToNat, Nat.min_eq_left, IntKind.bits, Int.reducePow, Int.reduceLT, Int.reduceLE, Int.reduceEq, Int.reduceNe, Int.reduceAdd, Int.reduceSub, and_self, reduceCtorEq, decide_eq_true_eq, decide_eq_false_iff_not, eq_self, implies_true, exists_const, Option.isNone_some, Option.isNone_none, Option.isSome_some, Option.isSome_none, Option.getD_some]
      exact ⟨⟨_, rfl, hb⟩, hE⟩
    · by_cases h9 : @Eq Int y.1 9
      · rw [h9] at d0
        simp (disch := omega) only [dm_t, wA, wB, wL, wW, wY, Int.fdiv_eq_ediv_of_nonneg, Int.tdiv_eq_ediv_of_nonneg, Int.tmod_eq_emod_of_nonneg, chk_pos, decT, decF, br_pos, br_neg, wX, ↓reduceIte, Nat.reduceEqDiff, Nat.reduceAdd, Nat.reduceSub, Nat.reduceMul, Nat.reduceLeDiff, Nat.reduceLT, Nat.reduceMod, Nat.reduceDiv, Int.reduceToNat, Nat.min_eq_left, IntKind.bits, Int.reducePow, Int.reduceLT, Int.reduceLE, Int.reduceEq, Int.reduceNe, Int.reduceAdd, Int.reduceSub, and_self, reduceCtorEq, decide_eq_true_eq, decide_eq_false_iff_not, eq_self, implies_true, exists_const, Option.isNone_some, Option.isNone_none, Option.isSome_some, Option.isSome_none, Option.getD_some, d0, c0, da]
        refine ⟨by rfl, fin hf ?_⟩
        intro v g5 hv hE
        obtain ⟨bb, rfl, hb⟩ := hv
        simp (disch := omega) only [dm_t, wA, wB, wL, wW, wY, Int.fdiv_eq_ediv_of_nonneg, Int.tdiv_eq_ediv_of_nonneg, Int.tmod_eq_emod_of_nonneg, chk_pos, decT, decF, br_pos, br_neg, wX, ↓reduceIte, Nat.reduceEqDiff, Nat.reduceAdd, Nat.reduceSub, Nat.reduceMul, Nat.reduceLeDiff, Nat.reduceLT, Nat.reduceMod, Nat.reduceDiv, Int.reduceToNat, Nat.min_eq_left, IntKind.bits, Int.reducePow, Int.reduceLT, Int.reduceLE, Int.reduceEq, Int.reduceNe, Int.reduceAdd, Int.reduceSub, and_self, reduceCtorEq, decide_eq_true_eq, decide_eq_false_iff_not, eq_self, implies_true, exists_const, Option.isNone_some, Option.isNone_none, Option.isSome_some, Option.isSome_none, Option.getD_some]
        exact ⟨⟨_, rfl, hb⟩, hE⟩
      · simp (disch := omega) only [dm_t, wA, wB, wL, wW, wY, Int.fdiv_eq_ediv_of_nonneg, Int.tdiv_eq_ediv_of_nonneg, Int.tmod_eq_emod_of_nonneg, chk_pos, decT, decF, br_pos, br_neg, wX, ↓reduceIte, Nat.reduceEqDiff, Nat.reduceAdd, Nat.reduceSub, Nat.reduceMul, Nat.reduceLeDiff, Nat.reduceLT, Nat.reduceMod, Nat.reduceDiv, Int.reduceToNat, Nat.min_eq_left, IntKind.bits, Int.reducePow, Int.reduceLT, Int.reduceLE, Int.reduceEq, Int.reduceNe, Int.reduceAdd, Int.reduceSub, and_self, reduceCtorEq, decide_eq_true_eq, decide_eq_false_iff_not, eq_self, implies_true, exists_const, Option.isNone_some, Option.isNone_none, Option.isSome_some, Option.isSome_none, Option.getD_some, d0, c0, da]
        refine ⟨by rfl, fin hf ?_⟩
        intro v g5 hv hE
        obtain ⟨bb, rfl, hb⟩ := hv
        simp (disch := omega) only [dm_t, wA, wB, wL, wW, wY, Int.fdiv_eq_ediv_of_nonneg, Int.tdiv_eq_ediv_of_nonneg, Int.tmod_eq_emod_of_nonneg, chk_pos, decT, decF, br_pos, br_neg, wX, ↓reduceIte, Nat.reduceEqDiff, Nat.reduceAdd, Nat.reduceSub, Nat.reduceMul, Nat.reduceLeDiff, Nat.reduceLT, Nat.reduceMod, Nat.reduceDiv, Int.reduceToNat, Nat.min_eq_left, IntKind.bits, Int.reducePow, Int.reduceLT, Int.reduceLE, Int.reduceEq, Int.reduceNe, Int.reduceAdd, Int.reduceSub, and_self, reduceCtorEq, decide_eq_true_eq, decide_eq_false_iff_not, eq_self, implies_true, exists_const, Option.isNone_some, Option.isNone_none, Option.isSome_some, Option.isSome_none, Option.getD_some]
        exact ⟨⟨_, rfl, hb⟩, hE⟩
end
/-! ### Scripts -/
abbrev stepT : Ty := .pair tI (.pair tI (.pair tI (.pair callT replyT)))
theorem rep_step {S : Nat → Prop} {h : H} {cs : List Value} {x : stepT.D} (r : Rep S stepT h cs x) : ∃ c d, cs = [.int .i64 x.1, .int .i64 x.2.1, .int .i64 x.2.2.1] ++ cCs x.2.2.2.1 c ++ yCs x.2.2.2.2 d ∧ inI x.1 ∧ inI x.2.1 ∧ inI x.2.2.1 ∧
    Rep S callT h (cCs x.2.2.2.1 c) x.2.2.2.1 ∧ Rep S replyT h (yCs x.2.2.2.2 d) x.2.2.2.2 := by
  obtain ⟨c1, d1, rfl, ⟨rfl, b1⟩, c2, d2, rfl, ⟨rfl, b2⟩, c3, d3, rfl, ⟨rfl, b3⟩, c4, d4, rfl, r4, r5⟩ := r
  obtain ⟨c, rfl, _⟩ := rep_call.1 r4
  obtain ⟨d, rfl, _⟩ := rep_reply.1 r5
  exact ⟨c, d, rfl, b1, b2, b3, r4, r5⟩
def bigS (s : stepT.D) : Bool := largeP 260 s.2.2.2.1.2.2.1 || largeP 260 s.2.2.2.2.2.2
def vastP (l : List stepT.D) : Bool := decide (150 < l.length) || l.any bigS
theorem vastP_not {l : List stepT.D} (h : vastP l = false) : l.length ≤ 150 ∧ ∀ s ∈ l, largeP 260 s.2.2.2.1.2.2.1 = false ∧ largeP 260 s.2.2.2.2.2.2 = false := by
  simp only [vastP, Bool.or_eq_false_iff, decide_eq_false_iff_not, List.any_eq_false, bigS, Bool.or_eq_true, not_or, Bool.not_eq_true] at h
  exact ⟨by omega, h.2⟩
theorem step_at {S : Nat → Prop} {h : H} {a : Option Addr} {n m : Nat} {l : List stepT.D} (r : RepL S stepT h (.slice a n m) l) {i : Nat} (hi : i < l.length) :
    ∃ b o c d, idxV1 11 (.slice a n m) (.int .i64 (i : Int)) = some (.pointer (some ⟨b, o, none⟩)) ∧ cellsAt h ⟨b, o + 3, none⟩ 5 = some (cCs (l[i]).2.2.2.1 c).toArray ∧ cellAt h ⟨b, o + 3 + 2, none⟩ = some c ∧ cellsAt h ⟨b, o + 8, none⟩ 3 = some (yCs (l[i]).2.2.2.2 d).toArray ∧
      cellAt h ⟨b, o + 8 + 2, none⟩ = some d ∧ cellAt h ⟨b, o, none⟩ = some (.int .i64 (l[i]).1) ∧ cellAt h ⟨b, o + 1, none⟩ = some (.int .i64 (l[i]).2.1) ∧ cellAt h ⟨b, o + 2, none⟩ = some (.int .i64 (l[i]).2.2.1) ∧ inI (l[i]).1 ∧ inI (l[i]).2.1 ∧ inI (l[i]).2.2.1 ∧
      Rep S callT h (cCs (l[i]).2.2.2.1 c) (l[i]).2.2.2.1 ∧ Rep S replyT h (yCs (l[i]).2.2.2.2 d) (l[i]).2.2.2.2 := by
  obtain ⟨b, o, cs, gi, g1, g2, g3⟩ := r.load hi .i64 11 rfl
  obtain ⟨c, d, rfl, b1, b2, b3, r4, r5⟩ := rep_step g3
  exact ⟨b, o, c, d, gi, cellsAt_part g1 3 5 (by omega) (by omega), g2 5 (by omega), cellsAt_part g1 8 3 (by omega) (by omega), g2 10 (by omega), g2 0 (by omega), g2 1 (by omega), g2 2 (by omega), b1, b2, b3, r4, r5⟩
theorem vast_ok {S : Nat → Prop} {h : H} {s : Value} {l : List stepT.D} (hs : RepL S stepT h s l) (hl : l.length ≤ 4611686018427387904) (hl1 : ∀ x ∈ l, x.2.2.2.1.2.2.1.length ≤ 4611686018427387904 ∧ x.2.2.2.2.2.2.length ≤ 4611686018427387904) :
    Ok Try.prog 7 #[s] h fun v h' => v = .bool (vastP l) ∧ h = h' := by
  obtain ⟨sa, sc, rfl⟩ := hs.len
  refine c7_ok (args := [_]) (by simp) ?_
  by_cases h1 : 150 < l.length
  · simp (disch := omega) only [dm_t, wA, wB, wL, wW, wY, Int.fdiv_eq_ediv_of_nonneg, Int.tdiv_eq_ediv_of_nonneg, Int.tmod_eq_emod_of_nonneg, chk_pos, decT, decF, br_pos, br_neg, wX, ↓reduceIte, Nat.reduceEqDiff, Nat.reduceAdd, Nat.reduceSub, Nat.reduceMul, Nat.reduceLeDiff, Nat.reduceLT, Nat.reduceMod, Nat.reduceDiv, Int.reduceToNat, Nat.min_eq_left, IntKind.bits, Int.reducePow, Int.reduceLT, Int.reduceLE, Int.reduceEq, Int.reduceNe, Int.reduceAdd, Int.reduceSub, and_self, reduceCtorEq, decide_eq_true_eq, decide_eq_false_iff_not, eq_self, implies_true, exists_const, Option.isNone_some, Option.isNone_none, Option.isSome_some, Option.isSome_none, Option.getD_some]
    simp [vastP, h1]
  · simp (disch := omega) only [dm_t, wA, wB, wL, wW, wY, Int.fdiv_eq_ediv_of_nonneg, Int.tdiv_eq_ediv_of_nonneg, Int.tmod_eq_emod_of_nonneg, chk_pos, decT, decF, br_pos, br_neg, wX, ↓reduceIte, Nat.reduceEqDiff, Nat.reduceAdd, Nat.reduceSub, Nat.reduceMul, Nat.reduceLeDiff, Nat.reduceLT, Nat.reduceMod, Nat.reduceDiv, Int.reduceToNat, Nat.min_eq_left, IntKind.bits, Int.reducePow, Int.reduceLT, Int.reduceLE, Int.reduceEq, Int.reduceNe, Int.reduceAdd, Int.reduceSub, and_self, reduceCtorEq, decide_eq_true_eq, decide_eq_false_iff_not, eq_self, implies_true, exists_const, Option.isNone_some, Option.isNone_none, Option.isSome_some, Option.isSome_none, Option.getD_some]
    refine vc_loop1 (fun vi h' => h' = h ∧ ∃ i : Nat, vi = .int .i64 (i : Int) ∧ i ≤ l.length ∧ (l.take i).any bigS = false) (fun vi _ => l.length - m1 vi) ?_ ?_
    · simp (disch := omega) only [dm_t, wA, wB, wL, wW, wY, Int.fdiv_eq_ediv_of_nonneg, Int.tdiv_eq_ediv_of_nonneg, Int.tmod_eq_emod_of_nonneg, chk_pos, decT, decF, br_pos, br_neg, wX, ↓reduceIte, Nat.reduceEqDiff, Nat.reduceAdd, Nat.reduceSub, Nat.reduceMul, Nat.reduceLeDiff, Nat.reduceLT, Nat.reduceMod, Nat.reduceDiv, Int.reduceToNat, Nat.min_eq_left, IntKind.bits, Int.reducePow, Int.reduceLT, Int.reduceLE, Int.reduceEq, Int.reduceNe, Int.reduceAdd, Int.reduceSub, and_self, reduceCtorEq, decide_eq_true_eq, decide_eq_false_iff_not, eq_self, implies_true, exists_const, Option.isNone_some, Option.isNone_none, Option.isSome_some, Option.isSome_none, Option.getD_some]
      exact ⟨0, rfl, by omega, by simp⟩
    rintro _ g ⟨rfl, i, rfl, hi, hall⟩
    by_cases hil : i < l.length
    · have hsplit : l.take (i + 1) = l.take i ++ [l[i]] := by simp
      obtain ⟨hc, hr⟩ := hl1 _ (List.getElem_mem hil)
      obtain ⟨b, o, c, d, gi, k1, k2, k3, k4, -, -, -, -, -, -, rc1, rc2⟩ := step_at hs hil
      obtain ⟨_, e1, _, rr1⟩ := rep_call.1 rc1
      obtain ⟨_, e2, _, rr2⟩ := rep_reply.1 rc2
      simp only [List.cons.injEq, and_true, true_and] at e1 e2
      obtain rfl := e1
      obtain rfl := e2
      have bad : bigS l[i] = true → Value.bool true = .bool (vastP l) := by
        intro hb
        have : l.any bigS = true := List.any_eq_true.2 ⟨_, List.getElem_mem hil, hb⟩
        simp [vastP, this]
      simp (disch := omega) only [dm_t, wA, wB, wL, wW, wY, Int.fdiv_eq_ediv_of_nonneg, Int.tdiv_eq_ediv_of_nonneg, Int.tmod_eq_emod_of_nonneg, chk_pos, decT, decF, br_pos, br_neg, wX, ↓reduceIte, Nat.reduceEqDiff, Nat.reduceAdd, Nat.reduceSub, Nat.reduceMul, Nat.reduceLeDiff, Nat.reduceLT, Nat.reduceMod, Nat.reduceDiv, Int.reduceToNat, Nat.min_eq_left, IntKind.bits, Int.reducePow, Int.reduceLT, Int.reduceLE, Int.reduceEq, Int.reduceNe, Int.reduceAdd, Int.reduceSub, and_self, reduceCtorEq, decide_eq_true_eq, decide_eq_false_iff_not, eq_self, implies_true, exists_const, Option.isNone_some, Option.isNone_none, Option.isSome_some, Option.isSome_none, Option.getD_some, gi, k2]
      refine (Large_ok 260 rr1 hc).k ?_
      rintro _ _ ⟨rfl, rfl⟩
      by_cases c1 : largeP 260 (l[i]).2.2.2.1.2.2.1 = true
      · simp (disch := omega) only [dm_t, wA, wB, wL, wW, wY, Int.fdiv_eq_ediv_of_nonneg, Int.tdiv_eq_ediv_of_nonneg, Int.tmod_eq_emod_of_nonneg, chk_pos, decT, decF, br_pos, br_neg, wX, ↓reduceIte, Nat.reduceEqDiff, Nat.reduceAdd, Nat.reduceSub, Nat.reduceMul, Nat.reduceLeDiff, Nat.reduceLT, Nat.reduceMod, Nat.reduceDiv, Int.reduceToNat, Nat.min_eq_left, IntKind.bits, Int.reducePow, Int.reduceLT, Int.reduceLE, Int.reduceEq, Int.reduceNe, Int.reduceAdd, Int.reduceSub, and_self, reduceCtorEq, decide_eq_true_eq, decide_eq_false_iff_not, eq_self, implies_true, exists_const, Option.isNone_some, Option.isNone_none, Option.isSome_some, Option.isSome_none, Option.getD_some, c1]
        exact bad (by simp [bigS, c1])
      · rw [Bool.not_eq_true] at c1
        simp (disch := omega) only [dm_t, wA, wB, wL, wW, wY, Int.fdiv_eq_ediv_of_nonneg, Int.tdiv_eq_ediv_of_nonneg, Int.tmod_eq_emod_of_nonneg, chk_pos, decT, decF, br_pos, br_neg, wX, ↓reduceIte, Nat.reduceEqDiff, Nat.reduceAdd, Nat.reduceSub, Nat.reduceMul, Nat.reduceLeDiff, Nat.reduceLT, Nat.reduceMod, Nat.reduceDiv, Int.reduceToNat, Nat.min_eq_left, IntKind.bits, Int.reducePow, Int.reduceLT, Int.reduceLE, Int.reduceEq, Int.reduceNe, Int.reduceAdd, Int.reduceSub, and_self, reduceCtorEq, decide_eq_true_eq, decide_eq_false_iff_not, eq_self, implies_true, exists_const, Option.isNone_some, Option.isNone_none, Option.isSome_some, Option.isSome_none, Option.getD_some, c1, gi, k4]
        refine (Large_ok 260 rr2 hr).k ?_
        rintro _ _ ⟨rfl, rfl⟩
        by_cases c2 : largeP 260 (l[i]).2.2.2.2.2.2 = true
        · simp (disch := omega) only [dm_t, wA, wB, wL, wW, wY, Int.fdiv_eq_ediv_of_nonneg, Int.tdiv_eq_ediv_of_nonneg, Int.tmod_eq_emod_of_nonneg, chk_pos, decT, decF, br_pos, br_neg, wX, ↓reduceIte, Nat.reduceEqDiff, Nat.reduceAdd, Nat.reduceSub, Nat.reduceMul, Nat.reduceLeDiff, Nat.reduceLT, Nat.reduceMod, Nat.reduceDiv, Int.reduceToNat, Nat.min_eq_left, IntKind.bits, Int.reducePow, Int.reduceLT, Int.reduceLE, Int.reduceEq, Int.reduceNe, Int.reduceAdd, Int.reduceSub, and_self, reduceCtorEq, decide_eq_true_eq, decide_eq_false_iff_not, eq_self, implies_true, exists_const, Option.isNone_some, Option.isNone_none, Option.isSome_some, Option.isSome_none, Option.getD_some, c2]
          exact bad (by simp [bigS, c2])
        · rw [Bool.not_eq_true] at c2
          simp (disch := omega) only [dm_t, wA, wB, wL, wW, wY, Int.fdiv_eq_ediv_of_nonneg, Int.tdiv_eq_ediv_of_nonneg, Int.tmod_eq_emod_of_nonneg, chk_pos, decT, decF, br_pos, br_neg, wX, ↓reduceIte, Nat.reduceEqDiff, Nat.reduceAdd, Nat.reduceSub, Nat.reduceMul, Nat.reduceLeDiff, Nat.reduceLT, Nat.reduceMod, Nat.reduceDiv, Int.reduceToNat, Nat.min_eq_left, IntKind.bits, Int.reducePow, Int.reduceLT, Int.reduceLE, Int.reduceEq, Int.reduceNe, Int.reduceAdd, Int.reduceSub, and_self, reduceCtorEq, decide_eq_true_eq, decide_eq_false_iff_not, eq_self, implies_true, exists_const, Option.isNone_some, Option.isNone_none, Option.isSome_some, Option.isSome_none, Option.getD_some, c2]
          exact ⟨⟨i + 1, by simp, by omega, by rw [hsplit, List.any_append, hall]; simp [bigS, c1, c2]⟩, by simp [m1]; omega⟩
    · obtain rfl : i = l.length := by omega
      rw [List.take_length] at hall
      simp (disch := omega) only [dm_t, wA, wB, wL, wW, wY, Int.fdiv_eq_ediv_of_nonneg, Int.tdiv_eq_ediv_of_nonneg, Int.tmod_eq_emod_of_nonneg, chk_pos, decT, decF, br_pos, br_neg, wX, ↓reduceIte, Nat.reduceEqDiff, Nat.reduceAdd, Nat.reduceSub, Nat.reduceMul, Nat.reduceLeDiff, Nat.reduceLT, Nat.reduceMod, Nat.reduceDiv, Int.reduceToNat, Nat.min_eq_left, IntKind.bits, Int.reducePow, Int.reduceLT, Int.reduceLE, Int.reduceEq, Int.reduceNe, Int.reduceAdd, Int.reduceSub, and_self, reduceCtorEq, decide_eq_true_eq, decide_eq_false_iff_not, eq_self, implies_true, exists_const, Option.isNone_some, Option.isNone_none, Option.isSome_some, Option.isSome_none, Option.getD_some]
      simp [vastP, h1, hall]
end Go.Proofs.Ytpgkkpjdajkobaa.mo
