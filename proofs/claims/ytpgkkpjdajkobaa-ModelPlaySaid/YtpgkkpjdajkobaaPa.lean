/-
  model: ModelPlay; its state, the kinds 3, 4, 8.
-/
import Derived.Test.YtpgkkpjdajkobaaMy
namespace Go.Proofs.Ytpgkkpjdajkobaa.mo
open Go.Proofs.Ytpgkkpjdajkobaa rr
set_option linter.unusedVariables false
set_option linter.unusedSimpArgs false
section
variable {S : Nat → Prop} {h g g' : H} {L L' : List Nat} {p q rp wp : Nat} {pv qv rv wv : Value} {vs ws rs zs : List Value} {ps qs : List (List rc.D)}
/-- Four models: two of the program, two of the document. -/
structure PX (L : List Nat) (h g : H) (p q rp wp : Nat) (pv qv rv wv : Value) (vs ws rs zs : List Value) (ps qs : List (List rc.D)) : Prop where
  Z : M2 L h g p q pv qv vs ws ps qs
  R : RY (SS L p q pv qv vs ws) g rp rv rs ps
  W : RY (SS L p q pv qv vs ws) g wp wv zs qs
  mr : rp ∈ L
  mw : wp ∈ L
  ne : rp ≠ wp
theorem M2.there (Z : M2 L h g p q pv qv vs ws ps qs) {y : Nat} (hy : SS L p q pv qv vs ws y) : g y ≠ none := hy.elim Z.X.there fun h => h.elim Z.Y.there fun h => (Z.T y h).1
theorem PX.ext (P : PX L h g p q rp wp pv qv rv wv vs ws rs zs ps qs) (e : Ext g g') : PX L h g' p q rp wp pv qv rv wv vs ws rs zs ps qs :=
  ⟨P.Z.ext e, P.R.ext e, P.W.ext e, P.mr, P.mw, P.ne⟩
theorem SS.new {d y : Nat} (h : SS (d :: L) p q pv qv vs ws y) : SS L p q pv qv vs ws y ∨ y = d := by
  rcases h with h | h | h
  · exact .inl (.inl h)
  · exact .inl (.inr (.inl h))
  · rcases List.mem_cons.1 h with h | h
    · exact .inr h
    · exact .inl (.inr (.inr h))
theorem PX.new (P : PX L h g p q rp wp pv qv rv wv vs ws rs zs ps qs) {d : Nat} {o : Obj} (hd : g d = none) (e : Ext g g') (hg : g' d = some o) : PX (d :: L) h g' p q rp wp pv qv rv wv vs ws rs zs ps qs :=
  ⟨P.Z.new hd e hg, (P.R.avoid fun y hy => (SS.new hy).elim .inl fun h => .inr (by rw [h]; exact hd)).ext e, (P.W.avoid fun y hy => (SS.new hy).elim .inl fun h => .inr (by rw [h]; exact hd)).ext e, List.mem_cons_of_mem _ P.mr, List.mem_cons_of_mem _ P.mw, P.ne⟩
theorem SS.sub (hL : ∀ y ∈ L', y ∈ L) {y : Nat} (h : SS L' p q pv qv vs ws y) : SS L p q pv qv vs ws y := h.imp id fun h => h.imp id (hL y)
theorem M2.sub (Z : M2 L h g p q pv qv vs ws ps qs) (hL : ∀ y ∈ L', y ∈ L) : M2 L' h g p q pv qv vs ws ps qs :=
  ⟨Z.X.avoid fun y hy => .inl (hy.imp id (hL y)), Z.Y.avoid fun y hy => .inl (hy.imp id (hL y)), Z.E, fun y hy => Z.T y (hL y hy)⟩
theorem PX.sub (P : PX L h g p q rp wp pv qv rv wv vs ws rs zs ps qs) (hL : ∀ y ∈ L', y ∈ L) (hr : rp ∈ L') (hw : wp ∈ L') : PX L' h g p q rp wp pv qv rv wv vs ws rs zs ps qs :=
  ⟨P.Z.sub hL, P.R.mono fun y _ _ h => SS.sub hL h, P.W.mono fun y _ _ h => SS.sub hL h, hr, hw, P.ne⟩
/-- A step's cells. -/
abbrev sCs (x : stepT.D) (c d : Value) : List Value := [.int .i64 x.1, .int .i64 x.2.1, .int .i64 x.2.2.1] ++ cCs x.2.2.2.1 c ++ yCs x.2.2.2.2 d
structure SB (g : H) (sb : Nat) (x : stepT.D) (c d : Value) : Prop where
  c0 : cellAt g ⟨sb, 0, none⟩ = some (.int .i64 x.1)
  c1 : cellAt g ⟨sb, 1, none⟩ = some (.int .i64 x.2.1)
  c2 : cellAt g ⟨sb, 2, none⟩ = some (.int .i64 x.2.2.1)
  cc : cellsAt g ⟨sb, 3, none⟩ 5 = some (cCs x.2.2.2.1 c).toArray
  c5 : cellAt g ⟨sb, 5, none⟩ = some c
  cy : cellsAt g ⟨sb, 8, none⟩ 3 = some (yCs x.2.2.2.2 d).toArray
theorem sbC {g : H} {sb : Nat} {x : stepT.D} {c d : Value} (qs : g sb = some (.cells (sCs x c d).toArray 39)) : SB g sb x c d :=
  ⟨by rw [cellAt_of qs]; rfl, by rw [cellAt_of qs]; rfl, by rw [cellAt_of qs]; rfl, cellsAt_part (o := 0) (cellsAt_all qs 11 rfl) 3 5 (by omega) (by omega), by rw [cellAt_of qs]; rfl, cellsAt_part (o := 0) (cellsAt_all qs 11 rfl) 8 3 (by omega) (by omega)⟩
/-- What is known of a step. -/
structure SP (h : H) (x : stepT.D) (c d : Value) : Prop where
  i0 : inI x.1
  i1 : inI x.2.1
  i2 : inI x.2.2.1
  rc1 : Rep nos callT h (cCs x.2.2.2.1 c) x.2.2.2.1
  ry : Rep nos replyT h (yCs x.2.2.2.2 d) x.2.2.2.2
  l1 : x.2.2.2.1.2.2.1.length ≤ 260
  k1 : ∀ r ∈ x.2.2.2.1.2.2.1, r.2.1.length ≤ 9000 ∧ r.2.2.length ≤ 9000
  l2 : x.2.2.2.2.2.2.length ≤ 260
variable {x : stepT.D} {c d sv : Value} {n i sb : Nat}
theorem pl_3 {Q : Post} (P : PX L h g p q rp wp pv qv rv wv vs ws rs zs ps qs) (K : SP h x c d) (k : g sb = some (.cells (sCs x c d).toArray 39)) (hps : ∀ l ∈ ps, lims l) (h3 : @Eq Int x.1 3)
    (hQ : ∀ G, Ext g G → vc Try.prog c5_s36 Q [(0, .int .i64 (n : Int)), (1, sv), (5, .pointer (some ⟨p, 0, none⟩)), (7, .pointer (some ⟨rp, 0, none⟩)), (8, .pointer (some ⟨q, 0, none⟩)), (9, .pointer (some ⟨wp, 0, none⟩)), (10, .int .i64 (i : Int)), (11, .pointer (some ⟨sb, 0, none⟩)), (12, .bool true)] G) : vc Try.prog c5_s10 Q [(0, .int .i64 (n : Int)), (1, sv), (5, .pointer (some ⟨p, 0, none⟩)), (7, .pointer (some ⟨rp, 0, none⟩)), (8, .pointer (some ⟨q, 0, none⟩)), (9, .pointer (some ⟨wp, 0, none⟩)), (10, .int .i64 (i : Int)), (11, .pointer (some ⟨sb, 0, none⟩)), (12, .bool true)] g := by
  have s := sbC k
  have c0 := s.c0
  rw [h3] at c0
  have E := P.Z.E
  have hl := K.l1
  simp (disch := omega) only [dm_t, wA, wB, wL, wW, wY, Int.fdiv_eq_ediv_of_nonneg, Int.tdiv_eq_ediv_of_nonneg, Int.tmod_eq_emod_of_nonneg, chk_pos, decT, decF, br_pos, br_neg, wX, ↓reduceIte, Nat.reduceEqDiff, Nat.reduceAdd, Nat.reduceSub, Nat.reduceMul, Nat.reduceLeDiff, Nat.reduceLT, Nat.reduceMod, Nat.reduceDiv, Int.reduceToNat, Nat.min_eq_left, IntKind.bits, Int.reducePow, Int.reduceLT, Int.reduceLE, Int.reduceEq, Int.reduceNe, Int.reduceAdd, Int.reduceSub, and_self, reduceCtorEq, decide_eq_true_eq, decide_eq_false_iff_not, eq_self, implies_true, exists_const, Option.isNone_some, Option.isNone_none, Option.isSome_some, Option.isSome_none, Option.getD_some, c0, s.cc, s.cy]
  refine (Fits_ok P.Z.X (K.rc1.ext E) (K.ry.ext E) (by omega) (by have := K.l2; omega) hps).k ?_
  rintro _ g2 ⟨⟨b1, rfl, hb1⟩, e2⟩
  have s2 := sbC (e2.at k)
  simp (disch := omega) only [dm_t, wA, wB, wL, wW, wY, Int.fdiv_eq_ediv_of_nonneg, Int.tdiv_eq_ediv_of_nonneg, Int.tmod_eq_emod_of_nonneg, chk_pos, decT, decF, br_pos, br_neg, wX, ↓reduceIte, Nat.reduceEqDiff, Nat.reduceAdd, Nat.reduceSub, Nat.reduceMul, Nat.reduceLeDiff, Nat.reduceLT, Nat.reduceMod, Nat.reduceDiv, Int.reduceToNat, Nat.min_eq_left, IntKind.bits, Int.reducePow, Int.reduceLT, Int.reduceLE, Int.reduceEq, Int.reduceNe, Int.reduceAdd, Int.reduceSub, and_self, reduceCtorEq, decide_eq_true_eq, decide_eq_false_iff_not, eq_self, implies_true, exists_const, Option.isNone_some, Option.isNone_none, Option.isSome_some, Option.isSome_none, Option.getD_some, s2.cc, s2.cy]
  refine (RFits_ok (P.R.ext e2) (K.rc1.ext (E.trans e2)) (K.ry.ext (E.trans e2)) (by omega) K.k1 hps).k ?_
  rintro _ g3 ⟨⟨b2, rfl, hb2⟩, e3⟩
  obtain rfl : b1 = b2 := Bool.eq_iff_iff.2 (hb1.trans hb2.symm)
  have e23 := e2.trans e3
  have s3 := sbC (e23.at k)
  simp (disch := omega) only [dm_t, wA, wB, wL, wW, wY, Int.fdiv_eq_ediv_of_nonneg, Int.tdiv_eq_ediv_of_nonneg, Int.tmod_eq_emod_of_nonneg, chk_pos, decT, decF, br_pos, br_neg, wX, ↓reduceIte, Nat.reduceEqDiff, Nat.reduceAdd, Nat.reduceSub, Nat.reduceMul, Nat.reduceLeDiff, Nat.reduceLT, Nat.reduceMod, Nat.reduceDiv, Int.reduceToNat, Nat.min_eq_left, IntKind.bits, Int.reducePow, Int.reduceLT, Int.reduceLE, Int.reduceEq, Int.reduceNe, Int.reduceAdd, Int.reduceSub, and_self, reduceCtorEq, decide_eq_true_eq, decide_eq_false_iff_not, eq_self, implies_true, exists_const, Option.isNone_some, Option.isNone_none, Option.isSome_some, Option.isSome_none, Option.getD_some, s3.cc, s3.cy, beq_self_eq_true]
  refine (RTry_ok (P.R.ext e23) (K.rc1.ext (E.trans e23)) (by omega) K.k1 hps).k ?_
  rintro _ g4 ⟨w, rfl, hyb, hw, e4⟩
  have e24 := e23.trans e4
  have s4 := sbC (e24.at k)
  simp (disch := omega) only [dm_t, wA, wB, wL, wW, wY, Int.fdiv_eq_ediv_of_nonneg, Int.tdiv_eq_ediv_of_nonneg, Int.tmod_eq_emod_of_nonneg, chk_pos, decT, decF, br_pos, br_neg, wX, ↓reduceIte, Nat.reduceEqDiff, Nat.reduceAdd, Nat.reduceSub, Nat.reduceMul, Nat.reduceLeDiff, Nat.reduceLT, Nat.reduceMod, Nat.reduceDiv, Int.reduceToNat, Nat.min_eq_left, IntKind.bits, Int.reducePow, Int.reduceLT, Int.reduceLE, Int.reduceEq, Int.reduceNe, Int.reduceAdd, Int.reduceSub, and_self, reduceCtorEq, decide_eq_true_eq, decide_eq_false_iff_not, eq_self, implies_true, exists_const, Option.isNone_some, Option.isNone_none, Option.isSome_some, Option.isSome_none, Option.getD_some, s4.cc, s4.cy]
  refine (Fits_ok (P.Z.X.ext e24) (K.rc1.ext (E.trans e24)) (rep_reply.2 ⟨w, rfl, hyb, hw⟩) (by omega) (tryP_len' hps) hps).k ?_
  rintro _ g5 ⟨⟨b3, rfl, hb3⟩, e5⟩
  obtain rfl : b3 = true := hb3.2 (fits_self _ _)
  have e25 := e24.trans e5
  have s5 := sbC (e25.at k)
  have k9 := hQ g5 e25
  simp (disch := omega) only [dm_t, wA, wB, wL, wW, wY, Int.fdiv_eq_ediv_of_nonneg, Int.tdiv_eq_ediv_of_nonneg, Int.tmod_eq_emod_of_nonneg, chk_pos, decT, decF, br_pos, br_neg, wX, ↓reduceIte, Nat.reduceEqDiff, Nat.reduceAdd, Nat.reduceSub, Nat.reduceMul, Nat.reduceLeDiff, Nat.reduceLT, Nat.reduceMod, Nat.reduceDiv, Int.reduceToNat, Nat.min_eq_left, IntKind.bits, Int.reducePow, Int.reduceLT, Int.reduceLE, Int.reduceEq, Int.reduceNe, Int.reduceAdd, Int.reduceSub, and_self, reduceCtorEq, decide_eq_true_eq, decide_eq_false_iff_not, eq_self, implies_true, exists_const, Option.isNone_some, Option.isNone_none, Option.isSome_some, Option.isSome_none, Option.getD_some, s5.cc, s5.cy, k9]
theorem pl_8 {Q : Post} (P : PX L h g p q rp wp pv qv rv wv vs ws rs zs ps qs) (k : g sb = some (.cells (sCs x c d).toArray 39)) (hps : ∀ l ∈ ps, lims l) (hqs : ∀ l ∈ qs, lims l) (hn : ps.length ≤ 1000) (h8 : @Eq Int x.1 8)
    (hQ : ∀ G, Ext g G → vc Try.prog c5_s36 Q [(0, .int .i64 (n : Int)), (1, sv), (5, .pointer (some ⟨p, 0, none⟩)), (7, .pointer (some ⟨rp, 0, none⟩)), (8, .pointer (some ⟨q, 0, none⟩)), (9, .pointer (some ⟨wp, 0, none⟩)), (10, .int .i64 (i : Int)), (11, .pointer (some ⟨sb, 0, none⟩)), (12, .bool true)] G) : vc Try.prog c5_s10 Q [(0, .int .i64 (n : Int)), (1, sv), (5, .pointer (some ⟨p, 0, none⟩)), (7, .pointer (some ⟨rp, 0, none⟩)), (8, .pointer (some ⟨q, 0, none⟩)), (9, .pointer (some ⟨wp, 0, none⟩)), (10, .int .i64 (i : Int)), (11, .pointer (some ⟨sb, 0, none⟩)), (12, .bool true)] g := by
  have s := sbC k
  have c0 := s.c0
  rw [h8] at c0
  simp (disch := omega) only [dm_t, wA, wB, wL, wW, wY, Int.fdiv_eq_ediv_of_nonneg, Int.tdiv_eq_ediv_of_nonneg, Int.tmod_eq_emod_of_nonneg, chk_pos, decT, decF, br_pos, br_neg, wX, ↓reduceIte, Nat.reduceEqDiff, Nat.reduceAdd, Nat.reduceSub, Nat.reduceMul, Nat.reduceLeDiff, Nat.reduceLT, Nat.reduceMod, Nat.reduceDiv, Int.reduceToNat, Nat.min_eq_left, IntKind.bits, Int.reducePow, Int.reduceLT, Int.reduceLE, Int.reduceEq, Int.reduceNe, Int.reduceAdd, Int.reduceSub, and_self, reduceCtorEq, decide_eq_true_eq, decide_eq_false_iff_not, eq_self, implies_true, exists_const, Option.isNone_some, Option.isNone_none, Option.isSome_some, Option.isSome_none, Option.getD_some, c0]
  refine (Same_ok P.Z.X P.Z.Y fun l hl => by have := (hps l hl).1; omega).k ?_
  rintro _ g2 ⟨rfl, e2⟩
  simp (disch := omega) only [dm_t, wA, wB, wL, wW, wY, Int.fdiv_eq_ediv_of_nonneg, Int.tdiv_eq_ediv_of_nonneg, Int.tmod_eq_emod_of_nonneg, chk_pos, decT, decF, br_pos, br_neg, wX, ↓reduceIte, Nat.reduceEqDiff, Nat.reduceAdd, Nat.reduceSub, Nat.reduceMul, Nat.reduceLeDiff, Nat.reduceLT, Nat.reduceMod, Nat.reduceDiv, Int.reduceToNat, Nat.min_eq_left, IntKind.bits, Int.reducePow, Int.reduceLT, Int.reduceLE, Int.reduceEq, Int.reduceNe, Int.reduceAdd, Int.reduceSub, and_self, reduceCtorEq, decide_eq_true_eq, decide_eq_false_iff_not, eq_self, implies_true, exists_const, Option.isNone_some, Option.isNone_none, Option.isSome_some, Option.isSome_none, Option.getD_some]
  refine (RSame_ok (P.R.ext e2) (P.W.ext e2) hn hps).k ?_
  rintro _ g3 ⟨rfl, e3⟩
  have e23 := e2.trans e3
  simp (disch := omega) only [dm_t, wA, wB, wL, wW, wY, Int.fdiv_eq_ediv_of_nonneg, Int.tdiv_eq_ediv_of_nonneg, Int.tmod_eq_emod_of_nonneg, chk_pos, decT, decF, br_pos, br_neg, wX, ↓reduceIte, Nat.reduceEqDiff, Nat.reduceAdd, Nat.reduceSub, Nat.reduceMul, Nat.reduceLeDiff, Nat.reduceLT, Nat.reduceMod, Nat.reduceDiv, Int.reduceToNat, Nat.min_eq_left, IntKind.bits, Int.reducePow, Int.reduceLT, Int.reduceLE, Int.reduceEq, Int.reduceNe, Int.reduceAdd, Int.reduceSub, and_self, reduceCtorEq, decide_eq_true_eq, decide_eq_false_iff_not, eq_self, implies_true, exists_const, Option.isNone_some, Option.isNone_none, Option.isSome_some, Option.isSome_none, Option.getD_some, beq_self_eq_true]
  refine (Same_ok (P.Z.Y.ext e23) (P.Z.X.ext e23) fun l hl => by have := (hqs l hl).1; omega).k ?_
  rintro _ g4 ⟨rfl, e4⟩
  have e24 := e23.trans e4
  simp (disch := omega) only [dm_t, wA, wB, wL, wW, wY, Int.fdiv_eq_ediv_of_nonneg, Int.tdiv_eq_ediv_of_nonneg, Int.tmod_eq_emod_of_nonneg, chk_pos, decT, decF, br_pos, br_neg, wX, ↓reduceIte, Nat.reduceEqDiff, Nat.reduceAdd, Nat.reduceSub, Nat.reduceMul, Nat.reduceLeDiff, Nat.reduceLT, Nat.reduceMod, Nat.reduceDiv, Int.reduceToNat, Nat.min_eq_left, IntKind.bits, Int.reducePow, Int.reduceLT, Int.reduceLE, Int.reduceEq, Int.reduceNe, Int.reduceAdd, Int.reduceSub, and_self, reduceCtorEq, decide_eq_true_eq, decide_eq_false_iff_not, eq_self, implies_true, exists_const, Option.isNone_some, Option.isNone_none, Option.isSome_some, Option.isSome_none, Option.getD_some]
  refine (Same_ok (P.Z.X.ext e24) (P.Z.Y.ext e24) fun l hl => by have := (hps l hl).1; omega).k ?_
  rintro _ g5 ⟨rfl, e5⟩
  have k9 := hQ g5 (e24.trans e5)
  have hd : decide (ps = qs) = decide (qs = ps) := by simp [eq_comm]
  rw [hd]
  simp (disch := omega) only [dm_t, wA, wB, wL, wW, wY, Int.fdiv_eq_ediv_of_nonneg, Int.tdiv_eq_ediv_of_nonneg, Int.tmod_eq_emod_of_nonneg, chk_pos, decT, decF, br_pos, br_neg, wX, ↓reduceIte, Nat.reduceEqDiff, Nat.reduceAdd, Nat.reduceSub, Nat.reduceMul, Nat.reduceLeDiff, Nat.reduceLT, Nat.reduceMod, Nat.reduceDiv, Int.reduceToNat, Nat.min_eq_left, IntKind.bits, Int.reducePow, Int.reduceLT, Int.reduceLE, Int.reduceEq, Int.reduceNe, Int.reduceAdd, Int.reduceSub, and_self, reduceCtorEq, decide_eq_true_eq, decide_eq_false_iff_not, eq_self, implies_true, exists_const, Option.isNone_some, Option.isNone_none, Option.isSome_some, Option.isSome_none, Option.getD_some, beq_self_eq_true, k9]
theorem pl_4 {Q : Post} (P : PX L h g p q rp wp pv qv rv wv vs ws rs zs ps qs) (K : SP h x c d) (k : g sb = some (.cells (sCs x c d).toArray 39)) (hps : ∀ l ∈ ps, lims l) (hn : ps.length = n) (hn2 : n ≤ 1000) (h4 : @Eq Int x.1 4)
    (hQ : ∀ G, Ext g G → vc Try.prog c5_s36 Q [(0, .int .i64 (n : Int)), (1, sv), (5, .pointer (some ⟨p, 0, none⟩)), (7, .pointer (some ⟨rp, 0, none⟩)), (8, .pointer (some ⟨q, 0, none⟩)), (9, .pointer (some ⟨wp, 0, none⟩)), (10, .int .i64 (i : Int)), (11, .pointer (some ⟨sb, 0, none⟩)), (12, .bool true)] G) : vc Try.prog c5_s10 Q [(0, .int .i64 (n : Int)), (1, sv), (5, .pointer (some ⟨p, 0, none⟩)), (7, .pointer (some ⟨rp, 0, none⟩)), (8, .pointer (some ⟨q, 0, none⟩)), (9, .pointer (some ⟨wp, 0, none⟩)), (10, .int .i64 (i : Int)), (11, .pointer (some ⟨sb, 0, none⟩)), (12, .bool true)] g := by
  have s := sbC k
  have c0 := s.c0
  rw [h4] at c0
  have hi1 := K.i1
  unfold inI at hi1
  simp (disch := omega) only [dm_t, wA, wB, wL, wW, wY, Int.fdiv_eq_ediv_of_nonneg, Int.tdiv_eq_ediv_of_nonneg, Int.tmod_eq_emod_of_nonneg, chk_pos, decT, decF, br_pos, br_neg, wX, ↓reduceIte, Nat.reduceEqDiff, Nat.reduceAdd, Nat.reduceSub, Nat.reduceMul, Nat.reduceLeDiff, Nat.reduceLT, Nat.reduceMod, Nat.reduceDiv, Int.reduceToNat, Nat.min_eq_left, IntKind.bits, Int.reducePow, Int.reduceLT, Int.reduceLE, Int.reduceEq, Int.reduceNe, Int.reduceAdd, Int.reduceSub, and_self, reduceCtorEq, decide_eq_true_eq, decide_eq_false_iff_not, eq_self, implies_true, exists_const, Option.isNone_some, Option.isNone_none, Option.isSome_some, Option.isSome_none, Option.getD_some, c0, s.c1]
  refine (Records_ok P.Z.X _ hps).k ?_
  rintro _ g2 ⟨w, e, l, rfl, hl, ow, e2⟩
  obtain ⟨wa, wc, rfl⟩ := ow.l.len
  have k2 := e2.at k
  have s2 := sbC k2
  by_cases hin : inP ps x.2.1
  · rw [if_pos hin] at hl
    obtain ⟨rfl, rfl⟩ := hl
    obtain ⟨j, hj⟩ : ∃ j : Nat, @Eq Int x.2.1 (j : Int) := ⟨Int.toNat x.2.1, by have := hin.1; omega⟩
    have hjl : j < ps.length := by have := hin.2; rw [hj] at this; omega
    have c1 := s2.c1
    rw [hj] at c1
    have hg : ps.getD (Int.toNat x.2.1) [] = ps[j] := by rw [hj, Int.toNat_natCast, List.getD_eq_getElem?_getD, List.getElem?_eq_getElem hjl]; rfl
    rw [hg] at ow ⊢
    have R2 := P.R.ext e2
    obtain ⟨ra, rn, rfl⟩ := R2.slen
    obtain ⟨b1, o1, a1, n1, i1, t1, -, r1⟩ := R2.row hjl .i64
    have ll := (hps _ (List.getElem_mem hjl)).1
    simp (disch := omega) only [dm_t, wA, wB, wL, wW, wY, Int.fdiv_eq_ediv_of_nonneg, Int.tdiv_eq_ediv_of_nonneg, Int.tmod_eq_emod_of_nonneg, chk_pos, decT, decF, br_pos, br_neg, wX, ↓reduceIte, Nat.reduceEqDiff, Nat.reduceAdd, Nat.reduceSub, Nat.reduceMul, Nat.reduceLeDiff, Nat.reduceLT, Nat.reduceMod, Nat.reduceDiv, Int.reduceToNat, Nat.min_eq_left, IntKind.bits, Int.reducePow, Int.reduceLT, Int.reduceLE, Int.reduceEq, Int.reduceNe, Int.reduceAdd, Int.reduceSub, and_self, reduceCtorEq, decide_eq_true_eq, decide_eq_false_iff_not, eq_self, implies_true, exists_const, Option.isNone_some, Option.isNone_none, Option.isSome_some, Option.isSome_none, Option.getD_some, c1, R2.cell, i1, t1]
    refine (DSameAll_ok (ow.l.repS fun y hy hs => hs hy) r1 (by omega)).k ?_
    rintro _ g3 ⟨rfl, e3⟩
    have k9 := hQ g3 (e2.trans e3)
    have c13 := (sbC (e3.at k2)).c1
    rw [hj] at c13
    simp (disch := omega) only [dm_t, wA, wB, wL, wW, wY, Int.fdiv_eq_ediv_of_nonneg, Int.tdiv_eq_ediv_of_nonneg, Int.tmod_eq_emod_of_nonneg, chk_pos, decT, decF, br_pos, br_neg, wX, ↓reduceIte, Nat.reduceEqDiff, Nat.reduceAdd, Nat.reduceSub, Nat.reduceMul, Nat.reduceLeDiff, Nat.reduceLT, Nat.reduceMod, Nat.reduceDiv, Int.reduceToNat, Nat.min_eq_left, IntKind.bits, Int.reducePow, Int.reduceLT, Int.reduceLE, Int.reduceEq, Int.reduceNe, Int.reduceAdd, Int.reduceSub, and_self, reduceCtorEq, decide_eq_true_eq, decide_eq_false_iff_not, eq_self, implies_true, exists_const, Option.isNone_some, Option.isNone_none, Option.isSome_some, Option.isSome_none, Option.getD_some, c13, (R2.ext e3).cell, i1, cellAt_ext e3 t1, k9]
  · rw [if_neg hin] at hl
    obtain ⟨rfl, rfl⟩ := hl
    have k9 := hQ g2 e2
    rw [show ([] : List rc.D).length = 0 from rfl]
    by_cases h1 : @LT.lt Int _ x.2.1 0
    · simp (disch := omega) only [dm_t, wA, wB, wL, wW, wY, Int.fdiv_eq_ediv_of_nonneg, Int.tdiv_eq_ediv_of_nonneg, Int.tmod_eq_emod_of_nonneg, chk_pos, decT, decF, br_pos, br_neg, wX, ↓reduceIte, Nat.reduceEqDiff, Nat.reduceAdd, Nat.reduceSub, Nat.reduceMul, Nat.reduceLeDiff, Nat.reduceLT, Nat.reduceMod, Nat.reduceDiv, Int.reduceToNat, Nat.min_eq_left, IntKind.bits, Int.reducePow, Int.reduceLT, Int.reduceLE, Int.reduceEq, Int.reduceNe, Int.reduceAdd, Int.reduceSub, and_self, reduceCtorEq, decide_eq_true_eq, decide_eq_false_iff_not, eq_self, implies_true, exists_const, Option.isNone_some, Option.isNone_none, Option.isSome_some, Option.isSome_none, Option.getD_some, s2.c1, k9]
    · have h2 : @LE.le Int _ n x.2.1 := by
        have : ¬ (@LE.le Int _ 0 x.2.1 ∧ @LT.lt Int _ x.2.1 ps.length) := hin
        rw [← hn]
        omega
      simp (disch := omega) only [dm_t, wA, wB, wL, wW, wY, Int.fdiv_eq_ediv_of_nonneg, Int.tdiv_eq_ediv_of_nonneg, Int.tmod_eq_emod_of_nonneg, chk_pos, decT, decF, br_pos, br_neg, wX, ↓reduceIte, Nat.reduceEqDiff, Nat.reduceAdd, Nat.reduceSub, Nat.reduceMul, Nat.reduceLeDiff, Nat.reduceLT, Nat.reduceMod, Nat.reduceDiv, Int.reduceToNat, Nat.min_eq_left, IntKind.bits, Int.reducePow, Int.reduceLT, Int.reduceLE, Int.reduceEq, Int.reduceNe, Int.reduceAdd, Int.reduceSub, and_self, reduceCtorEq, decide_eq_true_eq, decide_eq_false_iff_not, eq_self, implies_true, exists_const, Option.isNone_some, Option.isNone_none, Option.isSome_some, Option.isSome_none, Option.getD_some, s2.c1, k9]
end
end Go.Proofs.Ytpgkkpjdajkobaa.mo
