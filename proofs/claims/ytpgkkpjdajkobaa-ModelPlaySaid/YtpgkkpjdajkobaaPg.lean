/-
  model: ModelPlay, kinds 1 and 2, whole.
-/
import Derived.Test.YtpgkkpjdajkobaaPe
namespace Go.Proofs.Ytpgkkpjdajkobaa.mo
open Go.Proofs.Ytpgkkpjdajkobaa rr
set_option linter.unusedVariables false
set_option linter.unusedSimpArgs false
def stepP (ps : List (List rc.D)) (x : stepT.D) : List (List rc.D) := if @Eq Int x.1 1 then doP ps x.2.2.2.1 else ps
section
variable {T : Nat → Prop} {h g g' : H} {L : List Nat} {p q rp wp : Nat} {pv qv rv wv : Value} {vs ws rs zs : List Value} {ps qs : List (List rc.D)} {x : stepT.D} {c d sv : Value} {n i sb cb cap : Nat} {va : Option Addr} {rows : List (List Value)}
theorem pl_c {Q : Post} (P : PT (fun y => y ∈ cb :: L ∨ T y) h g p q rp wp pv qv rv wv vs ws rs zs ps ps qs) (hr : rp ∈ L) (hw : wp ∈ L) (ms : sb ∈ L) (n1 : ∀ y ∈ cb :: L, ¬ T y) (C : CR T g cb x.2.2.2.1 va cap rows) (k : g sb = some (.cells (sCs x c d).toArray 39)) (K : SP h x c d) (hps : ∀ l ∈ ps, lims l) (hn : ps.length ≤ 1000) (h12 : @Eq Int x.1 1 ∨ @Eq Int x.1 2)
    (hcr : cb ≠ rp ∧ cb ≠ wp)
    (hQ : ∀ G vs' rv' rs', PX L h G p q rp wp pv qv rv' wv vs' ws rs' zs (stepP ps x) qs → G sb = some (.cells (sCs x c d).toArray 39) → vc Try.prog c5_s36 Q [(0, .int .i64 (n : Int)), (1, sv), (5, .pointer (some ⟨p, 0, none⟩)), (7, .pointer (some ⟨rp, 0, none⟩)), (8, .pointer (some ⟨q, 0, none⟩)), (9, .pointer (some ⟨wp, 0, none⟩)), (10, .int .i64 (i : Int)), (11, .pointer (some ⟨sb, 0, none⟩)), (12, .bool true)] G) : vc Try.prog c5_s13 (blockQ 2 (seqQ Try.prog [0, 1, 5, 7, 8, 9, 10, 11, 12] c5_s36 Q)) [(0, .int .i64 (n : Int)), (1, sv), (5, .pointer (some ⟨p, 0, none⟩)), (7, .pointer (some ⟨rp, 0, none⟩)), (8, .pointer (some ⟨q, 0, none⟩)), (9, .pointer (some ⟨wp, 0, none⟩)), (10, .int .i64 (i : Int)), (11, .pointer (some ⟨sb, 0, none⟩)), (13, .pointer (some ⟨cb, 0, none⟩))] g := by
  have hl1 := K.l1
  have hlim : lims x.2.2.2.1.2.2.1 := ⟨by omega, fun r hr => by have := K.k1 r hr; omega⟩
  simp (disch := omega) only [dm_t, wA, wB, wL, wW, wY, Int.fdiv_eq_ediv_of_nonneg, Int.tdiv_eq_ediv_of_nonneg, Int.tmod_eq_emod_of_nonneg, chk_pos, decT, decF, br_pos, br_neg, wX, ↓reduceIte, Nat.reduceEqDiff, Nat.reduceAdd, Nat.reduceSub, Nat.reduceMul, Nat.reduceLeDiff, Nat.reduceLT, Nat.reduceMod, Nat.reduceDiv, Int.reduceToNat, Nat.min_eq_left, IntKind.bits, Int.reducePow, Int.reduceLT, Int.reduceLE, Int.reduceEq, Int.reduceNe, Int.reduceAdd, Int.reduceSub, and_self, reduceCtorEq, decide_eq_true_eq, decide_eq_false_iff_not, eq_self, implies_true, exists_const, Option.isNone_some, Option.isNone_none, Option.isSome_some, Option.isSome_none, Option.getD_some]
  intro ab hab bb hbb
  generalize hG : hupd g ab _ = g1 at hbb ⊢
  obtain ⟨e1, qa⟩ := new_ext hG hab
  clear hG
  generalize hG : hupd g1 bb _ = g2
  obtain ⟨e2, qb⟩ := new_ext hG hbb
  clear hG
  have e12 := e1.trans e2
  have habb := ne_of qa hbb
  replace qa := e2.at qa
  have gb := e1.bk hbb
  have n3 : ∀ y ∈ bb :: ab :: cb :: L, ¬ T y := fun y hy ht => by
    simp only [List.mem_cons] at hy
    have h4 := (P.T y (.inr ht)).1
    rcases hy with rfl | rfl | hy
    · exact h4 gb
    · exact h4 hab
    · exact n1 y (List.mem_cons.2 hy) ht
  have P2 : PT (fun y => y ∈ bb :: ab :: cb :: L ∨ T y) h g2 p q rp wp pv qv rv wv vs ws rs zs ps ps qs := P.grow e12 (fun y hy => by
    rcases hy with hy | hy
    · rcases List.mem_cons.1 hy with rfl | hy
      · exact .inr ⟨gb, by rw [qb]; simp⟩
      · rcases List.mem_cons.1 hy with rfl | hy
        · exact .inr ⟨hab, by rw [qa]; simp⟩
        · exact .inl (.inl hy)
    · exact .inl (.inr hy)) (.inl (by simp [hr])) (.inl (by simp [hw]))
  have C2 := C.ext e12
  have k2 := e12.at k
  have c0 := (sbC k2).c0
  have hrn := (P.T rp P.mr).1
  have hwn := (P.T wp P.mw).1
  have hcn : g cb ≠ none := (P.T cb (.inl (by simp))).1
  have hsn : g sb ≠ none := by rw [k]; simp
  have hra : rp ≠ ab := fun hh => hrn (hh ▸ hab)
  have hrb : rp ≠ bb := fun hh => hrn (hh ▸ gb)
  have hwa : wp ≠ ab := fun hh => hwn (hh ▸ hab)
  have hwb : wp ≠ bb := fun hh => hwn (hh ▸ gb)
  have hca : cb ≠ ab := fun hh => hcn (hh ▸ hab)
  have hcb : cb ≠ bb := fun hh => hcn (hh ▸ gb)
  have hsa : sb ≠ ab := fun hh => hsn (hh ▸ hab)
  have hsb : sb ≠ bb := fun hh => hsn (hh ▸ gb)
  have hsr : sb ≠ rp := fun hh => by
    have := P.R.obj
    rw [← hh, k] at this
    simp at this
  have hab2 : g2 ab ≠ none := by rw [qa]; simp
  have hbb2 : g2 bb ≠ none := by rw [qb]; simp
  have hrp2 : g2 rp ≠ none := (P2.T rp P2.mr).1
  have nTr : ¬ T rp := n1 rp (by simp [hr])
  have hx : Rep nos callT g2 (cCs x.2.2.2.1 (.slice va x.2.2.2.1.2.2.1.length cap)) x.2.2.2.1 := by
    obtain ⟨c', e', hcB, _⟩ := rep_call.1 K.rc1
    exact rep_call.2 ⟨_, rfl, hcB, RepL.mono C2.list fun _ _ _ h => h.elim⟩
  rcases h12 with h1 | h1
  · rw [h1] at c0
    simp (disch := omega) only [dm_t, wA, wB, wL, wW, wY, Int.fdiv_eq_ediv_of_nonneg, Int.tdiv_eq_ediv_of_nonneg, Int.tmod_eq_emod_of_nonneg, chk_pos, decT, decF, br_pos, br_neg, wX, ↓reduceIte, Nat.reduceEqDiff, Nat.reduceAdd, Nat.reduceSub, Nat.reduceMul, Nat.reduceLeDiff, Nat.reduceLT, Nat.reduceMod, Nat.reduceDiv, Int.reduceToNat, Nat.min_eq_left, IntKind.bits, Int.reducePow, Int.reduceLT, Int.reduceLE, Int.reduceEq, Int.reduceNe, Int.reduceAdd, Int.reduceSub, and_self, reduceCtorEq, decide_eq_true_eq, decide_eq_false_iff_not, eq_self, implies_true, exists_const, Option.isNone_some, Option.isNone_none, Option.isSome_some, Option.isSome_none, Option.getD_some, c0, (caC C2.qc).ca, (sbC k2).cc]
    refine (P2.Do hx hlim hps).k ?_
    rintro _ g3 ⟨w, vs', T2, rfl, hyB, N, P3, hT2, f⟩
    have hkp : ∀ y, MF p pv vs y → ¬ (y ∈ bb :: ab :: cb :: L ∨ T y) := fun y hy ha => P2.keep ha hy
    have C3 := C2.fr f (fun y hy ht => hkp y hy (.inr ht)) fun hy => hkp _ hy (.inl (by simp))
    have k3 := f _ _ k2 fun hy => hkp _ hy (.inl (by simp [ms]))
    have qa3 := f _ _ qa fun hy => hkp _ hy (.inl (by simp))
    have qb3 := f _ _ qb fun hy => hkp _ hy (.inl (by simp))
    obtain ⟨wa, wc, rfl⟩ := (OwQ.l N).len
    simp (disch := omega) only [dm_t, wA, wB, wL, wW, wY, Int.fdiv_eq_ediv_of_nonneg, Int.tdiv_eq_ediv_of_nonneg, Int.tmod_eq_emod_of_nonneg, chk_pos, decT, decF, br_pos, br_neg, wX, ↓reduceIte, Nat.reduceEqDiff, Nat.reduceAdd, Nat.reduceSub, Nat.reduceMul, Nat.reduceLeDiff, Nat.reduceLT, Nat.reduceMod, Nat.reduceDiv, Int.reduceToNat, Nat.min_eq_left, IntKind.bits, Int.reducePow, Int.reduceLT, Int.reduceLE, Int.reduceEq, Int.reduceNe, Int.reduceAdd, Int.reduceSub, and_self, reduceCtorEq, decide_eq_true_eq, decide_eq_false_iff_not, eq_self, implies_true, exists_const, Option.isNone_some, Option.isNone_none, Option.isSome_some, Option.isSome_none, Option.getD_some, (sbC k3).cc]
    refine (RDo_ok P3.R (.inr (.inr P3.mr)) (fun y hy => P3.there hy) (K.rc1.ext P3.E) (by omega) K.k1 hps hn).k ?_
    rintro _ g4 ⟨w2, rfl, -, r2, ⟨pv', rs', R'⟩, f4⟩
    have P4 := P3.rstep R' f4
    have C4 := C3.fr f4 (fun y hy => hy ▸ nTr) fun hy => hcr.1 hy
    have N4 := N.fr f4 fun y hy h2 => hrp2 (hT2 _ (hy ▸ h2))
    have k4 := f4 _ _ k3 hsr
    have qa4 := f4 _ _ qa3 fun hy => hra hy.symm
    have qb4 := f4 _ _ qb3 fun hy => hrb hy.symm
    obtain ⟨w2a, w2c, rfl⟩ := r2.len
    simp (disch := omega) only [dm_t, wA, wB, wL, wW, wY, Int.fdiv_eq_ediv_of_nonneg, Int.tdiv_eq_ediv_of_nonneg, Int.tmod_eq_emod_of_nonneg, chk_pos, decT, decF, br_pos, br_neg, wX, ↓reduceIte, Nat.reduceEqDiff, Nat.reduceAdd, Nat.reduceSub, Nat.reduceMul, Nat.reduceLeDiff, Nat.reduceLT, Nat.reduceMod, Nat.reduceDiv, Int.reduceToNat, Nat.min_eq_left, IntKind.bits, Int.reducePow, Int.reduceLT, Int.reduceLE, Int.reduceEq, Int.reduceNe, Int.reduceAdd, Int.reduceSub, and_self, reduceCtorEq, decide_eq_true_eq, decide_eq_false_iff_not, eq_self, implies_true, exists_const, Option.isNone_some, Option.isNone_none, Option.isSome_some, Option.isSome_none, Option.getD_some]
    refine res3 _ _ qa4 rfl rfl ?_
    intro g5 _ q5 f5
    have P5 := P4.st f5 (.inl (.inl (by simp))) q5 hra hwa
    have C5 := C4.fr f5 (fun y hy => hy ▸ n3 _ (by simp)) fun hy => hca hy
    have N5 := N4.fr f5 fun y hy h2 => hab2 (hT2 _ (hy ▸ h2))
    have k5 := f5 _ _ k4 hsa
    have qb5 := f5 _ _ qb4 fun hy => habb hy.symm
    have r5 := RepL.fr r2 f5 fun y hy => by rw [hy, qa3]; simp
    simp (disch := omega) only [dm_t, wA, wB, wL, wW, wY, Int.fdiv_eq_ediv_of_nonneg, Int.tdiv_eq_ediv_of_nonneg, Int.tmod_eq_emod_of_nonneg, chk_pos, decT, decF, br_pos, br_neg, wX, ↓reduceIte, Nat.reduceEqDiff, Nat.reduceAdd, Nat.reduceSub, Nat.reduceMul, Nat.reduceLeDiff, Nat.reduceLT, Nat.reduceMod, Nat.reduceDiv, Int.reduceToNat, Nat.min_eq_left, IntKind.bits, Int.reducePow, Int.reduceLT, Int.reduceLE, Int.reduceEq, Int.reduceNe, Int.reduceAdd, Int.reduceSub, and_self, reduceCtorEq, decide_eq_true_eq, decide_eq_false_iff_not, eq_self, implies_true, exists_const, Option.isNone_some, Option.isNone_none, Option.isSome_some, Option.isSome_none, Option.getD_some]
    refine res3 _ _ qb5 rfl rfl ?_
    intro g6 _ q6 f6
    have P6 := P5.st f6 (.inl (.inl (by simp))) q6 hrb hwb
    have C6 := C5.fr f6 (fun y hy => hy ▸ n3 _ (by simp)) fun hy => hcb hy
    have N6 := N5.fr f6 fun y hy h2 => hbb2 (hT2 _ (hy ▸ h2))
    have k6 := f6 _ _ k5 hsb
    have qa6 := f6 _ _ q5 habb
    have r6 := (RepL.fr r5 f6 fun y hy => by rw [hy, qb3]; simp).mono (T := nos) fun _ _ _ h => h.elim
    have k9 := pl_b (Q := Q) P6 hr hw ms (fun y hy => ⟨n3 y hy, fun h2 => (P2.T y (.inl hy)).1 (hT2 y h2)⟩) (fun y h2 ht => (P2.T y (.inr ht)).1 (hT2 y h2)) C6 N6 qa6 q6 r6 hyB (Nat.le_trans (tryP_len fun l hl => (hps l hl).1) (Nat.le_refl _)) k6 K fun G P' k' => hQ G vs' pv' rs' (by rw [stepP, if_pos h1]; exact P') k'
    simp (disch := omega) only [dm_t, wA, wB, wL, wW, wY, Int.fdiv_eq_ediv_of_nonneg, Int.tdiv_eq_ediv_of_nonneg, Int.tmod_eq_emod_of_nonneg, chk_pos, decT, decF, br_pos, br_neg, wX, ↓reduceIte, Nat.reduceEqDiff, Nat.reduceAdd, Nat.reduceSub, Nat.reduceMul, Nat.reduceLeDiff, Nat.reduceLT, Nat.reduceMod, Nat.reduceDiv, Int.reduceToNat, Nat.min_eq_left, IntKind.bits, Int.reducePow, Int.reduceLT, Int.reduceLE, Int.reduceEq, Int.reduceNe, Int.reduceAdd, Int.reduceSub, and_self, reduceCtorEq, decide_eq_true_eq, decide_eq_false_iff_not, eq_self, implies_true, exists_const, Option.isNone_some, Option.isNone_none, Option.isSome_some, Option.isSome_none, Option.getD_some, k9]
  · rw [h1] at c0
    simp (disch := omega) only [dm_t, wA, wB, wL, wW, wY, Int.fdiv_eq_ediv_of_nonneg, Int.tdiv_eq_ediv_of_nonneg, Int.tmod_eq_emod_of_nonneg, chk_pos, decT, decF, br_pos, br_neg, wX, ↓reduceIte, Nat.reduceEqDiff, Nat.reduceAdd, Nat.reduceSub, Nat.reduceMul, Nat.reduceLeDiff, Nat.reduceLT, Nat.reduceMod, Nat.reduceDiv, Int.reduceToNat, Nat.min_eq_left, IntKind.bits, Int.reducePow, Int.reduceLT, Int.reduceLE, Int.reduceEq, Int.reduceNe, Int.reduceAdd, Int.reduceSub, and_self, reduceCtorEq, decide_eq_true_eq, decide_eq_false_iff_not, eq_self, implies_true, exists_const, Option.isNone_some, Option.isNone_none, Option.isSome_some, Option.isSome_none, Option.getD_some, c0, (caC C2.qc).ca, (sbC k2).cc]
    refine (P2.Try hx hlim hps).k ?_
    rintro _ g3 ⟨w, T2, rfl, hyB, N, P3, hT2, f⟩
    have C3 := C2.ext f
    have k3 := f.at k2
    have qa3 := f.at qa
    have qb3 := f.at qb
    obtain ⟨wa, wc, rfl⟩ := (OwQ.l N).len
    simp (disch := omega) only [dm_t, wA, wB, wL, wW, wY, Int.fdiv_eq_ediv_of_nonneg, Int.tdiv_eq_ediv_of_nonneg, Int.tmod_eq_emod_of_nonneg, chk_pos, decT, decF, br_pos, br_neg, wX, ↓reduceIte, Nat.reduceEqDiff, Nat.reduceAdd, Nat.reduceSub, Nat.reduceMul, Nat.reduceLeDiff, Nat.reduceLT, Nat.reduceMod, Nat.reduceDiv, Int.reduceToNat, Nat.min_eq_left, IntKind.bits, Int.reducePow, Int.reduceLT, Int.reduceLE, Int.reduceEq, Int.reduceNe, Int.reduceAdd, Int.reduceSub, and_self, reduceCtorEq, decide_eq_true_eq, decide_eq_false_iff_not, eq_self, implies_true, exists_const, Option.isNone_some, Option.isNone_none, Option.isSome_some, Option.isSome_none, Option.getD_some, (sbC k3).cc]
    refine (RTry_ok P3.R (K.rc1.ext P3.E) (by omega) K.k1 hps).k ?_
    rintro _ g4 ⟨w2, rfl, -, r2, f4⟩
    have P4 := P3.ext f4
    have C4 := C3.ext f4
    have N4 := N.fr f4 fun y hy h2 => hy
    have k4 := f4.at k3
    have qa4 := f4.at qa3
    have qb4 := f4.at qb3
    obtain ⟨w2a, w2c, rfl⟩ := r2.len
    simp (disch := omega) only [dm_t, wA, wB, wL, wW, wY, Int.fdiv_eq_ediv_of_nonneg, Int.tdiv_eq_ediv_of_nonneg, Int.tmod_eq_emod_of_nonneg, chk_pos, decT, decF, br_pos, br_neg, wX, ↓reduceIte, Nat.reduceEqDiff, Nat.reduceAdd, Nat.reduceSub, Nat.reduceMul, Nat.reduceLeDiff, Nat.reduceLT, Nat.reduceMod, Nat.reduceDiv, Int.reduceToNat, Nat.min_eq_left, IntKind.bits, Int.reducePow, Int.reduceLT, Int.reduceLE, Int.reduceEq, Int.reduceNe, Int.reduceAdd, Int.reduceSub, and_self, reduceCtorEq, decide_eq_true_eq, decide_eq_false_iff_not, eq_self, implies_true, exists_const, Option.isNone_some, Option.isNone_none, Option.isSome_some, Option.isSome_none, Option.getD_some]
    refine res3 _ _ qa4 rfl rfl ?_
    intro g5 _ q5 f5
    have P5 := P4.st f5 (.inl (.inl (by simp))) q5 hra hwa
    have C5 := C4.fr f5 (fun y hy => hy ▸ n3 _ (by simp)) fun hy => hca hy
    have N5 := N4.fr f5 fun y hy h2 => hab2 (hT2 _ (hy ▸ h2))
    have k5 := f5 _ _ k4 hsa
    have qb5 := f5 _ _ qb4 fun hy => habb hy.symm
    have r5 := RepL.fr r2 f5 fun y hy => by rw [hy, qa3]; simp
    simp (disch := omega) only [dm_t, wA, wB, wL, wW, wY, Int.fdiv_eq_ediv_of_nonneg, Int.tdiv_eq_ediv_of_nonneg, Int.tmod_eq_emod_of_nonneg, chk_pos, decT, decF, br_pos, br_neg, wX, ↓reduceIte, Nat.reduceEqDiff, Nat.reduceAdd, Nat.reduceSub, Nat.reduceMul, Nat.reduceLeDiff, Nat.reduceLT, Nat.reduceMod, Nat.reduceDiv, Int.reduceToNat, Nat.min_eq_left, IntKind.bits, Int.reducePow, Int.reduceLT, Int.reduceLE, Int.reduceEq, Int.reduceNe, Int.reduceAdd, Int.reduceSub, and_self, reduceCtorEq, decide_eq_true_eq, decide_eq_false_iff_not, eq_self, implies_true, exists_const, Option.isNone_some, Option.isNone_none, Option.isSome_some, Option.isSome_none, Option.getD_some]
    refine res3 _ _ qb5 rfl rfl ?_
    intro g6 _ q6 f6
    have P6 := P5.st f6 (.inl (.inl (by simp))) q6 hrb hwb
    have C6 := C5.fr f6 (fun y hy => hy ▸ n3 _ (by simp)) fun hy => hcb hy
    have N6 := N5.fr f6 fun y hy h2 => hbb2 (hT2 _ (hy ▸ h2))
    have k6 := f6 _ _ k5 hsb
    have qa6 := f6 _ _ q5 habb
    have r6 := (RepL.fr r5 f6 fun y hy => by rw [hy, qb3]; simp).mono (T := nos) fun _ _ _ h => h.elim
    have k9 := pl_b (Q := Q) P6 hr hw ms (fun y hy => ⟨n3 y hy, fun h2 => (P2.T y (.inl hy)).1 (hT2 y h2)⟩) (fun y h2 ht => (P2.T y (.inr ht)).1 (hT2 y h2)) C6 N6 qa6 q6 r6 hyB (Nat.le_trans (tryP_len fun l hl => (hps l hl).1) (Nat.le_refl _)) k6 K fun G P' k' => hQ G vs rv rs (by rw [stepP, if_neg (by rw [h1]; decide)]; exact P') k'
    simp (disch := omega) only [dm_t, wA, wB, wL, wW, wY, Int.fdiv_eq_ediv_of_nonneg, Int.tdiv_eq_ediv_of_nonneg, Int.tmod_eq_emod_of_nonneg, chk_pos, decT, decF, br_pos, br_neg, wX, ↓reduceIte, Nat.reduceEqDiff, Nat.reduceAdd, Nat.reduceSub, Nat.reduceMul, Nat.reduceLeDiff, Nat.reduceLT, Nat.reduceMod, Nat.reduceDiv, Int.reduceToNat, Nat.min_eq_left, IntKind.bits, Int.reducePow, Int.reduceLT, Int.reduceLE, Int.reduceEq, Int.reduceNe, Int.reduceAdd, Int.reduceSub, and_self, reduceCtorEq, decide_eq_true_eq, decide_eq_false_iff_not, eq_self, implies_true, exists_const, Option.isNone_some, Option.isNone_none, Option.isSome_some, Option.isSome_none, Option.getD_some, k9]
end
end Go.Proofs.Ytpgkkpjdajkobaa.mo
namespace Go.Proofs.Ytpgkkpjdajkobaa.mo
open Go.Proofs.Ytpgkkpjdajkobaa rr
set_option linter.unusedVariables false
set_option linter.unusedSimpArgs false
theorem cut_bound {N j e : Nat} {ps : List (List rc.D)} (b : boundP N ps) : boundP N (ps.set j ((ps.getD j []).take e)) := by
  intro l hl
  rcases List.mem_or_eq_of_mem_set hl with h | rfl
  · exact b l h
  · by_cases hj : j < ps.length
    · have hg : ps.getD j [] = ps[j] := by rw [List.getD_eq_getElem?_getD, List.getElem?_eq_getElem hj]; rfl
      rw [hg]
      have h2 := b _ (List.getElem_mem hj)
      exact ⟨by rw [List.length_take]; omega, fun x hx => h2.2 x (List.mem_of_mem_take hx)⟩
    · have hg : ps.getD j [] = [] := by rw [List.getD_eq_getElem?_getD, List.getElem?_eq_none (by omega)]; rfl
      rw [hg]
      simp
section
variable {h g g' : H} {L : List Nat} {p q rp wp : Nat} {pv qv rv wv : Value} {vs ws rs zs : List Value} {ps qs : List (List rc.D)} {x : stepT.D} {c d sv : Value} {n i sb : Nat}
theorem pl_12 {Q : Post} (P : PX L h g p q rp wp pv qv rv wv vs ws rs zs ps qs) (ms : sb ∈ L) (k : g sb = some (.cells (sCs x c d).toArray 39)) (K : SP h x c d) (hps : ∀ l ∈ ps, lims l) (hn : ps.length ≤ 1000) (h12 : @Eq Int x.1 1 ∨ @Eq Int x.1 2)
    (hQ : ∀ G L vs' rv' rs', PX L h G p q rp wp pv qv rv' wv vs' ws rs' zs (stepP ps x) qs → G sb = some (.cells (sCs x c d).toArray 39) → vc Try.prog c5_s36 Q [(0, .int .i64 (n : Int)), (1, sv), (5, .pointer (some ⟨p, 0, none⟩)), (7, .pointer (some ⟨rp, 0, none⟩)), (8, .pointer (some ⟨q, 0, none⟩)), (9, .pointer (some ⟨wp, 0, none⟩)), (10, .int .i64 (i : Int)), (11, .pointer (some ⟨sb, 0, none⟩)), (12, .bool true)] G) : vc Try.prog c5_s10 Q [(0, .int .i64 (n : Int)), (1, sv), (5, .pointer (some ⟨p, 0, none⟩)), (7, .pointer (some ⟨rp, 0, none⟩)), (8, .pointer (some ⟨q, 0, none⟩)), (9, .pointer (some ⟨wp, 0, none⟩)), (10, .int .i64 (i : Int)), (11, .pointer (some ⟨sb, 0, none⟩)), (12, .bool true)] g := by
  refine pl_a P.Z.E K k h12 fun G cb va cap rows hcb hGc e C => ?_
  have hL : ∀ y ∈ L, g y ≠ none := fun y hy => (P.Z.T y hy).1
  refine pl_c (P.pt.grow e (fun y hy => ?_) (.inl (List.mem_cons_of_mem _ P.mr)) (.inl (List.mem_cons_of_mem _ P.mw))) P.mr P.mw ms (fun y hy ht => ?_) C (e.at k) K hps hn h12 ⟨fun hh => hL _ P.mr (hh ▸ hcb), fun hh => hL _ P.mw (hh ▸ hcb)⟩ fun G vs' rv' rs' P' k' => hQ G L vs' rv' rs' P' k'
  · rcases hy with hy | hy
    · rcases List.mem_cons.1 hy with rfl | hy
      · exact .inr ⟨hcb, hGc⟩
      · exact .inl hy
    · exact .inr ⟨hy.1, hy.2.1⟩
  · rcases List.mem_cons.1 hy with rfl | hy
    · exact ht.2.2 rfl
    · exact hL y hy ht.1
theorem pl_36 {Q : Post} (P : PX L h g p q rp wp pv qv rv wv vs ws rs zs ps qs) (k : g sb = some (.cells (sCs x c d).toArray 39)) (hi2 : inI x.2.2.1) (hps : ∀ l ∈ ps, lims l) (hn : ps.length ≤ 1000)
    (hQ : ∀ G, Ext g G → vc Try.prog c5_s37 Q [(0, .int .i64 (n : Int)), (1, sv), (5, .pointer (some ⟨p, 0, none⟩)), (7, .pointer (some ⟨rp, 0, none⟩)), (8, .pointer (some ⟨q, 0, none⟩)), (9, .pointer (some ⟨wp, 0, none⟩)), (10, .int .i64 (i : Int))] G) : vc Try.prog c5_s36 (blockQ 1 (seqQ Try.prog [0, 1, 5, 7, 8, 9, 10] c5_s37 Q)) [(0, .int .i64 (n : Int)), (1, sv), (5, .pointer (some ⟨p, 0, none⟩)), (7, .pointer (some ⟨rp, 0, none⟩)), (8, .pointer (some ⟨q, 0, none⟩)), (9, .pointer (some ⟨wp, 0, none⟩)), (10, .int .i64 (i : Int)), (11, .pointer (some ⟨sb, 0, none⟩)), (12, .bool true)] g := by
  simp (disch := omega) only [dm_t, wA, wB, wL, wW, wY, Int.fdiv_eq_ediv_of_nonneg, Int.tdiv_eq_ediv_of_nonneg, Int.tmod_eq_emod_of_nonneg, chk_pos, decT, decF, br_pos, br_neg, wX, ↓reduceIte, Nat.reduceEqDiff, Nat.reduceAdd, Nat.reduceSub, Nat.reduceMul, Nat.reduceLeDiff, Nat.reduceLT, Nat.reduceMod, Nat.reduceDiv, Int.reduceToNat, Nat.min_eq_left, IntKind.bits, Int.reducePow, Int.reduceLT, Int.reduceLE, Int.reduceEq, Int.reduceNe, Int.reduceAdd, Int.reduceSub, and_self, reduceCtorEq, decide_eq_true_eq, decide_eq_false_iff_not, eq_self, implies_true, exists_const, Option.isNone_some, Option.isNone_none, Option.isSome_some, Option.isSome_none, Option.getD_some, (sbC k).c2]
  refine (tells_ok P.Z.X P.R hps hn hi2).k ?_
  rintro _ g2 ⟨rfl, e2⟩
  have k9 := hQ g2 e2
  simp (disch := omega) only [dm_t, wA, wB, wL, wW, wY, Int.fdiv_eq_ediv_of_nonneg, Int.tdiv_eq_ediv_of_nonneg, Int.tmod_eq_emod_of_nonneg, chk_pos, decT, decF, br_pos, br_neg, wX, ↓reduceIte, Nat.reduceEqDiff, Nat.reduceAdd, Nat.reduceSub, Nat.reduceMul, Nat.reduceLeDiff, Nat.reduceLT, Nat.reduceMod, Nat.reduceDiv, Int.reduceToNat, Nat.min_eq_left, IntKind.bits, Int.reducePow, Int.reduceLT, Int.reduceLE, Int.reduceEq, Int.reduceNe, Int.reduceAdd, Int.reduceSub, and_self, reduceCtorEq, decide_eq_true_eq, decide_eq_false_iff_not, eq_self, implies_true, exists_const, Option.isNone_some, Option.isNone_none, Option.isSome_some, Option.isSome_none, Option.getD_some, k9]
theorem pl_any {Q : Post} (P : PX L h g p q rp wp pv qv rv wv vs ws rs zs ps qs) (ms : sb ∈ L) (k : g sb = some (.cells (sCs x c d).toArray 39)) (K : SP h x c d) (hi : i ≤ 150) (hbp : boundP (260 * i) ps) (hbq : boundP (260 * i) qs) (hn : ps.length = n) (hnq : qs.length = n) (hn2 : n ≤ 1000)
    (hQ : ∀ (G : H) (L : List Nat) (p q rp wp : Nat) (pv qv rv wv : Value) (vs ws rs zs : List Value) (ps qs : List (List rc.D)), PX L h G p q rp wp pv qv rv wv vs ws rs zs ps qs → G sb = some (.cells (sCs x c d).toArray 39) → boundP (260 * (i + 1)) ps → boundP (260 * (i + 1)) qs → ps.length = n → qs.length = n → vc Try.prog c5_s36 Q [(0, .int .i64 (n : Int)), (1, sv), (5, .pointer (some ⟨p, 0, none⟩)), (7, .pointer (some ⟨rp, 0, none⟩)), (8, .pointer (some ⟨q, 0, none⟩)), (9, .pointer (some ⟨wp, 0, none⟩)), (10, .int .i64 (i : Int)), (11, .pointer (some ⟨sb, 0, none⟩)), (12, .bool true)] G) : vc Try.prog c5_s10 Q [(0, .int .i64 (n : Int)), (1, sv), (5, .pointer (some ⟨p, 0, none⟩)), (7, .pointer (some ⟨rp, 0, none⟩)), (8, .pointer (some ⟨q, 0, none⟩)), (9, .pointer (some ⟨wp, 0, none⟩)), (10, .int .i64 (i : Int)), (11, .pointer (some ⟨sb, 0, none⟩)), (12, .bool true)] g := by
  have hps := hbp.lims (by omega)
  have hqs := hbq.lims (by omega)
  have bp2 := hbp.mono (M := 260 * (i + 1)) (by omega)
  have bq2 := hbq.mono (M := 260 * (i + 1)) (by omega)
  have byt : ∀ r ∈ x.2.2.2.1.2.2.1, r.2.1.length ≤ 140737488355328 ∧ r.2.2.length ≤ 140737488355328 := fun r hr => by have := K.k1 r hr; omega
  by_cases h1 : @Eq Int x.1 1 ∨ @Eq Int x.1 2
  · refine pl_12 P ms k K hps (by omega) h1 fun G L vs' rv' rs' P' k' => hQ G L p q rp wp pv qv rv' wv vs' ws rs' zs (stepP ps x) qs P' k' ?_ bq2 ?_ hnq
    · unfold stepP
      split
      · have := doP_bound (x := x.2.2.2.1) hbp K.l1 byt
        rwa [show 260 * i + 260 = 260 * (i + 1) by omega] at this
      · exact bp2
    · unfold stepP
      split
      · rw [doP_len]; exact hn
      · exact hn
  by_cases h3 : @Eq Int x.1 3
  · exact pl_3 P K k hps h3 fun G e => hQ G L p q rp wp pv qv rv wv vs ws rs zs ps qs (P.ext e) (e.at k) bp2 bq2 hn hnq
  by_cases h4 : @Eq Int x.1 4
  · exact pl_4 P K k hps hn hn2 h4 fun G e => hQ G L p q rp wp pv qv rv wv vs ws rs zs ps qs (P.ext e) (e.at k) bp2 bq2 hn hnq
  by_cases h5 : @Eq Int x.1 5
  · exact pl_5 P K ms k hps hn hn2 h5 (fun G e => hQ G L p q rp wp pv qv rv wv vs ws rs zs ps qs (P.ext e) (e.at k) bp2 bq2 hn hnq) fun G r' rv' vs' rs' j e P' k' => hQ G (r' :: L) p q r' wp pv qv rv' wv vs' ws rs' zs _ qs P' k' (cut_bound bp2) bq2 (by rw [List.length_set]; exact hn) hnq
  by_cases h6 : @Eq Int x.1 6
  · exact pl_6 P k hps (by omega) h6 fun G p' r' pv' rv' vs' rs' P' k' => hQ G (r' :: L) p' p r' rp pv' pv rv' rv vs' vs rs' rs ps ps P' k' bp2 bp2 hn hn
  by_cases h8 : @Eq Int x.1 8
  · exact pl_8 P k hps hqs (by omega) h8 fun G e => hQ G L p q rp wp pv qv rv wv vs ws rs zs ps qs (P.ext e) (e.at k) bp2 bq2 hn hnq
  · exact pl_0 k ⟨fun h => h1 (.inl h), fun h => h1 (.inr h), h3, h4, h5, h6, h8⟩ (hQ g L p q rp wp pv qv rv wv vs ws rs zs ps qs P k bp2 bq2 hn hnq)
end
theorem MP_ok {h : H} {v : Value} {l : List stepT.D} {parts : Int} (hs : RepL nos stepT h v l) (hf : Ty.fit (.sl stepT) l) (hp : inI parts) : Ok Try.prog 5 #[.int .i64 parts, v] h (qT h) := by
  obtain ⟨sa, sc, rfl⟩ := hs.len
  obtain ⟨hfs, hfe⟩ := hf
  have hby : Ty.by stepT = 120 := rfl
  rw [hby] at hfs
  have hst : ∀ s ∈ l, (byteOk s.2.2.2.1.2.2.1 ∧ s.2.2.2.1.2.2.1.length ≤ 4611686018427387904) ∧ byteOk s.2.2.2.2.2.2 ∧ s.2.2.2.2.2.2.length ≤ 4611686018427387904 := by
    intro s hs
    obtain ⟨-, -, -, ⟨-, -, f1, -⟩, -, -, f2⟩ := hfe s hs
    exact ⟨fit_rc f1, fit_rc f2⟩
  clear hfe
  have hl : l.length ≤ 4611686018427387904 := by omega
  refine c5_ok (args := [_, _]) (by simp) ?_
  simp (disch := omega) only [dm_t, wA, wB, wL, wW, wY, Int.fdiv_eq_ediv_of_nonneg, Int.tdiv_eq_ediv_of_nonneg, Int.tmod_eq_emod_of_nonneg, chk_pos, decT, decF, br_pos, br_neg, wX, ↓reduceIte, Nat.reduceEqDiff, Nat.reduceAdd, Nat.reduceSub, Nat.reduceMul, Nat.reduceLeDiff, Nat.reduceLT, Nat.reduceMod, Nat.reduceDiv, Int.reduceToNat, Nat.min_eq_left, IntKind.bits, Int.reducePow, Int.reduceLT, Int.reduceLE, Int.reduceEq, Int.reduceNe, Int.reduceAdd, Int.reduceSub, and_self, reduceCtorEq, decide_eq_true_eq, decide_eq_false_iff_not, eq_self, implies_true, exists_const, Option.isNone_some, Option.isNone_none, Option.isSome_some, Option.isSome_none, Option.getD_some]
  refine (vast_ok hs hl fun s hs => ⟨(hst s hs).1.2, (hst s hs).2.2⟩).k ?_
  rintro _ _ ⟨rfl, rfl⟩
  by_cases hv : vastP l = true
  · rw [hv]
    simp (disch := omega) only [dm_t, wA, wB, wL, wW, wY, Int.fdiv_eq_ediv_of_nonneg, Int.tdiv_eq_ediv_of_nonneg, Int.tmod_eq_emod_of_nonneg, chk_pos, decT, decF, br_pos, br_neg, wX, ↓reduceIte, Nat.reduceEqDiff, Nat.reduceAdd, Nat.reduceSub, Nat.reduceMul, Nat.reduceLeDiff, Nat.reduceLT, Nat.reduceMod, Nat.reduceDiv, Int.reduceToNat, Nat.min_eq_left, IntKind.bits, Int.reducePow, Int.reduceLT, Int.reduceLE, Int.reduceEq, Int.reduceNe, Int.reduceAdd, Int.reduceSub, and_self, reduceCtorEq, decide_eq_true_eq, decide_eq_false_iff_not, eq_self, implies_true, exists_const, Option.isNone_some, Option.isNone_none, Option.isSome_some, Option.isSome_none, Option.getD_some]
    refine (known_ok _).k ?_
    rintro _ g5 ⟨rfl, e5⟩
    simp (disch := omega) only [dm_t, wA, wB, wL, wW, wY, Int.fdiv_eq_ediv_of_nonneg, Int.tdiv_eq_ediv_of_nonneg, Int.tmod_eq_emod_of_nonneg, chk_pos, decT, decF, br_pos, br_neg, wX, ↓reduceIte, Nat.reduceEqDiff, Nat.reduceAdd, Nat.reduceSub, Nat.reduceMul, Nat.reduceLeDiff, Nat.reduceLT, Nat.reduceMod, Nat.reduceDiv, Int.reduceToNat, Nat.min_eq_left, IntKind.bits, Int.reducePow, Int.reduceLT, Int.reduceLE, Int.reduceEq, Int.reduceNe, Int.reduceAdd, Int.reduceSub, and_self, reduceCtorEq, decide_eq_true_eq, decide_eq_false_iff_not, eq_self, implies_true, exists_const, Option.isNone_some, Option.isNone_none, Option.isSome_some, Option.isSome_none, Option.getD_some]
    exact ⟨rfl, e5⟩
  rw [Bool.not_eq_true] at hv
  rw [hv]
  obtain ⟨hv1, hv2⟩ := vastP_not hv
  simp (disch := omega) only [dm_t, wA, wB, wL, wW, wY, Int.fdiv_eq_ediv_of_nonneg, Int.tdiv_eq_ediv_of_nonneg, Int.tmod_eq_emod_of_nonneg, chk_pos, decT, decF, br_pos, br_neg, wX, ↓reduceIte, Nat.reduceEqDiff, Nat.reduceAdd, Nat.reduceSub, Nat.reduceMul, Nat.reduceLeDiff, Nat.reduceLT, Nat.reduceMod, Nat.reduceDiv, Int.reduceToNat, Nat.min_eq_left, IntKind.bits, Int.reducePow, Int.reduceLT, Int.reduceLE, Int.reduceEq, Int.reduceNe, Int.reduceAdd, Int.reduceSub, and_self, reduceCtorEq, decide_eq_true_eq, decide_eq_false_iff_not, eq_self, implies_true, exists_const, Option.isNone_some, Option.isNone_none, Option.isSome_some, Option.isSome_none, Option.getD_some]
  by_cases hn : 1 ≤ parts ∧ parts ≤ 16
  · obtain ⟨n, rfl⟩ : ∃ n : Nat, parts = (n : Int) := ⟨parts.toNat, by omega⟩
    refine (New_ok (n := n) (by omega) (by omega)).k ?_
    rintro _ g2 ⟨p, pv, vs, rfl, X, e2⟩
    simp (disch := omega) only [dm_t, wA, wB, wL, wW, wY, Int.fdiv_eq_ediv_of_nonneg, Int.tdiv_eq_ediv_of_nonneg, Int.tmod_eq_emod_of_nonneg, chk_pos, decT, decF, br_pos, br_neg, wX, ↓reduceIte, Nat.reduceEqDiff, Nat.reduceAdd, Nat.reduceSub, Nat.reduceMul, Nat.reduceLeDiff, Nat.reduceLT, Nat.reduceMod, Nat.reduceDiv, Int.reduceToNat, Nat.min_eq_left, IntKind.bits, Int.reducePow, Int.reduceLT, Int.reduceLE, Int.reduceEq, Int.reduceNe, Int.reduceAdd, Int.reduceSub, and_self, reduceCtorEq, decide_eq_true_eq, decide_eq_false_iff_not, eq_self, implies_true, exists_const, Option.isNone_some, Option.isNone_none, Option.isSome_some, Option.isSome_none, Option.getD_some]
    refine (RNew_ok (n := n) (by omega) (by omega)).k ?_
    rintro _ g3 ⟨rp, rv, rs, rfl, hrp, R, e3⟩
    have hlim0 : ∀ l ∈ List.replicate n ([] : List rc.D), lims l := (bound0 n).lims (by omega)
    have hln : (List.replicate n ([] : List rc.D)).length = n := by simp
    have E3 := e2.trans e3
    have X0 : MX (fun y => y ∈ [rp]) h g3 p pv vs (List.replicate n []) := (X.avoid fun y hy => by
      simp only [List.mem_cons, List.not_mem_nil, or_false] at hy
      exact .inr (hy ▸ hrp)).ext e3
    simp (disch := omega) only [dm_t, wA, wB, wL, wW, wY, Int.fdiv_eq_ediv_of_nonneg, Int.tdiv_eq_ediv_of_nonneg, Int.tmod_eq_emod_of_nonneg, chk_pos, decT, decF, br_pos, br_neg, wX, ↓reduceIte, Nat.reduceEqDiff, Nat.reduceAdd, Nat.reduceSub, Nat.reduceMul, Nat.reduceLeDiff, Nat.reduceLT, Nat.reduceMod, Nat.reduceDiv, Int.reduceToNat, Nat.min_eq_left, IntKind.bits, Int.reducePow, Int.reduceLT, Int.reduceLE, Int.reduceEq, Int.reduceNe, Int.reduceAdd, Int.reduceSub, and_self, reduceCtorEq, decide_eq_true_eq, decide_eq_false_iff_not, eq_self, implies_true, exists_const, Option.isNone_some, Option.isNone_none, Option.isSome_some, Option.isSome_none, Option.getD_some]
    refine (Copy_ok X0 hlim0).k ?_
    rintro _ g4 ⟨q, qv, ws, rfl, Y, e4⟩
    have Z := MX.disj (L := [rp]) X0 Y e4 E3 (fun y hy => by
      simp only [List.mem_cons, List.not_mem_nil, or_false] at hy
      rw [hy]
      exact ⟨by rw [R.obj]; simp, e2.bk hrp⟩) fun y hy => hy
    have R4 : RY (SS [rp] p q pv qv vs ws) g4 rp rv rs (List.replicate n []) := (R.avoid fun y hy => by
      rcases hy with hy | hy | hy
      · exact .inl (.inl (X.there hy))
      · exact .inr (Y.own hy).1
      · simp only [List.mem_cons, List.not_mem_nil, or_false] at hy
        exact .inl (.inr hy)).ext e4
    simp (disch := omega) only [dm_t, wA, wB, wL, wW, wY, Int.fdiv_eq_ediv_of_nonneg, Int.tdiv_eq_ediv_of_nonneg, Int.tmod_eq_emod_of_nonneg, chk_pos, decT, decF, br_pos, br_neg, wX, ↓reduceIte, Nat.reduceEqDiff, Nat.reduceAdd, Nat.reduceSub, Nat.reduceMul, Nat.reduceLeDiff, Nat.reduceLT, Nat.reduceMod, Nat.reduceDiv, Int.reduceToNat, Nat.min_eq_left, IntKind.bits, Int.reducePow, Int.reduceLT, Int.reduceLE, Int.reduceEq, Int.reduceNe, Int.reduceAdd, Int.reduceSub, and_self, reduceCtorEq, decide_eq_true_eq, decide_eq_false_iff_not, eq_self, implies_true, exists_const, Option.isNone_some, Option.isNone_none, Option.isSome_some, Option.isSome_none, Option.getD_some]
    refine (RCopy_ok R4 (fun y hy => Z.there hy) (by simp; omega)).k ?_
    rintro _ g5 ⟨wp, wv, rfl, hwp, W5, -, e5⟩
    have P0 : PX [wp, rp] h g5 p q rp wp pv qv rv wv vs ws rs rs (List.replicate n []) (List.replicate n []) :=
      ⟨Z.new hwp e5 W5.obj, (R4.avoid fun y hy => (SS.new hy).elim .inl fun h => .inr (by rw [h]; exact hwp)).ext e5, W5.mono fun y _ _ hy => SS.new hy, by simp, by simp, fun hh => Z.there (.inr (.inr (List.mem_singleton.2 rfl))) (hh ▸ hwp)⟩
    simp (disch := omega) only [dm_t, wA, wB, wL, wW, wY, Int.fdiv_eq_ediv_of_nonneg, Int.tdiv_eq_ediv_of_nonneg, Int.tmod_eq_emod_of_nonneg, chk_pos, decT, decF, br_pos, br_neg, wX, ↓reduceIte, Nat.reduceEqDiff, Nat.reduceAdd, Nat.reduceSub, Nat.reduceMul, Nat.reduceLeDiff, Nat.reduceLT, Nat.reduceMod, Nat.reduceDiv, Int.reduceToNat, Nat.min_eq_left, IntKind.bits, Int.reducePow, Int.reduceLT, Int.reduceLE, Int.reduceEq, Int.reduceNe, Int.reduceAdd, Int.reduceSub, and_self, reduceCtorEq, decide_eq_true_eq, decide_eq_false_iff_not, eq_self, implies_true, exists_const, Option.isNone_some, Option.isNone_none, Option.isSome_some, Option.isSome_none, Option.getD_some]
    refine vc_loop5 (fun vm vr vo vw vi G => ∃ (i : Nat) (L : List Nat) (p q rp wp : Nat) (pv qv rv wv : Value) (vs ws rs zs : List Value) (ps qs : List (List rc.D)), vm = .pointer (some ⟨p, 0, none⟩) ∧ vr = .pointer (some ⟨rp, 0, none⟩) ∧ vo = .pointer (some ⟨q, 0, none⟩) ∧ vw = .pointer (some ⟨wp, 0, none⟩) ∧ vi = .int .i64 (i : Int) ∧ i ≤ l.length ∧
        PX L h G p q rp wp pv qv rv wv vs ws rs zs ps qs ∧ boundP (260 * i) ps ∧ boundP (260 * i) qs ∧ ps.length = n ∧ qs.length = n) (fun _ _ _ _ vi _ => l.length - m1 vi) ?_ ?_
    · simp (disch := omega) only [dm_t, wA, wB, wL, wW, wY, Int.fdiv_eq_ediv_of_nonneg, Int.tdiv_eq_ediv_of_nonneg, Int.tmod_eq_emod_of_nonneg, chk_pos, decT, decF, br_pos, br_neg, wX, ↓reduceIte, Nat.reduceEqDiff, Nat.reduceAdd, Nat.reduceSub, Nat.reduceMul, Nat.reduceLeDiff, Nat.reduceLT, Nat.reduceMod, Nat.reduceDiv, Int.reduceToNat, Nat.min_eq_left, IntKind.bits, Int.reducePow, Int.reduceLT, Int.reduceLE, Int.reduceEq, Int.reduceNe, Int.reduceAdd, Int.reduceSub, and_self, reduceCtorEq, decide_eq_true_eq, decide_eq_false_iff_not, eq_self, implies_true, exists_const, Option.isNone_some, Option.isNone_none, Option.isSome_some, Option.isSome_none, Option.getD_some]
      exact ⟨0, _, _, _, _, _, _, _, _, _, _, _, _, _, _, _, rfl, rfl, rfl, rfl, rfl, by omega, P0, bound0 n, bound0 n, hln, hln⟩
    clear P0 W5 R4 Z Y X0 X R e2 e3 e4 e5 E3 hrp hwp hlim0 hln
    rintro _ _ _ _ _ g6 ⟨i, L, p, q, rp, wp, pv, qv, rv, wv, vs, ws, rs, zs, ps, qs, rfl, rfl, rfl, rfl, rfl, hi, P, hbp, hbq, hnp, hnq⟩
    by_cases hil : i < l.length
    · obtain ⟨pb, po, cs, gi, ca, cc, hrep⟩ := hs.load hil .i64 11 rfl
      obtain ⟨c, d, rfl, b0, b1, b2, r4, r5⟩ := rep_step hrep
      have ca' := cellsAt_ext P.Z.E ca
      have hv4 := hv2 _ (List.getElem_mem hil)
      have hcd : isCell c = true ∧ isCell d = true := by
        obtain ⟨c', e', _, hc'⟩ := rep_call.1 r4
        obtain ⟨d', e'', _, hd'⟩ := rep_reply.1 r5
        simp only [List.cons.injEq, and_true, true_and] at e' e''
        subst e' e''
        obtain ⟨a1, a2, h1⟩ := hc'.len
        obtain ⟨a3, a4, h2⟩ := hd'.len
        rw [h1, h2]
        exact ⟨rfl, rfl⟩
      have K : SP h l[i] c d := ⟨b0, b1, b2, r4, r5, (largeP_not hv4.1).1, (largeP_not hv4.1).2, (largeP_not hv4.2).1⟩
      generalize hx : l[i] = x at *
      simp (disch := omega) only [dm_t, wA, wB, wL, wW, wY, Int.fdiv_eq_ediv_of_nonneg, Int.tdiv_eq_ediv_of_nonneg, Int.tmod_eq_emod_of_nonneg, chk_pos, decT, decF, br_pos, br_neg, wX, ↓reduceIte, Nat.reduceEqDiff, Nat.reduceAdd, Nat.reduceSub, Nat.reduceMul, Nat.reduceLeDiff, Nat.reduceLT, Nat.reduceMod, Nat.reduceDiv, Int.reduceToNat, Nat.min_eq_left, IntKind.bits, Int.reducePow, Int.reduceLT, Int.reduceLE, Int.reduceEq, Int.reduceNe, Int.reduceAdd, Int.reduceSub, and_self, reduceCtorEq, decide_eq_true_eq, decide_eq_false_iff_not, eq_self, implies_true, exists_const, Option.isNone_some, Option.isNone_none, Option.isSome_some, Option.isSome_none, Option.getD_some, gi, ca']
      intro sb hsb
      refine stn_new (vs := sCs x c d) rfl (by rfl) (by
        obtain ⟨h1, h2⟩ := hcd
        unfold isCell at h1 h2
        simp [isCell, h1, h2]) ?_
      generalize hG : hupd g6 sb _ = g7
      obtain ⟨e7, qs7⟩ := new_ext hG hsb
      clear hG
      have P7 := P.new hsb e7 qs7
      generalize hQ0 : lq5 _ _ _ _ _ _ _ _ _ _ _ = Q0
      have k10 := pl_any (Q := blockQ 1 (seqQ Try.prog [0, 1, 5, 7, 8, 9, 10] c5_s37 Q0)) (sv := .slice sa l.length sc) P7 (by simp) qs7 K (by omega) hbp hbq hnp hnq (by omega) fun G L p q rp wp pv qv rv wv vs ws rs zs ps qs P' k' bp' bq' hn' hnq' => pl_36 P' k' b2 (bp'.lims (by omega)) (by omega) fun G2 e2 => by
        rw [← hQ0]
        simp (disch := omega) only [dm_t, wA, wB, wL, wW, wY, Int.fdiv_eq_ediv_of_nonneg, Int.tdiv_eq_ediv_of_nonneg, Int.tmod_eq_emod_of_nonneg, chk_pos, decT, decF, br_pos, br_neg, wX, ↓reduceIte, Nat.reduceEqDiff, Nat.reduceAdd, Nat.reduceSub, Nat.reduceMul, Nat.reduceLeDiff, Nat.reduceLT, Nat.reduceMod, Nat.reduceDiv, Int.reduceToNat, Nat.min_eq_left, IntKind.bits, Int.reducePow, Int.reduceLT, Int.reduceLE, Int.reduceEq, Int.reduceNe, Int.reduceAdd, Int.reduceSub, and_self, reduceCtorEq, decide_eq_true_eq, decide_eq_false_iff_not, eq_self, implies_true, exists_const, Option.isNone_some, Option.isNone_none, Option.isSome_some, Option.isSome_none, Option.getD_some]
        exact ⟨⟨i + 1, L, p, q, rp, wp, pv, qv, rv, wv, vs, ws, rs, zs, ps, qs, rfl, rfl, rfl, rfl, by simp, by omega, P'.ext e2, bp', bq', hn', hnq'⟩, by simp [m1]; omega⟩
      simp (disch := omega) only [dm_t, wA, wB, wL, wW, wY, Int.fdiv_eq_ediv_of_nonneg, Int.tdiv_eq_ediv_of_nonneg, Int.tmod_eq_emod_of_nonneg, chk_pos, decT, decF, br_pos, br_neg, wX, ↓reduceIte, Nat.reduceEqDiff, Nat.reduceAdd, Nat.reduceSub, Nat.reduceMul, Nat.reduceLeDiff, Nat.reduceLT, Nat.reduceMod, Nat.reduceDiv, Int.reduceToNat, Nat.min_eq_left, IntKind.bits, Int.reducePow, Int.reduceLT, Int.reduceLE, Int.reduceEq, Int.reduceNe, Int.reduceAdd, Int.reduceSub, and_self, reduceCtorEq, decide_eq_true_eq, decide_eq_false_iff_not, eq_self, implies_true, exists_const, Option.isNone_some, Option.isNone_none, Option.isSome_some, Option.isSome_none, Option.getD_some, k10]
    · simp (disch := omega) only [dm_t, wA, wB, wL, wW, wY, Int.fdiv_eq_ediv_of_nonneg, Int.tdiv_eq_ediv_of_nonneg, Int.tmod_eq_emod_of_nonneg, chk_pos, decT, decF, br_pos, br_neg, wX, ↓reduceIte, Nat.reduceEqDiff, Nat.reduceAdd, Nat.reduceSub, Nat.reduceMul, Nat.reduceLeDiff, Nat.reduceLT, Nat.reduceMod, Nat.reduceDiv, Int.reduceToNat, Nat.min_eq_left, IntKind.bits, Int.reducePow, Int.reduceLT, Int.reduceLE, Int.reduceEq, Int.reduceNe, Int.reduceAdd, Int.reduceSub, and_self, reduceCtorEq, decide_eq_true_eq, decide_eq_false_iff_not, eq_self, implies_true, exists_const, Option.isNone_some, Option.isNone_none, Option.isSome_some, Option.isSome_none, Option.getD_some]
      refine (tells_ok P.Z.Y P.W (hbq.lims (by omega)) (by omega) inI0).k ?_
      rintro _ g7 ⟨rfl, e7⟩
      simp (disch := omega) only [dm_t, wA, wB, wL, wW, wY, Int.fdiv_eq_ediv_of_nonneg, Int.tdiv_eq_ediv_of_nonneg, Int.tmod_eq_emod_of_nonneg, chk_pos, decT, decF, br_pos, br_neg, wX, ↓reduceIte, Nat.reduceEqDiff, Nat.reduceAdd, Nat.reduceSub, Nat.reduceMul, Nat.reduceLeDiff, Nat.reduceLT, Nat.reduceMod, Nat.reduceDiv, Int.reduceToNat, Nat.min_eq_left, IntKind.bits, Int.reducePow, Int.reduceLT, Int.reduceLE, Int.reduceEq, Int.reduceNe, Int.reduceAdd, Int.reduceSub, and_self, reduceCtorEq, decide_eq_true_eq, decide_eq_false_iff_not, eq_self, implies_true, exists_const, Option.isNone_some, Option.isNone_none, Option.isSome_some, Option.isSome_none, Option.getD_some]
      refine (Same_ok (P.Z.X.ext e7) (P.Z.X.ext e7) fun l hl => by have := ((hbp.lims (by omega)) l hl).1; omega).k ?_
      rintro _ g8 ⟨rfl, e8⟩
      simp (disch := omega) only [dm_t, wA, wB, wL, wW, wY, Int.fdiv_eq_ediv_of_nonneg, Int.tdiv_eq_ediv_of_nonneg, Int.tmod_eq_emod_of_nonneg, chk_pos, decT, decF, br_pos, br_neg, wX, ↓reduceIte, Nat.reduceEqDiff, Nat.reduceAdd, Nat.reduceSub, Nat.reduceMul, Nat.reduceLeDiff, Nat.reduceLT, Nat.reduceMod, Nat.reduceDiv, Int.reduceToNat, Nat.min_eq_left, IntKind.bits, Int.reducePow, Int.reduceLT, Int.reduceLE, Int.reduceEq, Int.reduceNe, Int.reduceAdd, Int.reduceSub, and_self, reduceCtorEq, decide_eq_true_eq, decide_eq_false_iff_not, eq_self, implies_true, exists_const, Option.isNone_some, Option.isNone_none, Option.isSome_some, Option.isSome_none, Option.getD_some]
      refine (known_ok _).k ?_
      rintro _ g9 ⟨rfl, e9⟩
      simp (disch := omega) only [dm_t, wA, wB, wL, wW, wY, Int.fdiv_eq_ediv_of_nonneg, Int.tdiv_eq_ediv_of_nonneg, Int.tmod_eq_emod_of_nonneg, chk_pos, decT, decF, br_pos, br_neg, wX, ↓reduceIte, Nat.reduceEqDiff, Nat.reduceAdd, Nat.reduceSub, Nat.reduceMul, Nat.reduceLeDiff, Nat.reduceLT, Nat.reduceMod, Nat.reduceDiv, Int.reduceToNat, Nat.min_eq_left, IntKind.bits, Int.reducePow, Int.reduceLT, Int.reduceLE, Int.reduceEq, Int.reduceNe, Int.reduceAdd, Int.reduceSub, and_self, reduceCtorEq, decide_eq_true_eq, decide_eq_false_iff_not, eq_self, implies_true, exists_const, Option.isNone_some, Option.isNone_none, Option.isSome_some, Option.isSome_none, Option.getD_some]
      exact ⟨rfl, P.Z.E.trans (e7.trans (e8.trans e9))⟩
  · refine (New_bad (by omega) hp).k ?_
    rintro _ _ ⟨rfl, rfl⟩
    have hbad : parts < 1 ∨ 16 < parts := by omega
    rcases hbad with hb | hb
    · simp (disch := omega) only [dm_t, wA, wB, wL, wW, wY, Int.fdiv_eq_ediv_of_nonneg, Int.tdiv_eq_ediv_of_nonneg, Int.tmod_eq_emod_of_nonneg, chk_pos, decT, decF, br_pos, br_neg, wX, ↓reduceIte, Nat.reduceEqDiff, Nat.reduceAdd, Nat.reduceSub, Nat.reduceMul, Nat.reduceLeDiff, Nat.reduceLT, Nat.reduceMod, Nat.reduceDiv, Int.reduceToNat, Nat.min_eq_left, IntKind.bits, Int.reducePow, Int.reduceLT, Int.reduceLE, Int.reduceEq, Int.reduceNe, Int.reduceAdd, Int.reduceSub, and_self, reduceCtorEq, decide_eq_true_eq, decide_eq_false_iff_not, eq_self, implies_true, exists_const, Option.isNone_some, Option.isNone_none, Option.isSome_some, Option.isSome_none, Option.getD_some]
      refine (known_ok _).k ?_
      rintro _ g5 ⟨rfl, e5⟩
      simp (disch := omega) only [dm_t, wA, wB, wL, wW, wY, Int.fdiv_eq_ediv_of_nonneg, Int.tdiv_eq_ediv_of_nonneg, Int.tmod_eq_emod_of_nonneg, chk_pos, decT, decF, br_pos, br_neg, wX, ↓reduceIte, Nat.reduceEqDiff, Nat.reduceAdd, Nat.reduceSub, Nat.reduceMul, Nat.reduceLeDiff, Nat.reduceLT, Nat.reduceMod, Nat.reduceDiv, Int.reduceToNat, Nat.min_eq_left, IntKind.bits, Int.reducePow, Int.reduceLT, Int.reduceLE, Int.reduceEq, Int.reduceNe, Int.reduceAdd, Int.reduceSub, and_self, reduceCtorEq, decide_eq_true_eq, decide_eq_false_iff_not, eq_self, implies_true, exists_const, Option.isNone_some, Option.isNone_none, Option.isSome_some, Option.isSome_none, Option.getD_some]
      exact ⟨rfl, e5⟩
    · simp (disch := omega) only [dm_t, wA, wB, wL, wW, wY, Int.fdiv_eq_ediv_of_nonneg, Int.tdiv_eq_ediv_of_nonneg, Int.tmod_eq_emod_of_nonneg, chk_pos, decT, decF, br_pos, br_neg, wX, ↓reduceIte, Nat.reduceEqDiff, Nat.reduceAdd, Nat.reduceSub, Nat.reduceMul, Nat.reduceLeDiff, Nat.reduceLT, Nat.reduceMod, Nat.reduceDiv, Int.reduceToNat, Nat.min_eq_left, IntKind.bits, Int.reducePow, Int.reduceLT, Int.reduceLE, Int.reduceEq, Int.reduceNe, Int.reduceAdd, Int.reduceSub, and_self, reduceCtorEq, decide_eq_true_eq, decide_eq_false_iff_not, eq_self, implies_true, exists_const, Option.isNone_some, Option.isNone_none, Option.isSome_some, Option.isSome_none, Option.getD_some]
      refine (known_ok _).k ?_
      rintro _ g5 ⟨rfl, e5⟩
      simp (disch := omega) only [dm_t, wA, wB, wL, wW, wY, Int.fdiv_eq_ediv_of_nonneg, Int.tdiv_eq_ediv_of_nonneg, Int.tmod_eq_emod_of_nonneg, chk_pos, decT, decF, br_pos, br_neg, wX, ↓reduceIte, Nat.reduceEqDiff, Nat.reduceAdd, Nat.reduceSub, Nat.reduceMul, Nat.reduceLeDiff, Nat.reduceLT, Nat.reduceMod, Nat.reduceDiv, Int.reduceToNat, Nat.min_eq_left, IntKind.bits, Int.reducePow, Int.reduceLT, Int.reduceLE, Int.reduceEq, Int.reduceNe, Int.reduceAdd, Int.reduceSub, and_self, reduceCtorEq, decide_eq_true_eq, decide_eq_false_iff_not, eq_self, implies_true, exists_const, Option.isNone_some, Option.isNone_none, Option.isSome_some, Option.isSome_none, Option.getD_some]
      exact ⟨rfl, e5⟩
end Go.Proofs.Ytpgkkpjdajkobaa.mo
