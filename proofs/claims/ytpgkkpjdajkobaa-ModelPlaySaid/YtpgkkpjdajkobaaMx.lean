/-
  model: All, its iterator.
-/
import Derived.Test.YtpgkkpjdajkobaaMw
namespace Go.Proofs.Ytpgkkpjdajkobaa.mo
open Go.Proofs.Ytpgkkpjdajkobaa rr
set_option linter.unusedVariables false
set_option linter.unusedSimpArgs false
/-- What the iterator reads. -/
structure AI (b q : Nat) (pw : Value) (ws : List Value) (ps : List (List rc.D)) (h : H) : Prop where
  obj : h b = some (.cells #[.pointer (some ⟨q, 0, none⟩)] 31)
  cell : cellAt h ⟨q, 0, none⟩ = some pw
  par : S1 nos h pw ws
  len : ws.length = ps.length
  lst : ∀ (i : Nat) v l, ws[i]? = some v → ps[i]? = some l → RepL nos rc h v l
theorem AI.ext {b q : Nat} {pw : Value} {ws : List Value} {ps : List (List rc.D)} {h h' : H} (A : AI b q pw ws ps h) (e : Ext h h') : AI b q pw ws ps h' :=
  ⟨e.at A.obj, cellAt_ext e A.cell, SlK.ext A.par e, A.len, fun i v l hv hl => (A.lst i v l hv hl).ext e⟩
section
variable {S : Nat → Prop} {h0 g : H} {p : Nat} {pv : Value} {vs : List Value} {ps : List (List rc.D)}
theorem All_ok (X : MX S h0 g p pv vs ps) (hps : ∀ l ∈ ps, lims l) : Ok Try.prog 43 #[.pointer (some ⟨p, 0, none⟩)] g fun v h' => ∃ b q pw ws, v = .func (.func 51) #[] #[.pointer (some ⟨b, 0, none⟩)] ∧ AI b q pw ws ps h' ∧ Ext g h' := by
  refine c43_ok (args := [_]) (by simp) ?_
  simp (disch := omega) only [dm_t, wA, wB, wL, wW, wY, Int.fdiv_eq_ediv_of_nonneg, Int.tdiv_eq_ediv_of_nonneg, Int.tmod_eq_emod_of_nonneg, chk_pos, decT, decF, br_pos, br_neg, wX, ↓reduceIte, Nat.reduceEqDiff, Nat.reduceAdd, Nat.reduceSub, Nat.reduceMul, Nat.reduceLeDiff, Nat.reduceLT, Nat.reduceMod, Nat.reduceDiv, Int.reduceToNat, Nat.min_eq_left, IntKind.bits, Int.reducePow, Int.reduceLT, Int.reduceLE, Int.reduceEq, Int.reduceNe, Int.reduceAdd, Int.reduceSub, and_self, reduceCtorEq, decide_eq_true_eq, decide_eq_false_iff_not, eq_self, implies_true, exists_const, Option.isNone_some, Option.isNone_none, Option.isSome_some, Option.isSome_none, Option.getD_some]
  refine (Copy_ok X hps).k ?_
  rintro _ g2 ⟨q, qv, ws, rfl, Y, e2⟩
  simp (disch := omega) only [dm_t, wA, wB, wL, wW, wY, Int.fdiv_eq_ediv_of_nonneg, Int.tdiv_eq_ediv_of_nonneg, Int.tmod_eq_emod_of_nonneg, chk_pos, decT, decF, br_pos, br_neg, wX, ↓reduceIte, Nat.reduceEqDiff, Nat.reduceAdd, Nat.reduceSub, Nat.reduceMul, Nat.reduceLeDiff, Nat.reduceLT, Nat.reduceMod, Nat.reduceDiv, Int.reduceToNat, Nat.min_eq_left, IntKind.bits, Int.reducePow, Int.reduceLT, Int.reduceLE, Int.reduceEq, Int.reduceNe, Int.reduceAdd, Int.reduceSub, and_self, reduceCtorEq, decide_eq_true_eq, decide_eq_false_iff_not, eq_self, implies_true, exists_const, Option.isNone_some, Option.isNone_none, Option.isSome_some, Option.isSome_none, Option.getD_some]
  intro b hb
  refine storeH_all (vs := [_]) (hupd_same _ _ _) rfl rfl ?_
  rw [hupd_hupd]
  generalize hG : hupd g2 b _ = g3
  obtain ⟨e3, qb⟩ := new_ext hG hb
  clear hG
  simp (disch := omega) only [dm_t, wA, wB, wL, wW, wY, Int.fdiv_eq_ediv_of_nonneg, Int.tdiv_eq_ediv_of_nonneg, Int.tmod_eq_emod_of_nonneg, chk_pos, decT, decF, br_pos, br_neg, wX, ↓reduceIte, Nat.reduceEqDiff, Nat.reduceAdd, Nat.reduceSub, Nat.reduceMul, Nat.reduceLeDiff, Nat.reduceLT, Nat.reduceMod, Nat.reduceDiv, Int.reduceToNat, Nat.min_eq_left, IntKind.bits, Int.reducePow, Int.reduceLT, Int.reduceLE, Int.reduceEq, Int.reduceNe, Int.reduceAdd, Int.reduceSub, and_self, reduceCtorEq, decide_eq_true_eq, decide_eq_false_iff_not, eq_self, implies_true, exists_const, Option.isNone_some, Option.isNone_none, Option.isSome_some, Option.isSome_none, Option.getD_some]
  have Y3 := Y.ext e3
  exact ⟨b, q, qv, ws, rfl, ⟨qb, Y3.cell, Y3.par.s0, Y3.len, fun i v l hv hl => Y3.rep i v l hv hl⟩, e2.trans e3⟩
end
/-- What All tells in round i. -/
def allM (ps : List (List rc.D)) (i : Nat) (h0 h : H) (args : List Value) : Prop :=
  ∃ w, args = [.int .i64 (i : Int), w] ∧ OwQ (WRow 5 fun y => h0 y = none) (fun y => h0 y ≠ none) rc (fun y => h0 y = none) h 55 w (ps.getD i [])
theorem All_it {b q : Nat} {pw : Value} {ws : List Value} {ps : List (List rc.D)} (hps : ∀ l ∈ ps, lims l) (hn : ps.length ≤ 1000) :
    RngA Try.prog 51 #[.pointer (some ⟨b, 0, none⟩)] ps.length (allM ps) (AI b q pw ws ps) := by
  intro L J Jx h X hJ hE hy h0
  have key : Ok Try.prog 51 #[.func (.yield L) #[] #[], .pointer (some ⟨b, 0, none⟩)] h fun _ h' => J ps.length h' ∨ ∃ i, i < ps.length ∧ Jx (i + 1) h' := by
    have A := hJ _ _ h0
    obtain ⟨pa, pn, rfl⟩ := S1.len A.par
    have hlen := A.len
    have hb := cellAt_of A.obj 0
    refine c51_ok (args := [_, _]) (by simp) ?_
    simp (disch := omega) only [dm_t, wA, wB, wL, wW, wY, Int.fdiv_eq_ediv_of_nonneg, Int.tdiv_eq_ediv_of_nonneg, Int.tmod_eq_emod_of_nonneg, chk_pos, decT, decF, br_pos, br_neg, wX, ↓reduceIte, Nat.reduceEqDiff, Nat.reduceAdd, Nat.reduceSub, Nat.reduceMul, Nat.reduceLeDiff, Nat.reduceLT, Nat.reduceMod, Nat.reduceDiv, Int.reduceToNat, Nat.min_eq_left, IntKind.bits, Int.reducePow, Int.reduceLT, Int.reduceLE, Int.reduceEq, Int.reduceNe, Int.reduceAdd, Int.reduceSub, and_self, reduceCtorEq, decide_eq_true_eq, decide_eq_false_iff_not, eq_self, implies_true, exists_const, Option.isNone_some, Option.isNone_none, Option.isSome_some, Option.isSome_none, Option.getD_some, cellAt_of A.obj, A.cell]
    refine vc_loop1 (fun vi h' => ∃ i : Nat, vi = .int .i64 (i : Int) ∧ i ≤ ps.length ∧ J i h') (fun vi _ => ps.length - m1 vi) ?_ ?_
    · simp (disch := omega) only [dm_t, wA, wB, wL, wW, wY, Int.fdiv_eq_ediv_of_nonneg, Int.tdiv_eq_ediv_of_nonneg, Int.tmod_eq_emod_of_nonneg, chk_pos, decT, decF, br_pos, br_neg, wX, ↓reduceIte, Nat.reduceEqDiff, Nat.reduceAdd, Nat.reduceSub, Nat.reduceMul, Nat.reduceLeDiff, Nat.reduceLT, Nat.reduceMod, Nat.reduceDiv, Int.reduceToNat, Nat.min_eq_left, IntKind.bits, Int.reducePow, Int.reduceLT, Int.reduceLE, Int.reduceEq, Int.reduceNe, Int.reduceAdd, Int.reduceSub, and_self, reduceCtorEq, decide_eq_true_eq, decide_eq_false_iff_not, eq_self, implies_true, exists_const, Option.isNone_some, Option.isNone_none, Option.isSome_some, Option.isSome_none, Option.getD_some]
      exact ⟨0, rfl, by omega, h0⟩
    rintro _ h1 ⟨i, rfl, hi, hj⟩
    have A1 := hJ _ _ hj
    by_cases hil : i < ps.length
    · have hiv : i < ws.length := by omega
      obtain ⟨b1, o1, i1, t1⟩ := S1.load A1.par hiv .i64
      have r1 := A1.lst i _ _ (List.getElem?_eq_getElem hiv) (List.getElem?_eq_getElem hil)
      obtain ⟨hli, hki⟩ := hps _ (List.getElem_mem hil)
      simp (disch := omega) only [dm_t, wA, wB, wL, wW, wY, Int.fdiv_eq_ediv_of_nonneg, Int.tdiv_eq_ediv_of_nonneg, Int.tmod_eq_emod_of_nonneg, chk_pos, decT, decF, br_pos, br_neg, wX, ↓reduceIte, Nat.reduceEqDiff, Nat.reduceAdd, Nat.reduceSub, Nat.reduceMul, Nat.reduceLeDiff, Nat.reduceLT, Nat.reduceMod, Nat.reduceDiv, Int.reduceToNat, Nat.min_eq_left, IntKind.bits, Int.reducePow, Int.reduceLT, Int.reduceLE, Int.reduceEq, Int.reduceNe, Int.reduceAdd, Int.reduceSub, and_self, reduceCtorEq, decide_eq_true_eq, decide_eq_false_iff_not, eq_self, implies_true, exists_const, Option.isNone_some, Option.isNone_none, Option.isSome_some, Option.isSome_none, Option.getD_some, i1, t1]
      refine (rr.Copy_ok r1 hli hki).k ?_
      rintro w g2 ⟨oq, e2⟩
      have hg : ps.getD i [] = ps[i] := by simp [List.getD_eq_getElem?_getD, hil]
      have hy1 := hy i hil h1 g2 _ hj e2 ⟨w, rfl, by rw [hg]; exact oq⟩
      simp (disch := omega) only [dm_t, wA, wB, wL, wW, wY, Int.fdiv_eq_ediv_of_nonneg, Int.tdiv_eq_ediv_of_nonneg, Int.tmod_eq_emod_of_nonneg, chk_pos, decT, decF, br_pos, br_neg, wX, ↓reduceIte, Nat.reduceEqDiff, Nat.reduceAdd, Nat.reduceSub, Nat.reduceMul, Nat.reduceLeDiff, Nat.reduceLT, Nat.reduceMod, Nat.reduceDiv, Int.reduceToNat, Nat.min_eq_left, IntKind.bits, Int.reducePow, Int.reduceLT, Int.reduceLE, Int.reduceEq, Int.reduceNe, Int.reduceAdd, Int.reduceSub, and_self, reduceCtorEq, decide_eq_true_eq, decide_eq_false_iff_not, eq_self, implies_true, exists_const, Option.isNone_some, Option.isNone_none, Option.isSome_some, Option.isSome_none, Option.getD_some]
      refine hy1.k ?_
      rintro (_ | _) h2 hj3
      · simp (disch := omega) only [dm_t, wA, wB, wL, wW, wY, Int.fdiv_eq_ediv_of_nonneg, Int.tdiv_eq_ediv_of_nonneg, Int.tmod_eq_emod_of_nonneg, chk_pos, decT, decF, br_pos, br_neg, wX, ↓reduceIte, Nat.reduceEqDiff, Nat.reduceAdd, Nat.reduceSub, Nat.reduceMul, Nat.reduceLeDiff, Nat.reduceLT, Nat.reduceMod, Nat.reduceDiv, Int.reduceToNat, Nat.min_eq_left, IntKind.bits, Int.reducePow, Int.reduceLT, Int.reduceLE, Int.reduceEq, Int.reduceNe, Int.reduceAdd, Int.reduceSub, and_self, reduceCtorEq, decide_eq_true_eq, decide_eq_false_iff_not, eq_self, implies_true, exists_const, Option.isNone_some, Option.isNone_none, Option.isSome_some, Option.isSome_none, Option.getD_some]
        exact .inr ⟨i, hil, by simpa using hj3⟩
      · simp (disch := omega) only [dm_t, wA, wB, wL, wW, wY, Int.fdiv_eq_ediv_of_nonneg, Int.tdiv_eq_ediv_of_nonneg, Int.tmod_eq_emod_of_nonneg, chk_pos, decT, decF, br_pos, br_neg, wX, ↓reduceIte, Nat.reduceEqDiff, Nat.reduceAdd, Nat.reduceSub, Nat.reduceMul, Nat.reduceLeDiff, Nat.reduceLT, Nat.reduceMod, Nat.reduceDiv, Int.reduceToNat, Nat.min_eq_left, IntKind.bits, Int.reducePow, Int.reduceLT, Int.reduceLE, Int.reduceEq, Int.reduceNe, Int.reduceAdd, Int.reduceSub, and_self, reduceCtorEq, decide_eq_true_eq, decide_eq_false_iff_not, eq_self, implies_true, exists_const, Option.isNone_some, Option.isNone_none, Option.isSome_some, Option.isSome_none, Option.getD_some]
        exact ⟨⟨i + 1, by simp, by omega, by simpa using hj3⟩, by simp [m1]; omega⟩
    · obtain rfl : i = ps.length := by omega
      simp (disch := omega) only [dm_t, wA, wB, wL, wW, wY, Int.fdiv_eq_ediv_of_nonneg, Int.tdiv_eq_ediv_of_nonneg, Int.tmod_eq_emod_of_nonneg, chk_pos, decT, decF, br_pos, br_neg, wX, ↓reduceIte, Nat.reduceEqDiff, Nat.reduceAdd, Nat.reduceSub, Nat.reduceMul, Nat.reduceLeDiff, Nat.reduceLT, Nat.reduceMod, Nat.reduceDiv, Int.reduceToNat, Nat.min_eq_left, IntKind.bits, Int.reducePow, Int.reduceLT, Int.reduceLE, Int.reduceEq, Int.reduceNe, Int.reduceAdd, Int.reduceSub, and_self, reduceCtorEq, decide_eq_true_eq, decide_eq_false_iff_not, eq_self, implies_true, exists_const, Option.isNone_some, Option.isNone_none, Option.isSome_some, Option.isSome_none, Option.getD_some]
      exact .inl hj
  exact key.k fun _ _ h => h
end Go.Proofs.Ytpgkkpjdajkobaa.mo
