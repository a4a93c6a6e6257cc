/-
  model: known.
-/
import Derived.Test.YtpgkkpjdajkobaaMe
namespace Go.Proofs.Ytpgkkpjdajkobaa.mo
open Go.Proofs.Ytpgkkpjdajkobaa rr
set_option linter.unusedVariables false
set_option linter.unusedSimpArgs false
def kr1 : rc.D := ((1 : Int), ([] : List UInt8), ([] : List UInt8))
def kr2 : rc.D := ((2 : Int), ([] : List UInt8), ([] : List UInt8))
def kc1 : callT.D := ((1 : Int), (0 : Int), [kr1, kr2], (0 : Int), (0 : Int))
def kc2 : callT.D := ((2 : Int), (0 : Int), ([] : List rc.D), (1 : Int), (9 : Int))
def kc3 : callT.D := ((2 : Int), (0 : Int), ([] : List rc.D), (3 : Int), (0 : Int))
def kp0 : List (List rc.D) := List.replicate 2 []
def kp1 : List (List rc.D) := [[kr1, kr2], []]
theorem kt1 : tryP kp0 kc1 = ((0 : Int), (0 : Int), ([] : List rc.D)) ∧ doP kp0 kc1 = kp1 := by decide
theorem kt2 : tryP kp1 kc2 = ((0 : Int), (2 : Int), [kr2]) ∧ doP kp1 kc2 = kp1 := by decide
theorem kt3 : tryP kp1 kc3 = err 4 := by decide
theorem lim0 : ∀ l ∈ kp0, lims l := by
  intro l hl
  rw [List.eq_of_mem_replicate hl]
  exact ⟨by simp, fun x hx => by simp at hx⟩
theorem limk : lims [kr1, kr2] := ⟨by simp, fun x hx => by
  simp only [List.mem_cons, List.not_mem_nil, or_false] at hx
  rcases hx with rfl | rfl <;> exact ⟨by decide, by decide⟩⟩
theorem lim1 : ∀ l ∈ kp1, lims l := by
  intro l hl
  simp only [kp1, List.mem_cons, List.not_mem_nil, or_false] at hl
  rcases hl with rfl | rfl
  · exact limk
  · exact ⟨by simp, fun x hx => by simp at hx⟩
theorem limn : lims [] := ⟨by simp, fun x hx => by simp at hx⟩
theorem known_ok (h : H) : Ok Try.prog 8 #[] h fun v h' => v = .bool true ∧ Ext h h' := by
  refine c8_ok (args := []) (by simp) ?_
  simp (disch := omega) only [dm_t, wA, wB, wL, wW, wY, Int.fdiv_eq_ediv_of_nonneg, Int.tdiv_eq_ediv_of_nonneg, Int.tmod_eq_emod_of_nonneg, chk_pos, decT, decF, br_pos, br_neg, wX, ↓reduceIte, Nat.reduceEqDiff, Nat.reduceAdd, Nat.reduceSub, Nat.reduceMul, Nat.reduceLeDiff, Nat.reduceLT, Nat.reduceMod, Nat.reduceDiv, Int.reduceToNat, Nat.min_eq_left, IntKind.bits, Int.reducePow, Int.reduceLT, Int.reduceLE, Int.reduceEq, Int.reduceNe, Int.reduceAdd, Int.reduceSub, and_self, reduceCtorEq, decide_eq_true_eq, decide_eq_false_iff_not, eq_self, implies_true, exists_const, Option.isNone_some, Option.isNone_none, Option.isSome_some, Option.isSome_none, Option.getD_some]
  refine (New_ok (n := 2) (by omega) (by omega)).k ?_
  rintro _ g1 ⟨p, pv, vs, rfl, X, e1⟩
  simp (disch := omega) only [dm_t, wA, wB, wL, wW, wY, Int.fdiv_eq_ediv_of_nonneg, Int.tdiv_eq_ediv_of_nonneg, Int.tmod_eq_emod_of_nonneg, chk_pos, decT, decF, br_pos, br_neg, wX, ↓reduceIte, Nat.reduceEqDiff, Nat.reduceAdd, Nat.reduceSub, Nat.reduceMul, Nat.reduceLeDiff, Nat.reduceLT, Nat.reduceMod, Nat.reduceDiv, Int.reduceToNat, Nat.min_eq_left, IntKind.bits, Int.reducePow, Int.reduceLT, Int.reduceLE, Int.reduceEq, Int.reduceNe, Int.reduceAdd, Int.reduceSub, and_self, reduceCtorEq, decide_eq_true_eq, decide_eq_false_iff_not, eq_self, implies_true, exists_const, Option.isNone_some, Option.isNone_none, Option.isSome_some, Option.isSome_none, Option.getD_some]
  intro b hb
  simp (disch := omega) only [dm_t, wA, wB, wL, wW, wY, Int.fdiv_eq_ediv_of_nonneg, Int.tdiv_eq_ediv_of_nonneg, Int.tmod_eq_emod_of_nonneg, chk_pos, decT, decF, br_pos, br_neg, wX, ↓reduceIte, Nat.reduceEqDiff, Nat.reduceAdd, Nat.reduceSub, Nat.reduceMul, Nat.reduceLeDiff, Nat.reduceLT, Nat.reduceMod, Nat.reduceDiv, Int.reduceToNat, Nat.min_eq_left, IntKind.bits, Int.reducePow, Int.reduceLT, Int.reduceLE, Int.reduceEq, Int.reduceNe, Int.reduceAdd, Int.reduceSub, and_self, reduceCtorEq, decide_eq_true_eq, decide_eq_false_iff_not, eq_self, implies_true, exists_const, Option.isNone_some, Option.isNone_none, Option.isSome_some, Option.isSome_none, Option.getD_some]
  generalize hG : hupd g1 b _ = g2
  obtain ⟨e2, qb⟩ := new_ext hG hb
  clear hG
  have X0 : MX nos h g2 p pv vs kp0 := X.ext e2
  have E2 := e1.trans e2
  have rl : RepL nos rc g2 (.slice (some ⟨b, 0, none⟩) 2 2) [kr1, kr2] := by
    have hrect : Rect 3 [[Value.int .i64 1, .slice none 0 0, .slice none 0 0], [.int .i64 2, .slice none 0 0, .slice none 0 0]] := by
      intro r hr
      simp only [List.mem_cons, List.not_mem_nil, or_false] at hr
      rcases hr with rfl | rfl <;> rfl
    refine repL_iff.2 ⟨[[.int .i64 1, .slice none 0 0, .slice none 0 0], [.int .i64 2, .slice none 0 0, .slice none 0 0]], ⟨hrect, .inr ⟨b, 0, 2, _, _, _, rfl, qb, by decide, by simp, ?_, id⟩⟩, rfl, ?_⟩
    · have := at_arr (flat [[Value.int .i64 1, .slice none 0 0, .slice none 0 0], [.int .i64 2, .slice none 0 0, .slice none 0 0]]) #[]
      exact this
    · intro i r x hr hx
      match i with
      | 0 => simp only [List.getElem?_cons_zero, Option.some.injEq] at hr hx; subst hr hx; exact rep_rc.2 ⟨_, _, rfl, by decide, By.nil, By.nil⟩
      | 1 => simp only [List.getElem?_cons_succ, List.getElem?_cons_zero, Option.some.injEq] at hr hx; subst hr hx; exact rep_rc.2 ⟨_, _, rfl, by decide, By.nil, By.nil⟩
      | i + 2 => simp at hr
  have c1 : Rep nos callT g2 (cCs kc1 (.slice (some ⟨b, 0, none⟩) 2 2)) kc1 := rep_call.2 ⟨_, rfl, by unfold cB inI; decide, rl⟩
  have c2 : ∀ {G}, Rep nos callT G (cCs kc2 (.slice none 0 0)) kc2 := rep_call.2 ⟨_, rfl, by unfold cB inI; decide, RepL.nil⟩
  have c3 : ∀ {G}, Rep nos callT G (cCs kc3 (.slice none 0 0)) kc3 := rep_call.2 ⟨_, rfl, by unfold cB inI; decide, RepL.nil⟩
  refine (Do_ok X0 E2 (fun _ h => h.elim) c1 limk lim0).k ?_
  rintro _ g3 ⟨_, rfl, ⟨y1, -⟩, ⟨vs1, X1, hat1, _⟩, F1⟩
  rw [kt1.1] at y1
  rw [kt1.2] at X1
  obtain ⟨w1, rfl, _, ow1⟩ := y1
  obtain ⟨w1a, w1n, rfl⟩ := ow1.l.len
  have E3 : Ext h g3 := Ext.step' E2 F1 fun y hy => (X0.own hy).1
  simp (disch := omega) only [dm_t, wA, wB, wL, wW, wY, Int.fdiv_eq_ediv_of_nonneg, Int.tdiv_eq_ediv_of_nonneg, Int.tmod_eq_emod_of_nonneg, chk_pos, decT, decF, br_pos, br_neg, wX, ↓reduceIte, Nat.reduceEqDiff, Nat.reduceAdd, Nat.reduceSub, Nat.reduceMul, Nat.reduceLeDiff, Nat.reduceLT, Nat.reduceMod, Nat.reduceDiv, Int.reduceToNat, Nat.min_eq_left, IntKind.bits, Int.reducePow, Int.reduceLT, Int.reduceLE, Int.reduceEq, Int.reduceNe, Int.reduceAdd, Int.reduceSub, and_self, reduceCtorEq, decide_eq_true_eq, decide_eq_false_iff_not, eq_self, implies_true, exists_const, Option.isNone_some, Option.isNone_none, Option.isSome_some, Option.isSome_none, Option.getD_some]
  intro ta hta
  simp (disch := omega) only [dm_t, wA, wB, wL, wW, wY, Int.fdiv_eq_ediv_of_nonneg, Int.tdiv_eq_ediv_of_nonneg, Int.tmod_eq_emod_of_nonneg, chk_pos, decT, decF, br_pos, br_neg, wX, ↓reduceIte, Nat.reduceEqDiff, Nat.reduceAdd, Nat.reduceSub, Nat.reduceMul, Nat.reduceLeDiff, Nat.reduceLT, Nat.reduceMod, Nat.reduceDiv, Int.reduceToNat, Nat.min_eq_left, IntKind.bits, Int.reducePow, Int.reduceLT, Int.reduceLE, Int.reduceEq, Int.reduceNe, Int.reduceAdd, Int.reduceSub, and_self, reduceCtorEq, decide_eq_true_eq, decide_eq_false_iff_not, eq_self, implies_true, exists_const, Option.isNone_some, Option.isNone_none, Option.isSome_some, Option.isSome_none, Option.getD_some]
  refine res3 ((0 : Int), (0 : Int), ([] : List rc.D)) _ (hupd_same _ _ _) rfl rfl ?_
  intro g4 _ qa fa
  have e4 : Ext g3 g4 := Ext.step' (Ext.new hta _) fa fun y hy => by rw [hy]; exact hta
  have X1' := X1.ext e4
  have hma : ¬ MF p pv vs1 ta := fun h => X1.there h hta
  simp (disch := omega) only [dm_t, wA, wB, wL, wW, wY, Int.fdiv_eq_ediv_of_nonneg, Int.tdiv_eq_ediv_of_nonneg, Int.tmod_eq_emod_of_nonneg, chk_pos, decT, decF, br_pos, br_neg, wX, ↓reduceIte, Nat.reduceEqDiff, Nat.reduceAdd, Nat.reduceSub, Nat.reduceMul, Nat.reduceLeDiff, Nat.reduceLT, Nat.reduceMod, Nat.reduceDiv, Int.reduceToNat, Nat.min_eq_left, IntKind.bits, Int.reducePow, Int.reduceLT, Int.reduceLE, Int.reduceEq, Int.reduceNe, Int.reduceAdd, Int.reduceSub, and_self, reduceCtorEq, decide_eq_true_eq, decide_eq_false_iff_not, eq_self, implies_true, exists_const, Option.isNone_some, Option.isNone_none, Option.isSome_some, Option.isSome_none, Option.getD_some]
  refine (Do_ok X1' (E3.trans e4) (fun _ h => h.elim) c2 limn lim1).k ?_
  rintro _ g5 ⟨_, rfl, ⟨y2, -⟩, ⟨vs2, X2, hat2, hv2⟩, F2⟩
  rw [kt2.1] at y2
  rw [kt2.2] at X2
  obtain ⟨w2, rfl, _, ow2⟩ := y2
  obtain ⟨w2a, w2n, rfl⟩ := ow2.l.len
  have E5 : Ext h g5 := Ext.step' (E3.trans e4) F2 fun y hy => (X1'.own hy).1
  have qa5 := F2 _ _ qa hma
  simp (disch := omega) only [dm_t, wA, wB, wL, wW, wY, Int.fdiv_eq_ediv_of_nonneg, Int.tdiv_eq_ediv_of_nonneg, Int.tmod_eq_emod_of_nonneg, chk_pos, decT, decF, br_pos, br_neg, wX, ↓reduceIte, Nat.reduceEqDiff, Nat.reduceAdd, Nat.reduceSub, Nat.reduceMul, Nat.reduceLeDiff, Nat.reduceLT, Nat.reduceMod, Nat.reduceDiv, Int.reduceToNat, Nat.min_eq_left, IntKind.bits, Int.reducePow, Int.reduceLT, Int.reduceLE, Int.reduceEq, Int.reduceNe, Int.reduceAdd, Int.reduceSub, and_self, reduceCtorEq, decide_eq_true_eq, decide_eq_false_iff_not, eq_self, implies_true, exists_const, Option.isNone_some, Option.isNone_none, Option.isSome_some, Option.isSome_none, Option.getD_some]
  intro tb htb
  simp (disch := omega) only [dm_t, wA, wB, wL, wW, wY, Int.fdiv_eq_ediv_of_nonneg, Int.tdiv_eq_ediv_of_nonneg, Int.tmod_eq_emod_of_nonneg, chk_pos, decT, decF, br_pos, br_neg, wX, ↓reduceIte, Nat.reduceEqDiff, Nat.reduceAdd, Nat.reduceSub, Nat.reduceMul, Nat.reduceLeDiff, Nat.reduceLT, Nat.reduceMod, Nat.reduceDiv, Int.reduceToNat, Nat.min_eq_left, IntKind.bits, Int.reducePow, Int.reduceLT, Int.reduceLE, Int.reduceEq, Int.reduceNe, Int.reduceAdd, Int.reduceSub, and_self, reduceCtorEq, decide_eq_true_eq, decide_eq_false_iff_not, eq_self, implies_true, exists_const, Option.isNone_some, Option.isNone_none, Option.isSome_some, Option.isSome_none, Option.getD_some]
  refine res3 ((0 : Int), (2 : Int), [kr2]) _ (hupd_same _ _ _) rfl rfl ?_
  intro g6 _ qb6 fb
  have e6 : Ext g5 g6 := Ext.step' (Ext.new htb _) fb fun y hy => by rw [hy]; exact htb
  have X2' := X2.ext e6
  have hmb : ¬ MF p pv vs2 tb := fun h => X2.there h htb
  have hma2 : ¬ MF p pv vs2 ta := fun h => (hat2 ta h).elim hma fun hn => by rw [qa] at hn; cases hn
  simp (disch := omega) only [dm_t, wA, wB, wL, wW, wY, Int.fdiv_eq_ediv_of_nonneg, Int.tdiv_eq_ediv_of_nonneg, Int.tmod_eq_emod_of_nonneg, chk_pos, decT, decF, br_pos, br_neg, wX, ↓reduceIte, Nat.reduceEqDiff, Nat.reduceAdd, Nat.reduceSub, Nat.reduceMul, Nat.reduceLeDiff, Nat.reduceLT, Nat.reduceMod, Nat.reduceDiv, Int.reduceToNat, Nat.min_eq_left, IntKind.bits, Int.reducePow, Int.reduceLT, Int.reduceLE, Int.reduceEq, Int.reduceNe, Int.reduceAdd, Int.reduceSub, and_self, reduceCtorEq, decide_eq_true_eq, decide_eq_false_iff_not, eq_self, implies_true, exists_const, Option.isNone_some, Option.isNone_none, Option.isSome_some, Option.isSome_none, Option.getD_some]
  refine (Do_ok X2' (E5.trans e6) (fun _ h => h.elim) c3 limn lim1).k ?_
  rintro _ g7 ⟨_, rfl, ⟨y3, -⟩, _, F3⟩
  rw [kt3] at y3
  obtain ⟨w3, rfl, _, ow3⟩ := y3
  obtain ⟨w3a, w3n, rfl⟩ := ow3.l.len
  have E7 : Ext h g7 := Ext.step' (E5.trans e6) F3 fun y hy => (X2'.own hy).1
  have qa7 := F3 _ _ (e6.at qa5) hma2
  have qb7 := F3 _ _ qb6 hmb
  -- the told record stands
  have r7 : RepL nos rc g7 (.slice w2a 1 w2n) [kr2] := by
    have h1 := (ow2.l.ext e6)
    obtain rfl : vs2 = vs1 := hv2 (by decide)
    have h2 := h1.fr F3 (T := MF p pv vs2) (fun y hy => X1'.there hy) (fun y hy ho => absurd ho (X1'.there hy))
    exact h2.rep
  simp (disch := omega) only [dm_t, wA, wB, wL, wW, wY, Int.fdiv_eq_ediv_of_nonneg, Int.tdiv_eq_ediv_of_nonneg, Int.tmod_eq_emod_of_nonneg, chk_pos, decT, decF, br_pos, br_neg, wX, ↓reduceIte, Nat.reduceEqDiff, Nat.reduceAdd, Nat.reduceSub, Nat.reduceMul, Nat.reduceLeDiff, Nat.reduceLT, Nat.reduceMod, Nat.reduceDiv, Int.reduceToNat, Nat.min_eq_left, IntKind.bits, Int.reducePow, Int.reduceLT, Int.reduceLE, Int.reduceEq, Int.reduceNe, Int.reduceAdd, Int.reduceSub, and_self, reduceCtorEq, decide_eq_true_eq, decide_eq_false_iff_not, eq_self, implies_true, exists_const, Option.isNone_some, Option.isNone_none, Option.isSome_some, Option.isSome_none, Option.getD_some]
  intro tc htc
  simp (disch := omega) only [dm_t, wA, wB, wL, wW, wY, Int.fdiv_eq_ediv_of_nonneg, Int.tdiv_eq_ediv_of_nonneg, Int.tmod_eq_emod_of_nonneg, chk_pos, decT, decF, br_pos, br_neg, wX, ↓reduceIte, Nat.reduceEqDiff, Nat.reduceAdd, Nat.reduceSub, Nat.reduceMul, Nat.reduceLeDiff, Nat.reduceLT, Nat.reduceMod, Nat.reduceDiv, Int.reduceToNat, Nat.min_eq_left, IntKind.bits, Int.reducePow, Int.reduceLT, Int.reduceLE, Int.reduceEq, Int.reduceNe, Int.reduceAdd, Int.reduceSub, and_self, reduceCtorEq, decide_eq_true_eq, decide_eq_false_iff_not, eq_self, implies_true, exists_const, Option.isNone_some, Option.isNone_none, Option.isSome_some, Option.isSome_none, Option.getD_some]
  refine res3 (err 4) _ (hupd_same _ _ _) rfl rfl ?_
  intro g8 _ qc fc
  have e8 : Ext g7 g8 := Ext.step' (Ext.new htc _) fc fun y hy => by rw [hy]; exact htc
  have r8 := r7.ext e8
  obtain ⟨q1, q2, cs2, i2, _, d2, rr2⟩ := r8.load (i := 0) (by simp) .i64 3 rfl
  obtain ⟨_, _, rfl, _⟩ := rep_rc.1 rr2
  have x0 : cellAt g8 ⟨q1, q2, none⟩ = some (.int .i64 2) := d2 0 (by omega)
  have i2' : idxV1 3 (.slice w2a 1 w2n) (.int .i64 0) = some (.pointer (some ⟨q1, q2, none⟩)) := i2
  have a0 : cellAt g8 ⟨ta, 0, none⟩ = some (.int .i64 0) := by rw [cellAt_of (e8.at qa7)]; rfl
  have a1 : cellAt g8 ⟨ta, 1, none⟩ = some (.int .i64 0) := by rw [cellAt_of (e8.at qa7)]; rfl
  have b1 : cellAt g8 ⟨tb, 1, none⟩ = some (.int .i64 2) := by rw [cellAt_of (e8.at qb7)]; rfl
  have b2 : cellAt g8 ⟨tb, 2, none⟩ = some (.slice w2a 1 w2n) := by rw [cellAt_of (e8.at qb7)]; rfl
  have z0 : cellAt g8 ⟨tc, 0, none⟩ = some (.int .i64 4) := by rw [cellAt_of qc]; rfl
  have h1c : ((1 : Nat) : Int) = 1 := rfl
  simp (disch := omega) only [dm_t, wA, wB, wL, wW, wY, Int.fdiv_eq_ediv_of_nonneg, Int.tdiv_eq_ediv_of_nonneg, Int.tmod_eq_emod_of_nonneg, chk_pos, decT, decF, br_pos, br_neg, wX, ↓reduceIte, Nat.reduceEqDiff, Nat.reduceAdd, Nat.reduceSub, Nat.reduceMul, Nat.reduceLeDiff, Nat.reduceLT, Nat.reduceMod, Nat.reduceDiv, Int.reduceToNat, Nat.min_eq_left, IntKind.bits, Int.reducePow, Int.reduceLT, Int.reduceLE, Int.reduceEq, Int.reduceNe, Int.reduceAdd, Int.reduceSub, and_self, reduceCtorEq, decide_eq_true_eq, decide_eq_false_iff_not, eq_self, implies_true, exists_const, Option.isNone_some, Option.isNone_none, Option.isSome_some, Option.isSome_none, Option.getD_some, a0, a1, b1, b2, z0, i2', x0, h1c]
  exact E7.trans e8
end Go.Proofs.Ytpgkkpjdajkobaa.mo
