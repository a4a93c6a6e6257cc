/-
  history: known.
-/
import Derived.Test.YtmolhemoiplpfaaH9
namespace Go.Proofs.Ytmolhemoiplpfaa.hi
open Go.Proofs.Ytmolhemoiplpfaa
set_option linter.unusedVariables false
set_option linter.unusedSimpArgs false
def kc : callT.D := ((2 : Int), (0 : Int), ([] : List rc.D), (0 : Int), (1 : Int))
def ky : replyT.D := ((0 : Int), (0 : Int), ([] : List rc.D))
def k1 : Hs := putS Hs.new (evCall 0 kc)
def k2 : Hs := putS k1 (evCall 1 kc)
def k3 : Hs := putS k2 (evRet 0 ky)
theorem kt : turnE Hs.new (evCall 0 kc) = 0 ∧ turnE k1 (evCall 1 kc) = 0 ∧ turnE k2 (evRet 0 ky) = 0 ∧ turnE k3 (evRet 0 ky) = 280 := by decide
theorem PutR.ok {h0 g h' : H} {p : Nat} {ve vo v : Value} {s : Hs} {x : evT.D} (h : PutR h0 g p ve vo s x v h') (hT : turnE s x = 0) : v = .int .i64 0 ∧ (∃ ve' vo', HX h0 h' p ve' vo' (putS s x)) ∧ Fr (HF p ve vo) g h' := by
  obtain ⟨h1, ⟨ve', vo', h2⟩, h3⟩ := h
  rw [if_pos hT] at h2
  exact ⟨by rw [h1, hT], ⟨ve', vo', h2⟩, h3⟩
theorem PutR.no {h0 g h' : H} {p : Nat} {ve vo v : Value} {s : Hs} {x : evT.D} (h : PutR h0 g p ve vo s x v h') (hT : turnE s x ≠ 0) : v = .int .i64 (turnE s x) ∧ (∃ ve' vo', HX h0 h' p ve' vo' s) ∧ Fr (HF p ve vo) g h' := by
  obtain ⟨h1, ⟨ve', vo', h2⟩, h3⟩ := h
  rw [if_neg hT] at h2
  exact ⟨h1, ⟨ve', vo', h2⟩, h3⟩
theorem known_ok (h : H) : Ok Try.prog 8 #[] h fun v h' => v = .bool true ∧ Ext h h' := by
  refine c8_ok (args := []) (by simp) ?_
  obtain ⟨t1, t2, t3, t4⟩ := kt
  simp (disch := omega) only [dm_t, wA, wB, wL, wW, wY, Int.fdiv_eq_ediv_of_nonneg, Int.tdiv_eq_ediv_of_nonneg, Int.tmod_eq_emod_of_nonneg, chk_pos, decT, decF, br_pos, br_neg, wX, ↓reduceIte, Nat.reduceEqDiff, Nat.reduceAdd, Nat.reduceSub, Nat.reduceMul, Nat.reduceLeDiff, Nat.reduceLT, Nat.reduceMod, Nat.reduceDiv, Int.reduceToNat, Nat.min_eq_left, IntKind.bits, Int.reducePow, Int.reduceLT, Int.reduceLE, Int.reduceEq, Int.reduceNe, Int.reduceAdd, Int.reduceSub, and_self, reduceCtorEq, decide_eq_true_eq, decide_eq_false_iff_not, eq_self, implies_true, exists_const, Option.isNone_some, Option.isNone_none, Option.isSome_some, Option.isSome_none, Option.getD_some]
  refine (New_ok h).k ?_
  rintro _ h1 ⟨p, rfl, hp, X0, e1⟩
  simp (disch := omega) only [dm_t, wA, wB, wL, wW, wY, Int.fdiv_eq_ediv_of_nonneg, Int.tdiv_eq_ediv_of_nonneg, Int.tmod_eq_emod_of_nonneg, chk_pos, decT, decF, br_pos, br_neg, wX, ↓reduceIte, Nat.reduceEqDiff, Nat.reduceAdd, Nat.reduceSub, Nat.reduceMul, Nat.reduceLeDiff, Nat.reduceLT, Nat.reduceMod, Nat.reduceDiv, Int.reduceToNat, Nat.min_eq_left, IntKind.bits, Int.reducePow, Int.reduceLT, Int.reduceLE, Int.reduceEq, Int.reduceNe, Int.reduceAdd, Int.reduceSub, and_self, reduceCtorEq, decide_eq_true_eq, decide_eq_false_iff_not, eq_self, implies_true, exists_const, Option.isNone_some, Option.isNone_none, Option.isSome_some, Option.isSome_none, Option.getD_some]
  intro c hc
  simp (disch := omega) only [dm_t, wA, wB, wL, wW, wY, Int.fdiv_eq_ediv_of_nonneg, Int.tdiv_eq_ediv_of_nonneg, Int.tmod_eq_emod_of_nonneg, chk_pos, decT, decF, br_pos, br_neg, wX, ↓reduceIte, Nat.reduceEqDiff, Nat.reduceAdd, Nat.reduceSub, Nat.reduceMul, Nat.reduceLeDiff, Nat.reduceLT, Nat.reduceMod, Nat.reduceDiv, Int.reduceToNat, Nat.min_eq_left, IntKind.bits, Int.reducePow, Int.reduceLT, Int.reduceLE, Int.reduceEq, Int.reduceNe, Int.reduceAdd, Int.reduceSub, and_self, reduceCtorEq, decide_eq_true_eq, decide_eq_false_iff_not, eq_self, implies_true, exists_const, Option.isNone_some, Option.isNone_none, Option.isSome_some, Option.isSome_none, Option.getD_some]
  refine (stn_new (n := 5) (vs := cCs kc (.slice none 0 0)) rfl rfl rfl ?_).2
  generalize hG : hupd _ c _ = g1
  obtain ⟨e', qc⟩ := new_ext hG hc
  clear hG
  have E1 := e1.trans e'
  have X1 := X0.ext e'
  have hkc : ∀ {g}, Rep nos callT g (cCs kc (.slice none 0 0)) kc := rep_call.2 ⟨_, rfl, by unfold cB inI; decide, RepL.nil⟩
  have hky : ∀ {g}, Rep nos replyT g (yCs ky (.slice none 0 0)) ky := rep_reply.2 ⟨_, rfl, by unfold yB inI; decide, RepL.nil⟩
  have cc : ∀ {g : H} {E fr}, g c = some (.cells (cCs kc (.slice none 0 0)).toArray E fr) → cellsAt g ⟨c, 0, none⟩ 5 = some (cCs kc (.slice none 0 0)).toArray := fun q => cellsAt_all q 5 rfl
  have qc1 : g1 c = some (.cells (cCs kc (.slice none 0 0)).toArray 25) := qc
  have k0 := cc qc1
  simp (disch := omega) only [dm_t, wA, wB, wL, wW, wY, Int.fdiv_eq_ediv_of_nonneg, Int.tdiv_eq_ediv_of_nonneg, Int.tmod_eq_emod_of_nonneg, chk_pos, decT, decF, br_pos, br_neg, wX, ↓reduceIte, Nat.reduceEqDiff, Nat.reduceAdd, Nat.reduceSub, Nat.reduceMul, Nat.reduceLeDiff, Nat.reduceLT, Nat.reduceMod, Nat.reduceDiv, Int.reduceToNat, Nat.min_eq_left, IntKind.bits, Int.reducePow, Int.reduceLT, Int.reduceLE, Int.reduceEq, Int.reduceNe, Int.reduceAdd, Int.reduceSub, and_self, reduceCtorEq, decide_eq_true_eq, decide_eq_false_iff_not, eq_self, implies_true, exists_const, Option.isNone_some, Option.isNone_none, Option.isSome_some, Option.isSome_none, Option.getD_some, k0]
  refine (Call_ok inI0 X1 E1 hkc limN).k ?_
  rintro _ g2 hR
  obtain ⟨rfl, ⟨ve2, vo2, X2⟩, f2⟩ := hR.ok t1
  have hcp : c ≠ p := fun h => by rw [h, X1.obj] at qc1; simp at qc1
  have qc2 := f2 _ _ qc1 fun h => by
    rcases h with h | h | h
    · exact hcp h
    · exact no_at h
    · exact no_at h
  have E2 : Ext h g2 := Ext.step' E1 f2 fun y hy => X1.own hy
  have k0 := cc qc2
  simp (disch := omega) only [dm_t, wA, wB, wL, wW, wY, Int.fdiv_eq_ediv_of_nonneg, Int.tdiv_eq_ediv_of_nonneg, Int.tmod_eq_emod_of_nonneg, chk_pos, decT, decF, br_pos, br_neg, wX, ↓reduceIte, Nat.reduceEqDiff, Nat.reduceAdd, Nat.reduceSub, Nat.reduceMul, Nat.reduceLeDiff, Nat.reduceLT, Nat.reduceMod, Nat.reduceDiv, Int.reduceToNat, Nat.min_eq_left, IntKind.bits, Int.reducePow, Int.reduceLT, Int.reduceLE, Int.reduceEq, Int.reduceNe, Int.reduceAdd, Int.reduceSub, and_self, reduceCtorEq, decide_eq_true_eq, decide_eq_false_iff_not, eq_self, implies_true, exists_const, Option.isNone_some, Option.isNone_none, Option.isSome_some, Option.isSome_none, Option.getD_some, k0]
  refine (Call_ok (by unfold inI; decide) X2 E2 hkc limN).k ?_
  rintro _ g3 hR
  obtain ⟨rfl, ⟨ve3, vo3, X3⟩, f3⟩ := hR.ok t2
  have E3 : Ext h g3 := Ext.step' E2 f3 fun y hy => X2.own hy
  simp (disch := omega) only [dm_t, wA, wB, wL, wW, wY, Int.fdiv_eq_ediv_of_nonneg, Int.tdiv_eq_ediv_of_nonneg, Int.tmod_eq_emod_of_nonneg, chk_pos, decT, decF, br_pos, br_neg, wX, ↓reduceIte, Nat.reduceEqDiff, Nat.reduceAdd, Nat.reduceSub, Nat.reduceMul, Nat.reduceLeDiff, Nat.reduceLT, Nat.reduceMod, Nat.reduceDiv, Int.reduceToNat, Nat.min_eq_left, IntKind.bits, Int.reducePow, Int.reduceLT, Int.reduceLE, Int.reduceEq, Int.reduceNe, Int.reduceAdd, Int.reduceSub, and_self, reduceCtorEq, decide_eq_true_eq, decide_eq_false_iff_not, eq_self, implies_true, exists_const, Option.isNone_some, Option.isNone_none, Option.isSome_some, Option.isSome_none, Option.getD_some]
  refine (Return_ok inI0 X3 E3 hky limN).k ?_
  rintro _ g4 hR
  obtain ⟨rfl, ⟨ve4, vo4, X4⟩, f4⟩ := hR.ok t3
  have E4 : Ext h g4 := Ext.step' E3 f4 fun y hy => X3.own hy
  simp (disch := omega) only [dm_t, wA, wB, wL, wW, wY, Int.fdiv_eq_ediv_of_nonneg, Int.tdiv_eq_ediv_of_nonneg, Int.tmod_eq_emod_of_nonneg, chk_pos, decT, decF, br_pos, br_neg, wX, ↓reduceIte, Nat.reduceEqDiff, Nat.reduceAdd, Nat.reduceSub, Nat.reduceMul, Nat.reduceLeDiff, Nat.reduceLT, Nat.reduceMod, Nat.reduceDiv, Int.reduceToNat, Nat.min_eq_left, IntKind.bits, Int.reducePow, Int.reduceLT, Int.reduceLE, Int.reduceEq, Int.reduceNe, Int.reduceAdd, Int.reduceSub, and_self, reduceCtorEq, decide_eq_true_eq, decide_eq_false_iff_not, eq_self, implies_true, exists_const, Option.isNone_some, Option.isNone_none, Option.isSome_some, Option.isSome_none, Option.getD_some]
  refine (Return_ok inI0 X4 E4 hky limN).k ?_
  rintro _ g5 hR
  obtain ⟨rfl, ⟨ve5, vo5, X5⟩, f5⟩ := hR.no (by rw [show putS (putS (putS Hs.new (evCall 0 kc)) (evCall 1 kc)) (evRet 0 ky) = k3 from rfl, t4]; decide)
  rw [show putS (putS (putS Hs.new (evCall 0 kc)) (evCall 1 kc)) (evRet 0 ky) = k3 from rfl] at X5 ⊢
  rw [t4]
  have E5 : Ext h g5 := Ext.step' E4 f5 fun y hy => X4.own hy
  simp (disch := omega) only [dm_t, wA, wB, wL, wW, wY, Int.fdiv_eq_ediv_of_nonneg, Int.tdiv_eq_ediv_of_nonneg, Int.tmod_eq_emod_of_nonneg, chk_pos, decT, decF, br_pos, br_neg, wX, ↓reduceIte, Nat.reduceEqDiff, Nat.reduceAdd, Nat.reduceSub, Nat.reduceMul, Nat.reduceLeDiff, Nat.reduceLT, Nat.reduceMod, Nat.reduceDiv, Int.reduceToNat, Nat.min_eq_left, IntKind.bits, Int.reducePow, Int.reduceLT, Int.reduceLE, Int.reduceEq, Int.reduceNe, Int.reduceAdd, Int.reduceSub, and_self, reduceCtorEq, decide_eq_true_eq, decide_eq_false_iff_not, eq_self, implies_true, exists_const, Option.isNone_some, Option.isNone_none, Option.isSome_some, Option.isSome_none, Option.getD_some]
  have hl0 : ∀ x ∈ Hs.new.ops, limO x := by simp [Hs.new]
  have hl1 : ∀ x ∈ k1.ops, limO x := opsS_lim (s := Hs.new) (x := evCall 0 kc) hl0 ⟨limN, limN⟩
  have hl2 : ∀ x ∈ k2.ops, limO x := opsS_lim (s := k1) (x := evCall 1 kc) hl1 ⟨limN, limN⟩
  have hlim : ∀ x ∈ k3.ops, limO x := opsS_lim (s := k2) (x := evRet 0 ky) hl2 ⟨limN, limN⟩
  have h3l : k3.ops.length = 2 := by decide
  have h3e : k3.evs.length = 3 := by decide
  refine (Ops_ok X5 (by omega) hlim).k ?_
  rintro w g6 ⟨o6, e6⟩
  have r6 := o6.rep
  obtain ⟨wa, wn, rfl⟩ := r6.len
  obtain ⟨b1, o1, cs1, i1, c1, d1, r1⟩ := r6.load (i := 0) (by omega) .i64 11 rfl
  obtain ⟨b2, o2, cs2, i2, c2, d2, r2⟩ := r6.load (i := 1) (by omega) .i64 11 rfl
  obtain ⟨_, _, rfl, _⟩ := rep_op.1 r1
  obtain ⟨_, _, rfl, _⟩ := rep_op.1 r2
  rw [h3l] at i1 i2 ⊢
  have d1' : cellAt g6 ⟨b1, o1 + 10, none⟩ = some (.int .i64 2) := d1 10 (by omega)
  have d2' : cellAt g6 ⟨b2, o2 + 10, none⟩ = some (.int .i64 (-1)) := d2 10 (by omega)
  have i1' : idxV1 11 (.slice wa 2 wn) (.int .i64 0) = some (.pointer (some ⟨b1, o1, none⟩)) := i1
  have i2' : idxV1 11 (.slice wa 2 wn) (.int .i64 1) = some (.pointer (some ⟨b2, o2, none⟩)) := i2
  have h2c : ((2 : Nat) : Int) = 2 := rfl
  simp (disch := omega) only [dm_t, wA, wB, wL, wW, wY, Int.fdiv_eq_ediv_of_nonneg, Int.tdiv_eq_ediv_of_nonneg, Int.tmod_eq_emod_of_nonneg, chk_pos, decT, decF, br_pos, br_neg, wX, ↓reduceIte, Nat.reduceEqDiff, Nat.reduceAdd, Nat.reduceSub, Nat.reduceMul, Nat.reduceLeDiff, Nat.reduceLT, Nat.reduceMod, Nat.reduceDiv, Int.reduceToNat, Nat.min_eq_left, IntKind.bits, Int.reducePow, Int.reduceLT, Int.reduceLE, Int.reduceEq, Int.reduceNe, Int.reduceAdd, Int.reduceSub, and_self, reduceCtorEq, decide_eq_true_eq, decide_eq_false_iff_not, eq_self, implies_true, exists_const, Option.isNone_some, Option.isNone_none, Option.isSome_some, Option.isSome_none, Option.getD_some, i1', d1', i2', d2', h2c]
  refine (Len_ok (X5.ext e6)).k ?_
  rintro _ _ ⟨rfl, rfl⟩
  rw [h3e]
  have h3c : ((3 : Nat) : Int) = 3 := rfl
  simp (disch := omega) only [dm_t, wA, wB, wL, wW, wY, Int.fdiv_eq_ediv_of_nonneg, Int.tdiv_eq_ediv_of_nonneg, Int.tmod_eq_emod_of_nonneg, chk_pos, decT, decF, br_pos, br_neg, wX, ↓reduceIte, Nat.reduceEqDiff, Nat.reduceAdd, Nat.reduceSub, Nat.reduceMul, Nat.reduceLeDiff, Nat.reduceLT, Nat.reduceMod, Nat.reduceDiv, Int.reduceToNat, Nat.min_eq_left, IntKind.bits, Int.reducePow, Int.reduceLT, Int.reduceLE, Int.reduceEq, Int.reduceNe, Int.reduceAdd, Int.reduceSub, and_self, reduceCtorEq, decide_eq_true_eq, decide_eq_false_iff_not, eq_self, implies_true, exists_const, Option.isNone_some, Option.isNone_none, Option.isSome_some, Option.isSome_none, Option.getD_some, h3c]
  exact E5.trans e6
end Go.Proofs.Ytmolhemoiplpfaa.hi
