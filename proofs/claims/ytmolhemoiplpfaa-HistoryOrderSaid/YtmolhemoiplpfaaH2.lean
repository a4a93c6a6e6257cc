/-
  history: may an event stand next?
-/
import Derived.Test.YtmolhemoiplpfaaH1
namespace Go.Proofs.Ytmolhemoiplpfaa.hi
open Go.Proofs.Ytmolhemoiplpfaa
set_option linter.unusedVariables false
set_option linter.unusedSimpArgs false

/-! ### The plain side -/
def emptyC (c : callT.D) : Bool := decide (c.1 = 0) && (decide (c.2.1 = 0) && (decide (c.2.2.1.length = 0) && (decide (c.2.2.2.1 = 0) && decide (c.2.2.2.2 = 0))))
def unsaidR (r : replyT.D) : Bool := decide (r.1 = 0) && (decide (r.2.1 = 0) && decide (r.2.2.length = 0))
structure Hs where
  evs : List evT.D
  opn : List Bool
  ops : List opT.D
def Hs.new : Hs := ⟨[], List.replicate 64 false, []⟩
def badE (e : evT.D) : Prop := e.1 < 0 ∨ 64 ≤ e.1 ∨ (e.2.1 = true ∧ emptyC e.2.2.1 = false) ∨ (e.2.1 = false ∧ unsaidR e.2.2.2 = false)
instance (e : evT.D) : Decidable (badE e) := by unfold badE; exact inferInstance
def turnE (s : Hs) (e : evT.D) : Int :=
  if badE e then 2 else if 65536 ≤ s.evs.length then 3 else if s.opn.getD e.1.toNat false ≠ e.2.1 then 280 else 0
/-! ### The object -/
abbrev HO (opn : List Bool) (ve vo : Value) : List Value := ve :: (opn.map Value.bool ++ [vo, .bool true])
theorem HO_op {opn : List Bool} {ve vo : Value} (hl : opn.length = 64) {i : Nat} (hi : i < 64) : (HO opn ve vo).toArray[1 + i]? = some (.bool (opn.getD i false)) := by
  rw [List.getElem?_toArray, Nat.add_comm, HO, List.getElem?_cons_succ, List.getElem?_append_left (by simp [hl, hi]), List.getElem?_map]
  simp [hl, hi]
theorem HO_vo {opn : List Bool} {ve vo : Value} (hl : opn.length = 64) : (HO opn ve vo).toArray[65]? = some vo := by
  rw [List.getElem?_toArray, HO, List.getElem?_cons_succ, List.getElem?_append_right (by simp [hl])]
  simp [hl]
theorem HO_made {opn : List Bool} {ve vo : Value} (hl : opn.length = 64) : (HO opn ve vo).toArray[66]? = some (.bool true) := by
  rw [List.getElem?_toArray, HO, List.getElem?_cons_succ, List.getElem?_append_right (by simp [hl])]
  simp [hl]
theorem HO_ve {opn : List Bool} {ve vo : Value} : (HO opn ve vo).toArray[0]? = some ve := rfl
structure HZ (h0 g : H) (p : Nat) (ve vo : Value) (evs : List evT.D) (ops : List opT.D) : Prop where
  new : h0 p = none
  evs : OwL (fun y => y = p ∨ isAt vo y) evT (fun y => h0 y = none) g 41 ve evs
  ops : OwL (fun y => y = p ∨ isAt ve y) opT (fun y => h0 y = none) g 43 vo ops
structure HX (h0 g : H) (p : Nat) (ve vo : Value) (s : Hs) : Prop where
  obj : g p = some (.cells (HO s.opn ve vo).toArray 35)
  len : s.opn.length = 64
  le : s.ops.length ≤ s.evs.length
  z : HZ h0 g p ve vo s.evs s.ops
section
variable {h0 g g' : H} {p : Nat} {ve vo : Value} {s : Hs}
theorem HX.new (X : HX h0 g p ve vo s) : h0 p = none := X.z.new
theorem HX.evs (X : HX h0 g p ve vo s) : OwL (fun y => y = p ∨ isAt vo y) evT (fun y => h0 y = none) g 41 ve s.evs := X.z.evs
theorem HX.ops (X : HX h0 g p ve vo s) : OwL (fun y => y = p ∨ isAt ve y) opT (fun y => h0 y = none) g 43 vo s.ops := X.z.ops
theorem HX.ext (X : HX h0 g p ve vo s) (e : Ext g g') : HX h0 g' p ve vo s := ⟨e.at X.obj, X.len, X.le, X.new, X.evs.ext e, X.ops.ext e⟩
theorem HX.c0 (X : HX h0 g p ve vo s) : cellAt g ⟨p, 0, none⟩ = some ve := by rw [cellAt_of X.obj, HO_ve]
theorem HX.c65 (X : HX h0 g p ve vo s) : cellAt g ⟨p, 65, none⟩ = some vo := by rw [cellAt_of X.obj, HO_vo X.len]
theorem HX.c66 (X : HX h0 g p ve vo s) : cellAt g ⟨p, 66, none⟩ = some (.bool true) := by rw [cellAt_of X.obj, HO_made X.len]
theorem HX.ci (X : HX h0 g p ve vo s) {i : Nat} (hi : i < 64) : cellAt g ⟨p, 1 + i, none⟩ = some (.bool (s.opn.getD i false)) := by rw [cellAt_of X.obj, HO_op X.len hi]
end
theorem none_ok {h0 g : H} {p : Nat} {ve vo : Value} {s : Hs} (X : HX h0 g p ve vo s) : Ok Try.prog 30 #[.pointer (some ⟨p, 0, none⟩)] g fun v h' => v = .bool false ∧ g = h' := by
  refine c30_ok (args := [_]) (by simp) ?_
  simp (disch := omega) only [dm_t, wA, wB, wL, wW, wY, Int.fdiv_eq_ediv_of_nonneg, Int.tdiv_eq_ediv_of_nonneg, Int.tmod_eq_emod_of_nonneg, chk_pos, decT, decF, br_pos, br_neg, wX, ↓reduceIte, Nat.reduceEqDiff, Nat.reduceAdd, Nat.reduceSub, Nat.reduceMul, Nat.reduceLeDiff, Nat.reduceLT, Nat.reduceMod, Nat.reduceDiv, Int.reduceToNat, Nat.min_eq_left, IntKind.bits, Int.reducePow, Int.reduceLT, Int.reduceLE, Int.reduceEq, Int.reduceNe, Int.reduceAdd, Int.reduceSub, and_self, reduceCtorEq, decide_eq_true_eq, decide_eq_false_iff_not, eq_self, implies_true, exists_const, Option.isNone_some, Option.isNone_none, Option.isSome_some, Option.isSome_none, Option.getD_some, X.c66]
theorem none_nil (g : H) : Ok Try.prog 30 #[.pointer none] g fun v h' => v = .bool true ∧ g = h' := by
  refine c30_ok (args := [_]) (by simp) ?_
  simp (disch := omega) only [dm_t, wA, wB, wL, wW, wY, Int.fdiv_eq_ediv_of_nonneg, Int.tdiv_eq_ediv_of_nonneg, Int.tmod_eq_emod_of_nonneg, chk_pos, decT, decF, br_pos, br_neg, wX, ↓reduceIte, Nat.reduceEqDiff, Nat.reduceAdd, Nat.reduceSub, Nat.reduceMul, Nat.reduceLeDiff, Nat.reduceLT, Nat.reduceMod, Nat.reduceDiv, Int.reduceToNat, Nat.min_eq_left, IntKind.bits, Int.reducePow, Int.reduceLT, Int.reduceLE, Int.reduceEq, Int.reduceNe, Int.reduceAdd, Int.reduceSub, and_self, reduceCtorEq, decide_eq_true_eq, decide_eq_false_iff_not, eq_self, implies_true, exists_const, Option.isNone_some, Option.isNone_none, Option.isSome_some, Option.isSome_none, Option.getD_some]
theorem none_zero {g : H} {p : Nat} (hp : cellAt g ⟨p, 66, none⟩ = some (.bool false)) : Ok Try.prog 30 #[.pointer (some ⟨p, 0, none⟩)] g fun v h' => v = .bool true ∧ g = h' := by
  refine c30_ok (args := [_]) (by simp) ?_
  simp (disch := omega) only [dm_t, wA, wB, wL, wW, wY, Int.fdiv_eq_ediv_of_nonneg, Int.tdiv_eq_ediv_of_nonneg, Int.tmod_eq_emod_of_nonneg, chk_pos, decT, decF, br_pos, br_neg, wX, ↓reduceIte, Nat.reduceEqDiff, Nat.reduceAdd, Nat.reduceSub, Nat.reduceMul, Nat.reduceLeDiff, Nat.reduceLT, Nat.reduceMod, Nat.reduceDiv, Int.reduceToNat, Nat.min_eq_left, IntKind.bits, Int.reducePow, Int.reduceLT, Int.reduceLE, Int.reduceEq, Int.reduceNe, Int.reduceAdd, Int.reduceSub, and_self, reduceCtorEq, decide_eq_true_eq, decide_eq_false_iff_not, eq_self, implies_true, exists_const, Option.isNone_some, Option.isNone_none, Option.isSome_some, Option.isSome_none, Option.getD_some, hp]
theorem empty_ok {S : Nat → Prop} {h : H} {cs : List Value} {x : callT.D} (hx : Rep S callT h cs x) : Ok Try.prog 46 #[.agg cs.toArray] h fun v h' => v = .bool (emptyC x) ∧ Ext h h' := by
  obtain ⟨r, rfl, hb, hr⟩ := rep_call.1 hx
  obtain ⟨ra, rn, rfl⟩ := hr.len
  refine c46_ok (args := [_]) (by simp) ?_
  simp (disch := omega) only [dm_t, wA, wB, wL, wW, wY, Int.fdiv_eq_ediv_of_nonneg, Int.tdiv_eq_ediv_of_nonneg, Int.tmod_eq_emod_of_nonneg, chk_pos, decT, decF, br_pos, br_neg, wX, ↓reduceIte, Nat.reduceEqDiff, Nat.reduceAdd, Nat.reduceSub, Nat.reduceMul, Nat.reduceLeDiff, Nat.reduceLT, Nat.reduceMod, Nat.reduceDiv, Int.reduceToNat, Nat.min_eq_left, IntKind.bits, Int.reducePow, Int.reduceLT, Int.reduceLE, Int.reduceEq, Int.reduceNe, Int.reduceAdd, Int.reduceSub, and_self, reduceCtorEq, decide_eq_true_eq, decide_eq_false_iff_not, eq_self, implies_true, exists_const, Option.isNone_some, Option.isNone_none, Option.isSome_some, Option.isSome_none, Option.getD_some]
  intro b hb'
  have e := Ext.new hb' (.cells (cCs x (.slice ra x.2.2.1.length rn)).toArray 25)
  generalize hG : hupd h b _ = g at e ⊢
  have qb : g b = some (.cells (cCs x (.slice ra x.2.2.1.length rn)).toArray 25) := by rw [← hG, hupd_same]
  clear hG
  have a0 : cellAt g ⟨b, 0, none⟩ = some (.int .i64 x.1) := by rw [cellAt_of qb]; rfl
  have a1 : cellAt g ⟨b, 1, none⟩ = some (.int .i64 x.2.1) := by rw [cellAt_of qb]; rfl
  have a2 : cellAt g ⟨b, 2, none⟩ = some (.slice ra x.2.2.1.length rn) := by rw [cellAt_of qb]; rfl
  have a3 : cellAt g ⟨b, 3, none⟩ = some (.int .i64 x.2.2.2.1) := by rw [cellAt_of qb]; rfl
  have a4 : cellAt g ⟨b, 4, none⟩ = some (.int .i64 x.2.2.2.2) := by rw [cellAt_of qb]; rfl
  by_cases k0 : x.1 = 0
  · by_cases k1 : x.2.1 = 0
    · by_cases k2 : x.2.2.1.length = 0
      · by_cases k3 : x.2.2.2.1 = 0
        · by_cases k4 : x.2.2.2.2 = 0
          · simp (disch := omega) only [dm_t, wA, wB, wL, wW, wY, Int.fdiv_eq_ediv_of_nonneg, Int.tdiv_eq_ediv_of_nonneg, Int.tmod_eq_emod_of_nonneg, chk_pos, decT, decF, br_pos, br_neg, wX, ↓reduceIte, Nat.reduceEqDiff, Nat.reduceAdd, Nat.reduceSub, Nat.reduceMul, Nat.reduceLeDiff, Nat.reduceLT, Nat.reduceMod, Nat.reduceDiv, Int.reduceToNat, Nat.min_eq_left, IntKind.bits, Int.reducePow, Int.reduceLT, Int.reduceLE, Int.reduceEq, Int.reduceNe, Int.reduceAdd, Int.reduceSub, and_self, reduceCtorEq, decide_eq_true_eq, decide_eq_false_iff_not, eq_self, implies_true, exists_const, Option.isNone_some, Option.isNone_none, Option.isSome_some, Option.isSome_none, Option.getD_some, a0, a1, a2, a3, a4]
            exact ⟨by simp [emptyC, k0, k1, k2, k3, k4], e⟩
          · simp (disch := omega) only [dm_t, wA, wB, wL, wW, wY, Int.fdiv_eq_ediv_of_nonneg, Int.tdiv_eq_ediv_of_nonneg, Int.tmod_eq_emod_of_nonneg, chk_pos, decT, decF, br_pos, br_neg, wX, ↓reduceIte, Nat.reduceEqDiff, Nat.reduceAdd, Nat.reduceSub, Nat.reduceMul, Nat.reduceLeDiff, Nat.reduceLT, Nat.reduceMod, Nat.reduceDiv, Int.reduceToNat, Nat.min_eq_left, IntKind.bits, Int.reducePow, Int.reduceLT, Int.reduceLE, Int.reduceEq, Int.reduceNe, Int.reduceAdd, Int.reduceSub, and_self, reduceCtorEq, decide_eq_true_eq, decide_eq_false_iff_not, eq_self, implies_true, exists_const, Option.isNone_some, Option.isNone_none, Option.isSome_some, Option.isSome_none, Option.getD_some, a0, a1, a2, a3, a4]
            exact ⟨by simp [emptyC, k0, k1, k2, k3, k4], e⟩
        · simp (disch := omega) only [dm_t, wA, wB, wL, wW, wY, Int.fdiv_eq_ediv_of_nonneg, Int.tdiv_eq_ediv_of_nonneg, Int.tmod_eq_emod_of_nonneg, chk_pos, decT, decF, br_pos, br_neg, wX, ↓reduceIte, Nat.reduceEqDiff, Nat.reduceAdd, Nat.reduceSub, Nat.reduceMul, Nat.reduceLeDiff, Nat.reduceLT, Nat.reduceMod, Nat.reduceDiv, Int.reduceToNat, Nat.min_eq_left, IntKind.bits, Int.reducePow, Int.reduceLT, Int.reduceLE, Int.reduceEq, Int.reduceNe, Int.reduceAdd, Int.reduceSub, and_self, reduceCtorEq, decide_eq_true_eq, decide_eq_false_iff_not, eq_self, implies_true, exists_const, Option.isNone_some, Option.isNone_none, Option.isSome_some, Option.isSome_none, Option.getD_some, a0, a1, a2, a3, a4]
          exact ⟨by simp [emptyC, k0, k1, k2, k3], e⟩
      · simp (disch := omega) only [dm_t, wA, wB, wL, wW, wY, Int.fdiv_eq_ediv_of_nonneg, Int.tdiv_eq_ediv_of_nonneg, Int.tmod_eq_emod_of_nonneg, chk_pos, decT, decF, br_pos, br_neg, wX, ↓reduceIte, Nat.reduceEqDiff, Nat.reduceAdd, Nat.reduceSub, Nat.reduceMul, Nat.reduceLeDiff, Nat.reduceLT, Nat.reduceMod, Nat.reduceDiv, Int.reduceToNat, Nat.min_eq_left, IntKind.bits, Int.reducePow, Int.reduceLT, Int.reduceLE, Int.reduceEq, Int.reduceNe, Int.reduceAdd, Int.reduceSub, and_self, reduceCtorEq, decide_eq_true_eq, decide_eq_false_iff_not, eq_self, implies_true, exists_const, Option.isNone_some, Option.isNone_none, Option.isSome_some, Option.isSome_none, Option.getD_some, a0, a1, a2, a3, a4]
        exact ⟨by simp only [emptyC, k0, k1, k2, decide_true, decide_false, Bool.true_and, Bool.false_and], e⟩
    · simp (disch := omega) only [dm_t, wA, wB, wL, wW, wY, Int.fdiv_eq_ediv_of_nonneg, Int.tdiv_eq_ediv_of_nonneg, Int.tmod_eq_emod_of_nonneg, chk_pos, decT, decF, br_pos, br_neg, wX, ↓reduceIte, Nat.reduceEqDiff, Nat.reduceAdd, Nat.reduceSub, Nat.reduceMul, Nat.reduceLeDiff, Nat.reduceLT, Nat.reduceMod, Nat.reduceDiv, Int.reduceToNat, Nat.min_eq_left, IntKind.bits, Int.reducePow, Int.reduceLT, Int.reduceLE, Int.reduceEq, Int.reduceNe, Int.reduceAdd, Int.reduceSub, and_self, reduceCtorEq, decide_eq_true_eq, decide_eq_false_iff_not, eq_self, implies_true, exists_const, Option.isNone_some, Option.isNone_none, Option.isSome_some, Option.isSome_none, Option.getD_some, a0, a1, a2, a3, a4]
      exact ⟨by simp [emptyC, k0, k1], e⟩
  · simp (disch := omega) only [dm_t, wA, wB, wL, wW, wY, Int.fdiv_eq_ediv_of_nonneg, Int.tdiv_eq_ediv_of_nonneg, Int.tmod_eq_emod_of_nonneg, chk_pos, decT, decF, br_pos, br_neg, wX, ↓reduceIte, Nat.reduceEqDiff, Nat.reduceAdd, Nat.reduceSub, Nat.reduceMul, Nat.reduceLeDiff, Nat.reduceLT, Nat.reduceMod, Nat.reduceDiv, Int.reduceToNat, Nat.min_eq_left, IntKind.bits, Int.reducePow, Int.reduceLT, Int.reduceLE, Int.reduceEq, Int.reduceNe, Int.reduceAdd, Int.reduceSub, and_self, reduceCtorEq, decide_eq_true_eq, decide_eq_false_iff_not, eq_self, implies_true, exists_const, Option.isNone_some, Option.isNone_none, Option.isSome_some, Option.isSome_none, Option.getD_some, a0, a1, a2, a3, a4]
    exact ⟨by simp [emptyC, k0], e⟩
theorem unsaid_ok {S : Nat → Prop} {h : H} {cs : List Value} {x : replyT.D} (hx : Rep S replyT h cs x) : Ok Try.prog 33 #[.agg cs.toArray] h fun v h' => v = .bool (unsaidR x) ∧ Ext h h' := by
  obtain ⟨r, rfl, hb, hr⟩ := rep_reply.1 hx
  obtain ⟨ra, rn, rfl⟩ := hr.len
  refine c33_ok (args := [_]) (by simp) ?_
  simp (disch := omega) only [dm_t, wA, wB, wL, wW, wY, Int.fdiv_eq_ediv_of_nonneg, Int.tdiv_eq_ediv_of_nonneg, Int.tmod_eq_emod_of_nonneg, chk_pos, decT, decF, br_pos, br_neg, wX, ↓reduceIte, Nat.reduceEqDiff, Nat.reduceAdd, Nat.reduceSub, Nat.reduceMul, Nat.reduceLeDiff, Nat.reduceLT, Nat.reduceMod, Nat.reduceDiv, Int.reduceToNat, Nat.min_eq_left, IntKind.bits, Int.reducePow, Int.reduceLT, Int.reduceLE, Int.reduceEq, Int.reduceNe, Int.reduceAdd, Int.reduceSub, and_self, reduceCtorEq, decide_eq_true_eq, decide_eq_false_iff_not, eq_self, implies_true, exists_const, Option.isNone_some, Option.isNone_none, Option.isSome_some, Option.isSome_none, Option.getD_some]
  intro b hb'
  have e := Ext.new hb' (.cells (yCs x (.slice ra x.2.2.length rn)).toArray 28)
  generalize hG : hupd h b _ = g at e ⊢
  have qb : g b = some (.cells (yCs x (.slice ra x.2.2.length rn)).toArray 28) := by rw [← hG, hupd_same]
  clear hG
  have a0 : cellAt g ⟨b, 0, none⟩ = some (.int .i64 x.1) := by rw [cellAt_of qb]; rfl
  have a1 : cellAt g ⟨b, 1, none⟩ = some (.int .i64 x.2.1) := by rw [cellAt_of qb]; rfl
  have a2 : cellAt g ⟨b, 2, none⟩ = some (.slice ra x.2.2.length rn) := by rw [cellAt_of qb]; rfl
  by_cases k0 : x.1 = 0
  · by_cases k1 : x.2.1 = 0
    · by_cases k2 : x.2.2.length = 0
      · simp (disch := omega) only [dm_t, wA, wB, wL, wW, wY, Int.fdiv_eq_ediv_of_nonneg, Int.tdiv_eq_ediv_of_nonneg, Int.tmod_eq_emod_of_nonneg, chk_pos, decT, decF, br_pos, br_neg, wX, ↓reduceIte, Nat.reduceEqDiff, Nat.reduceAdd, Nat.reduceSub, Nat.reduceMul, Nat.reduceLeDiff, Nat.reduceLT, Nat.reduceMod, Nat.reduceDiv, Int.reduceToNat, Nat.min_eq_left, IntKind.bits, Int.reducePow, Int.reduceLT, Int.reduceLE, Int.reduceEq, Int.reduceNe, Int.reduceAdd, Int.reduceSub, and_self, reduceCtorEq, decide_eq_true_eq, decide_eq_false_iff_not, eq_self, implies_true, exists_const, Option.isNone_some, Option.isNone_none, Option.isSome_some, Option.isSome_none, Option.getD_some, a0, a1, a2]
        exact ⟨by simp only [unsaidR, k0, k1, k2, decide_true, Bool.true_and], e⟩
      · simp (disch := omega) only [dm_t, wA, wB, wL, wW, wY, Int.fdiv_eq_ediv_of_nonneg, Int.tdiv_eq_ediv_of_nonneg, Int.tmod_eq_emod_of_nonneg, chk_pos, decT, decF, br_pos, br_neg, wX, ↓reduceIte, Nat.reduceEqDiff, Nat.reduceAdd, Nat.reduceSub, Nat.reduceMul, Nat.reduceLeDiff, Nat.reduceLT, Nat.reduceMod, Nat.reduceDiv, Int.reduceToNat, Nat.min_eq_left, IntKind.bits, Int.reducePow, Int.reduceLT, Int.reduceLE, Int.reduceEq, Int.reduceNe, Int.reduceAdd, Int.reduceSub, and_self, reduceCtorEq, decide_eq_true_eq, decide_eq_false_iff_not, eq_self, implies_true, exists_const, Option.isNone_some, Option.isNone_none, Option.isSome_some, Option.isSome_none, Option.getD_some, a0, a1, a2]
        exact ⟨by simp only [unsaidR, k0, k1, k2, decide_true, decide_false, Bool.true_and, Bool.false_and], e⟩
    · simp (disch := omega) only [dm_t, wA, wB, wL, wW, wY, Int.fdiv_eq_ediv_of_nonneg, Int.tdiv_eq_ediv_of_nonneg, Int.tmod_eq_emod_of_nonneg, chk_pos, decT, decF, br_pos, br_neg, wX, ↓reduceIte, Nat.reduceEqDiff, Nat.reduceAdd, Nat.reduceSub, Nat.reduceMul, Nat.reduceLeDiff, Nat.reduceLT, Nat.reduceMod, Nat.reduceDiv, Int.reduceToNat, Nat.min_eq_left, IntKind.bits, Int.reducePow, Int.reduceLT, Int.reduceLE, Int.reduceEq, Int.reduceNe, Int.reduceAdd, Int.reduceSub, and_self, reduceCtorEq, decide_eq_true_eq, decide_eq_false_iff_not, eq_self, implies_true, exists_const, Option.isNone_some, Option.isNone_none, Option.isSome_some, Option.isSome_none, Option.getD_some, a0, a1, a2]
      exact ⟨by simp [unsaidR, k0, k1], e⟩
  · simp (disch := omega) only [dm_t, wA, wB, wL, wW, wY, Int.fdiv_eq_ediv_of_nonneg, Int.tdiv_eq_ediv_of_nonneg, Int.tmod_eq_emod_of_nonneg, chk_pos, decT, decF, br_pos, br_neg, wX, ↓reduceIte, Nat.reduceEqDiff, Nat.reduceAdd, Nat.reduceSub, Nat.reduceMul, Nat.reduceLeDiff, Nat.reduceLT, Nat.reduceMod, Nat.reduceDiv, Int.reduceToNat, Nat.min_eq_left, IntKind.bits, Int.reducePow, Int.reduceLT, Int.reduceLE, Int.reduceEq, Int.reduceNe, Int.reduceAdd, Int.reduceSub, and_self, reduceCtorEq, decide_eq_true_eq, decide_eq_false_iff_not, eq_self, implies_true, exists_const, Option.isNone_some, Option.isNone_none, Option.isSome_some, Option.isSome_none, Option.getD_some, a0, a1, a2]
    exact ⟨by simp [unsaidR, k0], e⟩
end Go.Proofs.Ytmolhemoiplpfaa.hi
