/-
  model: the document's model: replies compared, New, Copy.
-/
import Derived.Test.YtpgkkpjdajkobaaMl
import Derived.Test.YtpgkkpjdajkobaaUa
namespace Go.Proofs.Ytpgkkpjdajkobaa.mo
open Go.Proofs.Ytpgkkpjdajkobaa rr
set_option linter.unusedVariables false
set_option linter.unusedSimpArgs false
theorem SameReply_ok {S T : Nat → Prop} {g : H} {cs ds : List Value} {y z : replyT.D} (hy : Rep S replyT g cs y) (hz : Rep T replyT g ds z) (hl : y.2.2.length ≤ 4611686018427387904) :
    Ok Try.prog 23 #[.agg cs.toArray, .agg ds.toArray] g fun v h' => v = .bool (decide (y = z)) ∧ Ext g h' := by
  obtain ⟨r, rfl, hb, hr⟩ := rep_reply.1 hy
  obtain ⟨s, rfl, hb2, hs⟩ := rep_reply.1 hz
  refine c23_ok (args := [_, _]) (by simp) ?_
  simp (disch := omega) only [dm_t, wA, wB, wL, wW, wY, Int.fdiv_eq_ediv_of_nonneg, Int.tdiv_eq_ediv_of_nonneg, Int.tmod_eq_emod_of_nonneg, chk_pos, decT, decF, br_pos, br_neg, wX, ↓reduceIte, Nat.reduceEqDiff, Nat.reduceAdd, Nat.reduceSub, Nat.reduceMul, Nat.reduceLeDiff, Nat.reduceLT, Nat.reduceMod, Nat.reduceDiv, Int.reduceToNat, Nat.min_eq_left, IntKind.bits, Int.reducePow, Int.reduceLT, Int.reduceLE, Int.reduceEq, Int.reduceNe, Int.reduceAdd, Int.reduceSub, and_self, reduceCtorEq, decide_eq_true_eq, decide_eq_false_iff_not, eq_self, implies_true, exists_const, Option.isNone_some, Option.isNone_none, Option.isSome_some, Option.isSome_none, Option.getD_some]
  intro b hbn d hd
  generalize hG : hupd g b _ = g1 at hd ⊢
  obtain ⟨e1, qb⟩ := new_ext hG hbn
  clear hG
  generalize hG : hupd g1 d _ = g2
  obtain ⟨e2, qd⟩ := new_ext hG hd
  clear hG
  have E2 := e1.trans e2
  replace qb := e2.at qb
  have b2 : cellAt g2 ⟨b, 2, none⟩ = some r := by rw [cellAt_of qb]; rfl
  have d2 : cellAt g2 ⟨d, 2, none⟩ = some s := by rw [cellAt_of qd]; rfl
  simp (disch := omega) only [dm_t, wA, wB, wL, wW, wY, Int.fdiv_eq_ediv_of_nonneg, Int.tdiv_eq_ediv_of_nonneg, Int.tmod_eq_emod_of_nonneg, chk_pos, decT, decF, br_pos, br_neg, wX, ↓reduceIte, Nat.reduceEqDiff, Nat.reduceAdd, Nat.reduceSub, Nat.reduceMul, Nat.reduceLeDiff, Nat.reduceLT, Nat.reduceMod, Nat.reduceDiv, Int.reduceToNat, Nat.min_eq_left, IntKind.bits, Int.reducePow, Int.reduceLT, Int.reduceLE, Int.reduceEq, Int.reduceNe, Int.reduceAdd, Int.reduceSub, and_self, reduceCtorEq, decide_eq_true_eq, decide_eq_false_iff_not, eq_self, implies_true, exists_const, Option.isNone_some, Option.isNone_none, Option.isSome_some, Option.isSome_none, Option.getD_some, b2, d2]
  refine (DSameAll_ok (hr.ext E2) (hs.ext E2) hl).k ?_
  rintro _ g3 ⟨rfl, e3⟩
  replace qb := e3.at qb
  replace qd := e3.at qd
  have E3 := E2.trans e3
  have b0 : cellAt g3 ⟨b, 0, none⟩ = some (.int .i64 y.1) := by rw [cellAt_of qb]; rfl
  have b1 : cellAt g3 ⟨b, 1, none⟩ = some (.int .i64 y.2.1) := by rw [cellAt_of qb]; rfl
  have d0 : cellAt g3 ⟨d, 0, none⟩ = some (.int .i64 z.1) := by rw [cellAt_of qd]; rfl
  have d1 : cellAt g3 ⟨d, 1, none⟩ = some (.int .i64 z.2.1) := by rw [cellAt_of qd]; rfl
  have no : ¬ y = z → Value.bool false = .bool (decide (y = z)) := fun h => by simp [h]
  by_cases h3 : y.2.2 = z.2.2
  · by_cases h1 : @Eq Int y.1 z.1
    · by_cases h2 : @Eq Int y.2.1 z.2.1
      · have hyz : y = z := reply_ext h1 h2 h3
        rw [← h1] at d0
        rw [← h2] at d1
        simp (disch := omega) only [dm_t, wA, wB, wL, wW, wY, Int.fdiv_eq_ediv_of_nonneg, Int.tdiv_eq_ediv_of_nonneg, Int.tmod_eq_emod_of_nonneg, chk_pos, decT, decF, br_pos, br_neg, wX, ↓reduceIte, Nat.reduceEqDiff, Nat.reduceAdd, Nat.reduceSub, Nat.reduceMul, Nat.reduceLeDiff, Nat.reduceLT, Nat.reduceMod, Nat.reduceDiv, Int.reduceToNat, Nat.min_eq_left, IntKind.bits, Int.reducePow, Int.reduceLT, Int.reduceLE, Int.reduceEq, Int.reduceNe, Int.reduceAdd, Int.reduceSub, and_self, reduceCtorEq, decide_eq_true_eq, decide_eq_false_iff_not, eq_self, implies_true, exists_const, Option.isNone_some, Option.isNone_none, Option.isSome_some, Option.isSome_none, Option.getD_some, b0, b1, d0, d1, h3]
        first | exact E3 | exact ⟨by simp [hyz], E3⟩
      · rw [← h1] at d0
        simp (disch := omega) only [dm_t, wA, wB, wL, wW, wY, Int.fdiv_eq_ediv_of_nonneg, Int.tdiv_eq_ediv_of_nonneg, Int.tmod_eq_emod_of_nonneg, chk_pos, decT, decF, br_pos, br_neg, wX, ↓reduceIte, Nat.reduceEqDiff, Nat.reduceAdd, Nat.reduceSub, Nat.reduceMul, Nat.reduceLeDiff, Nat.reduceLT, Nat.reduceMod, Nat.reduceDiv, Int.reduceToNat, Nat.min_eq_left, IntKind.bits, Int.reducePow, Int.reduceLT, Int.reduceLE, Int.reduceEq, Int.reduceNe, Int.reduceAdd, Int.reduceSub, and_self, reduceCtorEq, decide_eq_true_eq, decide_eq_false_iff_not, eq_self, implies_true, exists_const, Option.isNone_some, Option.isNone_none, Option.isSome_some, Option.isSome_none, Option.getD_some, b0, b1, d0, d1, h3]
        have hne : ¬ y = z := fun h => h2 (by rw [h])
        exact ⟨by simp [hne, h2], E3⟩
    · simp (disch := omega) only [dm_t, wA, wB, wL, wW, wY, Int.fdiv_eq_ediv_of_nonneg, Int.tdiv_eq_ediv_of_nonneg, Int.tmod_eq_emod_of_nonneg, chk_pos, decT, decF, br_pos, br_neg, wX, ↓reduceIte, Nat.reduceEqDiff, Nat.reduceAdd, Nat.reduceSub, Nat.reduceMul, Nat.reduceLeDiff, Nat.reduceLT, Nat.reduceMod, Nat.reduceDiv, Int.reduceToNat, Nat.min_eq_left, IntKind.bits, Int.reducePow, Int.reduceLT, Int.reduceLE, Int.reduceEq, Int.reduceNe, Int.reduceAdd, Int.reduceSub, and_self, reduceCtorEq, decide_eq_true_eq, decide_eq_false_iff_not, eq_self, implies_true, exists_const, Option.isNone_some, Option.isNone_none, Option.isSome_some, Option.isSome_none, Option.getD_some, b0, b1, d0, d1, h3]
      exact ⟨no fun h => h1 (by rw [h]), E3⟩
  · simp (disch := omega) only [dm_t, wA, wB, wL, wW, wY, Int.fdiv_eq_ediv_of_nonneg, Int.tdiv_eq_ediv_of_nonneg, Int.tmod_eq_emod_of_nonneg, chk_pos, decT, decF, br_pos, br_neg, wX, ↓reduceIte, Nat.reduceEqDiff, Nat.reduceAdd, Nat.reduceSub, Nat.reduceMul, Nat.reduceLeDiff, Nat.reduceLT, Nat.reduceMod, Nat.reduceDiv, Int.reduceToNat, Nat.min_eq_left, IntKind.bits, Int.reducePow, Int.reduceLT, Int.reduceLE, Int.reduceEq, Int.reduceNe, Int.reduceAdd, Int.reduceSub, and_self, reduceCtorEq, decide_eq_true_eq, decide_eq_false_iff_not, eq_self, implies_true, exists_const, Option.isNone_some, Option.isNone_none, Option.isSome_some, Option.isSome_none, Option.getD_some, b0, b1, d0, d1, h3]
    exact ⟨no fun h => h3 (by rw [h]), E3⟩
/-- The document's model; S: blocks that may be written, its lists are none of them. -/
structure RY (S : Nat → Prop) (g : H) (p : Nat) (pv : Value) (vs : List Value) (ps : List (List rc.D)) : Prop where
  obj : g p = some (.cells #[pv] 59)
  len : vs.length = ps.length
  par : S1 S g pv vs
  lst : ∀ (i : Nat) v l, vs[i]? = some v → ps[i]? = some l → RepL S rc g v l
section
variable {S T : Nat → Prop} {g g' : H} {p : Nat} {pv : Value} {vs : List Value} {ps : List (List rc.D)}
theorem RY.fr (X : RY S g p pv vs ps) (f : Fr T g g') (hT : ∀ y, T y → S y) (hp : ¬ T p) : RY S g' p pv vs ps :=
  ⟨f _ _ X.obj hp, X.len, SlK.fr X.par f hT, fun i v l hv hl => (X.lst i v l hv hl).fr f hT⟩
theorem RY.ext (X : RY S g p pv vs ps) (e : Ext g g') : RY S g' p pv vs ps := X.fr e (fun _ h => h.elim) fun h => h
theorem RY.mono (X : RY S g p pv vs ps) (hS : ∀ x o, g x = some o → T x → S x) : RY T g p pv vs ps :=
  ⟨X.obj, X.len, SlK.mono X.par hS, fun i v l hv hl => (X.lst i v l hv hl).mono hS⟩
/-- What is not there may be written too. -/
theorem RY.avoid (X : RY S g p pv vs ps) (hS : ∀ y, T y → S y ∨ g y = none) : RY T g p pv vs ps :=
  X.mono fun x o hx hT => (hS x hT).elim id fun hn => by rw [hn] at hx; cases hx
theorem RY.cell (X : RY S g p pv vs ps) : cellAt g ⟨p, 0, none⟩ = some pv := by rw [cellAt_of X.obj]; rfl
theorem RY.at (X : RY S g p pv vs ps) {i : Nat} (hi : i < ps.length) : RepL S rc g (vs[i]'(by rw [X.len]; exact hi)) ps[i] :=
  X.lst i _ _ (List.getElem?_eq_getElem _) (List.getElem?_eq_getElem hi)
theorem RY.slen (X : RY S g p pv vs ps) : ∃ a c, pv = .slice a ps.length c := by
  obtain ⟨a, c, h⟩ := S1.len X.par
  exact ⟨a, c, by rw [h, X.len]⟩
/-- The list at a place: its header's cell. -/
theorem RY.row (X : RY S g p pv vs ps) {i : Nat} (hi : i < ps.length) (kk : IntKind) : ∃ b o a c, idxV1 1 pv (.int kk (i : Int)) = some (.pointer (some ⟨b, o, none⟩)) ∧ cellAt g ⟨b, o, none⟩ = some (.slice a ps[i].length c) ∧ vs[i]? = some (.slice a ps[i].length c) ∧ RepL S rc g (.slice a ps[i].length c) ps[i] := by
  have hv : i < vs.length := by rw [X.len]; exact hi
  obtain ⟨b, o, h1, h2⟩ := S1.load X.par hv kk
  have h3 := X.at hi
  obtain ⟨a, c, h4⟩ := h3.len
  rw [h4] at h2 h3
  exact ⟨b, o, a, c, h1, h2, by rw [List.getElem?_eq_getElem hv, h4], h3⟩
theorem RY.all (X : RY S g p pv vs ps) : vs.all isCell = true := List.all_eq_true.2 fun v hv => by
  obtain ⟨i, hi, rfl⟩ := List.getElem_of_mem hv
  obtain ⟨a, n, h⟩ := (X.lst i _ _ (List.getElem?_eq_getElem hi) (List.getElem?_eq_getElem (show i < ps.length by rw [← X.len]; exact hi))).len
  rw [h]; rfl
theorem RNew_ok {g : H} {n : Nat} (h1 : 1 ≤ n) (h2 : n ≤ 16) : Ok Try.prog 17 #[.int .i64 (n : Int)] g fun v h' => ∃ p pv vs, v = .pointer (some ⟨p, 0, none⟩) ∧ g p = none ∧ RY (fun y => g y ≠ none ∨ y = p) h' p pv vs (List.replicate n []) ∧ Ext g h' := by
  refine c17_ok (args := [_]) (by simp) ?_
  simp (disch := omega) only [dm_t, wA, wB, wL, wW, wY, Int.fdiv_eq_ediv_of_nonneg, Int.tdiv_eq_ediv_of_nonneg, Int.tmod_eq_emod_of_nonneg, chk_pos, decT, decF, br_pos, br_neg, wX, ↓reduceIte, Nat.reduceEqDiff, Nat.reduceAdd, Nat.reduceSub, Nat.reduceMul, Nat.reduceLeDiff, Nat.reduceLT, Nat.reduceMod, Nat.reduceDiv, Int.reduceToNat, Nat.min_eq_left, IntKind.bits, Int.reducePow, Int.reduceLT, Int.reduceLE, Int.reduceEq, Int.reduceNe, Int.reduceAdd, Int.reduceSub, and_self, reduceCtorEq, decide_eq_true_eq, decide_eq_false_iff_not, eq_self, implies_true, exists_const, Option.isNone_some, Option.isNone_none, Option.isSome_some, Option.isSome_none, Option.getD_some]
  refine ⟨by omega, ?_⟩
  intro b hb q hq
  have e1 : Ext g _ := Ext.new hb (.cells (Builtin.zeroCells #[Value.slice none 0 0] n) 24)
  have e2 := e1.trans (Ext.new hq (.cells #[.slice (some ⟨b, 0, none⟩) n n] 59))
  have hbq : b ≠ q := fun h => by subst h; rw [hupd_same] at hq; cases hq
  have hpar := (omake1 (O := fun y => g y = none ∧ y ≠ q) (h := g) (E := 24) (z := .slice none 0 0) (Nat.le_refl n) ⟨hb, hbq⟩).ext (Ext.new hq (.cells #[.slice (some ⟨b, 0, none⟩) n n] 59))
  refine ⟨q, _, List.replicate n (.slice none 0 0), rfl, e1.bk hq, ⟨hupd_same _ _ _, by simp, OwK.sl hpar fun x hx hs => hs.elim (fun h => h hx.1) hx.2, ?_⟩, e2⟩
  intro i v l hv hl
  rw [List.getElem?_replicate] at hv hl
  split at hv
  · rw [if_pos ‹_›] at hl
    simp only [Option.some.injEq] at hv hl
    subst hv hl
    exact RepL.nil
  · cases hv
theorem RCopy_ok (X : RY S g p pv vs ps) (hS : ∀ y, S y → g y ≠ none) (hl : ps.length ≤ 1000) : Ok Try.prog 18 #[.pointer (some ⟨p, 0, none⟩)] g fun v h' => ∃ q qv, v = .pointer (some ⟨q, 0, none⟩) ∧ g q = none ∧ RY (fun y => S y ∨ y = q) h' q qv vs ps ∧ O1 (fun y => g y = none ∧ y ≠ q) h' 24 qv vs ∧ Ext g h' := by
  have hlen := X.len
  obtain ⟨a, c, rfl⟩ := S1.len X.par
  have c0 := X.cell
  refine c18_ok (args := [_]) (by simp) ?_
  have hall := X.all
  simp (disch := omega) only [dm_t, wA, wB, wL, wW, wY, Int.fdiv_eq_ediv_of_nonneg, Int.tdiv_eq_ediv_of_nonneg, Int.tmod_eq_emod_of_nonneg, chk_pos, decT, decF, br_pos, br_neg, wX, ↓reduceIte, Nat.reduceEqDiff, Nat.reduceAdd, Nat.reduceSub, Nat.reduceMul, Nat.reduceLeDiff, Nat.reduceLT, Nat.reduceMod, Nat.reduceDiv, Int.reduceToNat, Nat.min_eq_left, IntKind.bits, Int.reducePow, Int.reduceLT, Int.reduceLE, Int.reduceEq, Int.reduceNe, Int.reduceAdd, Int.reduceSub, and_self, reduceCtorEq, decide_eq_true_eq, decide_eq_false_iff_not, eq_self, implies_true, exists_const, Option.isNone_some, Option.isNone_none, Option.isSome_some, Option.isSome_none, Option.getD_some, c0]
  refine app1 (O := fun y => g y = none) (xs := []) OwK.nil (fun _ h => h) X.par hall (by rw [List.length_nil]; omega) (by rw [List.length_nil]; omega) ?_
  intro w g1 o1 f1
  rw [List.nil_append] at o1
  have e1 : Ext g g1 := Ext.step (Ext.refl _) f1
  obtain ⟨wa, wc, rfl⟩ := S1.len (OwK.s0 o1)
  simp (disch := omega) only [dm_t, wA, wB, wL, wW, wY, Int.fdiv_eq_ediv_of_nonneg, Int.tdiv_eq_ediv_of_nonneg, Int.tmod_eq_emod_of_nonneg, chk_pos, decT, decF, br_pos, br_neg, wX, ↓reduceIte, Nat.reduceEqDiff, Nat.reduceAdd, Nat.reduceSub, Nat.reduceMul, Nat.reduceLeDiff, Nat.reduceLT, Nat.reduceMod, Nat.reduceDiv, Int.reduceToNat, Nat.min_eq_left, IntKind.bits, Int.reducePow, Int.reduceLT, Int.reduceLE, Int.reduceEq, Int.reduceNe, Int.reduceAdd, Int.reduceSub, and_self, reduceCtorEq, decide_eq_true_eq, decide_eq_false_iff_not, eq_self, implies_true, exists_const, Option.isNone_some, Option.isNone_none, Option.isSome_some, Option.isSome_none, Option.getD_some]
  intro q hq
  have e2 : Ext g1 (hupd g1 q (.cells #[.slice wa vs.length wc] 59)) := Ext.new hq _
  have o2 : O1 (fun y => g y = none ∧ y ≠ q) (hupd g1 q (.cells #[.slice wa vs.length wc] 59)) 24 (.slice wa vs.length wc) vs := OwK.ext (OwK.mono o1 fun x o hx h => ⟨h, fun hh => by rw [hh, hq] at hx; cases hx⟩) e2
  refine ⟨q, _, rfl, e1.bk hq, ⟨hupd_same _ _ _, hlen, OwK.sl o2 fun x hx hs => hs.elim (fun h => hS x h hx.1) hx.2, fun i v l hv hl => ?_⟩, o2, e1.trans e2⟩
  refine (RepL.mono (X.lst i v l hv hl) fun x o hx h => ?_).ext (e1.trans e2)
  exact h.elim id fun hh => by rw [hh, e1.bk hq] at hx; cases hx
end
end Go.Proofs.Ytpgkkpjdajkobaa.mo
