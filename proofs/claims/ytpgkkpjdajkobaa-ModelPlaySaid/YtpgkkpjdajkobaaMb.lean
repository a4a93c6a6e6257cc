/-
  model: what a call would answer.
-/
import Derived.Test.YtpgkkpjdajkobaaMa
namespace Go.Proofs.Ytpgkkpjdajkobaa.mo
open Go.Proofs.Ytpgkkpjdajkobaa rr
set_option linter.unusedVariables false
set_option linter.unusedSimpArgs false
/-! ### The plain side -/
abbrev inP (ps : List (List rc.D)) (k : Int) : Prop := 0 ≤ k ∧ k < ps.length
def err (e : Int) : replyT.D := (e, (0 : Int), ([] : List rc.D))
def prodP (ps : List (List rc.D)) (c : callT.D) : replyT.D :=
  if inP ps c.2.1 then if fitsE c.2.2.1 = 0 then ((0 : Int), ((ps.getD (Int.toNat c.2.1) []).length : Int), ([] : List rc.D)) else err 8 else err 7
def fetchP (ps : List (List rc.D)) (c : callT.D) : replyT.D :=
  if @LT.lt Int _ c.2.2.2.2 0 then err 2 else if inP ps c.2.1 then
    if @LT.lt Int _ c.2.2.2.1 0 ∨ @LT.lt Int _ (ps.getD (Int.toNat c.2.1) []).length c.2.2.2.1 then err 4
    else ((0 : Int), ((ps.getD (Int.toNat c.2.1) []).length : Int), ((ps.getD (Int.toNat c.2.1) []).drop (Int.toNat c.2.2.2.1)).take (Int.toNat c.2.2.2.2))
  else err 7
def tryP (ps : List (List rc.D)) (c : callT.D) : replyT.D :=
  if @Eq Int c.1 1 then prodP ps c else if @Eq Int c.1 2 then fetchP ps c else err 2
abbrev lims (l : List rc.D) : Prop := l.length ≤ 1000000 ∧ ∀ x ∈ l, x.2.1.length ≤ 140737488355328 ∧ x.2.2.length ≤ 140737488355328
theorem inI_len {n : Nat} (h : n ≤ 9223372036854775807) : inI (n : Int) := by unfold inI; omega
/-- A reply that was made. -/
def YR (g h' : H) (cs : List Value) (r : replyT.D) : Prop := ∃ v, cs = yCs r v ∧ yB r ∧ OwQ (WRow 5 fun y => g y = none) (fun y => g y ≠ none) rc (fun y => g y = none) h' 55 v r.2.2
/-- .. for a call: one that puts tells no records. -/
def YK (x : callT.D) (g h' : H) (cs : List Value) (r : replyT.D) : Prop := YR g h' cs r ∧ (@Eq Int x.1 1 → cs = yCs r (.slice none 0 0))
theorem yr_err {g h' : H} (e : Int) (he : inI e) : YR g h' (yCs (err e) (.slice none 0 0)) (err e) := ⟨_, rfl, ⟨he, inI0⟩, OwQ.nil⟩
/-! ### The walks -/
section
variable {S : Nat → Prop} {h0 g : H} {p : Nat} {pv : Value} {vs : List Value} {ps : List (List rc.D)}
theorem none_ok (X : MX S h0 g p pv vs ps) : Ok Try.prog 31 #[.pointer (some ⟨p, 0, none⟩)] g fun v h' => v = .bool false ∧ g = h' := by
  refine c31_ok (args := [_]) (by simp) ?_
  have hc := X.cell
  obtain ⟨a, c, rfl⟩ := X.par.s0.len
  rw [one_len, X.len] at hc
  have hp := X.pos
  simp (disch := omega) only [dm_t, wA, wB, wL, wW, wY, Int.fdiv_eq_ediv_of_nonneg, Int.tdiv_eq_ediv_of_nonneg, Int.tmod_eq_emod_of_nonneg, chk_pos, decT, decF, br_pos, br_neg, wX, ↓reduceIte, Nat.reduceEqDiff, Nat.reduceAdd, Nat.reduceSub, Nat.reduceMul, Nat.reduceLeDiff, Nat.reduceLT, Nat.reduceMod, Nat.reduceDiv, Int.reduceToNat, Nat.min_eq_left, IntKind.bits, Int.reducePow, Int.reduceLT, Int.reduceLE, Int.reduceEq, Int.reduceNe, Int.reduceAdd, Int.reduceSub, and_self, reduceCtorEq, decide_eq_true_eq, decide_eq_false_iff_not, eq_self, implies_true, exists_const, Option.isNone_some, Option.isNone_none, Option.isSome_some, Option.isSome_none, Option.getD_some, hc]
theorem part_ok (X : MX S h0 g p pv vs ps) (k : Int) : Ok Try.prog 37 #[.pointer (some ⟨p, 0, none⟩), .int .i64 k] g fun v h' => v = .bool (decide (inP ps k)) ∧ g = h' := by
  refine c37_ok (args := [_, _]) (by simp) ?_
  have hc := X.cell
  obtain ⟨a, c, rfl⟩ := X.par.s0.len
  rw [one_len, X.len] at hc
  by_cases h1 : 0 ≤ k
  · by_cases h2 : k < ps.length
    · simp (disch := omega) only [dm_t, wA, wB, wL, wW, wY, Int.fdiv_eq_ediv_of_nonneg, Int.tdiv_eq_ediv_of_nonneg, Int.tmod_eq_emod_of_nonneg, chk_pos, decT, decF, br_pos, br_neg, wX, ↓reduceIte, Nat.reduceEqDiff, Nat.reduceAdd, Nat.reduceSub, Nat.reduceMul, Nat.reduceLeDiff, Nat.reduceLT, Nat.reduceMod, Nat.reduceDiv, Int.reduceToNat, Nat.min_eq_left, IntKind.bits, Int.reducePow, Int.reduceLT, Int.reduceLE, Int.reduceEq, Int.reduceNe, Int.reduceAdd, Int.reduceSub, and_self, reduceCtorEq, decide_eq_true_eq, decide_eq_false_iff_not, eq_self, implies_true, exists_const, Option.isNone_some, Option.isNone_none, Option.isSome_some, Option.isSome_none, Option.getD_some, hc, inP, h1, h2]
    · simp (disch := omega) only [dm_t, wA, wB, wL, wW, wY, Int.fdiv_eq_ediv_of_nonneg, Int.tdiv_eq_ediv_of_nonneg, Int.tmod_eq_emod_of_nonneg, chk_pos, decT, decF, br_pos, br_neg, wX, ↓reduceIte, Nat.reduceEqDiff, Nat.reduceAdd, Nat.reduceSub, Nat.reduceMul, Nat.reduceLeDiff, Nat.reduceLT, Nat.reduceMod, Nat.reduceDiv, Int.reduceToNat, Nat.min_eq_left, IntKind.bits, Int.reducePow, Int.reduceLT, Int.reduceLE, Int.reduceEq, Int.reduceNe, Int.reduceAdd, Int.reduceSub, and_self, reduceCtorEq, decide_eq_true_eq, decide_eq_false_iff_not, eq_self, implies_true, exists_const, Option.isNone_some, Option.isNone_none, Option.isSome_some, Option.isSome_none, Option.getD_some, hc, inP, h1, h2]
  · simp (disch := omega) only [dm_t, wA, wB, wL, wW, wY, Int.fdiv_eq_ediv_of_nonneg, Int.tdiv_eq_ediv_of_nonneg, Int.tmod_eq_emod_of_nonneg, chk_pos, decT, decF, br_pos, br_neg, wX, ↓reduceIte, Nat.reduceEqDiff, Nat.reduceAdd, Nat.reduceSub, Nat.reduceMul, Nat.reduceLeDiff, Nat.reduceLT, Nat.reduceMod, Nat.reduceDiv, Int.reduceToNat, Nat.min_eq_left, IntKind.bits, Int.reducePow, Int.reduceLT, Int.reduceLE, Int.reduceEq, Int.reduceNe, Int.reduceAdd, Int.reduceSub, and_self, reduceCtorEq, decide_eq_true_eq, decide_eq_false_iff_not, eq_self, implies_true, exists_const, Option.isNone_some, Option.isNone_none, Option.isSome_some, Option.isSome_none, Option.getD_some, hc, inP, h1]
    simp
/-- A call's cells. -/
structure CaC (g : H) (b : Nat) (x : callT.D) (r : Value) : Prop where
  c0 : cellAt g ⟨b, 0, none⟩ = some (.int .i64 x.1)
  c1 : cellAt g ⟨b, 1, none⟩ = some (.int .i64 x.2.1)
  c2 : cellAt g ⟨b, 2, none⟩ = some r
  c3 : cellAt g ⟨b, 3, none⟩ = some (.int .i64 x.2.2.2.1)
  c4 : cellAt g ⟨b, 4, none⟩ = some (.int .i64 x.2.2.2.2)
  ca : cellsAt g ⟨b, 0, none⟩ 5 = some (cCs x r).toArray
theorem caC {g : H} {b : Nat} {x : callT.D} {r : Value} (qb : g b = some (.cells (cCs x r).toArray 26)) : CaC g b x r :=
  ⟨by rw [cellAt_of qb]; rfl, by rw [cellAt_of qb]; rfl, by rw [cellAt_of qb]; rfl, by rw [cellAt_of qb]; rfl, by rw [cellAt_of qb]; rfl, cellsAt_all qb 5 rfl⟩
/-- A reply is stored. -/
theorem res3 {G : H} {d : Nat} {c : Array Value} {E : TypeId} {K : H → Prop} (r : replyT.D) (v : Value) (qd : G d = some (.cells c E)) (hc : c.size = 3) (hv : isCell v = true) (hK : ∀ G', cellsAt G' ⟨d, 0, none⟩ 3 = some (yCs r v).toArray → G' d = some (.cells (yCs r v).toArray E) → Fr (fun y => y = d) G G' → K G') : storeH G ⟨d, 0, none⟩ (yCs r v) K :=
  storeH_all qd (by rw [hc]; rfl) (by show (isCell _ && (isCell _ && (isCell v && true))) = true; rw [hv]; rfl) (hK _ (cellsAt_all (hupd_same _ _ _) 3 rfl) (hupd_same _ _ _) (Fr.upd (S := fun y => y = d) rfl _))
theorem produce_ok {cs : List Value} {x : callT.D} (X : MX S h0 g p pv vs ps) (hx : Rep nos callT g cs x) (hl : x.2.2.1.length ≤ 4611686018427387904) (hps : ∀ l ∈ ps, lims l) :
    Ok Try.prog 38 #[.pointer (some ⟨p, 0, none⟩), .agg cs.toArray] g fun v h' => ∃ cs', v = .agg cs'.toArray ∧ (YR g h' cs' (prodP ps x) ∧ cs' = yCs (prodP ps x) (.slice none 0 0)) ∧ Ext g h' := by
  obtain ⟨r, rfl, hb, hr⟩ := rep_call.1 hx
  have hb1 := hb.2.1
  unfold inI at hb1
  refine c38_ok (args := [_, _]) (by simp) ?_
  simp (disch := omega) only [dm_t, wA, wB, wL, wW, wY, Int.fdiv_eq_ediv_of_nonneg, Int.tdiv_eq_ediv_of_nonneg, Int.tmod_eq_emod_of_nonneg, chk_pos, decT, decF, br_pos, br_neg, wX, ↓reduceIte, Nat.reduceEqDiff, Nat.reduceAdd, Nat.reduceSub, Nat.reduceMul, Nat.reduceLeDiff, Nat.reduceLT, Nat.reduceMod, Nat.reduceDiv, Int.reduceToNat, Nat.min_eq_left, IntKind.bits, Int.reducePow, Int.reduceLT, Int.reduceLE, Int.reduceEq, Int.reduceNe, Int.reduceAdd, Int.reduceSub, and_self, reduceCtorEq, decide_eq_true_eq, decide_eq_false_iff_not, eq_self, implies_true, exists_const, Option.isNone_some, Option.isNone_none, Option.isSome_some, Option.isSome_none, Option.getD_some]
  intro b hbn d hd
  generalize hG : hupd g b _ = g1 at hd ⊢
  obtain ⟨e1, qb⟩ := new_ext hG hbn
  clear hG
  generalize hG : hupd g1 d _ = g2
  obtain ⟨e2, qd⟩ := new_ext hG hd
  clear hG
  have E2 := e1.trans e2
  have k := caC (e2.at qb)
  have X2 := X.ext E2
  simp (disch := omega) only [dm_t, wA, wB, wL, wW, wY, Int.fdiv_eq_ediv_of_nonneg, Int.tdiv_eq_ediv_of_nonneg, Int.tmod_eq_emod_of_nonneg, chk_pos, decT, decF, br_pos, br_neg, wX, ↓reduceIte, Nat.reduceEqDiff, Nat.reduceAdd, Nat.reduceSub, Nat.reduceMul, Nat.reduceLeDiff, Nat.reduceLT, Nat.reduceMod, Nat.reduceDiv, Int.reduceToNat, Nat.min_eq_left, IntKind.bits, Int.reducePow, Int.reduceLT, Int.reduceLE, Int.reduceEq, Int.reduceNe, Int.reduceAdd, Int.reduceSub, and_self, reduceCtorEq, decide_eq_true_eq, decide_eq_false_iff_not, eq_self, implies_true, exists_const, Option.isNone_some, Option.isNone_none, Option.isSome_some, Option.isSome_none, Option.getD_some, k.c1]
  refine (part_ok X2 _).k ?_
  rintro _ _ ⟨rfl, rfl⟩
  have hdn := e1.bk hd
  by_cases hp : inP ps x.2.1
  · have hdec : decide (inP ps x.2.1) = true := by simpa using hp
    rw [hdec]
    simp (disch := omega) only [dm_t, wA, wB, wL, wW, wY, Int.fdiv_eq_ediv_of_nonneg, Int.tdiv_eq_ediv_of_nonneg, Int.tmod_eq_emod_of_nonneg, chk_pos, decT, decF, br_pos, br_neg, wX, ↓reduceIte, Nat.reduceEqDiff, Nat.reduceAdd, Nat.reduceSub, Nat.reduceMul, Nat.reduceLeDiff, Nat.reduceLT, Nat.reduceMod, Nat.reduceDiv, Int.reduceToNat, Nat.min_eq_left, IntKind.bits, Int.reducePow, Int.reduceLT, Int.reduceLE, Int.reduceEq, Int.reduceNe, Int.reduceAdd, Int.reduceSub, and_self, reduceCtorEq, decide_eq_true_eq, decide_eq_false_iff_not, eq_self, implies_true, exists_const, Option.isNone_some, Option.isNone_none, Option.isSome_some, Option.isSome_none, Option.getD_some, k.c2]
    refine (Fits_ok (hr.ext E2) hl).k ?_
    rintro _ g3 ⟨rfl, e3⟩
    have qd3 := e3.at qd
    by_cases hf : fitsE x.2.2.1 = 0
    · rw [hf]
      have k3 := caC (e3.at (e2.at qb))
      have X3 := X2.ext e3
      obtain ⟨i, hi⟩ : ∃ i : Nat, @Eq Int x.2.1 (i : Int) := ⟨Int.toNat x.2.1, by have := hp.1; omega⟩
      have hil : i < ps.length := by have := hp.2; rw [hi] at this; omega
      have c1 := k3.c1
      rw [hi] at c1
      have hiv : i < vs.length := by rw [X.len]; exact hil
      obtain ⟨b5, o5, i5, h5⟩ := S1.load X3.par.s0 hiv .i64
      obtain ⟨ra, rn, hra⟩ := (X3.recAt hil).len
      rw [hra] at h5
      have hlen : ps[i].length ≤ 1000000 := (hps _ (List.getElem_mem hil)).1
      simp (disch := omega) only [dm_t, wA, wB, wL, wW, wY, Int.fdiv_eq_ediv_of_nonneg, Int.tdiv_eq_ediv_of_nonneg, Int.tmod_eq_emod_of_nonneg, chk_pos, decT, decF, br_pos, br_neg, wX, ↓reduceIte, Nat.reduceEqDiff, Nat.reduceAdd, Nat.reduceSub, Nat.reduceMul, Nat.reduceLeDiff, Nat.reduceLT, Nat.reduceMod, Nat.reduceDiv, Int.reduceToNat, Nat.min_eq_left, IntKind.bits, Int.reducePow, Int.reduceLT, Int.reduceLE, Int.reduceEq, Int.reduceNe, Int.reduceAdd, Int.reduceSub, and_self, reduceCtorEq, decide_eq_true_eq, decide_eq_false_iff_not, eq_self, implies_true, exists_const, Option.isNone_some, Option.isNone_none, Option.isSome_some, Option.isSome_none, Option.getD_some, X3.cell, c1, i5, h5]
      refine res3 ((0 : Int), (ps[i].length : Int), ([] : List rc.D)) (.slice none 0 0) qd3 rfl rfl ?_
      intro G' kG qG f
      have EG : Ext g G' := Ext.step' (E2.trans e3) f fun y hy => by rw [hy]; exact hdn
      have X4 := X.ext EG
      have k4 := caC (f _ _ (e3.at (e2.at qb)) fun h => by subst h; rw [e2.at qb] at qd; simp at qd)
      have c1' := k4.c1
      rw [hi] at c1'
      obtain ⟨b6, o6, i6, h6⟩ := S1.load X4.par.s0 hiv .i64
      rw [i5] at i6
      simp only [Option.some.injEq, Value.pointer.injEq, Addr.mk.injEq, and_true] at i6
      obtain ⟨rfl, rfl⟩ := i6
      rw [hra] at h6
      simp (disch := omega) only [dm_t, wA, wB, wL, wW, wY, Int.fdiv_eq_ediv_of_nonneg, Int.tdiv_eq_ediv_of_nonneg, Int.tmod_eq_emod_of_nonneg, chk_pos, decT, decF, br_pos, br_neg, wX, ↓reduceIte, Nat.reduceEqDiff, Nat.reduceAdd, Nat.reduceSub, Nat.reduceMul, Nat.reduceLeDiff, Nat.reduceLT, Nat.reduceMod, Nat.reduceDiv, Int.reduceToNat, Nat.min_eq_left, IntKind.bits, Int.reducePow, Int.reduceLT, Int.reduceLE, Int.reduceEq, Int.reduceNe, Int.reduceAdd, Int.reduceSub, and_self, reduceCtorEq, decide_eq_true_eq, decide_eq_false_iff_not, eq_self, implies_true, exists_const, Option.isNone_some, Option.isNone_none, Option.isSome_some, Option.isSome_none, Option.getD_some, X4.cell, c1', h6, kG]
      have hgd : ps.getD (Int.toNat x.2.1) [] = ps[i] := by rw [hi, Int.toNat_natCast, List.getD_eq_getElem?_getD, List.getElem?_eq_getElem hil]; rfl
      refine ⟨_, rfl, ?_, EG⟩
      rw [prodP, if_pos hp, if_pos hf, hgd]
      exact ⟨⟨.slice none 0 0, rfl, ⟨inI0, inI_len (by omega)⟩, OwQ.nil⟩, rfl⟩
    · simp (disch := omega) only [dm_t, wA, wB, wL, wW, wY, Int.fdiv_eq_ediv_of_nonneg, Int.tdiv_eq_ediv_of_nonneg, Int.tmod_eq_emod_of_nonneg, chk_pos, decT, decF, br_pos, br_neg, wX, ↓reduceIte, Nat.reduceEqDiff, Nat.reduceAdd, Nat.reduceSub, Nat.reduceMul, Nat.reduceLeDiff, Nat.reduceLT, Nat.reduceMod, Nat.reduceDiv, Int.reduceToNat, Nat.min_eq_left, IntKind.bits, Int.reducePow, Int.reduceLT, Int.reduceLE, Int.reduceEq, Int.reduceNe, Int.reduceAdd, Int.reduceSub, and_self, reduceCtorEq, decide_eq_true_eq, decide_eq_false_iff_not, eq_self, implies_true, exists_const, Option.isNone_some, Option.isNone_none, Option.isSome_some, Option.isSome_none, Option.getD_some]
      refine res3 (err 8) (.slice none 0 0) qd3 rfl rfl ?_
      intro G' kG qG f
      simp (disch := omega) only [dm_t, wA, wB, wL, wW, wY, Int.fdiv_eq_ediv_of_nonneg, Int.tdiv_eq_ediv_of_nonneg, Int.tmod_eq_emod_of_nonneg, chk_pos, decT, decF, br_pos, br_neg, wX, ↓reduceIte, Nat.reduceEqDiff, Nat.reduceAdd, Nat.reduceSub, Nat.reduceMul, Nat.reduceLeDiff, Nat.reduceLT, Nat.reduceMod, Nat.reduceDiv, Int.reduceToNat, Nat.min_eq_left, IntKind.bits, Int.reducePow, Int.reduceLT, Int.reduceLE, Int.reduceEq, Int.reduceNe, Int.reduceAdd, Int.reduceSub, and_self, reduceCtorEq, decide_eq_true_eq, decide_eq_false_iff_not, eq_self, implies_true, exists_const, Option.isNone_some, Option.isNone_none, Option.isSome_some, Option.isSome_none, Option.getD_some, kG]
      exact ⟨_, rfl, by rw [prodP, if_pos hp, if_neg hf]; exact ⟨yr_err 8 (by unfold inI; decide), rfl⟩, Ext.step' (E2.trans e3) f fun y hy => by rw [hy]; exact hdn⟩
  · have hdec : decide (inP ps x.2.1) = false := by simpa using hp
    rw [hdec]
    simp (disch := omega) only [dm_t, wA, wB, wL, wW, wY, Int.fdiv_eq_ediv_of_nonneg, Int.tdiv_eq_ediv_of_nonneg, Int.tmod_eq_emod_of_nonneg, chk_pos, decT, decF, br_pos, br_neg, wX, ↓reduceIte, Nat.reduceEqDiff, Nat.reduceAdd, Nat.reduceSub, Nat.reduceMul, Nat.reduceLeDiff, Nat.reduceLT, Nat.reduceMod, Nat.reduceDiv, Int.reduceToNat, Nat.min_eq_left, IntKind.bits, Int.reducePow, Int.reduceLT, Int.reduceLE, Int.reduceEq, Int.reduceNe, Int.reduceAdd, Int.reduceSub, and_self, reduceCtorEq, decide_eq_true_eq, decide_eq_false_iff_not, eq_self, implies_true, exists_const, Option.isNone_some, Option.isNone_none, Option.isSome_some, Option.isSome_none, Option.getD_some]
    refine res3 (err 7) (.slice none 0 0) qd rfl rfl ?_
    intro G' kG qG f
    simp (disch := omega) only [dm_t, wA, wB, wL, wW, wY, Int.fdiv_eq_ediv_of_nonneg, Int.tdiv_eq_ediv_of_nonneg, Int.tmod_eq_emod_of_nonneg, chk_pos, decT, decF, br_pos, br_neg, wX, ↓reduceIte, Nat.reduceEqDiff, Nat.reduceAdd, Nat.reduceSub, Nat.reduceMul, Nat.reduceLeDiff, Nat.reduceLT, Nat.reduceMod, Nat.reduceDiv, Int.reduceToNat, Nat.min_eq_left, IntKind.bits, Int.reducePow, Int.reduceLT, Int.reduceLE, Int.reduceEq, Int.reduceNe, Int.reduceAdd, Int.reduceSub, and_self, reduceCtorEq, decide_eq_true_eq, decide_eq_false_iff_not, eq_self, implies_true, exists_const, Option.isNone_some, Option.isNone_none, Option.isSome_some, Option.isSome_none, Option.getD_some, kG]
    exact ⟨_, rfl, by rw [prodP, if_neg hp]; exact ⟨yr_err 7 (by unfold inI; decide), rfl⟩, Ext.step' E2 f fun y hy => by rw [hy]; exact hdn⟩
end
end Go.Proofs.Ytpgkkpjdajkobaa.mo
