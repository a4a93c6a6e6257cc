/-
  history: the document's Put whole, and Of.
-/
import Derived.Test.YtmolhemoiplpfaaHk
namespace Go.Proofs.Ytmolhemoiplpfaa.hi
open Go.Proofs.Ytmolhemoiplpfaa
set_option linter.unusedVariables false
set_option linter.unusedSimpArgs false
theorem badE_iff (x : evT.D) : badE x ↔ (@LT.lt Int _ x.1 0 ∨ @LE.le Int _ 64 x.1 ∨ ¬ (if x.2.1 = true then emptyC x.2.2.1 = true else unsaidR x.2.2.2 = true)) := by
  unfold badE
  cases x.2.1 <;> simp
theorem putD_ok {g : H} {p : Nat} {ve vo : Value} {s : Hs} {cs : List Value} {x : evT.D} (X : HD g p ve vo s) (hx : Rep (fun y => y = p) evT g cs x) (h1 : limE x) :
    Ok Try.prog 27 #[.pointer (some ⟨p, 0, none⟩), .agg cs.toArray] g (PutD g p s x) := by
  obtain ⟨r, q, rfl, hb, hr, hq⟩ := rep_ev.1 hx
  obtain ⟨ea, en, rfl⟩ := X.evs.len
  have hcl := hb.1
  unfold inI at hcl
  refine c27_ok (args := [_, _]) (by simp) ?_
  simp (disch := omega) only [dm_t, wA, wB, wL, wW, wY, Int.fdiv_eq_ediv_of_nonneg, Int.tdiv_eq_ediv_of_nonneg, Int.tmod_eq_emod_of_nonneg, chk_pos, decT, decF, br_pos, br_neg, wX, ↓reduceIte, Nat.reduceEqDiff, Nat.reduceAdd, Nat.reduceSub, Nat.reduceMul, Nat.reduceLeDiff, Nat.reduceLT, Nat.reduceMod, Nat.reduceDiv, Int.reduceToNat, Nat.min_eq_left, IntKind.bits, Int.reducePow, Int.reduceLT, Int.reduceLE, Int.reduceEq, Int.reduceNe, Int.reduceAdd, Int.reduceSub, and_self, reduceCtorEq, decide_eq_true_eq, decide_eq_false_iff_not, eq_self, implies_true, exists_const, Option.isNone_some, Option.isNone_none, Option.isSome_some, Option.isSome_none, Option.getD_some]
  intro eb heb
  generalize hG : hupd g eb _ = g1
  obtain ⟨e, qb⟩ := new_ext hG heb
  clear hG
  have hpe : eb ≠ p := fun h => by subst h; rw [X.obj] at heb; cases heb
  have no : ∀ G n, Ext g G → turnE s x = n → n ≠ 0 → PutD g p s x (.int .i64 n) G := fun G n e hn h0 => ⟨by rw [hn], ⟨_, vo, by rw [if_neg (by rw [hn]; exact h0)]; exact X.ext e⟩, e.mono fun _ h => h.elim⟩
  have k := evC qb
  have c0 := k.c0
  by_cases j1 : @LT.lt Int _ x.1 0
  · simp (disch := omega) only [dm_t, wA, wB, wL, wW, wY, Int.fdiv_eq_ediv_of_nonneg, Int.tdiv_eq_ediv_of_nonneg, Int.tmod_eq_emod_of_nonneg, chk_pos, decT, decF, br_pos, br_neg, wX, ↓reduceIte, Nat.reduceEqDiff, Nat.reduceAdd, Nat.reduceSub, Nat.reduceMul, Nat.reduceLeDiff, Nat.reduceLT, Nat.reduceMod, Nat.reduceDiv, Int.reduceToNat, Nat.min_eq_left, IntKind.bits, Int.reducePow, Int.reduceLT, Int.reduceLE, Int.reduceEq, Int.reduceNe, Int.reduceAdd, Int.reduceSub, and_self, reduceCtorEq, decide_eq_true_eq, decide_eq_false_iff_not, eq_self, implies_true, exists_const, Option.isNone_some, Option.isNone_none, Option.isSome_some, Option.isSome_none, Option.getD_some, c0]
    exact no _ _ e (by rw [turnE, if_pos (.inl j1)]) (by decide)
  by_cases j2 : @LE.le Int _ 64 x.1
  · simp (disch := omega) only [dm_t, wA, wB, wL, wW, wY, Int.fdiv_eq_ediv_of_nonneg, Int.tdiv_eq_ediv_of_nonneg, Int.tmod_eq_emod_of_nonneg, chk_pos, decT, decF, br_pos, br_neg, wX, ↓reduceIte, Nat.reduceEqDiff, Nat.reduceAdd, Nat.reduceSub, Nat.reduceMul, Nat.reduceLeDiff, Nat.reduceLT, Nat.reduceMod, Nat.reduceDiv, Int.reduceToNat, Nat.min_eq_left, IntKind.bits, Int.reducePow, Int.reduceLT, Int.reduceLE, Int.reduceEq, Int.reduceNe, Int.reduceAdd, Int.reduceSub, and_self, reduceCtorEq, decide_eq_true_eq, decide_eq_false_iff_not, eq_self, implies_true, exists_const, Option.isNone_some, Option.isNone_none, Option.isSome_some, Option.isSome_none, Option.getD_some, c0]
    exact no _ _ e (by rw [turnE, if_pos (.inr (.inl j2))]) (by decide)
  simp (disch := omega) only [dm_t, wA, wB, wL, wW, wY, Int.fdiv_eq_ediv_of_nonneg, Int.tdiv_eq_ediv_of_nonneg, Int.tmod_eq_emod_of_nonneg, chk_pos, decT, decF, br_pos, br_neg, wX, ↓reduceIte, Nat.reduceEqDiff, Nat.reduceAdd, Nat.reduceSub, Nat.reduceMul, Nat.reduceLeDiff, Nat.reduceLT, Nat.reduceMod, Nat.reduceDiv, Int.reduceToNat, Nat.min_eq_left, IntKind.bits, Int.reducePow, Int.reduceLT, Int.reduceLE, Int.reduceEq, Int.reduceNe, Int.reduceAdd, Int.reduceSub, and_self, reduceCtorEq, decide_eq_true_eq, decide_eq_false_iff_not, eq_self, implies_true, exists_const, Option.isNone_some, Option.isNone_none, Option.isSome_some, Option.isSome_none, Option.getD_some, c0, k.ca]
  refine (Empty_ok (hx.ext e) h1).k ?_
  rintro _ g2 ⟨bb, rfl, hbb, e2⟩
  have E2 := e.trans e2
  cases bb with
  | false =>
    simp (disch := omega) only [dm_t, wA, wB, wL, wW, wY, Int.fdiv_eq_ediv_of_nonneg, Int.tdiv_eq_ediv_of_nonneg, Int.tmod_eq_emod_of_nonneg, chk_pos, decT, decF, br_pos, br_neg, wX, ↓reduceIte, Nat.reduceEqDiff, Nat.reduceAdd, Nat.reduceSub, Nat.reduceMul, Nat.reduceLeDiff, Nat.reduceLT, Nat.reduceMod, Nat.reduceDiv, Int.reduceToNat, Nat.min_eq_left, IntKind.bits, Int.reducePow, Int.reduceLT, Int.reduceLE, Int.reduceEq, Int.reduceNe, Int.reduceAdd, Int.reduceSub, and_self, reduceCtorEq, decide_eq_true_eq, decide_eq_false_iff_not, eq_self, implies_true, exists_const, Option.isNone_some, Option.isNone_none, Option.isSome_some, Option.isSome_none, Option.getD_some]
    simp only [Bool.false_eq_true, false_iff] at hbb
    exact no _ _ E2 (by rw [turnE, if_pos ((badE_iff x).2 (.inr (.inr hbb)))]) (by decide)
  | true =>
    have hnb : ¬ badE x := by
      rw [badE_iff]
      rintro (h | h | h)
      · exact j1 h
      · exact j2 h
      · exact h (hbb.1 rfl)
    have X2 := X.ext E2
    have p0 := X2.c0
    by_cases hl : 65536 ≤ s.evs.length
    · simp (disch := omega) only [dm_t, wA, wB, wL, wW, wY, Int.fdiv_eq_ediv_of_nonneg, Int.tdiv_eq_ediv_of_nonneg, Int.tmod_eq_emod_of_nonneg, chk_pos, decT, decF, br_pos, br_neg, wX, ↓reduceIte, Nat.reduceEqDiff, Nat.reduceAdd, Nat.reduceSub, Nat.reduceMul, Nat.reduceLeDiff, Nat.reduceLT, Nat.reduceMod, Nat.reduceDiv, Int.reduceToNat, Nat.min_eq_left, IntKind.bits, Int.reducePow, Int.reduceLT, Int.reduceLE, Int.reduceEq, Int.reduceNe, Int.reduceAdd, Int.reduceSub, and_self, reduceCtorEq, decide_eq_true_eq, decide_eq_false_iff_not, eq_self, implies_true, exists_const, Option.isNone_some, Option.isNone_none, Option.isSome_some, Option.isSome_none, Option.getD_some, p0]
      exact no _ _ E2 (by rw [turnE, if_neg hnb, if_pos hl]) (by decide)
    obtain ⟨i, hi⟩ : ∃ i : Nat, @Eq Int x.1 (i : Int) := ⟨Int.toNat x.1, by omega⟩
    have hi2 : i < 64 := by omega
    have pi := X2.ci hi2
    have k2 := evC (e2.at qb)
    have a0 := k2.c0
    have a1 := k2.c1
    rw [hi] at a0
    have hTn : turnE s x = if s.opn.getD i false ≠ x.2.1 then 280 else 0 := by rw [turnE, if_neg hnb, if_neg hl, hi, Int.toNat_natCast]
    by_cases hop : s.opn.getD i false = x.2.1
    · have hT : turnE s x = 0 := by rw [hTn, if_neg (by simpa using hop)]
      rw [hop] at pi
      simp (disch := omega) only [dm_t, wA, wB, wL, wW, wY, Int.fdiv_eq_ediv_of_nonneg, Int.tdiv_eq_ediv_of_nonneg, Int.tmod_eq_emod_of_nonneg, chk_pos, decT, decF, br_pos, br_neg, wX, ↓reduceIte, Nat.reduceEqDiff, Nat.reduceAdd, Nat.reduceSub, Nat.reduceMul, Nat.reduceLeDiff, Nat.reduceLT, Nat.reduceMod, Nat.reduceDiv, Int.reduceToNat, Nat.min_eq_left, IntKind.bits, Int.reducePow, Int.reduceLT, Int.reduceLE, Int.reduceEq, Int.reduceNe, Int.reduceAdd, Int.reduceSub, and_self, reduceCtorEq, decide_eq_true_eq, decide_eq_false_iff_not, eq_self, implies_true, exists_const, Option.isNone_some, Option.isNone_none, Option.isSome_some, Option.isSome_none, Option.getD_some, p0, a0, a1, pi, beq_self_eq_true]
      rw [storeH_0 X2.obj, DO_set]
      refine ⟨by rw [DO_size X2.len]; omega, rfl, ?_⟩
      generalize hG : hupd g2 p _ = g3
      have f3 : Fr (fun y => y = p) g2 g3 := by rw [← hG]; exact Fr.upd (S := fun y => y = p) rfl _
      have ho3 : g3 p = some (.cells (DO (s.opn.set i (!x.2.1)) (.slice ea s.evs.length en) vo).toArray 56) := by rw [← hG, hupd_same]
      clear hG
      have qb3 := f3 _ _ (e2.at qb) hpe
      have k3 := evC qb3
      have a03 := k3.c0
      rw [hi] at a03
      simp (disch := omega) only [dm_t, wV, wB, wL, wW, wU, Int.fdiv_eq_ediv_of_nonneg, Int.tdiv_eq_ediv_of_nonneg, Int.tmod_eq_emod_of_nonneg, chk_pos, decT, decF, br_pos, br_neg, wX, ↓reduceIte, Nat.reduceEqDiff, Nat.reduceAdd, Nat.reduceSub, Nat.reduceMul, Nat.reduceLeDiff, Nat.reduceLT, Nat.reduceMod, Nat.reduceDiv, Int.reduceToNat, Nat.min_eq_left, IntKind.bits, Int.reducePow, Int.reduceLT, Int.reduceLE, Int.reduceEq, Int.reduceNe, Int.reduceAdd, Int.reduceSub, and_self, reduceCtorEq, decide_eq_true_eq, decide_eq_false_iff_not, eq_self, implies_true, exists_const, Option.isNone_some, Option.isNone_none, Option.isSome_some, Option.isSome_none, Option.getD_some, a03, k3.c1]
      have hopn : s.opn.set i (!x.2.1) = s.opn.set (Int.toNat x.1) (!x.2.1) := by rw [hi, Int.toNat_natCast]
      have F : Fr (fun y => y = p) g g3 := (E2.mono fun _ h => h.elim).trans f3
      have hinv := inv_put X.len hT X.inv
      cases hret : x.2.1 with
      | false =>
        rw [hret] at ho3 hopn
        exact putD_call hT ho3 (by rw [List.length_set]; exact X.len) X.le (by rw [hret]; exact hopn) (by omega) (X2.evs.fr f3 fun _ h => h) (X2.ops.fr f3 fun _ h => h) F hinv qb3 hb ((hr.ext E2).fr f3 fun _ h => h) ((hq.ext E2).fr f3 fun _ h => h) hret
      | true =>
        rw [hret] at ho3 hopn
        refine putD_ret hT ho3 (by rw [List.length_set]; exact X.len) X.le (by rw [hret]; exact hopn) (by omega) (X2.evs.fr f3 fun _ h => h) (X2.ops.fr f3 fun _ h => h) F hinv qb3 hb ((hr.ext E2).fr f3 fun _ h => h) ((hq.ext E2).fr f3 fun _ h => h) hret ?_
        obtain ⟨o, h1, h2⟩ := X.inv i hi2 (by rw [hop, hret])
        exact ⟨o, h1, by rw [hi]; exact h2⟩
    · have hbe : (s.opn.getD i false == x.2.1) = false := by simpa using hop
      simp (disch := omega) only [dm_t, wA, wB, wL, wW, wY, Int.fdiv_eq_ediv_of_nonneg, Int.tdiv_eq_ediv_of_nonneg, Int.tmod_eq_emod_of_nonneg, chk_pos, decT, decF, br_pos, br_neg, wX, ↓reduceIte, Nat.reduceEqDiff, Nat.reduceAdd, Nat.reduceSub, Nat.reduceMul, Nat.reduceLeDiff, Nat.reduceLT, Nat.reduceMod, Nat.reduceDiv, Int.reduceToNat, Nat.min_eq_left, IntKind.bits, Int.reducePow, Int.reduceLT, Int.reduceLE, Int.reduceEq, Int.reduceNe, Int.reduceAdd, Int.reduceSub, and_self, reduceCtorEq, decide_eq_true_eq, decide_eq_false_iff_not, eq_self, implies_true, exists_const, Option.isNone_some, Option.isNone_none, Option.isSome_some, Option.isSome_none, Option.getD_some, p0, a0, a1, pi, hbe]
      exact no _ _ E2 (by rw [hTn, if_pos hop]) (by decide)
/-- What the document's Of tells. -/
def OfD (h : H) (l : List evT.D) (v : Value) (h' : H) : Prop :=
  Ext h h' ∧ (((ofG Hs.new l 0).2.2 = 0 ∧ ∃ p ve vo, v = .tuple #[.pointer (some ⟨p, 0, none⟩), .int .i64 (l.length : Int), .int .i64 0] ∧ HD h' p ve vo (ofG Hs.new l 0).1) ∨
    ((ofG Hs.new l 0).2.2 ≠ 0 ∧ v = .tuple #[.pointer none, .int .i64 ((ofG Hs.new l 0).2.1 : Int), .int .i64 (ofG Hs.new l 0).2.2]))
theorem OfD_ok {S : Nat → Prop} {h : H} {sv : Value} {l : List evT.D} (hs : RepL S evT h sv l) (hn : l.length ≤ 60000) (hl : ∀ x ∈ l, limE x) : Ok Try.prog 13 #[sv] h (OfD h l) := by
  refine c13_ok (args := [_]) (by simp) ?_
  obtain ⟨sa, sn, rfl⟩ := hs.len
  simp (disch := omega) only [dm_t, wA, wB, wL, wW, wY, Int.fdiv_eq_ediv_of_nonneg, Int.tdiv_eq_ediv_of_nonneg, Int.tmod_eq_emod_of_nonneg, chk_pos, decT, decF, br_pos, br_neg, wX, ↓reduceIte, Nat.reduceEqDiff, Nat.reduceAdd, Nat.reduceSub, Nat.reduceMul, Nat.reduceLeDiff, Nat.reduceLT, Nat.reduceMod, Nat.reduceDiv, Int.reduceToNat, Nat.min_eq_left, IntKind.bits, Int.reducePow, Int.reduceLT, Int.reduceLE, Int.reduceEq, Int.reduceNe, Int.reduceAdd, Int.reduceSub, and_self, reduceCtorEq, decide_eq_true_eq, decide_eq_false_iff_not, eq_self, implies_true, exists_const, Option.isNone_some, Option.isNone_none, Option.isSome_some, Option.isSome_none, Option.getD_some]
  intro p hp
  have e1 : Ext h _ := Ext.new hp (.cells (DO Hs.new.opn (.slice none 0 0) (.slice none 0 0)).toArray 56)
  have X1 : HD (hupd h p (.cells (DO Hs.new.opn (.slice none 0 0) (.slice none 0 0)).toArray 56)) p (.slice none 0 0) (.slice none 0 0) Hs.new := ⟨hupd_same _ _ _, by simp [Hs.new], by simp [Hs.new], RepL.nil, RepL.nil, fun i hi h => by
    have : (List.replicate 64 false).getD i false = true := h
    rw [List.getD_eq_getElem?_getD, List.getElem?_replicate, if_pos hi] at this
    cases this⟩
  simp (disch := omega) only [dm_t, wA, wB, wL, wW, wY, Int.fdiv_eq_ediv_of_nonneg, Int.tdiv_eq_ediv_of_nonneg, Int.tmod_eq_emod_of_nonneg, chk_pos, decT, decF, br_pos, br_neg, wX, ↓reduceIte, Nat.reduceEqDiff, Nat.reduceAdd, Nat.reduceSub, Nat.reduceMul, Nat.reduceLeDiff, Nat.reduceLT, Nat.reduceMod, Nat.reduceDiv, Int.reduceToNat, Nat.min_eq_left, IntKind.bits, Int.reducePow, Int.reduceLT, Int.reduceLE, Int.reduceEq, Int.reduceNe, Int.reduceAdd, Int.reduceSub, and_self, reduceCtorEq, decide_eq_true_eq, decide_eq_false_iff_not, eq_self, implies_true, exists_const, Option.isNone_some, Option.isNone_none, Option.isSome_some, Option.isSome_none, Option.getD_some]
  refine vc_loop1 (fun vi g => ∃ (i : Nat) (s : Hs) (ve vo : Value), vi = .int .i64 (i : Int) ∧ i ≤ l.length ∧ HD g p ve vo s ∧ ofG s (l.drop i) i = ofG Hs.new l 0 ∧ Ext h g) (fun vi _ => l.length - m1 vi) ?_ ?_
  · simp (disch := omega) only [dm_t, wA, wB, wL, wW, wY, Int.fdiv_eq_ediv_of_nonneg, Int.tdiv_eq_ediv_of_nonneg, Int.tmod_eq_emod_of_nonneg, chk_pos, decT, decF, br_pos, br_neg, wX, ↓reduceIte, Nat.reduceEqDiff, Nat.reduceAdd, Nat.reduceSub, Nat.reduceMul, Nat.reduceLeDiff, Nat.reduceLT, Nat.reduceMod, Nat.reduceDiv, Int.reduceToNat, Nat.min_eq_left, IntKind.bits, Int.reducePow, Int.reduceLT, Int.reduceLE, Int.reduceEq, Int.reduceNe, Int.reduceAdd, Int.reduceSub, and_self, reduceCtorEq, decide_eq_true_eq, decide_eq_false_iff_not, eq_self, implies_true, exists_const, Option.isNone_some, Option.isNone_none, Option.isSome_some, Option.isSome_none, Option.getD_some]
    exact ⟨0, Hs.new, _, _, rfl, by omega, X1, by simp, e1⟩
  rintro _ g ⟨i, s, ve, vo, rfl, hi, X, hof, e⟩
  by_cases hil : i < l.length
  · rw [List.drop_eq_getElem_cons hil, ofG] at hof
    have hki := hl l[i] (List.getElem_mem hil)
    simp (disch := omega) only [dm_t, wA, wB, wL, wW, wY, Int.fdiv_eq_ediv_of_nonneg, Int.tdiv_eq_ediv_of_nonneg, Int.tmod_eq_emod_of_nonneg, chk_pos, decT, decF, br_pos, br_neg, wX, ↓reduceIte, Nat.reduceEqDiff, Nat.reduceAdd, Nat.reduceSub, Nat.reduceMul, Nat.reduceLeDiff, Nat.reduceLT, Nat.reduceMod, Nat.reduceDiv, Int.reduceToNat, Nat.min_eq_left, IntKind.bits, Int.reducePow, Int.reduceLT, Int.reduceLE, Int.reduceEq, Int.reduceNe, Int.reduceAdd, Int.reduceSub, and_self, reduceCtorEq, decide_eq_true_eq, decide_eq_false_iff_not, eq_self, implies_true, exists_const, Option.isNone_some, Option.isNone_none, Option.isSome_some, Option.isSome_none, Option.getD_some]
    refine (hs.fresh.ext e).at (by rfl) i rfl hil ?_
    intro pb po cs g1 g2 g3
    simp (disch := omega) only [dm_t, wA, wB, wL, wW, wY, Int.fdiv_eq_ediv_of_nonneg, Int.tdiv_eq_ediv_of_nonneg, Int.tmod_eq_emod_of_nonneg, chk_pos, decT, decF, br_pos, br_neg, wX, ↓reduceIte, Nat.reduceEqDiff, Nat.reduceAdd, Nat.reduceSub, Nat.reduceMul, Nat.reduceLeDiff, Nat.reduceLT, Nat.reduceMod, Nat.reduceDiv, Int.reduceToNat, Nat.min_eq_left, IntKind.bits, Int.reducePow, Int.reduceLT, Int.reduceLE, Int.reduceEq, Int.reduceNe, Int.reduceAdd, Int.reduceSub, and_self, reduceCtorEq, decide_eq_true_eq, decide_eq_false_iff_not, eq_self, implies_true, exists_const, Option.isNone_some, Option.isNone_none, Option.isSome_some, Option.isSome_none, Option.getD_some, g1]
    refine (putD_ok X (g3.mono fun y _ _ hy => by rw [hy]; exact hp) hki).k ?_
    rintro _ G2 ⟨rfl, ⟨ve2, vo2, X2⟩, f2⟩
    have E2 : Ext h G2 := Ext.step' e f2 fun y hy => by rw [hy]; exact hp
    by_cases hT : turnE s l[i] = 0
    · rw [if_pos hT] at hof X2
      rw [hT]
      simp (disch := omega) only [dm_t, wA, wB, wL, wW, wY, Int.fdiv_eq_ediv_of_nonneg, Int.tdiv_eq_ediv_of_nonneg, Int.tmod_eq_emod_of_nonneg, chk_pos, decT, decF, br_pos, br_neg, wX, ↓reduceIte, Nat.reduceEqDiff, Nat.reduceAdd, Nat.reduceSub, Nat.reduceMul, Nat.reduceLeDiff, Nat.reduceLT, Nat.reduceMod, Nat.reduceDiv, Int.reduceToNat, Nat.min_eq_left, IntKind.bits, Int.reducePow, Int.reduceLT, Int.reduceLE, Int.reduceEq, Int.reduceNe, Int.reduceAdd, Int.reduceSub, and_self, reduceCtorEq, decide_eq_true_eq, decide_eq_false_iff_not, eq_self, implies_true, exists_const, Option.isNone_some, Option.isNone_none, Option.isSome_some, Option.isSome_none, Option.getD_some]
      exact ⟨⟨i + 1, putS s l[i], ve2, vo2, by simp, by omega, X2, hof, E2⟩, by simp [m1]; omega⟩
    · rw [if_neg hT] at hof
      simp (disch := omega) only [dm_t, wA, wB, wL, wW, wY, Int.fdiv_eq_ediv_of_nonneg, Int.tdiv_eq_ediv_of_nonneg, Int.tmod_eq_emod_of_nonneg, chk_pos, decT, decF, br_pos, br_neg, wX, ↓reduceIte, Nat.reduceEqDiff, Nat.reduceAdd, Nat.reduceSub, Nat.reduceMul, Nat.reduceLeDiff, Nat.reduceLT, Nat.reduceMod, Nat.reduceDiv, Int.reduceToNat, Nat.min_eq_left, IntKind.bits, Int.reducePow, Int.reduceLT, Int.reduceLE, Int.reduceEq, Int.reduceNe, Int.reduceAdd, Int.reduceSub, and_self, reduceCtorEq, decide_eq_true_eq, decide_eq_false_iff_not, eq_self, implies_true, exists_const, Option.isNone_some, Option.isNone_none, Option.isSome_some, Option.isSome_none, Option.getD_some]
      refine ⟨E2, .inr ⟨by rw [← hof]; exact hT, by rw [← hof]⟩⟩
  · obtain rfl : i = l.length := by omega
    rw [List.drop_eq_nil_of_le (by omega), ofG] at hof
    simp (disch := omega) only [dm_t, wA, wB, wL, wW, wY, Int.fdiv_eq_ediv_of_nonneg, Int.tdiv_eq_ediv_of_nonneg, Int.tmod_eq_emod_of_nonneg, chk_pos, decT, decF, br_pos, br_neg, wX, ↓reduceIte, Nat.reduceEqDiff, Nat.reduceAdd, Nat.reduceSub, Nat.reduceMul, Nat.reduceLeDiff, Nat.reduceLT, Nat.reduceMod, Nat.reduceDiv, Int.reduceToNat, Nat.min_eq_left, IntKind.bits, Int.reducePow, Int.reduceLT, Int.reduceLE, Int.reduceEq, Int.reduceNe, Int.reduceAdd, Int.reduceSub, and_self, reduceCtorEq, decide_eq_true_eq, decide_eq_false_iff_not, eq_self, implies_true, exists_const, Option.isNone_some, Option.isNone_none, Option.isSome_some, Option.isSome_none, Option.getD_some]
    exact ⟨e, .inl ⟨by rw [← hof], p, ve, vo, rfl, by rw [← hof]; exact X⟩⟩
end Go.Proofs.Ytmolhemoiplpfaa.hi
