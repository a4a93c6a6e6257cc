/-
  model: tells.
-/
import Derived.Test.YtpgkkpjdajkobaaMx
namespace Go.Proofs.Ytpgkkpjdajkobaa.mo
open Go.Proofs.Ytpgkkpjdajkobaa rr
set_option linter.unusedVariables false
set_option linter.unusedSimpArgs false
theorem zret {bT : TypeId} {g : H} {rb : Nat} {K : H → Prop} (q : g rb = some (.cells #[.bool false] bT)) (hK : ∀ G, G rb = some (.cells #[.bool true] bT) → Fr (fun y => y = rb) g G → K G) : storeH g ⟨rb, 0, none⟩ [.bool true] K :=
  storeH_all q rfl rfl (hK _ (hupd_same _ _ _) (Fr.upd (S := fun y => y = rb) rfl _))
/-- What stands while it tells. -/
structure TS (h g1 : H) (rb lb fb b q q2 : Nat) (leave : Int) (pw qv : Value) (ws zs : List Value) (ps : List (List rc.D)) : Prop where
  qr : g1 rb = some (.cells #[.pointer (some ⟨q, 0, none⟩)] 49)
  ql : g1 lb = some (.cells #[.int .i64 leave] 3)
  qf : g1 fb = some (.cells #[.bool false] 4)
  nf : h fb = none
  A : AI b q2 pw zs ps g1
  Y : RY nos g1 q qv ws ps
  E : Ext h g1
  lim : ∀ l ∈ ps, lims l
  len : ps.length ≤ 1000
def mtt (v : Value) (h : H) : Nat := match v with
  | .pointer (some a) => (match h a.block with | some (.cells c _ _) => m1 (c.getD 0 undef) | _ => 0)
  | _ => 0
section
variable {h g1 : H} {rb lb fb b q q2 : Nat} {leave : Int} {pw qv : Value} {ws zs : List Value} {ps : List (List rc.D)}
theorem te_s7 {g : H} {tb kb : Nat} {t : Nat} {Q0 : Post} (A : TS h g1 rb lb fb b q q2 leave pw qv ws zs ps) (ht : t < 2) (e1 : Ext g1 g) (qt : g tb = some (.cells #[.int .i64 (t : Int)] 3)) (qk : g kb = some (.cells #[.int .i64 0] 3)) (nt : g1 tb = none) (nk : g1 kb = none) (htk : tb ≠ kb)
    (hQ : ∀ G, Ext g1 G → G tb = some (.cells #[.int .i64 (t : Int)] 3) → (G kb = some (.cells #[.int .i64 (ps.length : Int)] 3) ∨ (t = 0 ∧ G kb = some (.cells #[.int .i64 leave] 3))) → Q0 .normal [(4, .pointer (some ⟨rb, 0, none⟩)), (5, .pointer (some ⟨lb, 0, none⟩)), (6, .pointer (some ⟨fb, 0, none⟩)), (7, .func (.func 51) #[] #[.pointer (some ⟨b, 0, none⟩)]), (8, .pointer (some ⟨tb, 0, none⟩)), (9, .pointer (some ⟨kb, 0, none⟩))] G) :
    vc Try.prog c27_s7 Q0 [(4, .pointer (some ⟨rb, 0, none⟩)), (5, .pointer (some ⟨lb, 0, none⟩)), (6, .pointer (some ⟨fb, 0, none⟩)), (7, .func (.func 51) #[] #[.pointer (some ⟨b, 0, none⟩)]), (8, .pointer (some ⟨tb, 0, none⟩)), (9, .pointer (some ⟨kb, 0, none⟩)), (29, .func (.func 51) #[] #[.pointer (some ⟨b, 0, none⟩)])] g := by
  have hlen := A.len
  simp (disch := omega) only [dm_t, wA, wB, wL, wW, wY, Int.fdiv_eq_ediv_of_nonneg, Int.tdiv_eq_ediv_of_nonneg, Int.tmod_eq_emod_of_nonneg, chk_pos, decT, decF, br_pos, br_neg, wX, ↓reduceIte, Nat.reduceEqDiff, Nat.reduceAdd, Nat.reduceSub, Nat.reduceMul, Nat.reduceLeDiff, Nat.reduceLT, Nat.reduceMod, Nat.reduceDiv, Int.reduceToNat, Nat.min_eq_left, IntKind.bits, Int.reducePow, Int.reduceLT, Int.reduceLE, Int.reduceEq, Int.reduceNe, Int.reduceAdd, Int.reduceSub, and_self, reduceCtorEq, decide_eq_true_eq, decide_eq_false_iff_not, eq_self, implies_true, exists_const, Option.isNone_some, Option.isNone_none, Option.isSome_some, Option.isSome_none, Option.getD_some]
  refine vc_rngA rfl rfl (All_it (b := b) (q := q2) (pw := pw) (ws := zs) A.lim hlen) ?_
    (fun i G => Ext g1 G ∧ G tb = some (.cells #[.int .i64 (t : Int)] 3) ∧ G kb = some (.cells #[.int .i64 (i : Int)] 3))
    (fun _ => False) (fun j G => j = 2 ∧ Ext g1 G ∧ G tb = some (.cells #[.int .i64 (t : Int)] 3) ∧ t = 0 ∧ G kb = some (.cells #[.int .i64 leave] 3)) ?_ ?_ ?_ ?_ ?_ ?_ (fun _ h => h.elim) ?_
  · rintro h b o hb h1
    exact h1.ext (Ext.new hb o)
  · rintro i h' ⟨z1, z2, z3⟩
    exact A.A.ext z1
  · rintro i h' h'' ⟨z1, z2, z3⟩ e
    exact ⟨z1.trans e, e.at z2, e.at z3⟩
  · exact ⟨e1, qt, qk⟩
  · rintro i h0 h' args hi ⟨w, rfl, -⟩; rfl
  · rintro L i h0 h1 args hi ⟨r, hr⟩ ⟨z1, z2, z3⟩ e0 ⟨w', rfl, ow'⟩
    have hgi : ps.getD i [] = ps[i] := by simp [List.getD_eq_getElem?_getD, hi]
    rw [hgi] at ow'
    obtain ⟨hli, hki⟩ := A.lim _ (List.getElem_mem hi)
    have f1 : Fr (fun y => y = L) h1 (hdel h1 L) := fun x o hx hn => by show (if x = L then none else h1 x) = _; rw [if_neg hn]; exact hx
    have hL0 : ∀ y, y = L → h0 y ≠ none := fun y hy => by rw [hy, hr]; simp
    have ow1 : OwQ (fun _ _ => True) (fun y => h0 y ≠ none) rc (fun y => h0 y = none) (hdel h1 L) 55 w' ps[i] := OwQ.fr (ow'.imp (Q' := fun _ _ => True) (fun _ h => h) (fun _ _ _ h => h) fun _ _ => trivial) f1 hL0 (fun y hy ho _ => hL0 y hy ho) fun _ _ => trivial
    clear ow'
    obtain ⟨wa, wc, rfl⟩ := ow1.l.len
    have hd0 : ∀ y, h0 y = none → hdel h0 L y = none := fun y hy => by
      show (if y = L then none else h0 y) = none
      split
      · rfl
      · exact hy
    have e05 := hdel_mono L e0
    simp (disch := omega) only [dm_t, wA, wB, wL, wW, wY, Int.fdiv_eq_ediv_of_nonneg, Int.tdiv_eq_ediv_of_nonneg, Int.tmod_eq_emod_of_nonneg, chk_pos, decT, decF, br_pos, br_neg, wX, ↓reduceIte, Nat.reduceEqDiff, Nat.reduceAdd, Nat.reduceSub, Nat.reduceMul, Nat.reduceLeDiff, Nat.reduceLT, Nat.reduceMod, Nat.reduceDiv, Int.reduceToNat, Nat.min_eq_left, IntKind.bits, Int.reducePow, Int.reduceLT, Int.reduceLE, Int.reduceEq, Int.reduceNe, Int.reduceAdd, Int.reduceSub, and_self, reduceCtorEq, decide_eq_true_eq, decide_eq_false_iff_not, eq_self, implies_true, exists_const, Option.isNone_some, Option.isNone_none, Option.isSome_some, Option.isSome_none, Option.getD_some, List.zip_cons_cons, List.zip_nil_right, List.cons_append, List.nil_append]
    generalize hdel h1 L = G at *
    have E1 := z1.trans e05
    have qt1 := e05.at z2
    have qk1 := e05.at z3
    have Y1 := A.Y.ext E1
    obtain ⟨qa, qn, rfl⟩ := Y1.slen
    obtain ⟨p2, o2, a2, c2, i2, t2, -, r2⟩ := Y1.row hi .i64
    have r1 : RepL nos rc G (.slice wa ps[i].length wc) ps[i] := (ow1.l.repS fun y hy hs => hs hy).mono fun _ _ _ h => h.elim
    have k0 : cellAt G ⟨kb, 0, none⟩ = some (.int .i64 (i : Int)) := by rw [cellAt_of qk1]; rfl
    have w0 : cellAt G ⟨rb, 0, none⟩ = some (.pointer (some ⟨q, 0, none⟩)) := by rw [cellAt_of (E1.at A.qr)]; rfl
    simp (disch := omega) only [dm_t, wA, wB, wL, wW, wY, Int.fdiv_eq_ediv_of_nonneg, Int.tdiv_eq_ediv_of_nonneg, Int.tmod_eq_emod_of_nonneg, chk_pos, decT, decF, br_pos, br_neg, wX, ↓reduceIte, Nat.reduceEqDiff, Nat.reduceAdd, Nat.reduceSub, Nat.reduceMul, Nat.reduceLeDiff, Nat.reduceLT, Nat.reduceMod, Nat.reduceDiv, Int.reduceToNat, Nat.min_eq_left, IntKind.bits, Int.reducePow, Int.reduceLT, Int.reduceLE, Int.reduceEq, Int.reduceNe, Int.reduceAdd, Int.reduceSub, and_self, reduceCtorEq, decide_eq_true_eq, decide_eq_false_iff_not, eq_self, implies_true, exists_const, Option.isNone_some, Option.isNone_none, Option.isSome_some, Option.isSome_none, Option.getD_some, k0, w0, Y1.cell, i2, t2]
    refine (DSameAll_ok r1 r2 (by omega)).k ?_
    rintro _ g2 ⟨rfl, e6⟩
    simp (disch := omega) only [dm_t, wA, wB, wL, wW, wY, Int.fdiv_eq_ediv_of_nonneg, Int.tdiv_eq_ediv_of_nonneg, Int.tmod_eq_emod_of_nonneg, chk_pos, decT, decF, br_pos, br_neg, wX, ↓reduceIte, Nat.reduceEqDiff, Nat.reduceAdd, Nat.reduceSub, Nat.reduceMul, Nat.reduceLeDiff, Nat.reduceLT, Nat.reduceMod, Nat.reduceDiv, Int.reduceToNat, Nat.min_eq_left, IntKind.bits, Int.reducePow, Int.reduceLT, Int.reduceLE, Int.reduceEq, Int.reduceNe, Int.reduceAdd, Int.reduceSub, and_self, reduceCtorEq, decide_eq_true_eq, decide_eq_false_iff_not, eq_self, implies_true, exists_const, Option.isNone_some, Option.isNone_none, Option.isSome_some, Option.isSome_none, Option.getD_some, cellAt_ext e6 k0, cellAt_ext e6 w0, (Y1.ext e6).cell, i2, cellAt_ext e6 t2]
    obtain ⟨rows, ok, hrl, -, -⟩ := OwQ.ext ow1 e6 fun _ _ => trivial
    refine vc_loop1 (fun vj h' => ∃ (j : Nat) (rows : List (List Value)), vj = .int .i64 (j : Int) ∧ j ≤ ps[i].length ∧ OwK 3 (fun y => h0 y = none) h' 55 (.slice wa ps[i].length wc) rows ∧ rows.length = ps[i].length ∧ Ext (hdel h0 L) h') (fun vj _ => ps[i].length - m1 vj) ?_ ?_
    · simp (disch := omega) only [dm_t, wA, wB, wL, wW, wY, Int.fdiv_eq_ediv_of_nonneg, Int.tdiv_eq_ediv_of_nonneg, Int.tmod_eq_emod_of_nonneg, chk_pos, decT, decF, br_pos, br_neg, wX, ↓reduceIte, Nat.reduceEqDiff, Nat.reduceAdd, Nat.reduceSub, Nat.reduceMul, Nat.reduceLeDiff, Nat.reduceLT, Nat.reduceMod, Nat.reduceDiv, Int.reduceToNat, Nat.min_eq_left, IntKind.bits, Int.reducePow, Int.reduceLT, Int.reduceLE, Int.reduceEq, Int.reduceNe, Int.reduceAdd, Int.reduceSub, and_self, reduceCtorEq, decide_eq_true_eq, decide_eq_false_iff_not, eq_self, implies_true, exists_const, Option.isNone_some, Option.isNone_none, Option.isSome_some, Option.isSome_none, Option.getD_some]
      exact ⟨0, rows, rfl, by omega, ok, hrl, e05.trans e6⟩
    rintro _ g3 ⟨j, rows, rfl, hj, ok, hrl, e3⟩
    by_cases hjl : j < ps[i].length
    · obtain ⟨pb, po, i3, ho, -, st⟩ := OwK.put ok (i := j) (by omega) .i64
      simp (disch := omega) only [dm_t, wA, wB, wL, wW, wY, Int.fdiv_eq_ediv_of_nonneg, Int.tdiv_eq_ediv_of_nonneg, Int.tmod_eq_emod_of_nonneg, chk_pos, decT, decF, br_pos, br_neg, wX, ↓reduceIte, Nat.reduceEqDiff, Nat.reduceAdd, Nat.reduceSub, Nat.reduceMul, Nat.reduceLeDiff, Nat.reduceLT, Nat.reduceMod, Nat.reduceDiv, Int.reduceToNat, Nat.min_eq_left, IntKind.bits, Int.reducePow, Int.reduceLT, Int.reduceLE, Int.reduceEq, Int.reduceNe, Int.reduceAdd, Int.reduceSub, and_self, reduceCtorEq, decide_eq_true_eq, decide_eq_false_iff_not, eq_self, implies_true, exists_const, Option.isNone_some, Option.isNone_none, Option.isSome_some, Option.isSome_none, Option.getD_some, i3]
      refine st 0 [_, _, _] _ (by simp) rfl fun g4 ok4 f4 => ?_
      simp (disch := omega) only [dm_t, wA, wB, wL, wW, wY, Int.fdiv_eq_ediv_of_nonneg, Int.tdiv_eq_ediv_of_nonneg, Int.tmod_eq_emod_of_nonneg, chk_pos, decT, decF, br_pos, br_neg, wX, ↓reduceIte, Nat.reduceEqDiff, Nat.reduceAdd, Nat.reduceSub, Nat.reduceMul, Nat.reduceLeDiff, Nat.reduceLT, Nat.reduceMod, Nat.reduceDiv, Int.reduceToNat, Nat.min_eq_left, IntKind.bits, Int.reducePow, Int.reduceLT, Int.reduceLE, Int.reduceEq, Int.reduceNe, Int.reduceAdd, Int.reduceSub, and_self, reduceCtorEq, decide_eq_true_eq, decide_eq_false_iff_not, eq_self, implies_true, exists_const, Option.isNone_some, Option.isNone_none, Option.isSome_some, Option.isSome_none, Option.getD_some]
      exact ⟨⟨j + 1, _, by simp, by omega, ok4, by simpa using hrl, Ext.step' e3 f4 fun y hy => by rw [hy]; exact hd0 _ ho⟩, by simp [m1]; omega⟩
    · have qk3 := e3.at z3
      have qt3 := e3.at z2
      have E3 := z1.trans e3
      have k3 : cellAt g3 ⟨kb, 0, none⟩ = some (.int .i64 (i : Int)) := by rw [cellAt_of qk3]; rfl
      simp (disch := omega) only [dm_t, wA, wB, wL, wW, wY, Int.fdiv_eq_ediv_of_nonneg, Int.tdiv_eq_ediv_of_nonneg, Int.tmod_eq_emod_of_nonneg, chk_pos, decT, decF, br_pos, br_neg, wX, ↓reduceIte, Nat.reduceEqDiff, Nat.reduceAdd, Nat.reduceSub, Nat.reduceMul, Nat.reduceLeDiff, Nat.reduceLT, Nat.reduceMod, Nat.reduceDiv, Int.reduceToNat, Nat.min_eq_left, IntKind.bits, Int.reducePow, Int.reduceLT, Int.reduceLE, Int.reduceEq, Int.reduceNe, Int.reduceAdd, Int.reduceSub, and_self, reduceCtorEq, decide_eq_true_eq, decide_eq_false_iff_not, eq_self, implies_true, exists_const, Option.isNone_some, Option.isNone_none, Option.isSome_some, Option.isSome_none, Option.getD_some, k3]
      refine storeH_all (vs := [_]) qk3 rfl rfl ?_
      generalize hG : hupd g3 kb _ = g4
      have f4 : Fr (fun y => y = kb) g3 g4 := hG ▸ Fr.upd (S := fun y => y = kb) rfl _
      have qk4 : g4 kb = some (.cells #[.int .i64 ((i : Int) + 1)] 3) := hG ▸ hupd_same _ _ _
      clear hG
      have qt4 := f4 _ _ qt3 htk
      have E4 : Ext g1 g4 := Ext.step' E3 f4 fun y hy => by rw [hy]; exact nk
      have k4 : cellAt g4 ⟨kb, 0, none⟩ = some (.int .i64 ((i : Int) + 1)) := by rw [cellAt_of qk4]; rfl
      have t4 : cellAt g4 ⟨tb, 0, none⟩ = some (.int .i64 (t : Int)) := by rw [cellAt_of qt4]; rfl
      have l4 : cellAt g4 ⟨lb, 0, none⟩ = some (.int .i64 leave) := by rw [cellAt_of (E4.at A.ql)]; rfl
      have qk4' : g4 kb = some (.cells #[.int .i64 ((i + 1 : Nat) : Int)] 3) := qk4
      by_cases ht0 : t = 0
      · subst ht0
        by_cases hlv : (i : Int) + 1 = leave
        · simp (disch := omega) only [dm_t, wA, wB, wL, wW, wY, Int.fdiv_eq_ediv_of_nonneg, Int.tdiv_eq_ediv_of_nonneg, Int.tmod_eq_emod_of_nonneg, chk_pos, decT, decF, br_pos, br_neg, wX, ↓reduceIte, Nat.reduceEqDiff, Nat.reduceAdd, Nat.reduceSub, Nat.reduceMul, Nat.reduceLeDiff, Nat.reduceLT, Nat.reduceMod, Nat.reduceDiv, Int.reduceToNat, Nat.min_eq_left, IntKind.bits, Int.reducePow, Int.reduceLT, Int.reduceLE, Int.reduceEq, Int.reduceNe, Int.reduceAdd, Int.reduceSub, and_self, reduceCtorEq, decide_eq_true_eq, decide_eq_false_iff_not, eq_self, implies_true, exists_const, Option.isNone_some, Option.isNone_none, Option.isSome_some, Option.isSome_none, Option.getD_some, k4, t4, l4, hlv]
          exact fun _ => ⟨rfl, E4, qt4, by rw [← hlv]; exact qk4⟩
        · simp (disch := omega) only [dm_t, wA, wB, wL, wW, wY, Int.fdiv_eq_ediv_of_nonneg, Int.tdiv_eq_ediv_of_nonneg, Int.tmod_eq_emod_of_nonneg, chk_pos, decT, decF, br_pos, br_neg, wX, ↓reduceIte, Nat.reduceEqDiff, Nat.reduceAdd, Nat.reduceSub, Nat.reduceMul, Nat.reduceLeDiff, Nat.reduceLT, Nat.reduceMod, Nat.reduceDiv, Int.reduceToNat, Nat.min_eq_left, IntKind.bits, Int.reducePow, Int.reduceLT, Int.reduceLE, Int.reduceEq, Int.reduceNe, Int.reduceAdd, Int.reduceSub, and_self, reduceCtorEq, decide_eq_true_eq, decide_eq_false_iff_not, eq_self, implies_true, exists_const, Option.isNone_some, Option.isNone_none, Option.isSome_some, Option.isSome_none, Option.getD_some, k4, t4, l4, hlv]
          exact fun _ => ⟨E4, qt4, qk4'⟩
      · simp (disch := omega) only [dm_t, wA, wB, wL, wW, wY, Int.fdiv_eq_ediv_of_nonneg, Int.tdiv_eq_ediv_of_nonneg, Int.tmod_eq_emod_of_nonneg, chk_pos, decT, decF, br_pos, br_neg, wX, ↓reduceIte, Nat.reduceEqDiff, Nat.reduceAdd, Nat.reduceSub, Nat.reduceMul, Nat.reduceLeDiff, Nat.reduceLT, Nat.reduceMod, Nat.reduceDiv, Int.reduceToNat, Nat.min_eq_left, IntKind.bits, Int.reducePow, Int.reduceLT, Int.reduceLE, Int.reduceEq, Int.reduceNe, Int.reduceAdd, Int.reduceSub, and_self, reduceCtorEq, decide_eq_true_eq, decide_eq_false_iff_not, eq_self, implies_true, exists_const, Option.isNone_some, Option.isNone_none, Option.isSome_some, Option.isSome_none, Option.getD_some, k4, t4, l4, ht0]
        exact fun _ => ⟨E4, qt4, qk4'⟩
  · rintro G ⟨z1, z2, z3⟩
    have k := hQ G z1 z2 (.inl z3)
    simp (disch := omega) only [dm_t, wA, wB, wL, wW, wY, Int.fdiv_eq_ediv_of_nonneg, Int.tdiv_eq_ediv_of_nonneg, Int.tmod_eq_emod_of_nonneg, chk_pos, decT, decF, br_pos, br_neg, wX, ↓reduceIte, Nat.reduceEqDiff, Nat.reduceAdd, Nat.reduceSub, Nat.reduceMul, Nat.reduceLeDiff, Nat.reduceLT, Nat.reduceMod, Nat.reduceDiv, Int.reduceToNat, Nat.min_eq_left, IntKind.bits, Int.reducePow, Int.reduceLT, Int.reduceLE, Int.reduceEq, Int.reduceNe, Int.reduceAdd, Int.reduceSub, and_self, reduceCtorEq, decide_eq_true_eq, decide_eq_false_iff_not, eq_self, implies_true, exists_const, Option.isNone_some, Option.isNone_none, Option.isSome_some, Option.isSome_none, Option.getD_some, k]
  · rintro j G ⟨rfl, z1, z2, z3, z4⟩
    have k := hQ G z1 z2 (.inr ⟨z3, z4⟩)
    simp (disch := omega) only [dm_t, wA, wB, wL, wW, wY, Int.fdiv_eq_ediv_of_nonneg, Int.tdiv_eq_ediv_of_nonneg, Int.tmod_eq_emod_of_nonneg, chk_pos, decT, decF, br_pos, br_neg, wX, ↓reduceIte, Nat.reduceEqDiff, Nat.reduceAdd, Nat.reduceSub, Nat.reduceMul, Nat.reduceLeDiff, Nat.reduceLT, Nat.reduceMod, Nat.reduceDiv, Int.reduceToNat, Nat.min_eq_left, IntKind.bits, Int.reducePow, Int.reduceLT, Int.reduceLE, Int.reduceEq, Int.reduceNe, Int.reduceAdd, Int.reduceSub, and_self, reduceCtorEq, decide_eq_true_eq, decide_eq_false_iff_not, eq_self, implies_true, exists_const, Option.isNone_some, Option.isNone_none, Option.isSome_some, Option.isSome_none, Option.getD_some, k]
abbrev tQ (h : H) : Post := retC [.c 6 4] (okR (qT h))
theorem te_s4 {g : H} {tb : Nat} (A : TS h g1 rb lb fb b q q2 leave pw qv ws zs ps) (e1 : Ext g1 g) (qt : g tb = some (.cells #[.int .i64 0] 3)) (nt : g1 tb = none) :
    vc Try.prog c27_s4 (seqQ Try.prog [6] c27_s19 (tQ h)) [(4, .pointer (some ⟨rb, 0, none⟩)), (5, .pointer (some ⟨lb, 0, none⟩)), (6, .pointer (some ⟨fb, 0, none⟩)), (7, .func (.func 51) #[] #[.pointer (some ⟨b, 0, none⟩)]), (8, .pointer (some ⟨tb, 0, none⟩))] g := by
  have hlen := A.len
  simp (disch := omega) only [dm_t, wA, wB, wL, wW, wY, Int.fdiv_eq_ediv_of_nonneg, Int.tdiv_eq_ediv_of_nonneg, Int.tmod_eq_emod_of_nonneg, chk_pos, decT, decF, br_pos, br_neg, wX, ↓reduceIte, Nat.reduceEqDiff, Nat.reduceAdd, Nat.reduceSub, Nat.reduceMul, Nat.reduceLeDiff, Nat.reduceLT, Nat.reduceMod, Nat.reduceDiv, Int.reduceToNat, Nat.min_eq_left, IntKind.bits, Int.reducePow, Int.reduceLT, Int.reduceLE, Int.reduceEq, Int.reduceNe, Int.reduceAdd, Int.reduceSub, and_self, reduceCtorEq, decide_eq_true_eq, decide_eq_false_iff_not, eq_self, implies_true, exists_const, Option.isNone_some, Option.isNone_none, Option.isSome_some, Option.isSome_none, Option.getD_some]
  refine vc_loop1 (fun v G => ∃ (tb t : Nat), v = .pointer (some ⟨tb, 0, none⟩) ∧ t ≤ 2 ∧ G tb = some (.cells #[.int .i64 (t : Int)] 3) ∧ g1 tb = none ∧ Ext g1 G) (fun v G => 2 - mtt v G) ?_ ?_
  · simp (disch := omega) only [dm_t, wA, wB, wL, wW, wY, Int.fdiv_eq_ediv_of_nonneg, Int.tdiv_eq_ediv_of_nonneg, Int.tmod_eq_emod_of_nonneg, chk_pos, decT, decF, br_pos, br_neg, wX, ↓reduceIte, Nat.reduceEqDiff, Nat.reduceAdd, Nat.reduceSub, Nat.reduceMul, Nat.reduceLeDiff, Nat.reduceLT, Nat.reduceMod, Nat.reduceDiv, Int.reduceToNat, Nat.min_eq_left, IntKind.bits, Int.reducePow, Int.reduceLT, Int.reduceLE, Int.reduceEq, Int.reduceNe, Int.reduceAdd, Int.reduceSub, and_self, reduceCtorEq, decide_eq_true_eq, decide_eq_false_iff_not, eq_self, implies_true, exists_const, Option.isNone_some, Option.isNone_none, Option.isSome_some, Option.isSome_none, Option.getD_some]
    exact ⟨tb, 0, rfl, by omega, qt, nt, e1⟩
  rintro _ g2 ⟨tb, t, rfl, ht, qt, nt, e1⟩
  have t0 : cellAt g2 ⟨tb, 0, none⟩ = some (.int .i64 (t : Int)) := by rw [cellAt_of qt]; rfl
  by_cases htt : t < 2
  · simp (disch := omega) only [dm_t, wA, wB, wL, wW, wY, Int.fdiv_eq_ediv_of_nonneg, Int.tdiv_eq_ediv_of_nonneg, Int.tmod_eq_emod_of_nonneg, chk_pos, decT, decF, br_pos, br_neg, wX, ↓reduceIte, Nat.reduceEqDiff, Nat.reduceAdd, Nat.reduceSub, Nat.reduceMul, Nat.reduceLeDiff, Nat.reduceLT, Nat.reduceMod, Nat.reduceDiv, Int.reduceToNat, Nat.min_eq_left, IntKind.bits, Int.reducePow, Int.reduceLT, Int.reduceLE, Int.reduceEq, Int.reduceNe, Int.reduceAdd, Int.reduceSub, and_self, reduceCtorEq, decide_eq_true_eq, decide_eq_false_iff_not, eq_self, implies_true, exists_const, Option.isNone_some, Option.isNone_none, Option.isSome_some, Option.isSome_none, Option.getD_some, t0]
    intro kb hkb
    refine storeH_all (vs := [_]) (hupd_same _ _ _) rfl rfl ?_
    rw [hupd_hupd]
    generalize hG : hupd g2 kb _ = g3
    obtain ⟨e3, qk⟩ := new_ext hG hkb
    clear hG
    have htk := ne_of qt hkb
    simp (disch := omega) only [dm_t, wV, wB, wL, wW, wU, Int.fdiv_eq_ediv_of_nonneg, Int.tdiv_eq_ediv_of_nonneg, Int.tmod_eq_emod_of_nonneg, chk_pos, decT, decF, br_pos, br_neg, wX, ↓reduceIte, Nat.reduceEqDiff, Nat.reduceAdd, Nat.reduceSub, Nat.reduceMul, Nat.reduceLeDiff, Nat.reduceLT, Nat.reduceMod, Nat.reduceDiv, Int.reduceToNat, Nat.min_eq_left, IntKind.bits, Int.reducePow, Int.reduceLT, Int.reduceLE, Int.reduceEq, Int.reduceNe, Int.reduceAdd, Int.reduceSub, and_self, reduceCtorEq, decide_eq_true_eq, decide_eq_false_iff_not, eq_self, implies_true, exists_const, Option.isNone_some, Option.isNone_none, Option.isSome_some, Option.isSome_none, Option.getD_some]
    unfold c27_s6
    rw [vc_seq, vc_seq, vc_ops]
    simp (disch := omega) only [dm_t, wV, wB, wL, wW, wU, Int.fdiv_eq_ediv_of_nonneg, Int.tdiv_eq_ediv_of_nonneg, Int.tmod_eq_emod_of_nonneg, chk_pos, decT, decF, br_pos, br_neg, wX, ↓reduceIte, Nat.reduceEqDiff, Nat.reduceAdd, Nat.reduceSub, Nat.reduceMul, Nat.reduceLeDiff, Nat.reduceLT, Nat.reduceMod, Nat.reduceDiv, Int.reduceToNat, Nat.min_eq_left, IntKind.bits, Int.reducePow, Int.reduceLT, Int.reduceLE, Int.reduceEq, Int.reduceNe, Int.reduceAdd, Int.reduceSub, and_self, reduceCtorEq, decide_eq_true_eq, decide_eq_false_iff_not, eq_self, implies_true, exists_const, Option.isNone_some, Option.isNone_none, Option.isSome_some, Option.isSome_none, Option.getD_some]
    refine te_s7 A htt (e1.trans e3) (e3.at qt) qk nt (e1.bk hkb) htk ?_
    intro G E2 qt2 hk
    have Y2 := A.Y.ext E2
    obtain ⟨qa, qn, rfl⟩ := Y2.slen
    have t2 : cellAt G ⟨tb, 0, none⟩ = some (.int .i64 (t : Int)) := by rw [cellAt_of qt2]; rfl
    have w2 : cellAt G ⟨rb, 0, none⟩ = some (.pointer (some ⟨q, 0, none⟩)) := by rw [cellAt_of (E2.at A.qr)]; rfl
    have l2 : cellAt G ⟨lb, 0, none⟩ = some (.int .i64 leave) := by rw [cellAt_of (E2.at A.ql)]; rfl
    have fin : ∀ kv : Int, G kb = some (.cells #[.int .i64 kv] 3) → cellAt G ⟨kb, 0, none⟩ = some (.int .i64 kv) := fun kv q => by rw [cellAt_of q]; rfl
    have nx : ∀ (db : Nat) (G' : H), G db = none → G' = hupd G db (.cells #[.int .i64 ((t : Int) + 1)] 3) → (∃ (tb t : Nat), Value.pointer (some ⟨db, 0, none⟩) = .pointer (some ⟨tb, 0, none⟩) ∧ t ≤ 2 ∧ G' tb = some (.cells #[.int .i64 (t : Int)] 3) ∧ g1 tb = none ∧ Ext g1 G') ∧ 2 - mtt (.pointer (some ⟨db, 0, none⟩)) G' < 2 - mtt (.pointer (some ⟨tb, 0, none⟩)) g2 := by
      rintro db G' hdb rfl
      refine ⟨⟨db, t + 1, rfl, by omega, hupd_same _ _ _, E2.bk hdb, E2.trans (Ext.new hdb _)⟩, ?_⟩
      have m1' : mtt (.pointer (some ⟨db, 0, none⟩)) (hupd G db (.cells #[.int .i64 ((t : Int) + 1)] 3)) = t + 1 := by
        simp only [mtt, hupd_same]; show Int.toNat ((t : Int) + 1) = t + 1; omega
      have m2' : mtt (.pointer (some ⟨tb, 0, none⟩)) g2 = t := by
        simp only [mtt, qt]; show Int.toNat (t : Int) = t; omega
      rw [m1', m2']; omega
    rcases hk with hk | ⟨rfl, hk⟩
    · have k0 := fin _ hk
      simp (disch := omega) only [dm_t, wA, wB, wL, wW, wY, Int.fdiv_eq_ediv_of_nonneg, Int.tdiv_eq_ediv_of_nonneg, Int.tmod_eq_emod_of_nonneg, chk_pos, decT, decF, br_pos, br_neg, wX, ↓reduceIte, Nat.reduceEqDiff, Nat.reduceAdd, Nat.reduceSub, Nat.reduceMul, Nat.reduceLeDiff, Nat.reduceLT, Nat.reduceMod, Nat.reduceDiv, Int.reduceToNat, Nat.min_eq_left, IntKind.bits, Int.reducePow, Int.reduceLT, Int.reduceLE, Int.reduceEq, Int.reduceNe, Int.reduceAdd, Int.reduceSub, and_self, reduceCtorEq, decide_eq_true_eq, decide_eq_false_iff_not, eq_self, implies_true, exists_const, Option.isNone_some, Option.isNone_none, Option.isSome_some, Option.isSome_none, Option.getD_some, k0, w2, t2, Y2.cell]
      intro db hdb
      refine storeH_all (vs := [_]) (hupd_same _ _ _) rfl rfl ?_
      rw [hupd_hupd]
      simp (disch := omega) only [dm_t, wA, wB, wL, wW, wY, Int.fdiv_eq_ediv_of_nonneg, Int.tdiv_eq_ediv_of_nonneg, Int.tmod_eq_emod_of_nonneg, chk_pos, decT, decF, br_pos, br_neg, wX, ↓reduceIte, Nat.reduceEqDiff, Nat.reduceAdd, Nat.reduceSub, Nat.reduceMul, Nat.reduceLeDiff, Nat.reduceLT, Nat.reduceMod, Nat.reduceDiv, Int.reduceToNat, Nat.min_eq_left, IntKind.bits, Int.reducePow, Int.reduceLT, Int.reduceLE, Int.reduceEq, Int.reduceNe, Int.reduceAdd, Int.reduceSub, and_self, reduceCtorEq, decide_eq_true_eq, decide_eq_false_iff_not, eq_self, implies_true, exists_const, Option.isNone_some, Option.isNone_none, Option.isSome_some, Option.isSome_none, Option.getD_some, cellAt_same]
      refine storeH_all (vs := [_]) (hupd_same _ _ _) rfl rfl ?_
      rw [hupd_hupd]
      simp (disch := omega) only [dm_t, wA, wB, wL, wW, wY, Int.fdiv_eq_ediv_of_nonneg, Int.tdiv_eq_ediv_of_nonneg, Int.tmod_eq_emod_of_nonneg, chk_pos, decT, decF, br_pos, br_neg, wX, ↓reduceIte, Nat.reduceEqDiff, Nat.reduceAdd, Nat.reduceSub, Nat.reduceMul, Nat.reduceLeDiff, Nat.reduceLT, Nat.reduceMod, Nat.reduceDiv, Int.reduceToNat, Nat.min_eq_left, IntKind.bits, Int.reducePow, Int.reduceLT, Int.reduceLE, Int.reduceEq, Int.reduceNe, Int.reduceAdd, Int.reduceSub, and_self, reduceCtorEq, decide_eq_true_eq, decide_eq_false_iff_not, eq_self, implies_true, exists_const, Option.isNone_some, Option.isNone_none, Option.isSome_some, Option.isSome_none, Option.getD_some]
      exact nx db _ hdb (by first | rfl | simp)
    · have k0 := fin _ hk
      by_cases hl : leave = (ps.length : Int)
      · rw [hl] at k0 l2
        simp (disch := omega) only [dm_t, wA, wB, wL, wW, wY, Int.fdiv_eq_ediv_of_nonneg, Int.tdiv_eq_ediv_of_nonneg, Int.tmod_eq_emod_of_nonneg, chk_pos, decT, decF, br_pos, br_neg, wX, ↓reduceIte, Nat.reduceEqDiff, Nat.reduceAdd, Nat.reduceSub, Nat.reduceMul, Nat.reduceLeDiff, Nat.reduceLT, Nat.reduceMod, Nat.reduceDiv, Int.reduceToNat, Nat.min_eq_left, IntKind.bits, Int.reducePow, Int.reduceLT, Int.reduceLE, Int.reduceEq, Int.reduceNe, Int.reduceAdd, Int.reduceSub, and_self, reduceCtorEq, decide_eq_true_eq, decide_eq_false_iff_not, eq_self, implies_true, exists_const, Option.isNone_some, Option.isNone_none, Option.isSome_some, Option.isSome_none, Option.getD_some, k0, w2, t2, l2, Y2.cell]
        intro db hdb
        refine storeH_all (vs := [_]) (hupd_same _ _ _) rfl rfl ?_
        rw [hupd_hupd]
        simp (disch := omega) only [dm_t, wA, wB, wL, wW, wY, Int.fdiv_eq_ediv_of_nonneg, Int.tdiv_eq_ediv_of_nonneg, Int.tmod_eq_emod_of_nonneg, chk_pos, decT, decF, br_pos, br_neg, wX, ↓reduceIte, Nat.reduceEqDiff, Nat.reduceAdd, Nat.reduceSub, Nat.reduceMul, Nat.reduceLeDiff, Nat.reduceLT, Nat.reduceMod, Nat.reduceDiv, Int.reduceToNat, Nat.min_eq_left, IntKind.bits, Int.reducePow, Int.reduceLT, Int.reduceLE, Int.reduceEq, Int.reduceNe, Int.reduceAdd, Int.reduceSub, and_self, reduceCtorEq, decide_eq_true_eq, decide_eq_false_iff_not, eq_self, implies_true, exists_const, Option.isNone_some, Option.isNone_none, Option.isSome_some, Option.isSome_none, Option.getD_some, cellAt_same]
        refine storeH_all (vs := [_]) (hupd_same _ _ _) rfl rfl ?_
        rw [hupd_hupd]
        simp (disch := omega) only [dm_t, wA, wB, wL, wW, wY, Int.fdiv_eq_ediv_of_nonneg, Int.tdiv_eq_ediv_of_nonneg, Int.tmod_eq_emod_of_nonneg, chk_pos, decT, decF, br_pos, br_neg, wX, ↓reduceIte, Nat.reduceEqDiff, Nat.reduceAdd, Nat.reduceSub, Nat.reduceMul, Nat.reduceLeDiff, Nat.reduceLT, Nat.reduceMod, Nat.reduceDiv, Int.reduceToNat, Nat.min_eq_left, IntKind.bits, Int.reducePow, Int.reduceLT, Int.reduceLE, Int.reduceEq, Int.reduceNe, Int.reduceAdd, Int.reduceSub, and_self, reduceCtorEq, decide_eq_true_eq, decide_eq_false_iff_not, eq_self, implies_true, exists_const, Option.isNone_some, Option.isNone_none, Option.isSome_some, Option.isSome_none, Option.getD_some]
        exact nx db _ hdb (by first | rfl | simp)
      · simp (disch := omega) only [dm_t, wA, wB, wL, wW, wY, Int.fdiv_eq_ediv_of_nonneg, Int.tdiv_eq_ediv_of_nonneg, Int.tmod_eq_emod_of_nonneg, chk_pos, decT, decF, br_pos, br_neg, wX, ↓reduceIte, Nat.reduceEqDiff, Nat.reduceAdd, Nat.reduceSub, Nat.reduceMul, Nat.reduceLeDiff, Nat.reduceLT, Nat.reduceMod, Nat.reduceDiv, Int.reduceToNat, Nat.min_eq_left, IntKind.bits, Int.reducePow, Int.reduceLT, Int.reduceLE, Int.reduceEq, Int.reduceNe, Int.reduceAdd, Int.reduceSub, and_self, reduceCtorEq, decide_eq_true_eq, decide_eq_false_iff_not, eq_self, implies_true, exists_const, Option.isNone_some, Option.isNone_none, Option.isSome_some, Option.isSome_none, Option.getD_some, k0, w2, t2, l2, hl, Y2.cell]
        intro db hdb
        refine storeH_all (vs := [_]) (hupd_same _ _ _) rfl rfl ?_
        rw [hupd_hupd]
        simp (disch := omega) only [dm_t, wA, wB, wL, wW, wY, Int.fdiv_eq_ediv_of_nonneg, Int.tdiv_eq_ediv_of_nonneg, Int.tmod_eq_emod_of_nonneg, chk_pos, decT, decF, br_pos, br_neg, wX, ↓reduceIte, Nat.reduceEqDiff, Nat.reduceAdd, Nat.reduceSub, Nat.reduceMul, Nat.reduceLeDiff, Nat.reduceLT, Nat.reduceMod, Nat.reduceDiv, Int.reduceToNat, Nat.min_eq_left, IntKind.bits, Int.reducePow, Int.reduceLT, Int.reduceLE, Int.reduceEq, Int.reduceNe, Int.reduceAdd, Int.reduceSub, and_self, reduceCtorEq, decide_eq_true_eq, decide_eq_false_iff_not, eq_self, implies_true, exists_const, Option.isNone_some, Option.isNone_none, Option.isSome_some, Option.isSome_none, Option.getD_some, cellAt_same]
        refine storeH_all (vs := [_]) (hupd_same _ _ _) rfl rfl ?_
        rw [hupd_hupd]
        simp (disch := omega) only [dm_t, wA, wB, wL, wW, wY, Int.fdiv_eq_ediv_of_nonneg, Int.tdiv_eq_ediv_of_nonneg, Int.tmod_eq_emod_of_nonneg, chk_pos, decT, decF, br_pos, br_neg, wX, ↓reduceIte, Nat.reduceEqDiff, Nat.reduceAdd, Nat.reduceSub, Nat.reduceMul, Nat.reduceLeDiff, Nat.reduceLT, Nat.reduceMod, Nat.reduceDiv, Int.reduceToNat, Nat.min_eq_left, IntKind.bits, Int.reducePow, Int.reduceLT, Int.reduceLE, Int.reduceEq, Int.reduceNe, Int.reduceAdd, Int.reduceSub, and_self, reduceCtorEq, decide_eq_true_eq, decide_eq_false_iff_not, eq_self, implies_true, exists_const, Option.isNone_some, Option.isNone_none, Option.isSome_some, Option.isSome_none, Option.getD_some]
        exact nx db _ hdb (by first | rfl | simp)
  · simp (disch := omega) only [dm_t, wA, wB, wL, wW, wY, Int.fdiv_eq_ediv_of_nonneg, Int.tdiv_eq_ediv_of_nonneg, Int.tmod_eq_emod_of_nonneg, chk_pos, decT, decF, br_pos, br_neg, wX, ↓reduceIte, Nat.reduceEqDiff, Nat.reduceAdd, Nat.reduceSub, Nat.reduceMul, Nat.reduceLeDiff, Nat.reduceLT, Nat.reduceMod, Nat.reduceDiv, Int.reduceToNat, Nat.min_eq_left, IntKind.bits, Int.reducePow, Int.reduceLT, Int.reduceLE, Int.reduceEq, Int.reduceNe, Int.reduceAdd, Int.reduceSub, and_self, reduceCtorEq, decide_eq_true_eq, decide_eq_false_iff_not, eq_self, implies_true, exists_const, Option.isNone_some, Option.isNone_none, Option.isSome_some, Option.isSome_none, Option.getD_some, t0]
    refine zret (e1.at A.qf) fun G q f => ?_
    simp (disch := omega) only [dm_t, wA, wB, wL, wW, wY, Int.fdiv_eq_ediv_of_nonneg, Int.tdiv_eq_ediv_of_nonneg, Int.tmod_eq_emod_of_nonneg, chk_pos, decT, decF, br_pos, br_neg, wX, ↓reduceIte, Nat.reduceEqDiff, Nat.reduceAdd, Nat.reduceSub, Nat.reduceMul, Nat.reduceLeDiff, Nat.reduceLT, Nat.reduceMod, Nat.reduceDiv, Int.reduceToNat, Nat.min_eq_left, IntKind.bits, Int.reducePow, Int.reduceLT, Int.reduceLE, Int.reduceEq, Int.reduceNe, Int.reduceAdd, Int.reduceSub, and_self, reduceCtorEq, decide_eq_true_eq, decide_eq_false_iff_not, eq_self, implies_true, exists_const, Option.isNone_some, Option.isNone_none, Option.isSome_some, Option.isSome_none, Option.getD_some, cellAt_of q]
    exact ⟨rfl, Ext.step' (A.E.trans e1) f fun y hy => by rw [hy]; exact A.nf⟩
end
theorem tells_ok {S T : Nat → Prop} {h0 g : H} {p q : Nat} {pv qv : Value} {vs ws : List Value} {ps : List (List rc.D)} {leave : Int} (X : MX S h0 g p pv vs ps) (Y : RY T g q qv ws ps) (hps : ∀ l ∈ ps, lims l) (hn : ps.length ≤ 1000) (hl : inI leave) :
    Ok Try.prog 27 #[.pointer (some ⟨p, 0, none⟩), .pointer (some ⟨q, 0, none⟩), .int .i64 leave] g (qT g) := by
  refine c27_ok (args := [_, _, _]) (by simp) ?_
  simp (disch := omega) only [dm_t, wA, wB, wL, wW, wY, Int.fdiv_eq_ediv_of_nonneg, Int.tdiv_eq_ediv_of_nonneg, Int.tmod_eq_emod_of_nonneg, chk_pos, decT, decF, br_pos, br_neg, wX, ↓reduceIte, Nat.reduceEqDiff, Nat.reduceAdd, Nat.reduceSub, Nat.reduceMul, Nat.reduceLeDiff, Nat.reduceLT, Nat.reduceMod, Nat.reduceDiv, Int.reduceToNat, Nat.min_eq_left, IntKind.bits, Int.reducePow, Int.reduceLT, Int.reduceLE, Int.reduceEq, Int.reduceNe, Int.reduceAdd, Int.reduceSub, and_self, reduceCtorEq, decide_eq_true_eq, decide_eq_false_iff_not, eq_self, implies_true, exists_const, Option.isNone_some, Option.isNone_none, Option.isSome_some, Option.isSome_none, Option.getD_some]
  intro rb hrb lb hlb fb hfb
  generalize hG : hupd g rb _ = g1 at hlb hfb ⊢
  obtain ⟨e1, qr⟩ := new_ext hG hrb
  clear hG
  generalize hG : hupd g1 lb _ = g2 at hfb ⊢
  obtain ⟨e2, ql⟩ := new_ext hG hlb
  clear hG
  generalize hG : hupd g2 fb _ = g3
  obtain ⟨e3, qf⟩ := new_ext hG hfb
  clear hG
  have E2 := e1.trans e2
  have nf := E2.bk hfb
  replace qr := e3.at (e2.at qr)
  replace ql := e3.at ql
  have E3 := E2.trans e3
  have X3 := X.ext E3
  have Y3 := Y.ext E3
  obtain ⟨qa, qn, rfl⟩ := Y3.slen
  have r0 : cellAt g3 ⟨rb, 0, none⟩ = some (.pointer (some ⟨q, 0, none⟩)) := by rw [cellAt_of qr]; rfl
  simp (disch := omega) only [dm_t, wA, wB, wL, wW, wY, Int.fdiv_eq_ediv_of_nonneg, Int.tdiv_eq_ediv_of_nonneg, Int.tmod_eq_emod_of_nonneg, chk_pos, decT, decF, br_pos, br_neg, wX, ↓reduceIte, Nat.reduceEqDiff, Nat.reduceAdd, Nat.reduceSub, Nat.reduceMul, Nat.reduceLeDiff, Nat.reduceLT, Nat.reduceMod, Nat.reduceDiv, Int.reduceToNat, Nat.min_eq_left, IntKind.bits, Int.reducePow, Int.reduceLT, Int.reduceLE, Int.reduceEq, Int.reduceNe, Int.reduceAdd, Int.reduceSub, and_self, reduceCtorEq, decide_eq_true_eq, decide_eq_false_iff_not, eq_self, implies_true, exists_const, Option.isNone_some, Option.isNone_none, Option.isSome_some, Option.isSome_none, Option.getD_some, r0, Y3.cell]
  refine (Parts_ok X3).k ?_
  rintro _ _ ⟨rfl, rfl⟩
  simp (disch := omega) only [dm_t, wA, wB, wL, wW, wY, Int.fdiv_eq_ediv_of_nonneg, Int.tdiv_eq_ediv_of_nonneg, Int.tmod_eq_emod_of_nonneg, chk_pos, decT, decF, br_pos, br_neg, wX, ↓reduceIte, Nat.reduceEqDiff, Nat.reduceAdd, Nat.reduceSub, Nat.reduceMul, Nat.reduceLeDiff, Nat.reduceLT, Nat.reduceMod, Nat.reduceDiv, Int.reduceToNat, Nat.min_eq_left, IntKind.bits, Int.reducePow, Int.reduceLT, Int.reduceLE, Int.reduceEq, Int.reduceNe, Int.reduceAdd, Int.reduceSub, and_self, reduceCtorEq, decide_eq_true_eq, decide_eq_false_iff_not, eq_self, implies_true, exists_const, Option.isNone_some, Option.isNone_none, Option.isSome_some, Option.isSome_none, Option.getD_some, r0, Y3.cell]
  refine (All_ok X3 hps).k ?_
  rintro _ g4 ⟨b, q2, pw, zs, rfl, A, e4⟩
  simp (disch := omega) only [dm_t, wA, wB, wL, wW, wY, Int.fdiv_eq_ediv_of_nonneg, Int.tdiv_eq_ediv_of_nonneg, Int.tmod_eq_emod_of_nonneg, chk_pos, decT, decF, br_pos, br_neg, wX, ↓reduceIte, Nat.reduceEqDiff, Nat.reduceAdd, Nat.reduceSub, Nat.reduceMul, Nat.reduceLeDiff, Nat.reduceLT, Nat.reduceMod, Nat.reduceDiv, Int.reduceToNat, Nat.min_eq_left, IntKind.bits, Int.reducePow, Int.reduceLT, Int.reduceLE, Int.reduceEq, Int.reduceNe, Int.reduceAdd, Int.reduceSub, and_self, reduceCtorEq, decide_eq_true_eq, decide_eq_false_iff_not, eq_self, implies_true, exists_const, Option.isNone_some, Option.isNone_none, Option.isSome_some, Option.isSome_none, Option.getD_some]
  intro tb htb
  refine storeH_all (vs := [_]) (hupd_same _ _ _) rfl rfl ?_
  rw [hupd_hupd]
  have AA : TS g g4 rb lb fb b q q2 leave pw (.slice qa ps.length qn) ws zs ps := ⟨e4.at qr, e4.at ql, e4.at qf, nf, A, (Y3.ext e4).mono fun _ _ _ h => h.elim, E3.trans e4, hps, hn⟩
  have k := te_s4 AA (Ext.new htb (.cells #[.int .i64 0] 3)) (hupd_same _ _ _) htb
  revert k
  simp (disch := omega) only [dm_t, wA, wB, wL, wW, wY, Int.fdiv_eq_ediv_of_nonneg, Int.tdiv_eq_ediv_of_nonneg, Int.tmod_eq_emod_of_nonneg, chk_pos, decT, decF, br_pos, br_neg, wX, ↓reduceIte, Nat.reduceEqDiff, Nat.reduceAdd, Nat.reduceSub, Nat.reduceMul, Nat.reduceLeDiff, Nat.reduceLT, Nat.reduceMod, Nat.reduceDiv, Int.reduceToNat, Nat.min_eq_left, IntKind.bits, Int.reducePow, Int.reduceLT, Int.reduceLE, Int.reduceEq, Int.reduceNe, Int.reduceAdd, Int.reduceSub, and_self, reduceCtorEq, decide_eq_true_eq, decide_eq_false_iff_not, eq_self, implies_true, exists_const, Option.isNone_some, Option.isNone_none, Option.isSome_some, Option.isSome_none, Option.getD_some]
  exact id
end Go.Proofs.Ytpgkkpjdajkobaa.mo
