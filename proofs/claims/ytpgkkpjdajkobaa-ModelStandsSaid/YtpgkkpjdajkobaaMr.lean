/-
  model: ModelStands, walked.
-/
import Derived.Test.YtpgkkpjdajkobaaMq
namespace Go.Proofs.Ytpgkkpjdajkobaa.mo
open Go.Proofs.Ytpgkkpjdajkobaa rr
set_option linter.unusedVariables false
set_option linter.unusedSimpArgs false
abbrev qT (h : H) : Value → H → Prop := fun v h' => v = .bool true ∧ Ext h h'
theorem M2.done {h g : H} {L : List Nat} {p q : Nat} {pv qv : Value} {vs ws : List Value} {ps qs : List (List rc.D)} (Z : M2 L h g p q pv qv vs ws ps qs) : MX nos h g p pv vs ps := Z.X.avoid fun _ h => h.elim
theorem tryP_yB {ps : List (List rc.D)} {x : callT.D} (hps : ∀ l ∈ ps, lims l) : yB (tryP ps x) := by
  have hg : (ps.getD (Int.toNat x.2.1) []).length ≤ 1000000 := by
    rw [List.getD_eq_getElem?_getD]
    by_cases hi : Int.toNat x.2.1 < ps.length
    · rw [List.getElem?_eq_getElem hi]; exact (hps _ (List.getElem_mem hi)).1
    · rw [List.getElem?_eq_none (by omega)]; simp
  have hn : inI ((ps.getD (Int.toNat x.2.1) []).length : Int) := inI_len (by omega)
  unfold tryP prodP fetchP err
  repeat' split
  all_goals first
    | exact ⟨by show inI _; unfold inI; decide, by show inI _; unfold inI; decide⟩
    | exact ⟨inI0, hn⟩
section
variable {h g : H} {L : List Nat} {p q : Nat} {pv qv : Value} {vs ws : List Value} {ps qs : List (List rc.D)}
theorem ms_s5 {Q : Post} {x : callT.D} {l : List stepT.D} {sa : Option Addr} {sc i : Nat} (hi : i < l.length) (hx : x = l[i].2.2.2.1) (X : MX nos h g p pv vs ps) (E : Ext h g) (hs : RepL nos stepT h (.slice sa l.length sc) l) (hps : ∀ l ∈ ps, lims l) (hps2 : ∀ l ∈ doP ps x, lims l) (hl : x.2.2.1.length ≤ 260 ∧ byteOk x.2.2.1)
    (hQ1 : ∀ G vs', MX nos h G p pv vs' (doP ps x) → Ext h G → vc Try.prog c4_s17 Q [(1, .slice sa l.length sc), (5, .pointer (some ⟨p, 0, none⟩)), (7, .int .i64 (i : Int))] G)
    (hQ2 : ∀ {G L q qv vs' ws c r cr rr}, M2 L h G p q pv qv vs' ws (doP ps x) ps → c ∈ L → G c = some (.cells (cCs x cr).toArray 26) → G r = some (.cells (yCs (tryP ps x) rr).toArray 36) → r ∈ L → Rep nos callT h (cCs x cr) x → @Eq Int x.1 1 → @Eq Int (tryP ps x).1 0 →
      vc Try.prog c4_s10 (blockQ 1 (seqQ Try.prog [1, 5, 7] c4_s17 Q)) [(1, .slice sa l.length sc), (5, .pointer (some ⟨p, 0, none⟩)), (7, .int .i64 (i : Int)), (8, .pointer (some ⟨c, 0, none⟩)), (9, .pointer (some ⟨q, 0, none⟩)), (10, .pointer (some ⟨r, 0, none⟩))] G) :
    vc Try.prog c4_s5 Q [(1, .slice sa l.length sc), (5, .pointer (some ⟨p, 0, none⟩)), (7, .int .i64 (i : Int))] g := by
  subst hx
  obtain ⟨b', o, cr, d, gi, k1, -, -, -, -, -, -, -, -, -, rc1, -⟩ := step_at hs hi
  have rc1' := rc1
  obtain ⟨cr', e, _, hcr⟩ := rep_call.1 rc1
  simp only [List.cons.injEq, and_true, true_and] at e
  obtain rfl := e
  obtain ⟨ca, cc, rfl⟩ := hcr.len
  have k1' := cellsAt_ext E k1
  have hlx : lims l[i].2.2.2.1.2.2.1 := ⟨by omega, hl.2⟩
  generalize l[i].2.2.2.1 = x at *
  simp (disch := omega) only [dm_t, wA, wB, wL, wW, wY, Int.fdiv_eq_ediv_of_nonneg, Int.tdiv_eq_ediv_of_nonneg, Int.tmod_eq_emod_of_nonneg, chk_pos, decT, decF, br_pos, br_neg, wX, ↓reduceIte, Nat.reduceEqDiff, Nat.reduceAdd, Nat.reduceSub, Nat.reduceMul, Nat.reduceLeDiff, Nat.reduceLT, Nat.reduceMod, Nat.reduceDiv, Int.reduceToNat, Nat.min_eq_left, IntKind.bits, Int.reducePow, Int.reduceLT, Int.reduceLE, Int.reduceEq, Int.reduceNe, Int.reduceAdd, Int.reduceSub, and_self, reduceCtorEq, decide_eq_true_eq, decide_eq_false_iff_not, eq_self, implies_true, exists_const, Option.isNone_some, Option.isNone_none, Option.isSome_some, Option.isSome_none, Option.getD_some, gi, k1']
  intro cb hcb
  refine res5 x _ (hupd_same _ _ _) rfl rfl ?_
  intro g1 qc f1
  have e1 : Ext g g1 := Ext.step' (Ext.new hcb _) f1 fun y hy => by rw [hy]; exact hcb
  have E1 := E.trans e1
  have hcn := E.bk hcb
  simp (disch := omega) only [dm_t, wA, wB, wL, wW, wY, Int.fdiv_eq_ediv_of_nonneg, Int.tdiv_eq_ediv_of_nonneg, Int.tmod_eq_emod_of_nonneg, chk_pos, decT, decF, br_pos, br_neg, wX, ↓reduceIte, Nat.reduceEqDiff, Nat.reduceAdd, Nat.reduceSub, Nat.reduceMul, Nat.reduceLeDiff, Nat.reduceLT, Nat.reduceMod, Nat.reduceDiv, Int.reduceToNat, Nat.min_eq_left, IntKind.bits, Int.reducePow, Int.reduceLT, Int.reduceLE, Int.reduceEq, Int.reduceNe, Int.reduceAdd, Int.reduceSub, and_self, reduceCtorEq, decide_eq_true_eq, decide_eq_false_iff_not, eq_self, implies_true, exists_const, Option.isNone_some, Option.isNone_none, Option.isSome_some, Option.isSome_none, Option.getD_some]
  refine (Copy_ok (X.ext e1) hps).k ?_
  rintro _ g2 ⟨q, qv, ws, rfl, Y, e2⟩
  have X0 : MX (fun y => y ∈ [cb]) h g1 p pv vs ps := (X.avoid fun y hy => by
    simp only [List.mem_cons, List.not_mem_nil, or_false] at hy
    exact .inr (hy ▸ hcb)).ext e1
  have Z := MX.disj (L := [cb]) X0 Y e2 E1 (fun y hy => by
    simp only [List.mem_cons, List.not_mem_nil, or_false] at hy
    rw [hy, qc]; exact ⟨by simp, hcn⟩) fun y hy => hy
  have qc2 := e2.at qc
  simp (disch := omega) only [dm_t, wA, wB, wL, wW, wY, Int.fdiv_eq_ediv_of_nonneg, Int.tdiv_eq_ediv_of_nonneg, Int.tmod_eq_emod_of_nonneg, chk_pos, decT, decF, br_pos, br_neg, wX, ↓reduceIte, Nat.reduceEqDiff, Nat.reduceAdd, Nat.reduceSub, Nat.reduceMul, Nat.reduceLeDiff, Nat.reduceLT, Nat.reduceMod, Nat.reduceDiv, Int.reduceToNat, Nat.min_eq_left, IntKind.bits, Int.reducePow, Int.reduceLT, Int.reduceLE, Int.reduceEq, Int.reduceNe, Int.reduceAdd, Int.reduceSub, and_self, reduceCtorEq, decide_eq_true_eq, decide_eq_false_iff_not, eq_self, implies_true, exists_const, Option.isNone_some, Option.isNone_none, Option.isSome_some, Option.isSome_none, Option.getD_some, (caC qc2).ca]
  refine (Z.Do (rc1.ext (E1.trans e2)) hlx hps).k ?_
  rintro _ g3 ⟨ra, rn, vs', rfl, R1, Z1, F, hM⟩
  have qc3 := F _ _ qc2 (Z.keep (List.mem_singleton.2 rfl))
  simp (disch := omega) only [dm_t, wA, wB, wL, wW, wY, Int.fdiv_eq_ediv_of_nonneg, Int.tdiv_eq_ediv_of_nonneg, Int.tmod_eq_emod_of_nonneg, chk_pos, decT, decF, br_pos, br_neg, wX, ↓reduceIte, Nat.reduceEqDiff, Nat.reduceAdd, Nat.reduceSub, Nat.reduceMul, Nat.reduceLeDiff, Nat.reduceLT, Nat.reduceMod, Nat.reduceDiv, Int.reduceToNat, Nat.min_eq_left, IntKind.bits, Int.reducePow, Int.reduceLT, Int.reduceLE, Int.reduceEq, Int.reduceNe, Int.reduceAdd, Int.reduceSub, and_self, reduceCtorEq, decide_eq_true_eq, decide_eq_false_iff_not, eq_self, implies_true, exists_const, Option.isNone_some, Option.isNone_none, Option.isSome_some, Option.isSome_none, Option.getD_some]
  intro rb hrb
  refine res3 (tryP ps x) _ (hupd_same _ _ _) rfl rfl ?_
  intro g4 kr qr f4
  have e4 : Ext g3 g4 := Ext.step' (Ext.new hrb _) f4 fun y hy => by rw [hy]; exact hrb
  have Z2 := Z1.new hrb e4 qr
  have R2 := RepL.mnew R1 hrb e4
  have qc4 := e4.at qc3
  have hrl : (tryP ps x).2.2.length ≤ 4611686018427387904 := Nat.le_trans (tryP_len fun l hl => (hps l hl).1) (by omega)
  have hyB : yB (tryP ps x) := tryP_yB hps
  have hrep : Rep nos replyT g4 (yCs (tryP ps x) (.slice ra (tryP ps x).2.2.length rn)) (tryP ps x) := rep_reply.2 ⟨_, rfl, hyB, RepL.mono R2 fun _ _ _ h => h.elim⟩
  simp (disch := omega) only [dm_t, wA, wB, wL, wW, wY, Int.fdiv_eq_ediv_of_nonneg, Int.tdiv_eq_ediv_of_nonneg, Int.tmod_eq_emod_of_nonneg, chk_pos, decT, decF, br_pos, br_neg, wX, ↓reduceIte, Nat.reduceEqDiff, Nat.reduceAdd, Nat.reduceSub, Nat.reduceMul, Nat.reduceLeDiff, Nat.reduceLT, Nat.reduceMod, Nat.reduceDiv, Int.reduceToNat, Nat.min_eq_left, IntKind.bits, Int.reducePow, Int.reduceLT, Int.reduceLE, Int.reduceEq, Int.reduceNe, Int.reduceAdd, Int.reduceSub, and_self, reduceCtorEq, decide_eq_true_eq, decide_eq_false_iff_not, eq_self, implies_true, exists_const, Option.isNone_some, Option.isNone_none, Option.isSome_some, Option.isSome_none, Option.getD_some, (caC qc4).ca, kr]
  refine (Fits_ok Z2.Y (rc1.ext Z2.E) hrep (by omega) hrl hps).k ?_
  rintro _ g5 ⟨⟨bb, rfl, hbb⟩, e5⟩
  obtain rfl : bb = true := hbb.2 (fits_self ps x)
  have Z3 := Z2.ext e5
  have qc5 := e5.at qc4
  have qr5 := e5.at qr
  have r0 : cellAt g5 ⟨rb, 0, none⟩ = some (.int .i64 (tryP ps x).1) := by rw [cellAt_of qr5]; rfl
  have same : ¬ (@Eq Int x.1 1 ∧ @Eq Int (tryP ps x).1 0) → doP ps x = ps := fun h => by rw [doP, if_neg h]
  have fin : ∀ G, Ext g5 G → vc Try.prog c4_s17 Q [(1, .slice sa l.length sc), (5, .pointer (some ⟨p, 0, none⟩)), (7, .int .i64 (i : Int))] G := fun G e => hQ1 G vs' (Z3.ext e).done (Z3.ext e).E
  by_cases h1 : @Eq Int x.1 1
  · have c0 := (caC qc5).c0
    rw [h1] at c0
    by_cases h2 : @Eq Int (tryP ps x).1 0
    · have k := hQ2 Z3 (List.mem_cons_of_mem _ (List.mem_singleton.2 rfl)) qc5 qr5 List.mem_cons_self rc1 h1 h2
      rw [h2] at r0
      simp (disch := omega) only [dm_t, wA, wB, wL, wW, wY, Int.fdiv_eq_ediv_of_nonneg, Int.tdiv_eq_ediv_of_nonneg, Int.tmod_eq_emod_of_nonneg, chk_pos, decT, decF, br_pos, br_neg, wX, ↓reduceIte, Nat.reduceEqDiff, Nat.reduceAdd, Nat.reduceSub, Nat.reduceMul, Nat.reduceLeDiff, Nat.reduceLT, Nat.reduceMod, Nat.reduceDiv, Int.reduceToNat, Nat.min_eq_left, IntKind.bits, Int.reducePow, Int.reduceLT, Int.reduceLE, Int.reduceEq, Int.reduceNe, Int.reduceAdd, Int.reduceSub, and_self, reduceCtorEq, decide_eq_true_eq, decide_eq_false_iff_not, eq_self, implies_true, exists_const, Option.isNone_some, Option.isNone_none, Option.isSome_some, Option.isSome_none, Option.getD_some, c0, r0, k]
    · simp (disch := omega) only [dm_t, wA, wB, wL, wW, wY, Int.fdiv_eq_ediv_of_nonneg, Int.tdiv_eq_ediv_of_nonneg, Int.tmod_eq_emod_of_nonneg, chk_pos, decT, decF, br_pos, br_neg, wX, ↓reduceIte, Nat.reduceEqDiff, Nat.reduceAdd, Nat.reduceSub, Nat.reduceMul, Nat.reduceLeDiff, Nat.reduceLT, Nat.reduceMod, Nat.reduceDiv, Int.reduceToNat, Nat.min_eq_left, IntKind.bits, Int.reducePow, Int.reduceLT, Int.reduceLE, Int.reduceEq, Int.reduceNe, Int.reduceAdd, Int.reduceSub, and_self, reduceCtorEq, decide_eq_true_eq, decide_eq_false_iff_not, eq_self, implies_true, exists_const, Option.isNone_some, Option.isNone_none, Option.isSome_some, Option.isSome_none, Option.getD_some, c0, r0, h2]
      refine (Same_ok Z3.X Z3.Y fun l hl => by have := (hps2 l hl).1; omega).k ?_
      rintro _ g6 ⟨rfl, e6⟩
      have k := fin g6 e6
      rw [same fun h => h2 h.2]
      simp (disch := omega) only [dm_t, wA, wB, wL, wW, wY, Int.fdiv_eq_ediv_of_nonneg, Int.tdiv_eq_ediv_of_nonneg, Int.tmod_eq_emod_of_nonneg, chk_pos, decT, decF, br_pos, br_neg, wX, ↓reduceIte, Nat.reduceEqDiff, Nat.reduceAdd, Nat.reduceSub, Nat.reduceMul, Nat.reduceLeDiff, Nat.reduceLT, Nat.reduceMod, Nat.reduceDiv, Int.reduceToNat, Nat.min_eq_left, IntKind.bits, Int.reducePow, Int.reduceLT, Int.reduceLE, Int.reduceEq, Int.reduceNe, Int.reduceAdd, Int.reduceSub, and_self, reduceCtorEq, decide_eq_true_eq, decide_eq_false_iff_not, eq_self, implies_true, exists_const, Option.isNone_some, Option.isNone_none, Option.isSome_some, Option.isSome_none, Option.getD_some, k]
  · simp (disch := omega) only [dm_t, wA, wB, wL, wW, wY, Int.fdiv_eq_ediv_of_nonneg, Int.tdiv_eq_ediv_of_nonneg, Int.tmod_eq_emod_of_nonneg, chk_pos, decT, decF, br_pos, br_neg, wX, ↓reduceIte, Nat.reduceEqDiff, Nat.reduceAdd, Nat.reduceSub, Nat.reduceMul, Nat.reduceLeDiff, Nat.reduceLT, Nat.reduceMod, Nat.reduceDiv, Int.reduceToNat, Nat.min_eq_left, IntKind.bits, Int.reducePow, Int.reduceLT, Int.reduceLE, Int.reduceEq, Int.reduceNe, Int.reduceAdd, Int.reduceSub, and_self, reduceCtorEq, decide_eq_true_eq, decide_eq_false_iff_not, eq_self, implies_true, exists_const, Option.isNone_some, Option.isNone_none, Option.isSome_some, Option.isSome_none, Option.getD_some, (caC qc5).c0, h1]
    refine (Same_ok Z3.X Z3.Y fun l hl => by have := (hps2 l hl).1; omega).k ?_
    rintro _ g6 ⟨rfl, e6⟩
    have k := fin g6 e6
    rw [same fun h => h1 h.1]
    simp (disch := omega) only [dm_t, wA, wB, wL, wW, wY, Int.fdiv_eq_ediv_of_nonneg, Int.tdiv_eq_ediv_of_nonneg, Int.tmod_eq_emod_of_nonneg, chk_pos, decT, decF, br_pos, br_neg, wX, ↓reduceIte, Nat.reduceEqDiff, Nat.reduceAdd, Nat.reduceSub, Nat.reduceMul, Nat.reduceLeDiff, Nat.reduceLT, Nat.reduceMod, Nat.reduceDiv, Int.reduceToNat, Nat.min_eq_left, IntKind.bits, Int.reducePow, Int.reduceLT, Int.reduceLE, Int.reduceEq, Int.reduceNe, Int.reduceAdd, Int.reduceSub, and_self, reduceCtorEq, decide_eq_true_eq, decide_eq_false_iff_not, eq_self, implies_true, exists_const, Option.isNone_some, Option.isNone_none, Option.isSome_some, Option.isSome_none, Option.getD_some, k]
theorem ms_s10 {Q : Post} {x : callT.D} {l : List stepT.D} {sa cra : Option Addr} {sc i c r crn : Nat} {rr : Value} (Z : M2 L h g p q pv qv vs ws (doP ps x) ps) (mc : c ∈ L) (kc : g c = some (.cells (cCs x (.slice cra x.2.2.1.length crn)).toArray 26)) (kr : g r = some (.cells (yCs (tryP ps x) rr).toArray 36)) (mr : r ∈ L)
    (hx : Rep nos callT h (cCs x (.slice cra x.2.2.1.length crn)) x) (h1 : @Eq Int x.1 1) (h2 : @Eq Int (tryP ps x).1 0) (hps : ∀ l ∈ ps, lims l) (hps2 : ∀ l ∈ doP ps x, lims l) (hl : x.2.2.1.length ≤ 260 ∧ byteOk x.2.2.1)
    (hQ1 : ∀ G vs', MX nos h G p pv vs' (doP ps x) → Ext h G → vc Try.prog c4_s17 Q [(1, .slice sa l.length sc), (5, .pointer (some ⟨p, 0, none⟩)), (7, .int .i64 (i : Int))] G) :
    vc Try.prog c4_s10 (blockQ 1 (seqQ Try.prog [1, 5, 7] c4_s17 Q)) [(1, .slice sa l.length sc), (5, .pointer (some ⟨p, 0, none⟩)), (7, .int .i64 (i : Int)), (8, .pointer (some ⟨c, 0, none⟩)), (9, .pointer (some ⟨q, 0, none⟩)), (10, .pointer (some ⟨r, 0, none⟩))] g := by
  obtain ⟨k, a, P⟩ := mkPut h1 h2
  have hlx : lims x.2.2.1 := ⟨by omega, hl.2⟩
  obtain ⟨_, e, _, hcr⟩ := rep_call.1 hx
  simp only [List.cons.injEq, and_true, true_and] at e
  subst e
  have hlt := P.lt
  have hpos := Z.Y.pos
  have hin : inP ps x.2.1 := ⟨by rw [P.ix]; omega, by rw [P.ix]; omega⟩
  have hin2 : inP (doP ps x) x.2.1 := ⟨by rw [P.ix]; omega, by rw [P.len, P.ix]; omega⟩
  have hto : Int.toNat x.2.1 = k := by rw [P.ix]; rfl
  have hal : a.length ≤ 1000000 := (hps a (List.mem_of_getElem? P.at')).1
  simp (disch := omega) only [dm_t, wA, wB, wL, wW, wY, Int.fdiv_eq_ediv_of_nonneg, Int.tdiv_eq_ediv_of_nonneg, Int.tmod_eq_emod_of_nonneg, chk_pos, decT, decF, br_pos, br_neg, wX, ↓reduceIte, Nat.reduceEqDiff, Nat.reduceAdd, Nat.reduceSub, Nat.reduceMul, Nat.reduceLeDiff, Nat.reduceLT, Nat.reduceMod, Nat.reduceDiv, Int.reduceToNat, Nat.min_eq_left, IntKind.bits, Int.reducePow, Int.reduceLT, Int.reduceLE, Int.reduceEq, Int.reduceNe, Int.reduceAdd, Int.reduceSub, and_self, reduceCtorEq, decide_eq_true_eq, decide_eq_false_iff_not, eq_self, implies_true, exists_const, Option.isNone_some, Option.isNone_none, Option.isSome_some, Option.isSome_none, Option.getD_some, (caC kc).c1]
  refine (Records_ok Z.Y x.2.1 hps).k ?_
  rintro _ g2 ⟨wa, ea, la, rfl, hca, oa, e2⟩
  rw [if_pos hin, hto, P.getD] at hca
  obtain ⟨rfl, hla⟩ := hca
  rw [hla] at oa
  clear hla
  obtain ⟨aa, ac, rfl⟩ := oa.l.len
  have Z2 := Z.ext e2
  have Ra : RepL (SS L p q pv qv vs ws) rc g2 (.slice aa a.length ac) a := by
    refine RepL.mono (oa.l.repS fun y hy hn => hn hy) fun y o _ h => ?_
    rcases h with h | h | h
    · exact Z.X.there h
    · exact Z.Y.there h
    · exact (Z.T y h).1
  have kc2 := e2.at kc
  have kr2 := e2.at kr
  simp (disch := omega) only [dm_t, wA, wB, wL, wW, wY, Int.fdiv_eq_ediv_of_nonneg, Int.tdiv_eq_ediv_of_nonneg, Int.tmod_eq_emod_of_nonneg, chk_pos, decT, decF, br_pos, br_neg, wX, ↓reduceIte, Nat.reduceEqDiff, Nat.reduceAdd, Nat.reduceSub, Nat.reduceMul, Nat.reduceLeDiff, Nat.reduceLT, Nat.reduceMod, Nat.reduceDiv, Int.reduceToNat, Nat.min_eq_left, IntKind.bits, Int.reducePow, Int.reduceLT, Int.reduceLE, Int.reduceEq, Int.reduceNe, Int.reduceAdd, Int.reduceSub, and_self, reduceCtorEq, decide_eq_true_eq, decide_eq_false_iff_not, eq_self, implies_true, exists_const, Option.isNone_some, Option.isNone_none, Option.isSome_some, Option.isSome_none, Option.getD_some, (caC kc2).c1]
  refine (Records_ok Z2.X x.2.1 hps2).k ?_
  rintro _ g3 ⟨wb, eb, lb, rfl, hcb, ob, e3⟩
  rw [if_pos hin2, hto, P.getD'] at hcb
  obtain ⟨rfl, rfl⟩ := hcb
  obtain ⟨ba, bc, rfl⟩ := ob.l.len
  have Z3 := Z2.ext e3
  have Rb : RepL (SS L p q pv qv vs ws) rc g3 (.slice ba (a ++ x.2.2.1).length bc) (a ++ x.2.2.1) := by
    refine RepL.mono (ob.l.repS fun y hy hn => hn hy) fun y o _ h => ?_
    rcases h with h | h | h
    · exact Z2.X.there h
    · exact Z2.Y.there h
    · exact (Z2.T y h).1
  have Ra3 := Ra.ext e3
  have kc3 := e3.at kc2
  have kr3 := e3.at kr2
  have r1 : ∀ {G : H}, Ext g3 G → cellAt G ⟨r, 1, none⟩ = some (.int .i64 (a.length : Int)) := fun e => by rw [cellAt_of (e.at kr3), P.re]; rfl
  have lab : (a ++ x.2.2.1).length = a.length + x.2.2.1.length := List.length_append
  have E3 := Z3.E
  have cut1 := repL_pre (m := a.length) Rb (by omega)
  rw [List.take_left] at cut1
  have hbc := Rb.cap
  obtain ⟨wd, kd, cut2⟩ := RepL.cut Rb 3 sz_rc (m3 := false) (lo := (a.length : Int)) (hi := ((a ++ x.2.2.1).length : Int)) (mx := (bc : Int)) (l := a.length) (u := (a ++ x.2.2.1).length) (m := bc) rfl rfl rfl (by omega) (by omega) (by omega) (by omega) (.inr rfl)
  rw [List.drop_left, List.take_of_length_le (by omega)] at cut2
  simp (disch := omega) only [dm_t, wA, wB, wL, wW, wY, Int.fdiv_eq_ediv_of_nonneg, Int.tdiv_eq_ediv_of_nonneg, Int.tmod_eq_emod_of_nonneg, chk_pos, decT, decF, br_pos, br_neg, wX, ↓reduceIte, Nat.reduceEqDiff, Nat.reduceAdd, Nat.reduceSub, Nat.reduceMul, Nat.reduceLeDiff, Nat.reduceLT, Nat.reduceMod, Nat.reduceDiv, Int.reduceToNat, Nat.min_eq_left, IntKind.bits, Int.reducePow, Int.reduceLT, Int.reduceLE, Int.reduceEq, Int.reduceNe, Int.reduceAdd, Int.reduceSub, and_self, reduceCtorEq, decide_eq_true_eq, decide_eq_false_iff_not, eq_self, implies_true, exists_const, Option.isNone_some, Option.isNone_none, Option.isSome_some, Option.isSome_none, Option.getD_some, r1 (Ext.refl _), (caC kc3).c2]
  refine slc_pre a.length rfl rfl (by omega) ?_
  simp (disch := omega) only [dm_t, wA, wB, wL, wW, wY, Int.fdiv_eq_ediv_of_nonneg, Int.tdiv_eq_ediv_of_nonneg, Int.tmod_eq_emod_of_nonneg, chk_pos, decT, decF, br_pos, br_neg, wX, ↓reduceIte, Nat.reduceEqDiff, Nat.reduceAdd, Nat.reduceSub, Nat.reduceMul, Nat.reduceLeDiff, Nat.reduceLT, Nat.reduceMod, Nat.reduceDiv, Int.reduceToNat, Nat.min_eq_left, IntKind.bits, Int.reducePow, Int.reduceLT, Int.reduceLE, Int.reduceEq, Int.reduceNe, Int.reduceAdd, Int.reduceSub, and_self, reduceCtorEq, decide_eq_true_eq, decide_eq_false_iff_not, eq_self, implies_true, exists_const, Option.isNone_some, Option.isNone_none, Option.isSome_some, Option.isSome_none, Option.getD_some, kd, (caC kc3).c2]
  refine (SameAll_ok cut1 (RepL.mono Ra3 fun _ _ _ h => h.elim : RepL nos rc g3 _ a) (by omega)).k ?_
  rintro _ g4 ⟨rfl, e4⟩
  have kc4 := e4.at kc3
  simp (disch := omega) only [dm_t, wA, wB, wL, wW, wY, Int.fdiv_eq_ediv_of_nonneg, Int.tdiv_eq_ediv_of_nonneg, Int.tmod_eq_emod_of_nonneg, chk_pos, decT, decF, br_pos, br_neg, wX, ↓reduceIte, Nat.reduceEqDiff, Nat.reduceAdd, Nat.reduceSub, Nat.reduceMul, Nat.reduceLeDiff, Nat.reduceLT, Nat.reduceMod, Nat.reduceDiv, Int.reduceToNat, Nat.min_eq_left, IntKind.bits, Int.reducePow, Int.reduceLT, Int.reduceLE, Int.reduceEq, Int.reduceNe, Int.reduceAdd, Int.reduceSub, and_self, reduceCtorEq, decide_eq_true_eq, decide_eq_false_iff_not, eq_self, implies_true, exists_const, Option.isNone_some, Option.isNone_none, Option.isSome_some, Option.isSome_none, Option.getD_some, kd, (caC kc4).c2]
  refine (SameAll_ok (cut2.ext e4) (hcr.ext (Z3.E.trans e4)) (by omega)).k ?_
  rintro _ g5 ⟨rfl, e5⟩
  have e35 := e4.trans e5
  have Z5 := Z3.ext e35
  have kc5 := e5.at kc4
  have c1 := (caC kc5).c1
  rw [P.ix] at c1
  simp (disch := omega) only [dm_t, wA, wB, wL, wW, wY, Int.fdiv_eq_ediv_of_nonneg, Int.tdiv_eq_ediv_of_nonneg, Int.tmod_eq_emod_of_nonneg, chk_pos, decT, decF, br_pos, br_neg, wX, ↓reduceIte, Nat.reduceEqDiff, Nat.reduceAdd, Nat.reduceSub, Nat.reduceMul, Nat.reduceLeDiff, Nat.reduceLT, Nat.reduceMod, Nat.reduceDiv, Int.reduceToNat, Nat.min_eq_left, IntKind.bits, Int.reducePow, Int.reduceLT, Int.reduceLE, Int.reduceEq, Int.reduceNe, Int.reduceAdd, Int.reduceSub, and_self, reduceCtorEq, decide_eq_true_eq, decide_eq_false_iff_not, eq_self, implies_true, exists_const, Option.isNone_some, Option.isNone_none, Option.isSome_some, Option.isSome_none, Option.getD_some, c1, r1 e35]
  have hy : Rep nos callT g5 (cCs (((2 : Int), (k : Int), ([] : List rc.D), (a.length : Int), (1000 : Int)) : callT.D) (.slice none 0 0)) (((2 : Int), (k : Int), ([] : List rc.D), (a.length : Int), (1000 : Int)) : callT.D) :=
    rep_call.2 ⟨_, rfl, ⟨by show inI 2; unfold inI; decide, inI_len (by omega), inI_len (by omega), by show inI 1000; unfold inI; decide⟩, RepL.nil⟩
  refine (Z5.Do hy ⟨by simp, fun x hx => by simp at hx⟩ hps2).k ?_
  rw [P.fetch (by omega)]
  rintro _ g6 ⟨xa, xn, vs', rfl, Rx, Z6, F, hM⟩
  have hdo : doP (doP ps x) (((2 : Int), (k : Int), ([] : List rc.D), (a.length : Int), (1000 : Int)) : callT.D) = doP ps x := by
    rw [doP, if_neg]
    intro hh
    exact absurd hh.1 (show ¬ ((2 : Int) = 1) by decide)
  rw [hdo] at Z6
  have kc6 := F _ _ kc5 (Z5.keep mc)
  simp (disch := omega) only [dm_t, wA, wB, wL, wW, wY, Int.fdiv_eq_ediv_of_nonneg, Int.tdiv_eq_ediv_of_nonneg, Int.tmod_eq_emod_of_nonneg, chk_pos, decT, decF, br_pos, br_neg, wX, ↓reduceIte, Nat.reduceEqDiff, Nat.reduceAdd, Nat.reduceSub, Nat.reduceMul, Nat.reduceLeDiff, Nat.reduceLT, Nat.reduceMod, Nat.reduceDiv, Int.reduceToNat, Nat.min_eq_left, IntKind.bits, Int.reducePow, Int.reduceLT, Int.reduceLE, Int.reduceEq, Int.reduceNe, Int.reduceAdd, Int.reduceSub, and_self, reduceCtorEq, decide_eq_true_eq, decide_eq_false_iff_not, eq_self, implies_true, exists_const, Option.isNone_some, Option.isNone_none, Option.isSome_some, Option.isSome_none, Option.getD_some]
  intro tb htb
  refine res3 (((0 : Int), ((a ++ x.2.2.1).length : Int), x.2.2.1) : replyT.D) _ (hupd_same _ _ _) rfl rfl ?_
  intro g7 kt qt f7
  have e7 : Ext g6 g7 := Ext.step' (Ext.new htb _) f7 fun y hy => by rw [hy]; exact htb
  have Z7 := Z6.new htb e7 qt
  have Rx7 := RepL.mnew Rx htb e7
  have kc7 := e7.at kc6
  have t0 : cellAt g7 ⟨tb, 0, none⟩ = some (.int .i64 0) := by rw [cellAt_of qt]; rfl
  have t1 : cellAt g7 ⟨tb, 1, none⟩ = some (.int .i64 ((a ++ x.2.2.1).length : Int)) := by rw [cellAt_of qt]; rfl
  have t2 : cellAt g7 ⟨tb, 2, none⟩ = some (.slice xa x.2.2.1.length xn) := by rw [cellAt_of qt]; rfl
  simp (disch := omega) only [dm_t, wA, wB, wL, wW, wY, Int.fdiv_eq_ediv_of_nonneg, Int.tdiv_eq_ediv_of_nonneg, Int.tmod_eq_emod_of_nonneg, chk_pos, decT, decF, br_pos, br_neg, wX, ↓reduceIte, Nat.reduceEqDiff, Nat.reduceAdd, Nat.reduceSub, Nat.reduceMul, Nat.reduceLeDiff, Nat.reduceLT, Nat.reduceMod, Nat.reduceDiv, Int.reduceToNat, Nat.min_eq_left, IntKind.bits, Int.reducePow, Int.reduceLT, Int.reduceLE, Int.reduceEq, Int.reduceNe, Int.reduceAdd, Int.reduceSub, and_self, reduceCtorEq, decide_eq_true_eq, decide_eq_false_iff_not, eq_self, implies_true, exists_const, Option.isNone_some, Option.isNone_none, Option.isSome_some, Option.isSome_none, Option.getD_some, t0, t1, t2, (caC kc7).c2]
  refine (SameAll_ok (RepL.mono Rx7 fun _ _ _ h => h.elim : RepL nos rc g7 _ x.2.2.1) (hcr.ext Z7.E) (by omega)).k ?_
  rintro _ g8 ⟨rfl, e8⟩
  have Z8 := Z7.ext e8
  have kc8 := e8.at kc7
  have c18 := (caC kc8).c1
  rw [P.ix] at c18
  simp (disch := omega) only [dm_t, wA, wB, wL, wW, wY, Int.fdiv_eq_ediv_of_nonneg, Int.tdiv_eq_ediv_of_nonneg, Int.tmod_eq_emod_of_nonneg, chk_pos, decT, decF, br_pos, br_neg, wX, ↓reduceIte, Nat.reduceEqDiff, Nat.reduceAdd, Nat.reduceSub, Nat.reduceMul, Nat.reduceLeDiff, Nat.reduceLT, Nat.reduceMod, Nat.reduceDiv, Int.reduceToNat, Nat.min_eq_left, IntKind.bits, Int.reducePow, Int.reduceLT, Int.reduceLE, Int.reduceEq, Int.reduceNe, Int.reduceAdd, Int.reduceSub, and_self, reduceCtorEq, decide_eq_true_eq, decide_eq_false_iff_not, eq_self, implies_true, exists_const, Option.isNone_some, Option.isNone_none, Option.isSome_some, Option.isSome_none, Option.getD_some, c18]
  refine (Cut_ok Z8.X (fun y hy => hy.elim Z8.Y.there fun h => (Z8.T y h).1) (k : Int) (a.length : Int) fun l hl => by have := (hps2 l hl).1; omega).k ?_
  intro v9 g9 hcut
  have hk2 : inP (doP ps x) (k : Int) := ⟨by omega, by rw [P.len]; omega⟩
  have hg2 : (doP ps x).getD (Int.toNat (k : Int)) [] = a ++ x.2.2.1 := P.getD'
  rw [CutR, if_pos hk2, hg2, if_pos ⟨by omega, by omega⟩] at hcut
  obtain ⟨rfl, vs9, X9, hM9, F9⟩ := hcut
  rw [Int.toNat_natCast, Int.toNat_natCast, P.cut] at X9
  have Y9 := Z8.Y.fr F9 fun y hy => .inl hy
  have mc8 : c ∈ tb :: L := List.mem_cons_of_mem _ mc
  have kc9 := F9 _ _ kc8 (Z8.keep mc8)
  have E9 : Ext h g9 := Ext.step' Z8.E F9 fun y hy => (Z8.X.own hy).1
  simp (disch := omega) only [dm_t, wA, wB, wL, wW, wY, Int.fdiv_eq_ediv_of_nonneg, Int.tdiv_eq_ediv_of_nonneg, Int.tmod_eq_emod_of_nonneg, chk_pos, decT, decF, br_pos, br_neg, wX, ↓reduceIte, Nat.reduceEqDiff, Nat.reduceAdd, Nat.reduceSub, Nat.reduceMul, Nat.reduceLeDiff, Nat.reduceLT, Nat.reduceMod, Nat.reduceDiv, Int.reduceToNat, Nat.min_eq_left, IntKind.bits, Int.reducePow, Int.reduceLT, Int.reduceLE, Int.reduceEq, Int.reduceNe, Int.reduceAdd, Int.reduceSub, and_self, reduceCtorEq, decide_eq_true_eq, decide_eq_false_iff_not, eq_self, implies_true, exists_const, Option.isNone_some, Option.isNone_none, Option.isSome_some, Option.isSome_none, Option.getD_some]
  refine (Same_ok X9 Y9 fun l hl => by have := (hps l hl).1; omega).k ?_
  rintro _ g10 ⟨rfl, e10⟩
  have kc10 := e10.at kc9
  have X10 : MX nos h g10 p pv vs9 ps := (X9.avoid fun _ h => h.elim).ext e10
  simp (disch := omega) only [dm_t, wA, wB, wL, wW, wY, Int.fdiv_eq_ediv_of_nonneg, Int.tdiv_eq_ediv_of_nonneg, Int.tmod_eq_emod_of_nonneg, chk_pos, decT, decF, br_pos, br_neg, wX, ↓reduceIte, Nat.reduceEqDiff, Nat.reduceAdd, Nat.reduceSub, Nat.reduceMul, Nat.reduceLeDiff, Nat.reduceLT, Nat.reduceMod, Nat.reduceDiv, Int.reduceToNat, Nat.min_eq_left, IntKind.bits, Int.reducePow, Int.reduceLT, Int.reduceLE, Int.reduceEq, Int.reduceNe, Int.reduceAdd, Int.reduceSub, and_self, reduceCtorEq, decide_eq_true_eq, decide_eq_false_iff_not, eq_self, implies_true, exists_const, Option.isNone_some, Option.isNone_none, Option.isSome_some, Option.isSome_none, Option.getD_some, (caC kc10).ca]
  refine (Do_ok X10 (E9.trans e10) (fun _ h => h.elim) (hx.ext (E9.trans e10)) hlx hps).k ?_
  rintro _ g11 ⟨cs', rfl, -, ⟨vs11, X11, -, -⟩, F11⟩
  have k17 := hQ1 g11 vs11 X11 (Ext.step' (E9.trans e10) F11 fun y hy => (X10.own hy).1)
  simp (disch := omega) only [dm_t, wA, wB, wL, wW, wY, Int.fdiv_eq_ediv_of_nonneg, Int.tdiv_eq_ediv_of_nonneg, Int.tmod_eq_emod_of_nonneg, chk_pos, decT, decF, br_pos, br_neg, wX, ↓reduceIte, Nat.reduceEqDiff, Nat.reduceAdd, Nat.reduceSub, Nat.reduceMul, Nat.reduceLeDiff, Nat.reduceLT, Nat.reduceMod, Nat.reduceDiv, Int.reduceToNat, Nat.min_eq_left, IntKind.bits, Int.reducePow, Int.reduceLT, Int.reduceLE, Int.reduceEq, Int.reduceNe, Int.reduceAdd, Int.reduceSub, and_self, reduceCtorEq, decide_eq_true_eq, decide_eq_false_iff_not, eq_self, implies_true, exists_const, Option.isNone_some, Option.isNone_none, Option.isSome_some, Option.isSome_none, Option.getD_some, k17]
end
theorem MS_ok {h : H} {v : Value} {l : List stepT.D} {parts : Int} (hs : RepL nos stepT h v l) (hf : Ty.fit (.sl stepT) l) (hp : inI parts) : Ok Try.prog 4 #[.int .i64 parts, v] h (qT h) := by
  obtain ⟨sa, sc, rfl⟩ := hs.len
  obtain ⟨hfs, hfe⟩ := hf
  have hby : Ty.by stepT = 120 := rfl
  rw [hby] at hfs
  have hst : ∀ s ∈ l, (byteOk s.2.2.2.1.2.2.1 ∧ s.2.2.2.1.2.2.1.length ≤ 4611686018427387904) ∧ byteOk s.2.2.2.2.2.2 ∧ s.2.2.2.2.2.2.length ≤ 4611686018427387904 := by
    intro s hs
    obtain ⟨-, -, -, ⟨-, -, f1, -⟩, -, -, f2⟩ := hfe s hs
    exact ⟨fit_rc f1, fit_rc f2⟩
  clear hfe
  have hl : l.length ≤ 4611686018427387904 := by omega
  refine c4_ok (args := [_, _]) (by simp) ?_
  simp (disch := omega) only [dm_t, wA, wB, wL, wW, wY, Int.fdiv_eq_ediv_of_nonneg, Int.tdiv_eq_ediv_of_nonneg, Int.tmod_eq_emod_of_nonneg, chk_pos, decT, decF, br_pos, br_neg, wX, ↓reduceIte, Nat.reduceEqDiff, Nat.reduceAdd, Nat.reduceSub, Nat.reduceMul, Nat.reduceLeDiff, Nat.reduceLT, Nat.reduceMod, Nat.reduceDiv, Int.reduceToNat, Nat.min_eq_left, IntKind.bits, Int.reducePow, Int.reduceLT, Int.reduceLE, Int.reduceEq, Int.reduceNe, Int.reduceAdd, Int.reduceSub, and_self, reduceCtorEq, decide_eq_true_eq, decide_eq_false_iff_not, eq_self, implies_true, exists_const, Option.isNone_some, Option.isNone_none, Option.isSome_some, Option.isSome_none, Option.getD_some]
  refine (vast_ok hs hl fun s hs => ⟨(hst s hs).1.2, (hst s hs).2.2⟩).k ?_
  rintro _ _ ⟨rfl, rfl⟩
  by_cases hv : vastP l = true
  · rw [hv]
    simp (disch := omega) only [dm_t, wA, wB, wL, wW, wY, Int.fdiv_eq_ediv_of_nonneg, Int.tdiv_eq_ediv_of_nonneg, Int.tmod_eq_emod_of_nonneg, chk_pos, decT, decF, br_pos, br_neg, wX, ↓reduceIte, Nat.reduceEqDiff, Nat.reduceAdd, Nat.reduceSub, Nat.reduceMul, Nat.reduceLeDiff, Nat.reduceLT, Nat.reduceMod, Nat.reduceDiv, Int.reduceToNat, Nat.min_eq_left, IntKind.bits, Int.reducePow, Int.reduceLT, Int.reduceLE, Int.reduceEq, Int.reduceNe, Int.reduceAdd, Int.reduceSub, and_self, reduceCtorEq, decide_eq_true_eq, decide_eq_false_iff_not, eq_self, implies_true, exists_const, Option.isNone_some, Option.isNone_none, Option.isSome_some, Option.isSome_none, Option.getD_some]
    refine (known_ok _).k ?_
    rintro _ g5 ⟨rfl, e5⟩
    simp (disch := omega) only [dm_t, wA, wB, wL, wW, wY, Int.fdiv_eq_ediv_of_nonneg, Int.tdiv_eq_ediv_of_nonneg, Int.tmod_eq_emod_of_nonneg, chk_pos, decT, decF, br_pos, br_neg, wX, ↓reduceIte, Nat.reduceEqDiff, Nat.reduceAdd, Nat.reduceSub, Nat.reduceMul, Nat.reduceLeDiff, Nat.reduceLT, Nat.reduceMod, Nat.reduceDiv, Int.reduceToNat, Nat.min_eq_left, IntKind.bits, Int.reducePow, Int.reduceLT, Int.reduceLE, Int.reduceEq, Int.reduceNe, Int.reduceAdd, Int.reduceSub, and_self, reduceCtorEq, decide_eq_true_eq, decide_eq_false_iff_not, eq_self, implies_true, exists_const, Option.isNone_some, Option.isNone_none, Option.isSome_some, Option.isSome_none, Option.getD_some]
    exact ⟨rfl, e5⟩
  rw [Bool.not_eq_true] at hv
  rw [hv]
  obtain ⟨hv1, hv2⟩ := vastP_not hv
  simp (disch := omega) only [dm_t, wA, wB, wL, wW, wY, Int.fdiv_eq_ediv_of_nonneg, Int.tdiv_eq_ediv_of_nonneg, Int.tmod_eq_emod_of_nonneg, chk_pos, decT, decF, br_pos, br_neg, wX, ↓reduceIte, Nat.reduceEqDiff, Nat.reduceAdd, Nat.reduceSub, Nat.reduceMul, Nat.reduceLeDiff, Nat.reduceLT, Nat.reduceMod, Nat.reduceDiv, Int.reduceToNat, Nat.min_eq_left, IntKind.bits, Int.reducePow, Int.reduceLT, Int.reduceLE, Int.reduceEq, Int.reduceNe, Int.reduceAdd, Int.reduceSub, and_self, reduceCtorEq, decide_eq_true_eq, decide_eq_false_iff_not, eq_self, implies_true, exists_const, Option.isNone_some, Option.isNone_none, Option.isSome_some, Option.isSome_none, Option.getD_some]
  by_cases hn : 1 ≤ parts ∧ parts ≤ 16
  · obtain ⟨n, rfl⟩ : ∃ n : Nat, parts = (n : Int) := ⟨parts.toNat, by omega⟩
    refine (New_ok (n := n) (by omega) (by omega)).k ?_
    rintro _ g2 ⟨p, pv, vs, rfl, X, e2⟩
    have hrun : ∀ i, i ≤ l.length → boundP (260 * i) (runP (List.replicate n []) (l.take i)) := fun i hi => by
      have := runP_bound (l := l.take i) (bound0 n) fun s hs => ⟨(largeP_not (hv2 s (List.mem_of_mem_take hs)).1).1, (hst s (List.mem_of_mem_take hs)).1.1⟩
      rw [List.length_take, Nat.min_eq_left hi, Nat.zero_add] at this
      exact this
    simp (disch := omega) only [dm_t, wA, wB, wL, wW, wY, Int.fdiv_eq_ediv_of_nonneg, Int.tdiv_eq_ediv_of_nonneg, Int.tmod_eq_emod_of_nonneg, chk_pos, decT, decF, br_pos, br_neg, wX, ↓reduceIte, Nat.reduceEqDiff, Nat.reduceAdd, Nat.reduceSub, Nat.reduceMul, Nat.reduceLeDiff, Nat.reduceLT, Nat.reduceMod, Nat.reduceDiv, Int.reduceToNat, Nat.min_eq_left, IntKind.bits, Int.reducePow, Int.reduceLT, Int.reduceLE, Int.reduceEq, Int.reduceNe, Int.reduceAdd, Int.reduceSub, and_self, reduceCtorEq, decide_eq_true_eq, decide_eq_false_iff_not, eq_self, implies_true, exists_const, Option.isNone_some, Option.isNone_none, Option.isSome_some, Option.isSome_none, Option.getD_some]
    refine vc_loop1 (fun vi h' => ∃ (i : Nat) (vs' : List Value), vi = .int .i64 (i : Int) ∧ i ≤ l.length ∧ MX nos h h' p pv vs' (runP (List.replicate n []) (l.take i)) ∧ Ext h h') (fun vi _ => l.length - m1 vi) ?_ ?_
    · simp (disch := omega) only [dm_t, wA, wB, wL, wW, wY, Int.fdiv_eq_ediv_of_nonneg, Int.tdiv_eq_ediv_of_nonneg, Int.tmod_eq_emod_of_nonneg, chk_pos, decT, decF, br_pos, br_neg, wX, ↓reduceIte, Nat.reduceEqDiff, Nat.reduceAdd, Nat.reduceSub, Nat.reduceMul, Nat.reduceLeDiff, Nat.reduceLT, Nat.reduceMod, Nat.reduceDiv, Int.reduceToNat, Nat.min_eq_left, IntKind.bits, Int.reducePow, Int.reduceLT, Int.reduceLE, Int.reduceEq, Int.reduceNe, Int.reduceAdd, Int.reduceSub, and_self, reduceCtorEq, decide_eq_true_eq, decide_eq_false_iff_not, eq_self, implies_true, exists_const, Option.isNone_some, Option.isNone_none, Option.isSome_some, Option.isSome_none, Option.getD_some]
      exact ⟨0, vs, rfl, by omega, X, e2⟩
    rintro _ g1 ⟨i, vs', rfl, hi, X1, E1⟩
    by_cases hil : i < l.length
    · have hsplit : l.take (i + 1) = l.take i ++ [l[i]] := by simp
      have hB := hrun i hi
      have hl2 : l[i].2.2.2.1.2.2.1.length ≤ 260 ∧ byteOk l[i].2.2.2.1.2.2.1 := ⟨(largeP_not (hv2 _ (List.getElem_mem hil)).1).1, (hst _ (List.getElem_mem hil)).1.1⟩
      have hB2 := doP_bound (x := l[i].2.2.2.1) hB hl2.1 hl2.2
      have hr : runP (List.replicate n []) (l.take (i + 1)) = doP (runP (List.replicate n []) (l.take i)) l[i].2.2.2.1 := by
        rw [hsplit, runP, List.foldl_append]; rfl
      generalize hQ0 : lq1 _ _ _ _ _ _ _ = Q0
      have hQ : ∀ G vs'', MX nos h G p pv vs'' (doP (runP (List.replicate n []) (l.take i)) l[i].2.2.2.1) → Ext h G → vc Try.prog c4_s17 Q0 [(1, .slice sa l.length sc), (5, .pointer (some ⟨p, 0, none⟩)), (7, .int .i64 (i : Int))] G := by
        intro G vs'' X2 E2
        rw [← hQ0]
        simp (disch := omega) only [dm_t, wA, wB, wL, wW, wY, Int.fdiv_eq_ediv_of_nonneg, Int.tdiv_eq_ediv_of_nonneg, Int.tmod_eq_emod_of_nonneg, chk_pos, decT, decF, br_pos, br_neg, wX, ↓reduceIte, Nat.reduceEqDiff, Nat.reduceAdd, Nat.reduceSub, Nat.reduceMul, Nat.reduceLeDiff, Nat.reduceLT, Nat.reduceMod, Nat.reduceDiv, Int.reduceToNat, Nat.min_eq_left, IntKind.bits, Int.reducePow, Int.reduceLT, Int.reduceLE, Int.reduceEq, Int.reduceNe, Int.reduceAdd, Int.reduceSub, and_self, reduceCtorEq, decide_eq_true_eq, decide_eq_false_iff_not, eq_self, implies_true, exists_const, Option.isNone_some, Option.isNone_none, Option.isSome_some, Option.isSome_none, Option.getD_some]
        exact ⟨⟨i + 1, vs'', by simp, by omega, by rw [hr]; exact X2, E2⟩, by simp [m1]; omega⟩
      have k := ms_s5 (Q := Q0) hil rfl X1 E1 hs (hB.lims (by omega)) (hB2.lims (by omega)) hl2 hQ
        (fun {G L q qv vs' ws c r cr rr} Z mc kc kr mr hx h1 h2 => by
          obtain ⟨cra, crn, rfl⟩ : ∃ a k, cr = .slice a l[i].2.2.2.1.2.2.1.length k := by
            obtain ⟨r, e, _, hr⟩ := rep_call.1 hx
            simp only [List.cons.injEq, and_true, true_and] at e
            obtain ⟨a, k, rfl⟩ := hr.len
            exact ⟨a, k, e⟩
          exact ms_s10 Z mc kc kr mr hx h1 h2 (hB.lims (by omega)) (hB2.lims (by omega)) hl2 hQ)
      simp (disch := omega) only [dm_t, wA, wB, wL, wW, wY, Int.fdiv_eq_ediv_of_nonneg, Int.tdiv_eq_ediv_of_nonneg, Int.tmod_eq_emod_of_nonneg, chk_pos, decT, decF, br_pos, br_neg, wX, ↓reduceIte, Nat.reduceEqDiff, Nat.reduceAdd, Nat.reduceSub, Nat.reduceMul, Nat.reduceLeDiff, Nat.reduceLT, Nat.reduceMod, Nat.reduceDiv, Int.reduceToNat, Nat.min_eq_left, IntKind.bits, Int.reducePow, Int.reduceLT, Int.reduceLE, Int.reduceEq, Int.reduceNe, Int.reduceAdd, Int.reduceSub, and_self, reduceCtorEq, decide_eq_true_eq, decide_eq_false_iff_not, eq_self, implies_true, exists_const, Option.isNone_some, Option.isNone_none, Option.isSome_some, Option.isSome_none, Option.getD_some, k]
    · simp (disch := omega) only [dm_t, wA, wB, wL, wW, wY, Int.fdiv_eq_ediv_of_nonneg, Int.tdiv_eq_ediv_of_nonneg, Int.tmod_eq_emod_of_nonneg, chk_pos, decT, decF, br_pos, br_neg, wX, ↓reduceIte, Nat.reduceEqDiff, Nat.reduceAdd, Nat.reduceSub, Nat.reduceMul, Nat.reduceLeDiff, Nat.reduceLT, Nat.reduceMod, Nat.reduceDiv, Int.reduceToNat, Nat.min_eq_left, IntKind.bits, Int.reducePow, Int.reduceLT, Int.reduceLE, Int.reduceEq, Int.reduceNe, Int.reduceAdd, Int.reduceSub, and_self, reduceCtorEq, decide_eq_true_eq, decide_eq_false_iff_not, eq_self, implies_true, exists_const, Option.isNone_some, Option.isNone_none, Option.isSome_some, Option.isSome_none, Option.getD_some]
      refine (known_ok _).k ?_
      rintro _ g5 ⟨rfl, e5⟩
      simp (disch := omega) only [dm_t, wA, wB, wL, wW, wY, Int.fdiv_eq_ediv_of_nonneg, Int.tdiv_eq_ediv_of_nonneg, Int.tmod_eq_emod_of_nonneg, chk_pos, decT, decF, br_pos, br_neg, wX, ↓reduceIte, Nat.reduceEqDiff, Nat.reduceAdd, Nat.reduceSub, Nat.reduceMul, Nat.reduceLeDiff, Nat.reduceLT, Nat.reduceMod, Nat.reduceDiv, Int.reduceToNat, Nat.min_eq_left, IntKind.bits, Int.reducePow, Int.reduceLT, Int.reduceLE, Int.reduceEq, Int.reduceNe, Int.reduceAdd, Int.reduceSub, and_self, reduceCtorEq, decide_eq_true_eq, decide_eq_false_iff_not, eq_self, implies_true, exists_const, Option.isNone_some, Option.isNone_none, Option.isSome_some, Option.isSome_none, Option.getD_some]
      exact ⟨rfl, E1.trans e5⟩
  · refine (New_bad (by omega) hp).k ?_
    rintro _ _ ⟨rfl, rfl⟩
    simp (disch := omega) only [dm_t, wA, wB, wL, wW, wY, Int.fdiv_eq_ediv_of_nonneg, Int.tdiv_eq_ediv_of_nonneg, Int.tmod_eq_emod_of_nonneg, chk_pos, decT, decF, br_pos, br_neg, wX, ↓reduceIte, Nat.reduceEqDiff, Nat.reduceAdd, Nat.reduceSub, Nat.reduceMul, Nat.reduceLeDiff, Nat.reduceLT, Nat.reduceMod, Nat.reduceDiv, Int.reduceToNat, Nat.min_eq_left, IntKind.bits, Int.reducePow, Int.reduceLT, Int.reduceLE, Int.reduceEq, Int.reduceNe, Int.reduceAdd, Int.reduceSub, and_self, reduceCtorEq, decide_eq_true_eq, decide_eq_false_iff_not, eq_self, implies_true, exists_const, Option.isNone_some, Option.isNone_none, Option.isSome_some, Option.isSome_none, Option.getD_some]
    refine (known_ok _).k ?_
    rintro _ g5 ⟨rfl, e5⟩
    simp (disch := omega) only [dm_t, wA, wB, wL, wW, wY, Int.fdiv_eq_ediv_of_nonneg, Int.tdiv_eq_ediv_of_nonneg, Int.tmod_eq_emod_of_nonneg, chk_pos, decT, decF, br_pos, br_neg, wX, ↓reduceIte, Nat.reduceEqDiff, Nat.reduceAdd, Nat.reduceSub, Nat.reduceMul, Nat.reduceLeDiff, Nat.reduceLT, Nat.reduceMod, Nat.reduceDiv, Int.reduceToNat, Nat.min_eq_left, IntKind.bits, Int.reducePow, Int.reduceLT, Int.reduceLE, Int.reduceEq, Int.reduceNe, Int.reduceAdd, Int.reduceSub, and_self, reduceCtorEq, decide_eq_true_eq, decide_eq_false_iff_not, eq_self, implies_true, exists_const, Option.isNone_some, Option.isNone_none, Option.isSome_some, Option.isSome_none, Option.getD_some]
    exact ⟨rfl, e5⟩
end Go.Proofs.Ytpgkkpjdajkobaa.mo
