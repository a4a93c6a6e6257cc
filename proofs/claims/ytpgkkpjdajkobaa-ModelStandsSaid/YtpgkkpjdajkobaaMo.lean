/-
  model: ModelApart, walked whole.
-/
import Derived.Test.YtpgkkpjdajkobaaMn
namespace Go.Proofs.Ytpgkkpjdajkobaa.mo
open Go.Proofs.Ytpgkkpjdajkobaa rr
set_option linter.unusedVariables false
set_option linter.unusedSimpArgs false
abbrev twoT : Ty := .pair tI (.pair (.sl stepT) (.pair callT callT))
theorem rep_two {S : Nat → Prop} {h : H} {cs : List Value} {x : twoT.D} (r : Rep S twoT h cs x) : ∃ s c d, cs = [.int .i64 x.1, s] ++ cCs x.2.2.1 c ++ cCs x.2.2.2 d ∧ inI x.1 ∧ RepL S stepT h s x.2.1 ∧ Rep S callT h (cCs x.2.2.1 c) x.2.2.1 ∧ Rep S callT h (cCs x.2.2.2 d) x.2.2.2 := by
  obtain ⟨c1, d1, rfl, ⟨rfl, b1⟩, c2, d2, rfl, r2, c3, d3, rfl, r3, r4⟩ := r
  obtain ⟨s, _, rfl, _⟩ := id r2
  obtain ⟨c, rfl, _⟩ := rep_call.1 r3
  obtain ⟨d, rfl, _⟩ := rep_call.1 r4
  exact ⟨s, c, d, rfl, b1, r2, r3, r4⟩
theorem res5 {G : H} {d : Nat} {c : Array Value} {E : TypeId} {K : H → Prop} (r : callT.D) (v : Value) (qd : G d = some (.cells c E)) (hc : c.size = 5) (hv : isCell v = true) (hK : ∀ G', G' d = some (.cells (cCs r v).toArray E) → Fr (fun y => y = d) G G' → K G') : storeH G ⟨d, 0, none⟩ (cCs r v) K :=
  storeH_all qd (by rw [hc]; rfl) (by show (isCell _ && (isCell _ && (isCell v && (isCell _ && (isCell _ && true))))) = true; rw [hv]; rfl) (hK _ (hupd_same _ _ _) (Fr.upd (S := fun y => y = d) rfl _))
def runP (ps : List (List rc.D)) (l : List stepT.D) : List (List rc.D) := l.foldl (fun ps s => doP ps s.2.2.2.1) ps
def byteOk (l : List rc.D) : Prop := ∀ r ∈ l, r.2.1.length ≤ 140737488355328 ∧ r.2.2.length ≤ 140737488355328
theorem runP_bound {l : List stepT.D} {ps : List (List rc.D)} {N : Nat} (b : boundP N ps) (hl : ∀ s ∈ l, s.2.2.2.1.2.2.1.length ≤ 260 ∧ byteOk s.2.2.2.1.2.2.1) : boundP (N + 260 * l.length) (runP ps l) := by
  induction l generalizing ps N with
  | nil => exact b
  | cons s t ih =>
    have h1 := hl s List.mem_cons_self
    have h2 := ih (ps := doP ps s.2.2.2.1) (doP_bound b h1.1 h1.2) fun s hs => hl s (List.mem_cons_of_mem _ hs)
    rw [List.length_cons, show N + 260 * (t.length + 1) = N + 260 + 260 * t.length by omega]
    exact h2
theorem fit_rc {l : List rc.D} (f : Ty.fit (.sl rc) l) : byteOk l ∧ l.length ≤ 4611686018427387904 := by
  obtain ⟨f1, f2⟩ := f
  refine ⟨fun r hr => ?_, ?_⟩
  · obtain ⟨-, ⟨f3, -⟩, ⟨f4, -⟩⟩ := f2 r hr
    simp only [Ty.by] at f3 f4
    omega
  · have : Ty.by rc = 56 := rfl
    rw [this] at f1; omega
theorem runP_len (l : List stepT.D) : ∀ ps, (runP ps l).length = ps.length := by
  induction l with
  | nil => intro ps; rfl
  | cons s t ih => intro ps; exact (ih _).trans (doP_len _ _)
theorem MX.disj {S : Nat → Prop} {h0 g g' : H} {p q : Nat} {pv qv : Value} {vs ws : List Value} {ps qs : List (List rc.D)} (X : MX S h0 g p pv vs ps) (Y : MX (fun y => g y ≠ none) g g' q qv ws qs) {L : List Nat} (e : Ext g g') (E : Ext h0 g) (hT : ∀ y ∈ L, g y ≠ none ∧ h0 y = none) (hL : ∀ y ∈ L, S y) : M2 L h0 g' p q pv qv vs ws ps qs := by
  refine ⟨(X.avoid fun y hy => ?_).ext e, (Y.avoid fun y hy => .inl ?_).base E, E.trans e, fun y hy => ⟨fun hn => (hT y hy).1 (e.bk hn), (hT y hy).2⟩⟩
  · rcases hy with hy | hy
    · exact .inr (Y.own hy).1
    · exact .inl (hL y hy)
  · rcases hy with hy | hy
    · exact X.there hy
    · exact (hT y hy).1
section
variable {h g : H}
theorem ap_s3 {n : Nat} {xa xb : callT.D} {ra rb : Value} {a b p : Nat} {pv : Value} {vs : List Value} {l : List stepT.D} {sa : Option Addr} {sc : Nat} (hn1 : 1 ≤ n) (hn2 : n ≤ 16) (X : MX (fun y => y ∈ [a, b]) h g p pv vs (List.replicate n [])) (E : Ext h g) (ha : h a = none) (hb' : h b = none)
    (ka : g a = some (.cells (cCs xa ra).toArray 26)) (kb : g b = some (.cells (cCs xb rb).toArray 26)) (hxa : Rep nos callT h (cCs xa ra) xa) (hxb : Rep nos callT h (cCs xb rb) xb) (hne : ¬ @Eq Int xa.2.1 xb.2.1)
    (hs : RepL nos stepT h (.slice sa l.length sc) l) (hl : l.length ≤ 150) (hst : ∀ s ∈ l, s.2.2.2.1.2.2.1.length ≤ 260 ∧ byteOk s.2.2.2.1.2.2.1) (hla : xa.2.2.1.length ≤ 300 ∧ byteOk xa.2.2.1) (hlb : xb.2.2.1.length ≤ 300 ∧ byteOk xb.2.2.1) :
    vc Try.prog c3_s4 (retQ [2] (okR fun v h' => v = .bool true ∧ Ext h h')) [(4, .slice sa l.length sc), (5, .pointer (some ⟨a, 0, none⟩)), (6, .pointer (some ⟨b, 0, none⟩)), (7, .pointer (some ⟨p, 0, none⟩))] g := by
  have hrun : ∀ i, i ≤ l.length → boundP (260 * i) (runP (List.replicate n []) (l.take i)) := fun i hi => by
    have := runP_bound (l := l.take i) (bound0 n) fun s hs => hst s (List.mem_of_mem_take hs)
    rw [List.length_take, Nat.min_eq_left hi, Nat.zero_add] at this
    exact this
  simp (disch := omega) only [dm_t, wA, wB, wL, wW, wY, Int.fdiv_eq_ediv_of_nonneg, Int.tdiv_eq_ediv_of_nonneg, Int.tmod_eq_emod_of_nonneg, chk_pos, decT, decF, br_pos, br_neg, wX, ↓reduceIte, Nat.reduceEqDiff, Nat.reduceAdd, Nat.reduceSub, Nat.reduceMul, Nat.reduceLeDiff, Nat.reduceLT, Nat.reduceMod, Nat.reduceDiv, Int.reduceToNat, Nat.min_eq_left, IntKind.bits, Int.reducePow, Int.reduceLT, Int.reduceLE, Int.reduceEq, Int.reduceNe, Int.reduceAdd, Int.reduceSub, and_self, reduceCtorEq, decide_eq_true_eq, decide_eq_false_iff_not, eq_self, implies_true, exists_const, Option.isNone_some, Option.isNone_none, Option.isSome_some, Option.isSome_none, Option.getD_some]
  refine vc_loop1 (fun vi h' => ∃ (i : Nat) (vs' : List Value), vi = .int .i64 (i : Int) ∧ i ≤ l.length ∧ MX (fun y => y ∈ [a, b]) h h' p pv vs' (runP (List.replicate n []) (l.take i)) ∧ Ext h h' ∧ h' a = some (.cells (cCs xa ra).toArray 26) ∧ h' b = some (.cells (cCs xb rb).toArray 26)) (fun vi _ => l.length - m1 vi) ?_ ?_
  · simp (disch := omega) only [dm_t, wA, wB, wL, wW, wY, Int.fdiv_eq_ediv_of_nonneg, Int.tdiv_eq_ediv_of_nonneg, Int.tmod_eq_emod_of_nonneg, chk_pos, decT, decF, br_pos, br_neg, wX, ↓reduceIte, Nat.reduceEqDiff, Nat.reduceAdd, Nat.reduceSub, Nat.reduceMul, Nat.reduceLeDiff, Nat.reduceLT, Nat.reduceMod, Nat.reduceDiv, Int.reduceToNat, Nat.min_eq_left, IntKind.bits, Int.reducePow, Int.reduceLT, Int.reduceLE, Int.reduceEq, Int.reduceNe, Int.reduceAdd, Int.reduceSub, and_self, reduceCtorEq, decide_eq_true_eq, decide_eq_false_iff_not, eq_self, implies_true, exists_const, Option.isNone_some, Option.isNone_none, Option.isSome_some, Option.isSome_none, Option.getD_some]
    exact ⟨0, vs, rfl, by omega, X, E, ka, kb⟩
  rintro _ g1 ⟨i, vs', rfl, hi, X1, E1, ka1, kb1⟩
  have hS : ∀ {G : H}, G a = some (.cells (cCs xa ra).toArray 26) → G b = some (.cells (cCs xb rb).toArray 26) → ∀ y, y ∈ [a, b] → G y ≠ none ∧ h y = none := by
    intro G h1 h2 y hy
    simp only [List.mem_cons, List.not_mem_nil, or_false] at hy
    rcases hy with rfl | rfl
    · rw [h1]; exact ⟨by simp, ha⟩
    · rw [h2]; exact ⟨by simp, hb'⟩
  by_cases hil : i < l.length
  · have hsplit : l.take (i + 1) = l.take i ++ [l[i]] := by simp
    have hsi := hst _ (List.getElem_mem hil)
    obtain ⟨b', o, c, d, gi, k1, -, -, -, -, -, -, -, -, -, rc1, -⟩ := step_at (hs.ext E1) hil
    simp (disch := omega) only [dm_t, wA, wB, wL, wW, wY, Int.fdiv_eq_ediv_of_nonneg, Int.tdiv_eq_ediv_of_nonneg, Int.tmod_eq_emod_of_nonneg, chk_pos, decT, decF, br_pos, br_neg, wX, ↓reduceIte, Nat.reduceEqDiff, Nat.reduceAdd, Nat.reduceSub, Nat.reduceMul, Nat.reduceLeDiff, Nat.reduceLT, Nat.reduceMod, Nat.reduceDiv, Int.reduceToNat, Nat.min_eq_left, IntKind.bits, Int.reducePow, Int.reduceLT, Int.reduceLE, Int.reduceEq, Int.reduceNe, Int.reduceAdd, Int.reduceSub, and_self, reduceCtorEq, decide_eq_true_eq, decide_eq_false_iff_not, eq_self, implies_true, exists_const, Option.isNone_some, Option.isNone_none, Option.isSome_some, Option.isSome_none, Option.getD_some, gi, k1]
    refine (Do_ok X1 E1 (fun y hy => (hS ka1 kb1 y hy).1) rc1 ⟨by omega, hsi.2⟩ ((hrun i (by omega)).lims (by omega))).k ?_
    rintro _ g2 ⟨cs', rfl, -, ⟨vs2, X2, -, -⟩, f⟩
    simp (disch := omega) only [dm_t, wA, wB, wL, wW, wY, Int.fdiv_eq_ediv_of_nonneg, Int.tdiv_eq_ediv_of_nonneg, Int.tmod_eq_emod_of_nonneg, chk_pos, decT, decF, br_pos, br_neg, wX, ↓reduceIte, Nat.reduceEqDiff, Nat.reduceAdd, Nat.reduceSub, Nat.reduceMul, Nat.reduceLeDiff, Nat.reduceLT, Nat.reduceMod, Nat.reduceDiv, Int.reduceToNat, Nat.min_eq_left, IntKind.bits, Int.reducePow, Int.reduceLT, Int.reduceLE, Int.reduceEq, Int.reduceNe, Int.reduceAdd, Int.reduceSub, and_self, reduceCtorEq, decide_eq_true_eq, decide_eq_false_iff_not, eq_self, implies_true, exists_const, Option.isNone_some, Option.isNone_none, Option.isSome_some, Option.isSome_none, Option.getD_some]
    have no : ∀ y, y ∈ [a, b] → ¬ MF p pv vs' y := fun y hy hm => (X1.own hm).2 hy
    refine ⟨⟨i + 1, vs2, by simp, by omega, ?_, Ext.step' E1 f fun y hy => (X1.own hy).1, f _ _ ka1 (no a (by simp)), f _ _ kb1 (no b (by simp))⟩, by simp [m1]; omega⟩
    rw [hsplit, runP, List.foldl_append]
    exact X2
  · obtain rfl : i = l.length := by omega
    rw [List.take_length] at X1
    have hB := hrun l.length (Nat.le_refl _)
    rw [List.take_length] at hB
    have hB0 : boundP 39000 (runP (List.replicate n []) l) := hB.mono (by omega)
    simp (disch := omega) only [dm_t, wA, wB, wL, wW, wY, Int.fdiv_eq_ediv_of_nonneg, Int.tdiv_eq_ediv_of_nonneg, Int.tmod_eq_emod_of_nonneg, chk_pos, decT, decF, br_pos, br_neg, wX, ↓reduceIte, Nat.reduceEqDiff, Nat.reduceAdd, Nat.reduceSub, Nat.reduceMul, Nat.reduceLeDiff, Nat.reduceLT, Nat.reduceMod, Nat.reduceDiv, Int.reduceToNat, Nat.min_eq_left, IntKind.bits, Int.reducePow, Int.reduceLT, Int.reduceLE, Int.reduceEq, Int.reduceNe, Int.reduceAdd, Int.reduceSub, and_self, reduceCtorEq, decide_eq_true_eq, decide_eq_false_iff_not, eq_self, implies_true, exists_const, Option.isNone_some, Option.isNone_none, Option.isSome_some, Option.isSome_none, Option.getD_some]
    refine (Copy_ok X1 (hB0.lims (by omega))).k ?_
    rintro _ g2 ⟨q, qv, ws, rfl, Y, e2⟩
    simp (disch := omega) only [dm_t, wV, wB, wL, wW, wU, Int.fdiv_eq_ediv_of_nonneg, Int.tdiv_eq_ediv_of_nonneg, Int.tmod_eq_emod_of_nonneg, chk_pos, decT, decF, br_pos, br_neg, wX, ↓reduceIte, Nat.reduceEqDiff, Nat.reduceAdd, Nat.reduceSub, Nat.reduceMul, Nat.reduceLeDiff, Nat.reduceLT, Nat.reduceMod, Nat.reduceDiv, Int.reduceToNat, Nat.min_eq_left, IntKind.bits, Int.reducePow, Int.reduceLT, Int.reduceLE, Int.reduceEq, Int.reduceNe, Int.reduceAdd, Int.reduceSub, and_self, reduceCtorEq, decide_eq_true_eq, decide_eq_false_iff_not, eq_self, implies_true, exists_const, Option.isNone_some, Option.isNone_none, Option.isSome_some, Option.isSome_none, Option.getD_some]
    have Z := X1.disj (L := [a, b]) Y e2 E1 (fun y hy => hS ka1 kb1 y hy) fun y hy => hy
    have b1 := doP_bound hB0 hla.1 hla.2
    have b2 := doP_bound hB0 hlb.1 hlb.2
    have b3 := doP_bound b2 hla.1 hla.2
    exact ap_s9 Z hne (hB0.lims (by omega)) (b1.lims (by omega)) (b2.lims (by omega)) (b3.lims (by omega)) ⟨by omega, hla.2⟩ ⟨by omega, hlb.2⟩ hxa hxb (e2.at ka1) (e2.at kb1) (by simp) (by simp)
theorem ap_s1 {parts : Int} {xa xb : callT.D} {ra rb : Value} {a b : Nat} {l : List stepT.D} {sa : Option Addr} {sc : Nat} (E : Ext h g) (ha : h a = none) (hb' : h b = none) (ka : g a = some (.cells (cCs xa ra).toArray 26)) (kb : g b = some (.cells (cCs xb rb).toArray 26)) (hp : inI parts)
    (hs : RepL nos stepT h (.slice sa l.length sc) l) (hxa : Rep nos callT h (cCs xa ra) xa) (hxb : Rep nos callT h (cCs xb rb) xb) (hla : byteOk xa.2.2.1 ∧ xa.2.2.1.length ≤ 4611686018427387904) (hlb : byteOk xb.2.2.1 ∧ xb.2.2.1.length ≤ 4611686018427387904)
    (hst : ∀ s ∈ l, (byteOk s.2.2.2.1.2.2.1 ∧ s.2.2.2.1.2.2.1.length ≤ 4611686018427387904) ∧ byteOk s.2.2.2.2.2.2 ∧ s.2.2.2.2.2.2.length ≤ 4611686018427387904) (hl : l.length ≤ 4611686018427387904) :
    vc Try.prog c3_s1 (retQ [2] (okR fun v h' => v = .bool true ∧ Ext h h')) [(3, .int .i64 parts), (4, .slice sa l.length sc), (5, .pointer (some ⟨a, 0, none⟩)), (6, .pointer (some ⟨b, 0, none⟩))] g := by
  have ca2 : ∀ {G : H}, Ext g G → cellAt G ⟨a, 2, none⟩ = some ra := fun e => (caC (e.at ka)).c2
  have cb2 : ∀ {G : H}, Ext g G → cellAt G ⟨b, 2, none⟩ = some rb := fun e => (caC (e.at kb)).c2
  have ka' := caC ka
  have kb' := caC kb
  obtain ⟨r, e, _, hra⟩ := rep_call.1 hxa
  simp only [List.cons.injEq, and_true, true_and] at e
  obtain rfl := e
  obtain ⟨a1, a2, rfl⟩ := hra.len
  obtain ⟨r, e, _, hrb⟩ := rep_call.1 hxb
  simp only [List.cons.injEq, and_true, true_and] at e
  obtain rfl := e
  obtain ⟨b1, b2, rfl⟩ := hrb.len
  simp (disch := omega) only [dm_t, wA, wB, wL, wW, wY, Int.fdiv_eq_ediv_of_nonneg, Int.tdiv_eq_ediv_of_nonneg, Int.tmod_eq_emod_of_nonneg, chk_pos, decT, decF, br_pos, br_neg, wX, ↓reduceIte, Nat.reduceEqDiff, Nat.reduceAdd, Nat.reduceSub, Nat.reduceMul, Nat.reduceLeDiff, Nat.reduceLT, Nat.reduceMod, Nat.reduceDiv, Int.reduceToNat, Nat.min_eq_left, IntKind.bits, Int.reducePow, Int.reduceLT, Int.reduceLE, Int.reduceEq, Int.reduceNe, Int.reduceAdd, Int.reduceSub, and_self, reduceCtorEq, decide_eq_true_eq, decide_eq_false_iff_not, eq_self, implies_true, exists_const, Option.isNone_some, Option.isNone_none, Option.isSome_some, Option.isSome_none, Option.getD_some]
  refine (vast_ok (hs.ext E) hl fun s hs => ⟨(hst s hs).1.2, (hst s hs).2.2⟩).k ?_
  rintro _ _ ⟨rfl, rfl⟩
  by_cases hv : vastP l = true
  · rw [hv]
    simp (disch := omega) only [dm_t, wA, wB, wL, wW, wY, Int.fdiv_eq_ediv_of_nonneg, Int.tdiv_eq_ediv_of_nonneg, Int.tmod_eq_emod_of_nonneg, chk_pos, decT, decF, br_pos, br_neg, wX, ↓reduceIte, Nat.reduceEqDiff, Nat.reduceAdd, Nat.reduceSub, Nat.reduceMul, Nat.reduceLeDiff, Nat.reduceLT, Nat.reduceMod, Nat.reduceDiv, Int.reduceToNat, Nat.min_eq_left, IntKind.bits, Int.reducePow, Int.reduceLT, Int.reduceLE, Int.reduceEq, Int.reduceNe, Int.reduceAdd, Int.reduceSub, and_self, reduceCtorEq, decide_eq_true_eq, decide_eq_false_iff_not, eq_self, implies_true, exists_const, Option.isNone_some, Option.isNone_none, Option.isSome_some, Option.isSome_none, Option.getD_some]
    refine (known_ok _).k ?_
    rintro _ g5 ⟨rfl, e5⟩
    simp (disch := omega) only [dm_t, wA, wB, wL, wW, wY, Int.fdiv_eq_ediv_of_nonneg, Int.tdiv_eq_ediv_of_nonneg, Int.tmod_eq_emod_of_nonneg, chk_pos, decT, decF, br_pos, br_neg, wX, ↓reduceIte, Nat.reduceEqDiff, Nat.reduceAdd, Nat.reduceSub, Nat.reduceMul, Nat.reduceLeDiff, Nat.reduceLT, Nat.reduceMod, Nat.reduceDiv, Int.reduceToNat, Nat.min_eq_left, IntKind.bits, Int.reducePow, Int.reduceLT, Int.reduceLE, Int.reduceEq, Int.reduceNe, Int.reduceAdd, Int.reduceSub, and_self, reduceCtorEq, decide_eq_true_eq, decide_eq_false_iff_not, eq_self, implies_true, exists_const, Option.isNone_some, Option.isNone_none, Option.isSome_some, Option.isSome_none, Option.getD_some]
    exact E.trans e5
  rw [Bool.not_eq_true] at hv
  rw [hv]
  obtain ⟨hv1, hv2⟩ := vastP_not hv
  by_cases h1 : 300 < xa.2.2.1.length
  · simp (disch := omega) only [dm_t, wA, wB, wL, wW, wY, Int.fdiv_eq_ediv_of_nonneg, Int.tdiv_eq_ediv_of_nonneg, Int.tmod_eq_emod_of_nonneg, chk_pos, decT, decF, br_pos, br_neg, wX, ↓reduceIte, Nat.reduceEqDiff, Nat.reduceAdd, Nat.reduceSub, Nat.reduceMul, Nat.reduceLeDiff, Nat.reduceLT, Nat.reduceMod, Nat.reduceDiv, Int.reduceToNat, Nat.min_eq_left, IntKind.bits, Int.reducePow, Int.reduceLT, Int.reduceLE, Int.reduceEq, Int.reduceNe, Int.reduceAdd, Int.reduceSub, and_self, reduceCtorEq, decide_eq_true_eq, decide_eq_false_iff_not, eq_self, implies_true, exists_const, Option.isNone_some, Option.isNone_none, Option.isSome_some, Option.isSome_none, Option.getD_some, ka'.c2]
    refine (known_ok _).k ?_
    rintro _ g5 ⟨rfl, e5⟩
    simp (disch := omega) only [dm_t, wA, wB, wL, wW, wY, Int.fdiv_eq_ediv_of_nonneg, Int.tdiv_eq_ediv_of_nonneg, Int.tmod_eq_emod_of_nonneg, chk_pos, decT, decF, br_pos, br_neg, wX, ↓reduceIte, Nat.reduceEqDiff, Nat.reduceAdd, Nat.reduceSub, Nat.reduceMul, Nat.reduceLeDiff, Nat.reduceLT, Nat.reduceMod, Nat.reduceDiv, Int.reduceToNat, Nat.min_eq_left, IntKind.bits, Int.reducePow, Int.reduceLT, Int.reduceLE, Int.reduceEq, Int.reduceNe, Int.reduceAdd, Int.reduceSub, and_self, reduceCtorEq, decide_eq_true_eq, decide_eq_false_iff_not, eq_self, implies_true, exists_const, Option.isNone_some, Option.isNone_none, Option.isSome_some, Option.isSome_none, Option.getD_some]
    exact E.trans e5
  by_cases h2 : 300 < xb.2.2.1.length
  · simp (disch := omega) only [dm_t, wA, wB, wL, wW, wY, Int.fdiv_eq_ediv_of_nonneg, Int.tdiv_eq_ediv_of_nonneg, Int.tmod_eq_emod_of_nonneg, chk_pos, decT, decF, br_pos, br_neg, wX, ↓reduceIte, Nat.reduceEqDiff, Nat.reduceAdd, Nat.reduceSub, Nat.reduceMul, Nat.reduceLeDiff, Nat.reduceLT, Nat.reduceMod, Nat.reduceDiv, Int.reduceToNat, Nat.min_eq_left, IntKind.bits, Int.reducePow, Int.reduceLT, Int.reduceLE, Int.reduceEq, Int.reduceNe, Int.reduceAdd, Int.reduceSub, and_self, reduceCtorEq, decide_eq_true_eq, decide_eq_false_iff_not, eq_self, implies_true, exists_const, Option.isNone_some, Option.isNone_none, Option.isSome_some, Option.isSome_none, Option.getD_some, ka'.c2, kb'.c2]
    refine (known_ok _).k ?_
    rintro _ g5 ⟨rfl, e5⟩
    simp (disch := omega) only [dm_t, wA, wB, wL, wW, wY, Int.fdiv_eq_ediv_of_nonneg, Int.tdiv_eq_ediv_of_nonneg, Int.tmod_eq_emod_of_nonneg, chk_pos, decT, decF, br_pos, br_neg, wX, ↓reduceIte, Nat.reduceEqDiff, Nat.reduceAdd, Nat.reduceSub, Nat.reduceMul, Nat.reduceLeDiff, Nat.reduceLT, Nat.reduceMod, Nat.reduceDiv, Int.reduceToNat, Nat.min_eq_left, IntKind.bits, Int.reducePow, Int.reduceLT, Int.reduceLE, Int.reduceEq, Int.reduceNe, Int.reduceAdd, Int.reduceSub, and_self, reduceCtorEq, decide_eq_true_eq, decide_eq_false_iff_not, eq_self, implies_true, exists_const, Option.isNone_some, Option.isNone_none, Option.isSome_some, Option.isSome_none, Option.getD_some]
    exact E.trans e5
  by_cases h3 : @Eq Int xa.2.1 xb.2.1
  · simp (disch := omega) only [dm_t, wA, wB, wL, wW, wY, Int.fdiv_eq_ediv_of_nonneg, Int.tdiv_eq_ediv_of_nonneg, Int.tmod_eq_emod_of_nonneg, chk_pos, decT, decF, br_pos, br_neg, wX, ↓reduceIte, Nat.reduceEqDiff, Nat.reduceAdd, Nat.reduceSub, Nat.reduceMul, Nat.reduceLeDiff, Nat.reduceLT, Nat.reduceMod, Nat.reduceDiv, Int.reduceToNat, Nat.min_eq_left, IntKind.bits, Int.reducePow, Int.reduceLT, Int.reduceLE, Int.reduceEq, Int.reduceNe, Int.reduceAdd, Int.reduceSub, and_self, reduceCtorEq, decide_eq_true_eq, decide_eq_false_iff_not, eq_self, implies_true, exists_const, Option.isNone_some, Option.isNone_none, Option.isSome_some, Option.isSome_none, Option.getD_some, ka'.c2, kb'.c2, ka'.c1, kb'.c1, h3]
    refine (known_ok _).k ?_
    rintro _ g5 ⟨rfl, e5⟩
    simp (disch := omega) only [dm_t, wA, wB, wL, wW, wY, Int.fdiv_eq_ediv_of_nonneg, Int.tdiv_eq_ediv_of_nonneg, Int.tmod_eq_emod_of_nonneg, chk_pos, decT, decF, br_pos, br_neg, wX, ↓reduceIte, Nat.reduceEqDiff, Nat.reduceAdd, Nat.reduceSub, Nat.reduceMul, Nat.reduceLeDiff, Nat.reduceLT, Nat.reduceMod, Nat.reduceDiv, Int.reduceToNat, Nat.min_eq_left, IntKind.bits, Int.reducePow, Int.reduceLT, Int.reduceLE, Int.reduceEq, Int.reduceNe, Int.reduceAdd, Int.reduceSub, and_self, reduceCtorEq, decide_eq_true_eq, decide_eq_false_iff_not, eq_self, implies_true, exists_const, Option.isNone_some, Option.isNone_none, Option.isSome_some, Option.isSome_none, Option.getD_some]
    exact E.trans e5
  simp (disch := omega) only [dm_t, wA, wB, wL, wW, wY, Int.fdiv_eq_ediv_of_nonneg, Int.tdiv_eq_ediv_of_nonneg, Int.tmod_eq_emod_of_nonneg, chk_pos, decT, decF, br_pos, br_neg, wX, ↓reduceIte, Nat.reduceEqDiff, Nat.reduceAdd, Nat.reduceSub, Nat.reduceMul, Nat.reduceLeDiff, Nat.reduceLT, Nat.reduceMod, Nat.reduceDiv, Int.reduceToNat, Nat.min_eq_left, IntKind.bits, Int.reducePow, Int.reduceLT, Int.reduceLE, Int.reduceEq, Int.reduceNe, Int.reduceAdd, Int.reduceSub, and_self, reduceCtorEq, decide_eq_true_eq, decide_eq_false_iff_not, eq_self, implies_true, exists_const, Option.isNone_some, Option.isNone_none, Option.isSome_some, Option.isSome_none, Option.getD_some, ka'.c2, kb'.c2, ka'.c1, kb'.c1]
  by_cases hn : 1 ≤ parts ∧ parts ≤ 16
  · obtain ⟨n, rfl⟩ : ∃ n : Nat, parts = (n : Int) := ⟨parts.toNat, by omega⟩
    refine (New_okS (S := fun y => y ∈ [a, b]) (n := n) (by omega) (by omega) ?_).k ?_
    · intro y hy
      simp only [List.mem_cons, List.not_mem_nil, or_false] at hy
      rcases hy with rfl | rfl
      · rw [ka]; simp
      · rw [kb]; simp
    rintro _ g2 ⟨p, pv, vs, rfl, X, e2⟩
    have k := ap_s3 (by omega) (by omega) (X.base E) (E.trans e2) ha hb' (e2.at ka) (e2.at kb) hxa hxb h3 hs hv1 (fun s hs => ⟨(largeP_not (hv2 s hs).1).1, (hst s hs).1.1⟩) ⟨by omega, hla.1⟩ ⟨by omega, hlb.1⟩
    simp (disch := omega) only [dm_t, wA, wB, wL, wW, wY, Int.fdiv_eq_ediv_of_nonneg, Int.tdiv_eq_ediv_of_nonneg, Int.tmod_eq_emod_of_nonneg, chk_pos, decT, decF, br_pos, br_neg, wX, ↓reduceIte, Nat.reduceEqDiff, Nat.reduceAdd, Nat.reduceSub, Nat.reduceMul, Nat.reduceLeDiff, Nat.reduceLT, Nat.reduceMod, Nat.reduceDiv, Int.reduceToNat, Nat.min_eq_left, IntKind.bits, Int.reducePow, Int.reduceLT, Int.reduceLE, Int.reduceEq, Int.reduceNe, Int.reduceAdd, Int.reduceSub, and_self, reduceCtorEq, decide_eq_true_eq, decide_eq_false_iff_not, eq_self, implies_true, exists_const, Option.isNone_some, Option.isNone_none, Option.isSome_some, Option.isSome_none, Option.getD_some, k]
  · refine (New_bad (by omega) hp).k ?_
    rintro _ _ ⟨rfl, rfl⟩
    simp (disch := omega) only [dm_t, wA, wB, wL, wW, wY, Int.fdiv_eq_ediv_of_nonneg, Int.tdiv_eq_ediv_of_nonneg, Int.tmod_eq_emod_of_nonneg, chk_pos, decT, decF, br_pos, br_neg, wX, ↓reduceIte, Nat.reduceEqDiff, Nat.reduceAdd, Nat.reduceSub, Nat.reduceMul, Nat.reduceLeDiff, Nat.reduceLT, Nat.reduceMod, Nat.reduceDiv, Int.reduceToNat, Nat.min_eq_left, IntKind.bits, Int.reducePow, Int.reduceLT, Int.reduceLE, Int.reduceEq, Int.reduceNe, Int.reduceAdd, Int.reduceSub, and_self, reduceCtorEq, decide_eq_true_eq, decide_eq_false_iff_not, eq_self, implies_true, exists_const, Option.isNone_some, Option.isNone_none, Option.isSome_some, Option.isSome_none, Option.getD_some]
    refine (known_ok _).k ?_
    rintro _ g5 ⟨rfl, e5⟩
    simp (disch := omega) only [dm_t, wA, wB, wL, wW, wY, Int.fdiv_eq_ediv_of_nonneg, Int.tdiv_eq_ediv_of_nonneg, Int.tmod_eq_emod_of_nonneg, chk_pos, decT, decF, br_pos, br_neg, wX, ↓reduceIte, Nat.reduceEqDiff, Nat.reduceAdd, Nat.reduceSub, Nat.reduceMul, Nat.reduceLeDiff, Nat.reduceLT, Nat.reduceMod, Nat.reduceDiv, Int.reduceToNat, Nat.min_eq_left, IntKind.bits, Int.reducePow, Int.reduceLT, Int.reduceLE, Int.reduceEq, Int.reduceNe, Int.reduceAdd, Int.reduceSub, and_self, reduceCtorEq, decide_eq_true_eq, decide_eq_false_iff_not, eq_self, implies_true, exists_const, Option.isNone_some, Option.isNone_none, Option.isSome_some, Option.isSome_none, Option.getD_some]
    exact E.trans e5
end
theorem MA_ok {h : H} {cs : List Value} {x : twoT.D} (hx : Rep nos twoT h cs x) (hf : twoT.fit x) : Ok Try.prog 3 #[.agg cs.toArray] h fun v h' => v = .bool true ∧ Ext h h' := by
  obtain ⟨s, c, d, rfl, hb, hs, hxa, hxb⟩ := rep_two hx
  obtain ⟨-, ⟨hfs, hfe⟩, ⟨-, -, hfa, -⟩, ⟨-, -, hfb, -⟩⟩ := hf
  obtain ⟨sa, sc, rfl⟩ := hs.len
  have hby : Ty.by stepT = 120 := rfl
  rw [hby] at hfs
  obtain ⟨ba, la⟩ := fit_rc hfa
  obtain ⟨bb, lb⟩ := fit_rc hfb
  have hst : ∀ s ∈ x.2.1, (byteOk s.2.2.2.1.2.2.1 ∧ s.2.2.2.1.2.2.1.length ≤ 4611686018427387904) ∧ byteOk s.2.2.2.2.2.2 ∧ s.2.2.2.2.2.2.length ≤ 4611686018427387904 := by
    intro s hs
    obtain ⟨-, -, -, ⟨-, -, f1, -⟩, -, -, f2⟩ := hfe s hs
    exact ⟨fit_rc f1, fit_rc f2⟩
  clear hfa hfb hfe
  obtain ⟨ca, cc, rfl⟩ : ∃ a k, c = .slice a x.2.2.1.2.2.1.length k := by
    obtain ⟨r, e, _, hr⟩ := rep_call.1 hxa
    simp only [List.cons.injEq, and_true, true_and] at e
    obtain ⟨a, k, rfl⟩ := hr.len
    exact ⟨a, k, e⟩
  obtain ⟨da, dc, rfl⟩ : ∃ a k, d = .slice a x.2.2.2.2.2.1.length k := by
    obtain ⟨r, e, _, hr⟩ := rep_call.1 hxb
    simp only [List.cons.injEq, and_true, true_and] at e
    obtain ⟨a, k, rfl⟩ := hr.len
    exact ⟨a, k, e⟩
  refine c3_ok (args := [_]) (by simp) ?_
  simp (disch := omega) only [dm_t, wA, wB, wL, wW, wY, Int.fdiv_eq_ediv_of_nonneg, Int.tdiv_eq_ediv_of_nonneg, Int.tmod_eq_emod_of_nonneg, chk_pos, decT, decF, br_pos, br_neg, wX, ↓reduceIte, Nat.reduceEqDiff, Nat.reduceAdd, Nat.reduceSub, Nat.reduceMul, Nat.reduceLeDiff, Nat.reduceLT, Nat.reduceMod, Nat.reduceDiv, Int.reduceToNat, Nat.min_eq_left, IntKind.bits, Int.reducePow, Int.reduceLT, Int.reduceLE, Int.reduceEq, Int.reduceNe, Int.reduceAdd, Int.reduceSub, and_self, reduceCtorEq, decide_eq_true_eq, decide_eq_false_iff_not, eq_self, implies_true, exists_const, Option.isNone_some, Option.isNone_none, Option.isSome_some, Option.isSome_none, Option.getD_some]
  intro ib hib
  generalize hG : hupd h ib _ = g1
  obtain ⟨E, qi⟩ := new_ext hG hib
  clear hG
  simp only [List.cons_append, List.nil_append] at qi
  generalize ho : Obj.cells _ _ _ = o at qi
  have i0 : ∀ {G : H}, G ib = some o → cellAt G ⟨ib, 0, none⟩ = some (.int .i64 x.1) := fun q => by rw [← ho] at q; rw [cellAt_of q]; rfl
  have i1 : ∀ {G : H}, G ib = some o → cellAt G ⟨ib, 1, none⟩ = some (.slice sa x.2.1.length sc) := fun q => by rw [← ho] at q; rw [cellAt_of q]; rfl
  have i2 : ∀ {G : H}, G ib = some o → cellsAt G ⟨ib, 2, none⟩ 5 = some (cCs x.2.2.1 (.slice ca x.2.2.1.2.2.1.length cc)).toArray := fun q => by
    rw [← ho] at q
    have q2 := cellsAt_part (cellsAt_all q 12 (by simp)) 2 5 (by omega) (by omega)
    simp only [List.drop_succ_cons, List.drop_zero, List.take_succ_cons, List.take_zero] at q2
    exact q2
  have i7 : ∀ {G : H}, G ib = some o → cellsAt G ⟨ib, 7, none⟩ 5 = some (cCs x.2.2.2 (.slice da x.2.2.2.2.2.1.length dc)).toArray := fun q => by
    rw [← ho] at q
    have q2 := cellsAt_part (cellsAt_all q 12 (by simp)) 7 5 (by omega) (by omega)
    simp only [List.drop_succ_cons, List.drop_zero, List.take_succ_cons, List.take_zero] at q2
    exact q2
  clear ho
  simp (disch := omega) only [dm_t, wV, wB, wL, wW, wU, Int.fdiv_eq_ediv_of_nonneg, Int.tdiv_eq_ediv_of_nonneg, Int.tmod_eq_emod_of_nonneg, chk_pos, decT, decF, br_pos, br_neg, wX, ↓reduceIte, Nat.reduceEqDiff, Nat.reduceAdd, Nat.reduceSub, Nat.reduceMul, Nat.reduceLeDiff, Nat.reduceLT, Nat.reduceMod, Nat.reduceDiv, Int.reduceToNat, Nat.min_eq_left, IntKind.bits, Int.reducePow, Int.reduceLT, Int.reduceLE, Int.reduceEq, Int.reduceNe, Int.reduceAdd, Int.reduceSub, and_self, reduceCtorEq, decide_eq_true_eq, decide_eq_false_iff_not, eq_self, implies_true, exists_const, Option.isNone_some, Option.isNone_none, Option.isSome_some, Option.isSome_none, Option.getD_some, i0 qi, i1 qi, i2 qi, i7 qi]
  repeat' (first
    | refine ⟨?_, ?_⟩
    | (intro a ha
       have hnone := E.bk ha
       (try have mm := ne_of qn1 ha)
       have mm := ne_of qi ha
       generalize hG : hupd _ a _ = G
       obtain ⟨e', qa⟩ := new_ext hG ha
       clear hG ha
       replace E := E.trans e'
       replace qi := e'.at qi
       (try replace qn1 := e'.at qn1)
       first
         | (have t := qn1; clear t; have qn2 := qa; have hn2 := hnone)
         | (have qn1 := qa; have hn1 := hnone)
       clear qa hnone
       simp (disch := omega) only [dm_t, wV, wB, wL, wW, wU, Int.fdiv_eq_ediv_of_nonneg, Int.tdiv_eq_ediv_of_nonneg, Int.tmod_eq_emod_of_nonneg, chk_pos, decT, decF, br_pos, br_neg, wX, ↓reduceIte, Nat.reduceEqDiff, Nat.reduceAdd, Nat.reduceSub, Nat.reduceMul, Nat.reduceLeDiff, Nat.reduceLT, Nat.reduceMod, Nat.reduceDiv, Int.reduceToNat, Nat.min_eq_left, IntKind.bits, Int.reducePow, Int.reduceLT, Int.reduceLE, Int.reduceEq, Int.reduceNe, Int.reduceAdd, Int.reduceSub, and_self, reduceCtorEq, decide_eq_true_eq, decide_eq_false_iff_not, eq_self, implies_true, exists_const, Option.isNone_some, Option.isNone_none, Option.isSome_some, Option.isSome_none, Option.getD_some, i0 qi, i1 qi, i2 qi, i7 qi]))
  all_goals first
    | (refine res5 x.2.2.1 (.slice ca x.2.2.1.2.2.1.length cc) qn1 rfl rfl ?_
       intro G1 q1 f1
       have q2 := f1 _ _ qn2 (by show ¬ (_ = _); omega)
       have E1 := Ext.step' E f1 fun y hy => by rw [hy]; assumption
       have qi1 := f1 _ _ qi (by show ¬ (_ = _); omega)
       simp (disch := omega) only [dm_t, wV, wB, wL, wW, wU, Int.fdiv_eq_ediv_of_nonneg, Int.tdiv_eq_ediv_of_nonneg, Int.tmod_eq_emod_of_nonneg, chk_pos, decT, decF, br_pos, br_neg, wX, ↓reduceIte, Nat.reduceEqDiff, Nat.reduceAdd, Nat.reduceSub, Nat.reduceMul, Nat.reduceLeDiff, Nat.reduceLT, Nat.reduceMod, Nat.reduceDiv, Int.reduceToNat, Nat.min_eq_left, IntKind.bits, Int.reducePow, Int.reduceLT, Int.reduceLE, Int.reduceEq, Int.reduceNe, Int.reduceAdd, Int.reduceSub, and_self, reduceCtorEq, decide_eq_true_eq, decide_eq_false_iff_not, eq_self, implies_true, exists_const, Option.isNone_some, Option.isNone_none, Option.isSome_some, Option.isSome_none, Option.getD_some, i7 qi1]
       refine res5 x.2.2.2 (.slice da x.2.2.2.2.2.1.length dc) q2 rfl rfl ?_
       intro G2 q2 f2
       have q1 := f2 _ _ q1 (by show ¬ (_ = _); omega)
       have E2 := Ext.step' E1 f2 fun y hy => by rw [hy]; assumption
       simp (disch := omega) only [dm_t, wV, wB, wL, wW, wU, Int.fdiv_eq_ediv_of_nonneg, Int.tdiv_eq_ediv_of_nonneg, Int.tmod_eq_emod_of_nonneg, chk_pos, decT, decF, br_pos, br_neg, wX, ↓reduceIte, Nat.reduceEqDiff, Nat.reduceAdd, Nat.reduceSub, Nat.reduceMul, Nat.reduceLeDiff, Nat.reduceLT, Nat.reduceMod, Nat.reduceDiv, Int.reduceToNat, Nat.min_eq_left, IntKind.bits, Int.reducePow, Int.reduceLT, Int.reduceLE, Int.reduceEq, Int.reduceNe, Int.reduceAdd, Int.reduceSub, and_self, reduceCtorEq, decide_eq_true_eq, decide_eq_false_iff_not, eq_self, implies_true, exists_const, Option.isNone_some, Option.isNone_none, Option.isSome_some, Option.isSome_none, Option.getD_some]
       exact ap_s1 E2 hn1 hn2 q1 q2 hb hs hxa hxb ⟨ba, la⟩ ⟨bb, lb⟩ hst (by omega))
    | (refine res5 x.2.2.1 (.slice ca x.2.2.1.2.2.1.length cc) qn2 rfl rfl ?_
       intro G1 q1 f1
       have q2 := f1 _ _ qn1 (by show ¬ (_ = _); omega)
       have E1 := Ext.step' E f1 fun y hy => by rw [hy]; assumption
       have qi1 := f1 _ _ qi (by show ¬ (_ = _); omega)
       simp (disch := omega) only [dm_t, wV, wB, wL, wW, wU, Int.fdiv_eq_ediv_of_nonneg, Int.tdiv_eq_ediv_of_nonneg, Int.tmod_eq_emod_of_nonneg, chk_pos, decT, decF, br_pos, br_neg, wX, ↓reduceIte, Nat.reduceEqDiff, Nat.reduceAdd, Nat.reduceSub, Nat.reduceMul, Nat.reduceLeDiff, Nat.reduceLT, Nat.reduceMod, Nat.reduceDiv, Int.reduceToNat, Nat.min_eq_left, IntKind.bits, Int.reducePow, Int.reduceLT, Int.reduceLE, Int.reduceEq, Int.reduceNe, Int.reduceAdd, Int.reduceSub, and_self, reduceCtorEq, decide_eq_true_eq, decide_eq_false_iff_not, eq_self, implies_true, exists_const, Option.isNone_some, Option.isNone_none, Option.isSome_some, Option.isSome_none, Option.getD_some, i7 qi1]
       refine res5 x.2.2.2 (.slice da x.2.2.2.2.2.1.length dc) q2 rfl rfl ?_
       intro G2 q2 f2
       have q1 := f2 _ _ q1 (by show ¬ (_ = _); omega)
       have E2 := Ext.step' E1 f2 fun y hy => by rw [hy]; assumption
       simp (disch := omega) only [dm_t, wV, wB, wL, wW, wU, Int.fdiv_eq_ediv_of_nonneg, Int.tdiv_eq_ediv_of_nonneg, Int.tmod_eq_emod_of_nonneg, chk_pos, decT, decF, br_pos, br_neg, wX, ↓reduceIte, Nat.reduceEqDiff, Nat.reduceAdd, Nat.reduceSub, Nat.reduceMul, Nat.reduceLeDiff, Nat.reduceLT, Nat.reduceMod, Nat.reduceDiv, Int.reduceToNat, Nat.min_eq_left, IntKind.bits, Int.reducePow, Int.reduceLT, Int.reduceLE, Int.reduceEq, Int.reduceNe, Int.reduceAdd, Int.reduceSub, and_self, reduceCtorEq, decide_eq_true_eq, decide_eq_false_iff_not, eq_self, implies_true, exists_const, Option.isNone_some, Option.isNone_none, Option.isSome_some, Option.isSome_none, Option.getD_some]
       exact ap_s1 E2 hn2 hn1 q1 q2 hb hs hxa hxb ⟨ba, la⟩ ⟨bb, lb⟩ hst (by omega))
end Go.Proofs.Ytpgkkpjdajkobaa.mo
