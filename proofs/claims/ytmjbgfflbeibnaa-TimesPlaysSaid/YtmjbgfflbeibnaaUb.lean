/-
  times: records held against one another; calls on an index and the document's: the simple ones.
-/
import Derived.Test.YtmjbgfflbeibnaaTy
import Derived.Test.YtmjbgfflbeibnaaUa
namespace Go.Proofs.Ytmjbgfflbeibnaa.ti
open Go.Proofs.Ytmjbgfflbeibnaa wi
set_option linter.unusedVariables false
set_option linter.unusedSimpArgs false
theorem RSame_ok {S T : Nat → Prop} {h : H} {a b : Value} {l m : List rc.D} (ha : RepL S rc h a l) (hb : RepL T rc h b m) (hl : l.length ≤ 4611686018427387904) : Ok Try.prog 53 #[a, b] h fun v h' => v = .bool (decide (l = m)) ∧ h = h' := by
  obtain ⟨aa, ac, rfl⟩ := ha.len
  obtain ⟨ba, bc, rfl⟩ := hb.len
  refine c53_ok (args := [_, _]) (by simp) ?_
  by_cases hlm : l.length = m.length
  · simp (disch := omega) only [dm_t, wZ, ↓reduceIte, Nat.reduceEqDiff, Nat.reduceAdd, Nat.reduceSub, Nat.reduceMul, Nat.reduceLeDiff, Nat.reduceLT, Nat.reduceMod, Nat.reduceDiv, Int.reduceToNat, Nat.min_eq_left, IntKind.bits, Int.reducePow, Int.reduceLT, Int.reduceLE, Int.reduceEq, Int.reduceNe, Int.reduceAdd, Int.reduceSub, reduceCtorEq, eq_self, implies_true, exists_const, Option.isNone_some, Option.isNone_none, Option.isSome_some, Option.isSome_none, Option.getD_some]
    refine vc_loop1 (fun vi h' => h' = h ∧ ∃ i : Nat, vi = .int .i64 (i : Int) ∧ i ≤ l.length ∧ l.take i = m.take i) (fun vi _ => l.length - m1 vi) ?_ ?_
    · simp (disch := omega) only [dm_t, wZ, ↓reduceIte, Nat.reduceEqDiff, Nat.reduceAdd, Nat.reduceSub, Nat.reduceMul, Nat.reduceLeDiff, Nat.reduceLT, Nat.reduceMod, Nat.reduceDiv, Int.reduceToNat, Nat.min_eq_left, IntKind.bits, Int.reducePow, Int.reduceLT, Int.reduceLE, Int.reduceEq, Int.reduceNe, Int.reduceAdd, Int.reduceSub, reduceCtorEq, eq_self, implies_true, exists_const, Option.isNone_some, Option.isNone_none, Option.isSome_some, Option.isSome_none, Option.getD_some]
      exact ⟨0, rfl, by omega, by simp⟩
    rintro _ h' ⟨rfl, i, rfl, hi, heq⟩
    by_cases hil : i < l.length
    · have him : i < m.length := by omega
      obtain ⟨b1, o1, k1, v1, i1, t1, x1, y1, hk1, hv1⟩ := rec_at ha hil
      obtain ⟨b2, o2, k2, v2, i2, t2, x2, y2, hk2, hv2⟩ := rec_at hb him
      have hne : ¬ l[i] = m[i] → Value.bool false = .bool (decide (l = m)) := by
        intro hn
        simp only [Value.bool.injEq]
        symm
        rw [decide_eq_false_iff_not]
        intro h0; subst h0; exact hn rfl
      have hyes : l[i] = m[i] → l.take (i + 1) = m.take (i + 1) := by
        intro hv
        rw [show l.take (i + 1) = l.take i ++ [l[i]] by simp, show m.take (i + 1) = m.take i ++ [m[i]] by simp, heq, hv]
      by_cases ht : (l[i]).1 = (m[i]).1
      · simp (disch := omega) only [dm_t, wZ, ↓reduceIte, Nat.reduceEqDiff, Nat.reduceAdd, Nat.reduceSub, Nat.reduceMul, Nat.reduceLeDiff, Nat.reduceLT, Nat.reduceMod, Nat.reduceDiv, Int.reduceToNat, Nat.min_eq_left, IntKind.bits, Int.reducePow, Int.reduceLT, Int.reduceLE, Int.reduceEq, Int.reduceNe, Int.reduceAdd, Int.reduceSub, reduceCtorEq, eq_self, implies_true, exists_const, Option.isNone_some, Option.isNone_none, Option.isSome_some, Option.isSome_none, Option.getD_some, i1, t1, x1, y1, i2, t2, x2, y2]
        refine ⟨?_, ?_⟩
        · refine cvbs_of hk1 ?_
          simp (disch := omega) only [dm_t, wZ, ↓reduceIte, Nat.reduceEqDiff, Nat.reduceAdd, Nat.reduceSub, Nat.reduceMul, Nat.reduceLeDiff, Nat.reduceLT, Nat.reduceMod, Nat.reduceDiv, Int.reduceToNat, Nat.min_eq_left, IntKind.bits, Int.reducePow, Int.reduceLT, Int.reduceLE, Int.reduceEq, Int.reduceNe, Int.reduceAdd, Int.reduceSub, reduceCtorEq, eq_self, implies_true, exists_const, Option.isNone_some, Option.isNone_none, Option.isSome_some, Option.isSome_none, Option.getD_some, i1, t1, x1, y1, i2, t2, x2, y2, toList_mk]
          refine cvbs_of hk2 ?_
          by_cases hk : (l[i]).2.1 = (m[i]).2.1
          · simp (disch := omega) only [dm_t, wZ, ↓reduceIte, Nat.reduceEqDiff, Nat.reduceAdd, Nat.reduceSub, Nat.reduceMul, Nat.reduceLeDiff, Nat.reduceLT, Nat.reduceMod, Nat.reduceDiv, Int.reduceToNat, Nat.min_eq_left, IntKind.bits, Int.reducePow, Int.reduceLT, Int.reduceLE, Int.reduceEq, Int.reduceNe, Int.reduceAdd, Int.reduceSub, reduceCtorEq, eq_self, implies_true, exists_const, Option.isNone_some, Option.isNone_none, Option.isSome_some, Option.isSome_none, Option.getD_some, i1, t1, x1, y1, i2, t2, x2, y2, toList_mk, hk]
            refine ⟨?_, ?_⟩
            · refine cvbs_of hv1 ?_
              simp (disch := omega) only [dm_t, wZ, ↓reduceIte, Nat.reduceEqDiff, Nat.reduceAdd, Nat.reduceSub, Nat.reduceMul, Nat.reduceLeDiff, Nat.reduceLT, Nat.reduceMod, Nat.reduceDiv, Int.reduceToNat, Nat.min_eq_left, IntKind.bits, Int.reducePow, Int.reduceLT, Int.reduceLE, Int.reduceEq, Int.reduceNe, Int.reduceAdd, Int.reduceSub, reduceCtorEq, eq_self, implies_true, exists_const, Option.isNone_some, Option.isNone_none, Option.isSome_some, Option.isSome_none, Option.getD_some, i1, t1, x1, y1, i2, t2, x2, y2, toList_mk]
              refine cvbs_of hv2 ?_
              by_cases hv : (l[i]).2.2 = (m[i]).2.2
              · simp (disch := omega) only [dm_t, wZ, ↓reduceIte, Nat.reduceEqDiff, Nat.reduceAdd, Nat.reduceSub, Nat.reduceMul, Nat.reduceLeDiff, Nat.reduceLT, Nat.reduceMod, Nat.reduceDiv, Int.reduceToNat, Nat.min_eq_left, IntKind.bits, Int.reducePow, Int.reduceLT, Int.reduceLE, Int.reduceEq, Int.reduceNe, Int.reduceAdd, Int.reduceSub, reduceCtorEq, eq_self, implies_true, exists_const, Option.isNone_some, Option.isNone_none, Option.isSome_some, Option.isSome_none, Option.getD_some, i1, t1, x1, y1, i2, t2, x2, y2, toList_mk, hv]
                exact ⟨⟨i + 1, by simp, by omega, hyes (Prod.ext ht (Prod.ext hk hv))⟩, by simp [m1]; omega⟩
              · simp (disch := omega) only [dm_t, wZ, ↓reduceIte, Nat.reduceEqDiff, Nat.reduceAdd, Nat.reduceSub, Nat.reduceMul, Nat.reduceLeDiff, Nat.reduceLT, Nat.reduceMod, Nat.reduceDiv, Int.reduceToNat, Nat.min_eq_left, IntKind.bits, Int.reducePow, Int.reduceLT, Int.reduceLE, Int.reduceEq, Int.reduceNe, Int.reduceAdd, Int.reduceSub, reduceCtorEq, eq_self, implies_true, exists_const, Option.isNone_some, Option.isNone_none, Option.isSome_some, Option.isSome_none, Option.getD_some, i1, t1, x1, y1, i2, t2, x2, y2, toList_mk, hv]
                exact hne fun h => hv (by rw [h])
            · refine cvbs_of hv2 ?_
              simp (disch := omega) only [dm_t, wZ, ↓reduceIte, Nat.reduceEqDiff, Nat.reduceAdd, Nat.reduceSub, Nat.reduceMul, Nat.reduceLeDiff, Nat.reduceLT, Nat.reduceMod, Nat.reduceDiv, Int.reduceToNat, Nat.min_eq_left, IntKind.bits, Int.reducePow, Int.reduceLT, Int.reduceLE, Int.reduceEq, Int.reduceNe, Int.reduceAdd, Int.reduceSub, reduceCtorEq, eq_self, implies_true, exists_const, Option.isNone_some, Option.isNone_none, Option.isSome_some, Option.isSome_none, Option.getD_some, i1, t1, x1, y1, i2, t2, x2, y2, toList_mk]
              refine cvbs_of hv1 ?_
              by_cases hv : (l[i]).2.2 = (m[i]).2.2
              · simp (disch := omega) only [dm_t, wZ, ↓reduceIte, Nat.reduceEqDiff, Nat.reduceAdd, Nat.reduceSub, Nat.reduceMul, Nat.reduceLeDiff, Nat.reduceLT, Nat.reduceMod, Nat.reduceDiv, Int.reduceToNat, Nat.min_eq_left, IntKind.bits, Int.reducePow, Int.reduceLT, Int.reduceLE, Int.reduceEq, Int.reduceNe, Int.reduceAdd, Int.reduceSub, reduceCtorEq, eq_self, implies_true, exists_const, Option.isNone_some, Option.isNone_none, Option.isSome_some, Option.isSome_none, Option.getD_some, i1, t1, x1, y1, i2, t2, x2, y2, toList_mk, hv]
                exact ⟨⟨i + 1, by simp, by omega, hyes (Prod.ext ht (Prod.ext hk hv))⟩, by simp [m1]; omega⟩
              · simp (disch := omega) only [dm_t, wZ, ↓reduceIte, Nat.reduceEqDiff, Nat.reduceAdd, Nat.reduceSub, Nat.reduceMul, Nat.reduceLeDiff, Nat.reduceLT, Nat.reduceMod, Nat.reduceDiv, Int.reduceToNat, Nat.min_eq_left, IntKind.bits, Int.reducePow, Int.reduceLT, Int.reduceLE, Int.reduceEq, Int.reduceNe, Int.reduceAdd, Int.reduceSub, reduceCtorEq, eq_self, implies_true, exists_const, Option.isNone_some, Option.isNone_none, Option.isSome_some, Option.isSome_none, Option.getD_some, i1, t1, x1, y1, i2, t2, x2, y2, toList_mk, hv]
                exact hne fun h => hv (by rw [h])
          · simp (disch := omega) only [dm_t, wZ, ↓reduceIte, Nat.reduceEqDiff, Nat.reduceAdd, Nat.reduceSub, Nat.reduceMul, Nat.reduceLeDiff, Nat.reduceLT, Nat.reduceMod, Nat.reduceDiv, Int.reduceToNat, Nat.min_eq_left, IntKind.bits, Int.reducePow, Int.reduceLT, Int.reduceLE, Int.reduceEq, Int.reduceNe, Int.reduceAdd, Int.reduceSub, reduceCtorEq, eq_self, implies_true, exists_const, Option.isNone_some, Option.isNone_none, Option.isSome_some, Option.isSome_none, Option.getD_some, i1, t1, x1, y1, i2, t2, x2, y2, toList_mk, hk]
            exact hne fun h => hk (by rw [h])
        · refine cvbs_of hk2 ?_
          simp (disch := omega) only [dm_t, wZ, ↓reduceIte, Nat.reduceEqDiff, Nat.reduceAdd, Nat.reduceSub, Nat.reduceMul, Nat.reduceLeDiff, Nat.reduceLT, Nat.reduceMod, Nat.reduceDiv, Int.reduceToNat, Nat.min_eq_left, IntKind.bits, Int.reducePow, Int.reduceLT, Int.reduceLE, Int.reduceEq, Int.reduceNe, Int.reduceAdd, Int.reduceSub, reduceCtorEq, eq_self, implies_true, exists_const, Option.isNone_some, Option.isNone_none, Option.isSome_some, Option.isSome_none, Option.getD_some, i1, t1, x1, y1, i2, t2, x2, y2, toList_mk]
          refine cvbs_of hk1 ?_
          by_cases hk : (l[i]).2.1 = (m[i]).2.1
          · simp (disch := omega) only [dm_t, wZ, ↓reduceIte, Nat.reduceEqDiff, Nat.reduceAdd, Nat.reduceSub, Nat.reduceMul, Nat.reduceLeDiff, Nat.reduceLT, Nat.reduceMod, Nat.reduceDiv, Int.reduceToNat, Nat.min_eq_left, IntKind.bits, Int.reducePow, Int.reduceLT, Int.reduceLE, Int.reduceEq, Int.reduceNe, Int.reduceAdd, Int.reduceSub, reduceCtorEq, eq_self, implies_true, exists_const, Option.isNone_some, Option.isNone_none, Option.isSome_some, Option.isSome_none, Option.getD_some, i1, t1, x1, y1, i2, t2, x2, y2, toList_mk, hk]
            refine ⟨?_, ?_⟩
            · refine cvbs_of hv1 ?_
              simp (disch := omega) only [dm_t, wZ, ↓reduceIte, Nat.reduceEqDiff, Nat.reduceAdd, Nat.reduceSub, Nat.reduceMul, Nat.reduceLeDiff, Nat.reduceLT, Nat.reduceMod, Nat.reduceDiv, Int.reduceToNat, Nat.min_eq_left, IntKind.bits, Int.reducePow, Int.reduceLT, Int.reduceLE, Int.reduceEq, Int.reduceNe, Int.reduceAdd, Int.reduceSub, reduceCtorEq, eq_self, implies_true, exists_const, Option.isNone_some, Option.isNone_none, Option.isSome_some, Option.isSome_none, Option.getD_some, i1, t1, x1, y1, i2, t2, x2, y2, toList_mk]
              refine cvbs_of hv2 ?_
              by_cases hv : (l[i]).2.2 = (m[i]).2.2
              · simp (disch := omega) only [dm_t, wZ, ↓reduceIte, Nat.reduceEqDiff, Nat.reduceAdd, Nat.reduceSub, Nat.reduceMul, Nat.reduceLeDiff, Nat.reduceLT, Nat.reduceMod, Nat.reduceDiv, Int.reduceToNat, Nat.min_eq_left, IntKind.bits, Int.reducePow, Int.reduceLT, Int.reduceLE, Int.reduceEq, Int.reduceNe, Int.reduceAdd, Int.reduceSub, reduceCtorEq, eq_self, implies_true, exists_const, Option.isNone_some, Option.isNone_none, Option.isSome_some, Option.isSome_none, Option.getD_some, i1, t1, x1, y1, i2, t2, x2, y2, toList_mk, hv]
                exact ⟨⟨i + 1, by simp, by omega, hyes (Prod.ext ht (Prod.ext hk hv))⟩, by simp [m1]; omega⟩
              · simp (disch := omega) only [dm_t, wZ, ↓reduceIte, Nat.reduceEqDiff, Nat.reduceAdd, Nat.reduceSub, Nat.reduceMul, Nat.reduceLeDiff, Nat.reduceLT, Nat.reduceMod, Nat.reduceDiv, Int.reduceToNat, Nat.min_eq_left, IntKind.bits, Int.reducePow, Int.reduceLT, Int.reduceLE, Int.reduceEq, Int.reduceNe, Int.reduceAdd, Int.reduceSub, reduceCtorEq, eq_self, implies_true, exists_const, Option.isNone_some, Option.isNone_none, Option.isSome_some, Option.isSome_none, Option.getD_some, i1, t1, x1, y1, i2, t2, x2, y2, toList_mk, hv]
                exact hne fun h => hv (by rw [h])
            · refine cvbs_of hv2 ?_
              simp (disch := omega) only [dm_t, wZ, ↓reduceIte, Nat.reduceEqDiff, Nat.reduceAdd, Nat.reduceSub, Nat.reduceMul, Nat.reduceLeDiff, Nat.reduceLT, Nat.reduceMod, Nat.reduceDiv, Int.reduceToNat, Nat.min_eq_left, IntKind.bits, Int.reducePow, Int.reduceLT, Int.reduceLE, Int.reduceEq, Int.reduceNe, Int.reduceAdd, Int.reduceSub, reduceCtorEq, eq_self, implies_true, exists_const, Option.isNone_some, Option.isNone_none, Option.isSome_some, Option.isSome_none, Option.getD_some, i1, t1, x1, y1, i2, t2, x2, y2, toList_mk]
              refine cvbs_of hv1 ?_
              by_cases hv : (l[i]).2.2 = (m[i]).2.2
              · simp (disch := omega) only [dm_t, wZ, ↓reduceIte, Nat.reduceEqDiff, Nat.reduceAdd, Nat.reduceSub, Nat.reduceMul, Nat.reduceLeDiff, Nat.reduceLT, Nat.reduceMod, Nat.reduceDiv, Int.reduceToNat, Nat.min_eq_left, IntKind.bits, Int.reducePow, Int.reduceLT, Int.reduceLE, Int.reduceEq, Int.reduceNe, Int.reduceAdd, Int.reduceSub, reduceCtorEq, eq_self, implies_true, exists_const, Option.isNone_some, Option.isNone_none, Option.isSome_some, Option.isSome_none, Option.getD_some, i1, t1, x1, y1, i2, t2, x2, y2, toList_mk, hv]
                exact ⟨⟨i + 1, by simp, by omega, hyes (Prod.ext ht (Prod.ext hk hv))⟩, by simp [m1]; omega⟩
              · simp (disch := omega) only [dm_t, wZ, ↓reduceIte, Nat.reduceEqDiff, Nat.reduceAdd, Nat.reduceSub, Nat.reduceMul, Nat.reduceLeDiff, Nat.reduceLT, Nat.reduceMod, Nat.reduceDiv, Int.reduceToNat, Nat.min_eq_left, IntKind.bits, Int.reducePow, Int.reduceLT, Int.reduceLE, Int.reduceEq, Int.reduceNe, Int.reduceAdd, Int.reduceSub, reduceCtorEq, eq_self, implies_true, exists_const, Option.isNone_some, Option.isNone_none, Option.isSome_some, Option.isSome_none, Option.getD_some, i1, t1, x1, y1, i2, t2, x2, y2, toList_mk, hv]
                exact hne fun h => hv (by rw [h])
          · simp (disch := omega) only [dm_t, wZ, ↓reduceIte, Nat.reduceEqDiff, Nat.reduceAdd, Nat.reduceSub, Nat.reduceMul, Nat.reduceLeDiff, Nat.reduceLT, Nat.reduceMod, Nat.reduceDiv, Int.reduceToNat, Nat.min_eq_left, IntKind.bits, Int.reducePow, Int.reduceLT, Int.reduceLE, Int.reduceEq, Int.reduceNe, Int.reduceAdd, Int.reduceSub, reduceCtorEq, eq_self, implies_true, exists_const, Option.isNone_some, Option.isNone_none, Option.isSome_some, Option.isSome_none, Option.getD_some, i1, t1, x1, y1, i2, t2, x2, y2, toList_mk, hk]
            exact hne fun h => hk (by rw [h])
      · simp (disch := omega) only [dm_t, wZ, ↓reduceIte, Nat.reduceEqDiff, Nat.reduceAdd, Nat.reduceSub, Nat.reduceMul, Nat.reduceLeDiff, Nat.reduceLT, Nat.reduceMod, Nat.reduceDiv, Int.reduceToNat, Nat.min_eq_left, IntKind.bits, Int.reducePow, Int.reduceLT, Int.reduceLE, Int.reduceEq, Int.reduceNe, Int.reduceAdd, Int.reduceSub, reduceCtorEq, eq_self, implies_true, exists_const, Option.isNone_some, Option.isNone_none, Option.isSome_some, Option.isSome_none, Option.getD_some, i1, t1, x1, y1, i2, t2, x2, y2]
        exact hne fun h => ht (by rw [h])
    · obtain rfl : i = l.length := by omega
      rw [List.take_length, List.take_of_length_le (by omega)] at heq
      simp (disch := omega) only [dm_t, wZ, ↓reduceIte, Nat.reduceEqDiff, Nat.reduceAdd, Nat.reduceSub, Nat.reduceMul, Nat.reduceLeDiff, Nat.reduceLT, Nat.reduceMod, Nat.reduceDiv, Int.reduceToNat, Nat.min_eq_left, IntKind.bits, Int.reducePow, Int.reduceLT, Int.reduceLE, Int.reduceEq, Int.reduceNe, Int.reduceAdd, Int.reduceSub, reduceCtorEq, eq_self, implies_true, exists_const, Option.isNone_some, Option.isNone_none, Option.isSome_some, Option.isSome_none, Option.getD_some, heq]
  · simp (disch := omega) only [dm_t, wZ, ↓reduceIte, Nat.reduceEqDiff, Nat.reduceAdd, Nat.reduceSub, Nat.reduceMul, Nat.reduceLeDiff, Nat.reduceLT, Nat.reduceMod, Nat.reduceDiv, Int.reduceToNat, Nat.min_eq_left, IntKind.bits, Int.reducePow, Int.reduceLT, Int.reduceLE, Int.reduceEq, Int.reduceNe, Int.reduceAdd, Int.reduceSub, reduceCtorEq, eq_self, implies_true, exists_const, Option.isNone_some, Option.isNone_none, Option.isSome_some, Option.isSome_none, Option.getD_some]
    simp only [Value.bool.injEq]
    symm
    rw [decide_eq_false_iff_not]
    intro h0; exact hlm (by rw [h0])

/-- An index and the document's, the same. -/
structure PQ (S : Nat → Prop) (g : H) (p q : Nat) (b e : Int) (v v2 : Value) (l : List Ri) : Prop where
  X : XI S g p b e v l
  Y : DX S g q b e v2 l
  ne : p ≠ q
  sp : S p
  sq : S q
  th : ∀ y, S y → g y ≠ none
def AR (S : Nat → Prop) (p q : Nat) (g : H) (u : Value) (h' : H) : Prop := u = .bool true ∧ (∃ b e v v2 l, PQ S h' p q b e v v2 l) ∧ Fr (fun y => y = p ∨ y = q) g h'
section
variable {S T : Nat → Prop} {g g' g0 : H} {p q r ab : Nat} {b e b2 e2 kind N leave : Int} {v v2 w lv : Value} {l l2 : List Ri} {rs : List rc.D}
theorem th_fr (th : ∀ y, S y → g y ≠ none) (f : Fr T g g') (hT : ∀ y, T y → g' y ≠ none) : ∀ y, S y → g' y ≠ none := fun y hy => by
  by_cases ht : T y
  · exact hT y ht
  · cases hc : g y with
    | none => exact absurd hc (th y hy)
    | some o => rw [f y o hc ht]; simp
theorem PQ.ext (P : PQ S g p q b e v v2 l) (E : Ext g g') : PQ S g' p q b e v v2 l :=
  ⟨P.X.ext E, P.Y.ext E, P.ne, P.sp, P.sq, fun y hy hn => P.th y hy (E.bk hn)⟩
theorem PQ.bd (P : PQ S g p q b e v v2 l) : l.length ≤ 65536 ∧ inI e ∧ e ≤ 9007199254740993 ∧ 0 ≤ e := by
  have h1 := P.X.wf.len
  have h2 := P.X.wf.be
  have h3 := P.X.wf.b0
  unfold inI
  omega
/-- Both written. -/
theorem PQ.both {g2 : H} {v' v2' : Value} {l' : List Ri} {b' e' : Int} (P : PQ S g p q b e v v2 l) (X : XI S g' p b' e' v' l') (f : Fr (fun y => y = p) g g') (Y : DX S g2 q b' e' v2' l') (f2 : Fr (fun y => y = q) g' g2) : PQ S g2 p q b' e' v' v2' l' :=
  ⟨X.fr f2 (fun y hy => by rw [hy]; exact P.sq) P.ne, Y, P.ne, P.sp, P.sq, th_fr (th_fr P.th f fun y hy => by rw [hy, X.obj]; simp) f2 fun y hy => by rw [hy, Y.obj]; simp⟩
theorem PQ.f2 {g2 : H} (f : Fr (fun y => y = p) g g') (f2 : Fr (fun y => y = q) g' g2) : Fr (fun y => y = p ∨ y = q) g g2 := (f.mono fun y h => .inl h).trans (f2.mono fun y h => .inr h)
/-- A call, in a box. -/
structure AH (S : Nat → Prop) (g : H) (p q ab : Nat) (kind N leave : Int) (lv : Value) (rs : List rc.D) : Prop where
  box : g ab = some (.cells #[.int .i64 kind, .int .i64 N, lv, .int .i64 leave] 57)
  ne : ab ≠ p ∧ ab ≠ q
  recs : RepL S rc g lv rs
  len : rs.length ≤ 100
  n : inI N
  lve : inI leave
  kb : ∀ x ∈ rs, x.2.1.length ≤ 140737488355328 ∧ x.2.2.length ≤ 140737488355328
theorem AH.ext (A : AH S g p q ab kind N leave lv rs) (E : Ext g g') : AH S g' p q ab kind N leave lv rs := ⟨E.at A.box, A.ne, A.recs.ext E, A.len, A.n, A.lve, A.kb⟩
theorem AH.fr (A : AH S g p q ab kind N leave lv rs) (sp : S p) (sq : S q) (f : Fr (fun y => y = p ∨ y = q) g g') : AH S g' p q ab kind N leave lv rs :=
  ⟨f _ _ A.box fun h => h.elim A.ne.1 A.ne.2, A.ne, A.recs.fr f fun y hy => hy.elim (fun h => h ▸ sp) fun h => h ▸ sq, A.len, A.n, A.lve, A.kb⟩
theorem AH.c0 (A : AH S g p q ab kind N leave lv rs) : cellAt g ⟨ab, 0, none⟩ = some (.int .i64 kind) := by rw [cellAt_of A.box]; rfl
theorem AH.c1 (A : AH S g p q ab kind N leave lv rs) : cellAt g ⟨ab, 1, none⟩ = some (.int .i64 N) := by rw [cellAt_of A.box]; rfl
theorem AH.c2 (A : AH S g p q ab kind N leave lv rs) : cellAt g ⟨ab, 2, none⟩ = some lv := by rw [cellAt_of A.box]; rfl
theorem AH.c3 (A : AH S g p q ab kind N leave lv rs) : cellAt g ⟨ab, 3, none⟩ = some (.int .i64 leave) := by rw [cellAt_of A.box]; rfl
theorem PQ.ar (P : PQ S g p q b e v v2 l) (E : Ext g0 g) : AR S p q g0 (.bool true) g := ⟨rfl, ⟨_, _, _, _, _, P⟩, E.mono fun _ h => h.elim⟩
theorem ask_2 (P : PQ S g p q b e v v2 l) (A : AH S g p q ab 2 N leave lv rs) (E : Ext g0 g) : vc Try.prog c24_s0 (retQ [6] (okR (AR S p q g0))) [(0, .pointer (some ⟨p, 0, none⟩)), (1, .pointer (some ⟨q, 0, none⟩)), (5, .pointer (some ⟨ab, 0, none⟩))] g := by
  simp (disch := omega) only [dm_t, wZ, ↓reduceIte, Nat.reduceEqDiff, Nat.reduceAdd, Nat.reduceSub, Nat.reduceMul, Nat.reduceLeDiff, Nat.reduceLT, Nat.reduceMod, Nat.reduceDiv, Int.reduceToNat, Nat.min_eq_left, IntKind.bits, Int.reducePow, Int.reduceLT, Int.reduceLE, Int.reduceEq, Int.reduceNe, Int.reduceAdd, Int.reduceSub, reduceCtorEq, eq_self, implies_true, exists_const, Option.isNone_some, Option.isNone_none, Option.isSome_some, Option.isSome_none, Option.getD_some, A.c0, A.c1]
  refine (Find_ok P.X N).k ?_
  rintro _ g2 ⟨rfl, e2⟩
  have A2 := A.ext e2
  have P2 := P.ext e2
  simp (disch := omega) only [dm_t, wZ, ↓reduceIte, Nat.reduceEqDiff, Nat.reduceAdd, Nat.reduceSub, Nat.reduceMul, Nat.reduceLeDiff, Nat.reduceLT, Nat.reduceMod, Nat.reduceDiv, Int.reduceToNat, Nat.min_eq_left, IntKind.bits, Int.reducePow, Int.reduceLT, Int.reduceLE, Int.reduceEq, Int.reduceNe, Int.reduceAdd, Int.reduceSub, reduceCtorEq, eq_self, implies_true, exists_const, Option.isNone_some, Option.isNone_none, Option.isSome_some, Option.isSome_none, Option.getD_some, A2.c1]
  refine (DFind_ok P2.Y N).k ?_
  rintro _ _ ⟨rfl, rfl⟩
  simp (disch := omega) only [dm_t, wZ, ↓reduceIte, Nat.reduceEqDiff, Nat.reduceAdd, Nat.reduceSub, Nat.reduceMul, Nat.reduceLeDiff, Nat.reduceLT, Nat.reduceMod, Nat.reduceDiv, Int.reduceToNat, Nat.min_eq_left, IntKind.bits, Int.reducePow, Int.reduceLT, Int.reduceLE, Int.reduceEq, Int.reduceNe, Int.reduceAdd, Int.reduceSub, reduceCtorEq, eq_self, implies_true, exists_const, Option.isNone_some, Option.isNone_none, Option.isSome_some, Option.isSome_none, Option.getD_some]
  rw [beq_self_eq_true]
  exact P2.ar (E.trans e2)
theorem ask_3 (P : PQ S g p q b e v v2 l) (A : AH S g p q ab 3 N leave lv rs) (E : Ext g0 g) : vc Try.prog c24_s0 (retQ [6] (okR (AR S p q g0))) [(0, .pointer (some ⟨p, 0, none⟩)), (1, .pointer (some ⟨q, 0, none⟩)), (5, .pointer (some ⟨ab, 0, none⟩))] g := by
  simp (disch := omega) only [dm_t, wZ, ↓reduceIte, Nat.reduceEqDiff, Nat.reduceAdd, Nat.reduceSub, Nat.reduceMul, Nat.reduceLeDiff, Nat.reduceLT, Nat.reduceMod, Nat.reduceDiv, Int.reduceToNat, Nat.min_eq_left, IntKind.bits, Int.reducePow, Int.reduceLT, Int.reduceLE, Int.reduceEq, Int.reduceNe, Int.reduceAdd, Int.reduceSub, reduceCtorEq, eq_self, implies_true, exists_const, Option.isNone_some, Option.isNone_none, Option.isSome_some, Option.isSome_none, Option.getD_some, A.c0, A.c1]
  refine (Until_ok P.X N).k ?_
  rintro _ g2 ⟨rfl, e2⟩
  have A2 := A.ext e2
  have P2 := P.ext e2
  simp (disch := omega) only [dm_t, wZ, ↓reduceIte, Nat.reduceEqDiff, Nat.reduceAdd, Nat.reduceSub, Nat.reduceMul, Nat.reduceLeDiff, Nat.reduceLT, Nat.reduceMod, Nat.reduceDiv, Int.reduceToNat, Nat.min_eq_left, IntKind.bits, Int.reducePow, Int.reduceLT, Int.reduceLE, Int.reduceEq, Int.reduceNe, Int.reduceAdd, Int.reduceSub, reduceCtorEq, eq_self, implies_true, exists_const, Option.isNone_some, Option.isNone_none, Option.isSome_some, Option.isSome_none, Option.getD_some, A2.c1]
  refine (DUntil_ok P2.Y N).k ?_
  rintro _ _ ⟨rfl, rfl⟩
  simp (disch := omega) only [dm_t, wZ, ↓reduceIte, Nat.reduceEqDiff, Nat.reduceAdd, Nat.reduceSub, Nat.reduceMul, Nat.reduceLeDiff, Nat.reduceLT, Nat.reduceMod, Nat.reduceDiv, Int.reduceToNat, Nat.min_eq_left, IntKind.bits, Int.reducePow, Int.reduceLT, Int.reduceLE, Int.reduceEq, Int.reduceNe, Int.reduceAdd, Int.reduceSub, reduceCtorEq, eq_self, implies_true, exists_const, Option.isNone_some, Option.isNone_none, Option.isSome_some, Option.isSome_none, Option.getD_some]
  rw [beq_self_eq_true]
  exact P2.ar (E.trans e2)
theorem ask_4 (P : PQ S g p q b e v v2 l) (A : AH S g p q ab 4 N leave lv rs) (E : Ext g0 g) : vc Try.prog c24_s0 (retQ [6] (okR (AR S p q g0))) [(0, .pointer (some ⟨p, 0, none⟩)), (1, .pointer (some ⟨q, 0, none⟩)), (5, .pointer (some ⟨ab, 0, none⟩))] g := by
  simp (disch := omega) only [dm_t, wZ, ↓reduceIte, Nat.reduceEqDiff, Nat.reduceAdd, Nat.reduceSub, Nat.reduceMul, Nat.reduceLeDiff, Nat.reduceLT, Nat.reduceMod, Nat.reduceDiv, Int.reduceToNat, Nat.min_eq_left, IntKind.bits, Int.reducePow, Int.reduceLT, Int.reduceLE, Int.reduceEq, Int.reduceNe, Int.reduceAdd, Int.reduceSub, reduceCtorEq, eq_self, implies_true, exists_const, Option.isNone_some, Option.isNone_none, Option.isSome_some, Option.isSome_none, Option.getD_some, A.c0, A.c1]
  refine (Cut_ok (n := N) P.X P.sp P.th).k ?_
  rintro _ g2 ⟨rfl, h2⟩
  by_cases hc : cutE b e N = 0
  · rw [if_pos hc] at h2
    obtain ⟨v', X2, f2⟩ := h2
    have A2 := A.fr P.sp P.sq (f2.mono fun y h => .inl h)
    have Y2 := P.Y.fr f2 (fun y hy => by rw [hy]; exact P.sp) P.ne.symm
    have th2 := th_fr P.th f2 fun y hy => by rw [hy, X2.obj]; simp
    simp (disch := omega) only [dm_t, wZ, ↓reduceIte, Nat.reduceEqDiff, Nat.reduceAdd, Nat.reduceSub, Nat.reduceMul, Nat.reduceLeDiff, Nat.reduceLT, Nat.reduceMod, Nat.reduceDiv, Int.reduceToNat, Nat.min_eq_left, IntKind.bits, Int.reducePow, Int.reduceLT, Int.reduceLE, Int.reduceEq, Int.reduceNe, Int.reduceAdd, Int.reduceSub, reduceCtorEq, eq_self, implies_true, exists_const, Option.isNone_some, Option.isNone_none, Option.isSome_some, Option.isSome_none, Option.getD_some, A2.c1]
    refine (num_ok _ _).k ?_
    rintro _ _ ⟨rfl, rfl⟩
    simp (disch := omega) only [dm_t, wZ, ↓reduceIte, Nat.reduceEqDiff, Nat.reduceAdd, Nat.reduceSub, Nat.reduceMul, Nat.reduceLeDiff, Nat.reduceLT, Nat.reduceMod, Nat.reduceDiv, Int.reduceToNat, Nat.min_eq_left, IntKind.bits, Int.reducePow, Int.reduceLT, Int.reduceLE, Int.reduceEq, Int.reduceNe, Int.reduceAdd, Int.reduceSub, reduceCtorEq, eq_self, implies_true, exists_const, Option.isNone_some, Option.isNone_none, Option.isSome_some, Option.isSome_none, Option.getD_some, A2.c1]
    refine (DCut_ok (n := N) Y2 P.sq th2).k ?_
    rintro _ g3 ⟨rfl, h3⟩
    rw [if_pos hc] at h3
    obtain ⟨v3, Y3, f3⟩ := h3
    simp (disch := omega) only [dm_t, wZ, ↓reduceIte, Nat.reduceEqDiff, Nat.reduceAdd, Nat.reduceSub, Nat.reduceMul, Nat.reduceLeDiff, Nat.reduceLT, Nat.reduceMod, Nat.reduceDiv, Int.reduceToNat, Nat.min_eq_left, IntKind.bits, Int.reducePow, Int.reduceLT, Int.reduceLE, Int.reduceEq, Int.reduceNe, Int.reduceAdd, Int.reduceSub, reduceCtorEq, eq_self, implies_true, exists_const, Option.isNone_some, Option.isNone_none, Option.isSome_some, Option.isSome_none, Option.getD_some]
    exact ⟨rfl, ⟨_, _, _, _, _, P.both X2 f2 Y3 f3⟩, (E.mono fun _ h => h.elim).trans (PQ.f2 f2 f3)⟩
  · rw [if_neg hc] at h2
    have P2 := P.ext h2
    have A2 := A.ext h2
    simp (disch := omega) only [dm_t, wZ, ↓reduceIte, Nat.reduceEqDiff, Nat.reduceAdd, Nat.reduceSub, Nat.reduceMul, Nat.reduceLeDiff, Nat.reduceLT, Nat.reduceMod, Nat.reduceDiv, Int.reduceToNat, Nat.min_eq_left, IntKind.bits, Int.reducePow, Int.reduceLT, Int.reduceLE, Int.reduceEq, Int.reduceNe, Int.reduceAdd, Int.reduceSub, reduceCtorEq, eq_self, implies_true, exists_const, Option.isNone_some, Option.isNone_none, Option.isSome_some, Option.isSome_none, Option.getD_some, A2.c1]
    refine (num_ok _ _).k ?_
    rintro _ _ ⟨rfl, rfl⟩
    simp (disch := omega) only [dm_t, wZ, ↓reduceIte, Nat.reduceEqDiff, Nat.reduceAdd, Nat.reduceSub, Nat.reduceMul, Nat.reduceLeDiff, Nat.reduceLT, Nat.reduceMod, Nat.reduceDiv, Int.reduceToNat, Nat.min_eq_left, IntKind.bits, Int.reducePow, Int.reduceLT, Int.reduceLE, Int.reduceEq, Int.reduceNe, Int.reduceAdd, Int.reduceSub, reduceCtorEq, eq_self, implies_true, exists_const, Option.isNone_some, Option.isNone_none, Option.isSome_some, Option.isSome_none, Option.getD_some, A2.c1]
    refine (DCut_ok (n := N) P2.Y P2.sq P2.th).k ?_
    rintro _ g3 ⟨rfl, h3⟩
    rw [if_neg hc] at h3
    simp (disch := omega) only [dm_t, wZ, ↓reduceIte, Nat.reduceEqDiff, Nat.reduceAdd, Nat.reduceSub, Nat.reduceMul, Nat.reduceLeDiff, Nat.reduceLT, Nat.reduceMod, Nat.reduceDiv, Int.reduceToNat, Nat.min_eq_left, IntKind.bits, Int.reducePow, Int.reduceLT, Int.reduceLE, Int.reduceEq, Int.reduceNe, Int.reduceAdd, Int.reduceSub, reduceCtorEq, eq_self, implies_true, exists_const, Option.isNone_some, Option.isNone_none, Option.isSome_some, Option.isSome_none, Option.getD_some]
    exact (P2.ext h3).ar (E.trans (h2.trans h3))
theorem ask_6 (P : PQ S g p q b e v v2 l) (A : AH S g p q ab 6 N leave lv rs) (E : Ext g0 g) : vc Try.prog c24_s0 (retQ [6] (okR (AR S p q g0))) [(0, .pointer (some ⟨p, 0, none⟩)), (1, .pointer (some ⟨q, 0, none⟩)), (5, .pointer (some ⟨ab, 0, none⟩))] g := by
  have hb := P.bd
  simp (disch := omega) only [dm_t, wZ, ↓reduceIte, Nat.reduceEqDiff, Nat.reduceAdd, Nat.reduceSub, Nat.reduceMul, Nat.reduceLeDiff, Nat.reduceLT, Nat.reduceMod, Nat.reduceDiv, Int.reduceToNat, Nat.min_eq_left, IntKind.bits, Int.reducePow, Int.reduceLT, Int.reduceLE, Int.reduceEq, Int.reduceNe, Int.reduceAdd, Int.reduceSub, reduceCtorEq, eq_self, implies_true, exists_const, Option.isNone_some, Option.isNone_none, Option.isSome_some, Option.isSome_none, Option.getD_some, A.c0]
  refine (All_ok P.X).k ?_
  rintro _ g2 ⟨vb, u, rfl, -, hvb, ou, e2⟩
  have A2 := A.ext e2
  have P2 := P.ext e2
  simp (disch := omega) only [dm_t, wZ, ↓reduceIte, Nat.reduceEqDiff, Nat.reduceAdd, Nat.reduceSub, Nat.reduceMul, Nat.reduceLeDiff, Nat.reduceLT, Nat.reduceMod, Nat.reduceDiv, Int.reduceToNat, Nat.min_eq_left, IntKind.bits, Int.reducePow, Int.reduceLT, Int.reduceLE, Int.reduceEq, Int.reduceNe, Int.reduceAdd, Int.reduceSub, reduceCtorEq, eq_self, implies_true, exists_const, Option.isNone_some, Option.isNone_none, Option.isSome_some, Option.isSome_none, Option.getD_some, A2.c3, P2.Y.c2]
  refine (goes_ok hvb ou.s0 P2.Y.lst (by omega) A.lve).k ?_
  rintro _ g3 ⟨rfl, e3⟩
  have P3 := P2.ext e3
  simp (disch := omega) only [dm_t, wZ, ↓reduceIte, Nat.reduceEqDiff, Nat.reduceAdd, Nat.reduceSub, Nat.reduceMul, Nat.reduceLeDiff, Nat.reduceLT, Nat.reduceMod, Nat.reduceDiv, Int.reduceToNat, Nat.min_eq_left, IntKind.bits, Int.reducePow, Int.reduceLT, Int.reduceLE, Int.reduceEq, Int.reduceNe, Int.reduceAdd, Int.reduceSub, reduceCtorEq, eq_self, implies_true, exists_const, Option.isNone_some, Option.isNone_none, Option.isSome_some, Option.isSome_none, Option.getD_some, P3.Y.c2, (A2.ext e3).c3]
  refine (goes_ok (e3.at hvb) (OwK.ext ou e3).s0 P3.Y.lst (by omega) (by unfold inI; omega)).k ?_
  rintro _ g4 ⟨rfl, e4⟩
  simp (disch := omega) only [dm_t, wZ, ↓reduceIte, Nat.reduceEqDiff, Nat.reduceAdd, Nat.reduceSub, Nat.reduceMul, Nat.reduceLeDiff, Nat.reduceLT, Nat.reduceMod, Nat.reduceDiv, Int.reduceToNat, Nat.min_eq_left, IntKind.bits, Int.reducePow, Int.reduceLT, Int.reduceLE, Int.reduceEq, Int.reduceNe, Int.reduceAdd, Int.reduceSub, reduceCtorEq, eq_self, implies_true, exists_const, Option.isNone_some, Option.isNone_none, Option.isSome_some, Option.isSome_none, Option.getD_some]
  exact (P3.ext e4).ar (E.trans (e2.trans (e3.trans e4)))
theorem ask_9 (P : PQ S g p q b e v v2 l) (A : AH S g p q ab 9 N leave lv rs) (E : Ext g0 g) : vc Try.prog c24_s0 (retQ [6] (okR (AR S p q g0))) [(0, .pointer (some ⟨p, 0, none⟩)), (1, .pointer (some ⟨q, 0, none⟩)), (5, .pointer (some ⟨ab, 0, none⟩))] g := by
  have hb := P.bd
  obtain ⟨a2, c2, hv2⟩ := P.Y.slen
  have hya : cellsAt g ⟨q, 0, none⟩ 3 = some #[.int .i64 b, .int .i64 e, v2] := cellsAt_all P.Y.obj 3 rfl
  rw [hv2] at hya
  simp (disch := omega) only [dm_t, wZ, ↓reduceIte, Nat.reduceEqDiff, Nat.reduceAdd, Nat.reduceSub, Nat.reduceMul, Nat.reduceLeDiff, Nat.reduceLT, Nat.reduceMod, Nat.reduceDiv, Int.reduceToNat, Nat.min_eq_left, IntKind.bits, Int.reducePow, Int.reduceLT, Int.reduceLE, Int.reduceEq, Int.reduceNe, Int.reduceAdd, Int.reduceSub, reduceCtorEq, eq_self, implies_true, exists_const, Option.isNone_some, Option.isNone_none, Option.isSome_some, Option.isSome_none, Option.getD_some, A.c0, hya]
  intro ob hob
  refine storeH_all (vs := [_, _, _]) (hupd_same _ _ _) rfl rfl ?_
  rw [hupd_hupd]
  generalize hG : hupd g ob _ = g1
  obtain ⟨e1, qo⟩ := new_ext hG hob
  clear hG
  have P1 := P.ext e1
  have Z1 : DX S g1 ob b e v2 l := ⟨by rw [hv2]; exact qo, P1.Y.lst, P1.Y.len⟩
  have hop : ob ≠ p := fun h => by rw [h, P.X.obj] at hob; cases hob
  have hoq : ob ≠ q := fun h => by rw [h, P.Y.obj] at hob; cases hob
  simp (disch := omega) only [dm_t, wZ, ↓reduceIte, Nat.reduceEqDiff, Nat.reduceAdd, Nat.reduceSub, Nat.reduceMul, Nat.reduceLeDiff, Nat.reduceLT, Nat.reduceMod, Nat.reduceDiv, Int.reduceToNat, Nat.min_eq_left, IntKind.bits, Int.reducePow, Int.reduceLT, Int.reduceLE, Int.reduceEq, Int.reduceNe, Int.reduceAdd, Int.reduceSub, reduceCtorEq, eq_self, implies_true, exists_const, Option.isNone_some, Option.isNone_none, Option.isSome_some, Option.isSome_none, Option.getD_some]
  refine (Join_ok P1.X P1.X P1.sp P1.th).k ?_
  rintro _ g2 ⟨rfl, h2⟩
  by_cases hc : joinE l e b l = 0
  · rw [if_pos hc] at h2
    obtain ⟨v', X2, f2⟩ := h2
    have Y2 := P1.Y.fr f2 (fun y hy => by rw [hy]; exact P.sp) P.ne.symm
    have Z2 := Z1.fr f2 (fun y hy => by rw [hy]; exact P.sp) hop
    have th2 := th_fr P1.th f2 fun y hy => by rw [hy, X2.obj]; simp
    simp (disch := omega) only [dm_t, wZ, ↓reduceIte, Nat.reduceEqDiff, Nat.reduceAdd, Nat.reduceSub, Nat.reduceMul, Nat.reduceLeDiff, Nat.reduceLT, Nat.reduceMod, Nat.reduceDiv, Int.reduceToNat, Nat.min_eq_left, IntKind.bits, Int.reducePow, Int.reduceLT, Int.reduceLE, Int.reduceEq, Int.reduceNe, Int.reduceAdd, Int.reduceSub, reduceCtorEq, eq_self, implies_true, exists_const, Option.isNone_some, Option.isNone_none, Option.isSome_some, Option.isSome_none, Option.getD_some]
    refine (num_ok _ _).k ?_
    rintro _ _ ⟨rfl, rfl⟩
    simp (disch := omega) only [dm_t, wZ, ↓reduceIte, Nat.reduceEqDiff, Nat.reduceAdd, Nat.reduceSub, Nat.reduceMul, Nat.reduceLeDiff, Nat.reduceLT, Nat.reduceMod, Nat.reduceDiv, Int.reduceToNat, Nat.min_eq_left, IntKind.bits, Int.reducePow, Int.reduceLT, Int.reduceLE, Int.reduceEq, Int.reduceNe, Int.reduceAdd, Int.reduceSub, reduceCtorEq, eq_self, implies_true, exists_const, Option.isNone_some, Option.isNone_none, Option.isSome_some, Option.isSome_none, Option.getD_some]
    refine (DJoin_ok Y2 Z2 hoq P.sq th2 hb.1 hb.1).k ?_
    rintro _ g3 ⟨rfl, h3⟩
    rw [if_pos hc] at h3
    obtain ⟨v3, Y3, f3⟩ := h3
    simp (disch := omega) only [dm_t, wZ, ↓reduceIte, Nat.reduceEqDiff, Nat.reduceAdd, Nat.reduceSub, Nat.reduceMul, Nat.reduceLeDiff, Nat.reduceLT, Nat.reduceMod, Nat.reduceDiv, Int.reduceToNat, Nat.min_eq_left, IntKind.bits, Int.reducePow, Int.reduceLT, Int.reduceLE, Int.reduceEq, Int.reduceNe, Int.reduceAdd, Int.reduceSub, reduceCtorEq, eq_self, implies_true, exists_const, Option.isNone_some, Option.isNone_none, Option.isSome_some, Option.isSome_none, Option.getD_some]
    exact ⟨rfl, ⟨_, _, _, _, _, P1.both X2 f2 Y3 f3⟩, ((E.trans e1).mono fun _ h => h.elim).trans (PQ.f2 f2 f3)⟩
  · rw [if_neg hc] at h2
    have P2 := P1.ext h2
    simp (disch := omega) only [dm_t, wZ, ↓reduceIte, Nat.reduceEqDiff, Nat.reduceAdd, Nat.reduceSub, Nat.reduceMul, Nat.reduceLeDiff, Nat.reduceLT, Nat.reduceMod, Nat.reduceDiv, Int.reduceToNat, Nat.min_eq_left, IntKind.bits, Int.reducePow, Int.reduceLT, Int.reduceLE, Int.reduceEq, Int.reduceNe, Int.reduceAdd, Int.reduceSub, reduceCtorEq, eq_self, implies_true, exists_const, Option.isNone_some, Option.isNone_none, Option.isSome_some, Option.isSome_none, Option.getD_some]
    refine (num_ok _ _).k ?_
    rintro _ _ ⟨rfl, rfl⟩
    simp (disch := omega) only [dm_t, wZ, ↓reduceIte, Nat.reduceEqDiff, Nat.reduceAdd, Nat.reduceSub, Nat.reduceMul, Nat.reduceLeDiff, Nat.reduceLT, Nat.reduceMod, Nat.reduceDiv, Int.reduceToNat, Nat.min_eq_left, IntKind.bits, Int.reducePow, Int.reduceLT, Int.reduceLE, Int.reduceEq, Int.reduceNe, Int.reduceAdd, Int.reduceSub, reduceCtorEq, eq_self, implies_true, exists_const, Option.isNone_some, Option.isNone_none, Option.isSome_some, Option.isSome_none, Option.getD_some]
    refine (DJoin_ok P2.Y (Z1.ext h2) hoq P2.sq P2.th hb.1 hb.1).k ?_
    rintro _ g3 ⟨rfl, h3⟩
    rw [if_neg hc] at h3
    simp (disch := omega) only [dm_t, wZ, ↓reduceIte, Nat.reduceEqDiff, Nat.reduceAdd, Nat.reduceSub, Nat.reduceMul, Nat.reduceLeDiff, Nat.reduceLT, Nat.reduceMod, Nat.reduceDiv, Int.reduceToNat, Nat.min_eq_left, IntKind.bits, Int.reducePow, Int.reduceLT, Int.reduceLE, Int.reduceEq, Int.reduceNe, Int.reduceAdd, Int.reduceSub, reduceCtorEq, eq_self, implies_true, exists_const, Option.isNone_some, Option.isNone_none, Option.isSome_some, Option.isSome_none, Option.getD_some]
    exact (P2.ext h3).ar (E.trans (e1.trans (h2.trans h3)))
theorem ask_o (P : PQ S g p q b e v v2 l) (A : AH S g p q ab kind N leave lv rs) (E : Ext g0 g) (hk : ¬ (0 ≤ kind ∧ kind ≤ 6) ∧ kind ≠ 9) : vc Try.prog c24_s0 (retQ [6] (okR (AR S p q g0))) [(0, .pointer (some ⟨p, 0, none⟩)), (1, .pointer (some ⟨q, 0, none⟩)), (5, .pointer (some ⟨ab, 0, none⟩))] g := by
  have h0 : ¬ kind = 0 := by omega
  have h1 : ¬ kind = 1 := by omega
  have h2 : ¬ kind = 2 := by omega
  have h3 : ¬ kind = 3 := by omega
  have h4 : ¬ kind = 4 := by omega
  have h5 : ¬ kind = 5 := by omega
  have h6 : ¬ kind = 6 := by omega
  have h9 : ¬ kind = 9 := by omega
  simp (disch := omega) only [dm_t, wZ, ↓reduceIte, Nat.reduceEqDiff, Nat.reduceAdd, Nat.reduceSub, Nat.reduceMul, Nat.reduceLeDiff, Nat.reduceLT, Nat.reduceMod, Nat.reduceDiv, Int.reduceToNat, Nat.min_eq_left, IntKind.bits, Int.reducePow, Int.reduceLT, Int.reduceLE, Int.reduceEq, Int.reduceNe, Int.reduceAdd, Int.reduceSub, reduceCtorEq, eq_self, implies_true, exists_const, Option.isNone_some, Option.isNone_none, Option.isSome_some, Option.isSome_none, Option.getD_some, A.c0, h0, h1, h2, h3, h4, h5, h6, h9]
  exact P.ar E
end
end Go.Proofs.Ytmjbgfflbeibnaa.ti
