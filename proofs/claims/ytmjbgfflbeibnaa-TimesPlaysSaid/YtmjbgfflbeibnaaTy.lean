/-
  times: the document's index: Bytes.
-/
import Derived.Test.YtmjbgfflbeibnaaTx
namespace Go.Proofs.Ytmjbgfflbeibnaa.ti
open Go.Proofs.Ytmjbgfflbeibnaa wi
set_option linter.unusedVariables false
set_option linter.unusedSimpArgs false
section
variable {S T : Nat → Prop} {g g' : H} {p q r : Nat} {b e b2 e2 : Int} {v v2 w : Value} {l l2 : List Ri} {rs : List rc.D}
theorem wrapB (x : Int) : IntKind.u64.wrap x = (bits64 x : Int) := by
  rw [wrap64u]; unfold bits64; omega
theorem DBytes_ok (X : DX S g q b e v l) (hl : l.length ≤ 65536) : Ok Try.prog 25 #[.pointer (some ⟨q, 0, none⟩)] g fun w h' => OwB (fun y => g y = none) h' 5 w (bytesP b e l) ∧ Ext g h' := by
  obtain ⟨a, c, rfl⟩ := X.slen
  have w8b := wrapB b
  have w8e := wrapB e
  have hbb := bits64_lt b
  have hbe := bits64_lt e
  refine c25_ok (args := [_]) (by simp) ?_
  simp (disch := omega) only [dm_t, wZ, ↓reduceIte, Nat.reduceEqDiff, Nat.reduceAdd, Nat.reduceSub, Nat.reduceMul, Nat.reduceLeDiff, Nat.reduceLT, Nat.reduceMod, Nat.reduceDiv, Int.reduceToNat, Nat.min_eq_left, IntKind.bits, Int.reducePow, Int.reduceLT, Int.reduceLE, Int.reduceEq, Int.reduceNe, Int.reduceAdd, Int.reduceSub, reduceCtorEq, eq_self, implies_true, exists_const, Option.isNone_some, Option.isNone_none, Option.isSome_some, Option.isSome_none, Option.getD_some, X.c0, X.c1, w8b, w8e]
  refine (low_ok _ _ 8 hbb (by omega)).k ?_
  rintro w1 g1 ⟨o1, e1⟩
  have X1 := X.ext e1
  simp (disch := omega) only [dm_t, wZ, ↓reduceIte, Nat.reduceEqDiff, Nat.reduceAdd, Nat.reduceSub, Nat.reduceMul, Nat.reduceLeDiff, Nat.reduceLT, Nat.reduceMod, Nat.reduceDiv, Int.reduceToNat, Nat.min_eq_left, IntKind.bits, Int.reducePow, Int.reduceLT, Int.reduceLE, Int.reduceEq, Int.reduceNe, Int.reduceAdd, Int.reduceSub, reduceCtorEq, eq_self, implies_true, exists_const, Option.isNone_some, Option.isNone_none, Option.isSome_some, Option.isSome_none, Option.getD_some, X1.c0, X1.c1, w8b, w8e]
  refine (low_ok _ _ 8 hbe (by omega)).k ?_
  rintro w2 g2 ⟨o2, e2⟩
  have X2 := X1.ext e2
  simp (disch := omega) only [dm_t, wZ, ↓reduceIte, Nat.reduceEqDiff, Nat.reduceAdd, Nat.reduceSub, Nat.reduceMul, Nat.reduceLeDiff, Nat.reduceLT, Nat.reduceMod, Nat.reduceDiv, Int.reduceToNat, Nat.min_eq_left, IntKind.bits, Int.reducePow, Int.reduceLT, Int.reduceLE, Int.reduceEq, Int.reduceNe, Int.reduceAdd, Int.reduceSub, reduceCtorEq, eq_self, implies_true, exists_const, Option.isNone_some, Option.isNone_none, Option.isSome_some, Option.isSome_none, Option.getD_some, X2.c0, X2.c1, w8b, w8e]
  refine appB (OwK.ext o1 e2) (fun y hy => (e1.trans e2).bk hy) (OwK.s0 o2) (by simp [low_len]) ?_
  intro w3 g3 o3 f3
  have E3 := Ext.step (e1.trans e2) f3
  have X3 := X.ext E3
  have hw : IntKind.u64.wrap (l.length : Int) = (l.length : Int) := by rw [wrap64u]; omega
  simp (disch := omega) only [dm_t, wZ, ↓reduceIte, Nat.reduceEqDiff, Nat.reduceAdd, Nat.reduceSub, Nat.reduceMul, Nat.reduceLeDiff, Nat.reduceLT, Nat.reduceMod, Nat.reduceDiv, Int.reduceToNat, Nat.min_eq_left, IntKind.bits, Int.reducePow, Int.reduceLT, Int.reduceLE, Int.reduceEq, Int.reduceNe, Int.reduceAdd, Int.reduceSub, reduceCtorEq, eq_self, implies_true, exists_const, Option.isNone_some, Option.isNone_none, Option.isSome_some, Option.isSome_none, Option.getD_some, X3.c2, X3.c0, X3.c1, w8b, w8e, hw]
  refine (low_ok _ l.length 4 (by omega) (by omega)).k ?_
  rintro w4 g4 ⟨o4, e4⟩
  simp (disch := omega) only [dm_t, wZ, ↓reduceIte, Nat.reduceEqDiff, Nat.reduceAdd, Nat.reduceSub, Nat.reduceMul, Nat.reduceLeDiff, Nat.reduceLT, Nat.reduceMod, Nat.reduceDiv, Int.reduceToNat, Nat.min_eq_left, IntKind.bits, Int.reducePow, Int.reduceLT, Int.reduceLE, Int.reduceEq, Int.reduceNe, Int.reduceAdd, Int.reduceSub, reduceCtorEq, eq_self, implies_true, exists_const, Option.isNone_some, Option.isNone_none, Option.isSome_some, Option.isSome_none, Option.getD_some]
  refine appB (OwK.ext o3 e4) (fun y hy => (E3.trans e4).bk hy) (OwK.s0 o4) (by simp [low_len]) ?_
  intro w5 g5 o5 f5
  have E5 := Ext.step (E3.trans e4) f5
  simp (disch := omega) only [dm_t, wZ, ↓reduceIte, Nat.reduceEqDiff, Nat.reduceAdd, Nat.reduceSub, Nat.reduceMul, Nat.reduceLeDiff, Nat.reduceLT, Nat.reduceMod, Nat.reduceDiv, Int.reduceToNat, Nat.min_eq_left, IntKind.bits, Int.reducePow, Int.reduceLT, Int.reduceLE, Int.reduceEq, Int.reduceNe, Int.reduceAdd, Int.reduceSub, reduceCtorEq, eq_self, implies_true, exists_const, Option.isNone_some, Option.isNone_none, Option.isSome_some, Option.isSome_none, Option.getD_some]
  refine vc_loop2 (fun vb vi G => ∃ i : Nat, vi = .int .i64 (i : Int) ∧ i ≤ l.length ∧ OwB (fun y => g y = none) G 5 vb (headB b e l.length ++ (l.take i).flatMap rB) ∧ Ext g G) (fun _ vi _ => l.length - m1 vi) ?_ ?_
  · simp (disch := omega) only [dm_t, wZ, ↓reduceIte, Nat.reduceEqDiff, Nat.reduceAdd, Nat.reduceSub, Nat.reduceMul, Nat.reduceLeDiff, Nat.reduceLT, Nat.reduceMod, Nat.reduceDiv, Int.reduceToNat, Nat.min_eq_left, IntKind.bits, Int.reducePow, Int.reduceLT, Int.reduceLE, Int.reduceEq, Int.reduceNe, Int.reduceAdd, Int.reduceSub, reduceCtorEq, eq_self, implies_true, exists_const, Option.isNone_some, Option.isNone_none, Option.isSome_some, Option.isSome_none, Option.getD_some]
    refine ⟨0, rfl, by omega, ?_, E5⟩
    have h0 : headB b e l.length ++ (l.take 0).flatMap rB = low 8 (bits64 b) ++ low 8 (bits64 e) ++ low 4 l.length := by simp [headB]
    rw [h0]
    exact o5
  rintro vb _ G ⟨i, rfl, hi, ob, E⟩
  have XG := X.ext E
  by_cases hil : i < l.length
  · obtain ⟨b1, p1, i1, t0, t1, -⟩ := rl_at XG.lst hil .i64
    have w80 := wrapB l[i].1
    have w81 := wrapB l[i].2
    have hb0 := bits64_lt l[i].1
    have hb1 := bits64_lt l[i].2
    have hfl : ((l.take i).flatMap rB).length = 16 * i := by rw [flat_rB, List.length_take]; omega
    simp (disch := omega) only [dm_t, wZ, ↓reduceIte, Nat.reduceEqDiff, Nat.reduceAdd, Nat.reduceSub, Nat.reduceMul, Nat.reduceLeDiff, Nat.reduceLT, Nat.reduceMod, Nat.reduceDiv, Int.reduceToNat, Nat.min_eq_left, IntKind.bits, Int.reducePow, Int.reduceLT, Int.reduceLE, Int.reduceEq, Int.reduceNe, Int.reduceAdd, Int.reduceSub, reduceCtorEq, eq_self, implies_true, exists_const, Option.isNone_some, Option.isNone_none, Option.isSome_some, Option.isSome_none, Option.getD_some, XG.c2, i1, t0, t1, w80, w81]
    refine (low_ok _ _ 8 hb0 (by omega)).k ?_
    rintro w6 G6 ⟨o6, e6⟩
    have XG6 := XG.ext e6
    simp (disch := omega) only [dm_t, wZ, ↓reduceIte, Nat.reduceEqDiff, Nat.reduceAdd, Nat.reduceSub, Nat.reduceMul, Nat.reduceLeDiff, Nat.reduceLT, Nat.reduceMod, Nat.reduceDiv, Int.reduceToNat, Nat.min_eq_left, IntKind.bits, Int.reducePow, Int.reduceLT, Int.reduceLE, Int.reduceEq, Int.reduceNe, Int.reduceAdd, Int.reduceSub, reduceCtorEq, eq_self, implies_true, exists_const, Option.isNone_some, Option.isNone_none, Option.isSome_some, Option.isSome_none, Option.getD_some, XG6.c2, i1, cellAt_ext e6 t0, cellAt_ext e6 t1, w80, w81]
    refine appB (OwK.ext ob e6) (fun y hy => (E.trans e6).bk hy) (OwK.s0 o6) (by rw [List.length_append, headB_len, hfl]; simp [low_len]; omega) ?_
    intro w7 G7 o7 f7
    have E7 := Ext.step (E.trans e6) f7
    have XG7 := X.ext E7
    obtain ⟨b2, p2, i2, t20, t21, -⟩ := rl_at XG7.lst hil .i64
    have ee : (some (Value.pointer (some ⟨b1, p1, none⟩))) = some (.pointer (some ⟨b2, p2, none⟩)) := by rw [← i1, i2]
    simp only [Option.some.injEq, Value.pointer.injEq, Addr.mk.injEq, and_true] at ee
    obtain ⟨rfl, rfl⟩ := ee
    simp (disch := omega) only [dm_t, wZ, ↓reduceIte, Nat.reduceEqDiff, Nat.reduceAdd, Nat.reduceSub, Nat.reduceMul, Nat.reduceLeDiff, Nat.reduceLT, Nat.reduceMod, Nat.reduceDiv, Int.reduceToNat, Nat.min_eq_left, IntKind.bits, Int.reducePow, Int.reduceLT, Int.reduceLE, Int.reduceEq, Int.reduceNe, Int.reduceAdd, Int.reduceSub, reduceCtorEq, eq_self, implies_true, exists_const, Option.isNone_some, Option.isNone_none, Option.isSome_some, Option.isSome_none, Option.getD_some, XG7.c2, i1, t20, t21, w80, w81]
    refine (low_ok _ _ 8 hb1 (by omega)).k ?_
    rintro w8 G8 ⟨o8, e8⟩
    have XG8 := XG7.ext e8
    simp (disch := omega) only [dm_t, wZ, ↓reduceIte, Nat.reduceEqDiff, Nat.reduceAdd, Nat.reduceSub, Nat.reduceMul, Nat.reduceLeDiff, Nat.reduceLT, Nat.reduceMod, Nat.reduceDiv, Int.reduceToNat, Nat.min_eq_left, IntKind.bits, Int.reducePow, Int.reduceLT, Int.reduceLE, Int.reduceEq, Int.reduceNe, Int.reduceAdd, Int.reduceSub, reduceCtorEq, eq_self, implies_true, exists_const, Option.isNone_some, Option.isNone_none, Option.isSome_some, Option.isSome_none, Option.getD_some, XG8.c2, i1, cellAt_ext e8 t20, cellAt_ext e8 t21, w80, w81]
    refine appB (OwK.ext o7 e8) (fun y hy => (E7.trans e8).bk hy) (OwK.s0 o8) (by rw [List.length_append, List.length_append, headB_len, hfl]; simp [low_len]; omega) ?_
    intro w9 G9 o9 f9
    have E9 := Ext.step (E7.trans e8) f9
    have XG9 := X.ext E9
    obtain ⟨b3, p3, i3, t30, t31, -⟩ := rl_at XG9.lst hil .i64
    have ee : (some (Value.pointer (some ⟨b1, p1, none⟩))) = some (.pointer (some ⟨b3, p3, none⟩)) := by rw [← i1, i3]
    simp only [Option.some.injEq, Value.pointer.injEq, Addr.mk.injEq, and_true] at ee
    obtain ⟨rfl, rfl⟩ := ee
    simp (disch := omega) only [dm_t, wZ, ↓reduceIte, Nat.reduceEqDiff, Nat.reduceAdd, Nat.reduceSub, Nat.reduceMul, Nat.reduceLeDiff, Nat.reduceLT, Nat.reduceMod, Nat.reduceDiv, Int.reduceToNat, Nat.min_eq_left, IntKind.bits, Int.reducePow, Int.reduceLT, Int.reduceLE, Int.reduceEq, Int.reduceNe, Int.reduceAdd, Int.reduceSub, reduceCtorEq, eq_self, implies_true, exists_const, Option.isNone_some, Option.isNone_none, Option.isSome_some, Option.isSome_none, Option.getD_some, XG9.c2, i1, t30, t31, w80, w81]
    refine ⟨⟨i + 1, by simp, by omega, ?_, E9⟩, by simp [m1]; omega⟩
    have hs : (l.take (i + 1)).flatMap rB = (l.take i).flatMap rB ++ (low 8 (bits64 l[i].1) ++ low 8 (bits64 l[i].2)) := by
      rw [List.take_succ_eq_append_getElem hil, List.flatMap_append]; simp [rB]
    rw [hs, ← List.append_assoc, ← List.append_assoc]
    exact o9
  · obtain rfl : i = l.length := by omega
    rw [List.take_length] at ob
    simp (disch := omega) only [dm_t, wZ, ↓reduceIte, Nat.reduceEqDiff, Nat.reduceAdd, Nat.reduceSub, Nat.reduceMul, Nat.reduceLeDiff, Nat.reduceLT, Nat.reduceMod, Nat.reduceDiv, Int.reduceToNat, Nat.min_eq_left, IntKind.bits, Int.reducePow, Int.reduceLT, Int.reduceLE, Int.reduceEq, Int.reduceNe, Int.reduceAdd, Int.reduceSub, reduceCtorEq, eq_self, implies_true, exists_const, Option.isNone_some, Option.isNone_none, Option.isSome_some, Option.isSome_none, Option.getD_some, XG.c2]
    exact ⟨ob, E⟩
end
end Go.Proofs.Ytmjbgfflbeibnaa.ti
