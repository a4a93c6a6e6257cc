/-
  times: Bytes.
-/
import Derived.Test.YtmjbgfflbeibnaaTe
import Derived.Test.YtmjbgfflbeibnaaTf
namespace Go.Proofs.Ytmjbgfflbeibnaa.ti
open Go.Proofs.Ytmjbgfflbeibnaa wi
set_option linter.unusedVariables false
set_option linter.unusedSimpArgs false
section
variable {S T : Nat → Prop} {g g' : H} {p q : Nat} {b e : Int} {v : Value} {l : List Ri}
def rB (r : Ri) : List UInt8 := low 8 (bits64 r.1) ++ low 8 (bits64 r.2)
def headB (b e : Int) (n : Nat) : List UInt8 := low 8 (bits64 b) ++ low 8 (bits64 e) ++ low 4 n
def bytesP (b e : Int) (l : List Ri) : List UInt8 := headB b e l.length ++ l.flatMap rB
theorem rB_len (r : Ri) : (rB r).length = 16 := by simp [rB, low_len]
theorem flat_rB (l : List Ri) : (l.flatMap rB).length = 16 * l.length := by
  induction l with
  | nil => rfl
  | cons r t ih => rw [List.flatMap_cons, List.length_append, ih, rB_len, List.length_cons]; omega
theorem headB_len (b e : Int) (n : Nat) : (headB b e n).length = 20 := by simp [headB, low_len]
theorem Bytes_ok (X : XI S g p b e v l) : Ok Try.prog 12 #[.pointer (some ⟨p, 0, none⟩)] g fun w h' => OwB (fun y => g y = none) h' 5 w (bytesP b e l) ∧ Ext g h' := by
  obtain ⟨a, c, rfl⟩ := X.slen
  have hl := X.wf.len
  refine c12_ok (args := [_]) (by simp) ?_
  simp (disch := omega) only [dm_t, wZ, ↓reduceIte, Nat.reduceEqDiff, Nat.reduceAdd, Nat.reduceSub, Nat.reduceMul, Nat.reduceLeDiff, Nat.reduceLT, Nat.reduceMod, Nat.reduceDiv, Int.reduceToNat, Nat.min_eq_left, IntKind.bits, Int.reducePow, Int.reduceLT, Int.reduceLE, Int.reduceEq, Int.reduceNe, Int.reduceAdd, Int.reduceSub, reduceCtorEq, eq_self, implies_true, exists_const, Option.isNone_some, Option.isNone_none, Option.isSome_some, Option.isSome_none, Option.getD_some]
  refine (none_ok X).k ?_
  rintro _ _ ⟨rfl, rfl⟩
  simp (disch := omega) only [dm_t, wZ, ↓reduceIte, Nat.reduceEqDiff, Nat.reduceAdd, Nat.reduceSub, Nat.reduceMul, Nat.reduceLeDiff, Nat.reduceLT, Nat.reduceMod, Nat.reduceDiv, Int.reduceToNat, Nat.min_eq_left, IntKind.bits, Int.reducePow, Int.reduceLT, Int.reduceLE, Int.reduceEq, Int.reduceNe, Int.reduceAdd, Int.reduceSub, reduceCtorEq, eq_self, implies_true, exists_const, Option.isNone_some, Option.isNone_none, Option.isSome_some, Option.isSome_none, Option.getD_some, X.c0, X.c1]
  refine (i64_ok By.nil b (by simp)).k ?_
  rintro w1 g1 ⟨o1, e1⟩
  have X1 := X.ext e1
  rw [List.nil_append] at o1
  simp (disch := omega) only [dm_t, wZ, ↓reduceIte, Nat.reduceEqDiff, Nat.reduceAdd, Nat.reduceSub, Nat.reduceMul, Nat.reduceLeDiff, Nat.reduceLT, Nat.reduceMod, Nat.reduceDiv, Int.reduceToNat, Nat.min_eq_left, IntKind.bits, Int.reducePow, Int.reduceLT, Int.reduceLE, Int.reduceEq, Int.reduceNe, Int.reduceAdd, Int.reduceSub, reduceCtorEq, eq_self, implies_true, exists_const, Option.isNone_some, Option.isNone_none, Option.isSome_some, Option.isSome_none, Option.getD_some, X1.c0, X1.c1]
  refine (i64_ok (OwK.s0 o1) e (by simp [low_len])).k ?_
  rintro w2 g2 ⟨o2, e2⟩
  have X2 := X1.ext e2
  have hw : IntKind.u32.wrap (l.length : Int) = (l.length : Int) := by simp [IntKind.wrap, IntKind.bits, IntKind.signed]; omega
  simp (disch := omega) only [dm_t, wZ, ↓reduceIte, Nat.reduceEqDiff, Nat.reduceAdd, Nat.reduceSub, Nat.reduceMul, Nat.reduceLeDiff, Nat.reduceLT, Nat.reduceMod, Nat.reduceDiv, Int.reduceToNat, Nat.min_eq_left, IntKind.bits, Int.reducePow, Int.reduceLT, Int.reduceLE, Int.reduceEq, Int.reduceNe, Int.reduceAdd, Int.reduceSub, reduceCtorEq, eq_self, implies_true, exists_const, Option.isNone_some, Option.isNone_none, Option.isSome_some, Option.isSome_none, Option.getD_some, X2.c2, hw]
  refine (u32_ok (OwK.s0 o2) l.length (by omega) (by simp [low_len])).k ?_
  rintro w3 g3 ⟨o3, e3⟩
  have X3 := X2.ext e3
  have E3 := (e1.trans e2).trans e3
  simp (disch := omega) only [dm_t, wZ, ↓reduceIte, Nat.reduceEqDiff, Nat.reduceAdd, Nat.reduceSub, Nat.reduceMul, Nat.reduceLeDiff, Nat.reduceLT, Nat.reduceMod, Nat.reduceDiv, Int.reduceToNat, Nat.min_eq_left, IntKind.bits, Int.reducePow, Int.reduceLT, Int.reduceLE, Int.reduceEq, Int.reduceNe, Int.reduceAdd, Int.reduceSub, reduceCtorEq, eq_self, implies_true, exists_const, Option.isNone_some, Option.isNone_none, Option.isSome_some, Option.isSome_none, Option.getD_some, X3.c2]
  refine vc_loop2 (fun vb vi G => ∃ i : Nat, vi = .int .i64 (i : Int) ∧ i ≤ l.length ∧ OwB (fun y => g y = none) G 5 vb (headB b e l.length ++ (l.take i).flatMap rB) ∧ Ext g G) (fun _ vi _ => l.length - m1 vi) ?_ ?_
  · simp (disch := omega) only [dm_t, wZ, ↓reduceIte, Nat.reduceEqDiff, Nat.reduceAdd, Nat.reduceSub, Nat.reduceMul, Nat.reduceLeDiff, Nat.reduceLT, Nat.reduceMod, Nat.reduceDiv, Int.reduceToNat, Nat.min_eq_left, IntKind.bits, Int.reducePow, Int.reduceLT, Int.reduceLE, Int.reduceEq, Int.reduceNe, Int.reduceAdd, Int.reduceSub, reduceCtorEq, eq_self, implies_true, exists_const, Option.isNone_some, Option.isNone_none, Option.isSome_some, Option.isSome_none, Option.getD_some]
    refine ⟨0, rfl, by omega, ?_, E3⟩
    have h0 : headB b e l.length ++ (l.take 0).flatMap rB = low 8 (bits64 b) ++ low 8 (bits64 e) ++ low 4 l.length := by simp [headB]
    rw [h0]
    exact OwK.mono o3 fun y _ _ hn => (e1.trans e2).bk hn
  rintro vb _ G ⟨i, rfl, hi, ob, E⟩
  by_cases hil : i < l.length
  · have XG := X.ext E
    obtain ⟨b1, o1, i1, -, -, t1⟩ := rl_at XG.lst hil .i64
    simp (disch := omega) only [dm_t, wZ, ↓reduceIte, Nat.reduceEqDiff, Nat.reduceAdd, Nat.reduceSub, Nat.reduceMul, Nat.reduceLeDiff, Nat.reduceLT, Nat.reduceMod, Nat.reduceDiv, Int.reduceToNat, Nat.min_eq_left, IntKind.bits, Int.reducePow, Int.reduceLT, Int.reduceLE, Int.reduceEq, Int.reduceNe, Int.reduceAdd, Int.reduceSub, reduceCtorEq, eq_self, implies_true, exists_const, Option.isNone_some, Option.isNone_none, Option.isSome_some, Option.isSome_none, Option.getD_some, i1, t1]
    intro rb hrb
    refine storeH_all (vs := [_, _]) (hupd_same _ _ _) rfl rfl ?_
    rw [hupd_hupd]
    generalize hG : hupd G rb _ = G1
    obtain ⟨f1, qr⟩ := new_ext hG hrb
    clear hG
    have c0 : ∀ {H'}, Ext G1 H' → cellAt H' ⟨rb, 0, none⟩ = some (.int .i64 l[i].1) := fun e => by rw [cellAt_of (e.at qr)]; rfl
    have c1 : ∀ {H'}, Ext G1 H' → cellAt H' ⟨rb, 1, none⟩ = some (.int .i64 l[i].2) := fun e => by rw [cellAt_of (e.at qr)]; rfl
    simp (disch := omega) only [dm_t, wZ, ↓reduceIte, Nat.reduceEqDiff, Nat.reduceAdd, Nat.reduceSub, Nat.reduceMul, Nat.reduceLeDiff, Nat.reduceLT, Nat.reduceMod, Nat.reduceDiv, Int.reduceToNat, Nat.min_eq_left, IntKind.bits, Int.reducePow, Int.reduceLT, Int.reduceLE, Int.reduceEq, Int.reduceNe, Int.reduceAdd, Int.reduceSub, reduceCtorEq, eq_self, implies_true, exists_const, Option.isNone_some, Option.isNone_none, Option.isSome_some, Option.isSome_none, Option.getD_some, c0 (Ext.refl _), c1 (Ext.refl _)]
    refine (i64_ok By.nil l[i].1 (by simp)).k ?_
    rintro w5 G2 ⟨o5, f2⟩
    rw [List.nil_append] at o5
    simp (disch := omega) only [dm_t, wZ, ↓reduceIte, Nat.reduceEqDiff, Nat.reduceAdd, Nat.reduceSub, Nat.reduceMul, Nat.reduceLeDiff, Nat.reduceLT, Nat.reduceMod, Nat.reduceDiv, Int.reduceToNat, Nat.min_eq_left, IntKind.bits, Int.reducePow, Int.reduceLT, Int.reduceLE, Int.reduceEq, Int.reduceNe, Int.reduceAdd, Int.reduceSub, reduceCtorEq, eq_self, implies_true, exists_const, Option.isNone_some, Option.isNone_none, Option.isSome_some, Option.isSome_none, Option.getD_some, c0 f2, c1 f2]
    refine (i64_ok (OwK.s0 o5) l[i].2 (by simp [low_len])).k ?_
    rintro w6 G3 ⟨o6, f3⟩
    have f13 := f1.trans (f2.trans f3)
    have hfl : ((l.take i).flatMap rB).length = 16 * i := by rw [flat_rB, List.length_take]; omega
    simp (disch := omega) only [dm_t, wZ, ↓reduceIte, Nat.reduceEqDiff, Nat.reduceAdd, Nat.reduceSub, Nat.reduceMul, Nat.reduceLeDiff, Nat.reduceLT, Nat.reduceMod, Nat.reduceDiv, Int.reduceToNat, Nat.min_eq_left, IntKind.bits, Int.reducePow, Int.reduceLT, Int.reduceLE, Int.reduceEq, Int.reduceNe, Int.reduceAdd, Int.reduceSub, reduceCtorEq, eq_self, implies_true, exists_const, Option.isNone_some, Option.isNone_none, Option.isSome_some, Option.isSome_none, Option.getD_some, c0 (f2.trans f3), c1 (f2.trans f3)]
    refine appB (OwK.ext ob f13) (fun y hy => (E.trans f13).bk hy) (OwK.s0 o6) (by rw [List.length_append, headB_len, hfl]; simp [low_len]; omega) ?_
    intro w7 G4 o7 f7
    simp (disch := omega) only [dm_t, wZ, ↓reduceIte, Nat.reduceEqDiff, Nat.reduceAdd, Nat.reduceSub, Nat.reduceMul, Nat.reduceLeDiff, Nat.reduceLT, Nat.reduceMod, Nat.reduceDiv, Int.reduceToNat, Nat.min_eq_left, IntKind.bits, Int.reducePow, Int.reduceLT, Int.reduceLE, Int.reduceEq, Int.reduceNe, Int.reduceAdd, Int.reduceSub, reduceCtorEq, eq_self, implies_true, exists_const, Option.isNone_some, Option.isNone_none, Option.isSome_some, Option.isSome_none, Option.getD_some]
    refine ⟨⟨i + 1, by simp, by omega, ?_, Ext.step (E.trans f13) f7⟩, by simp [m1]; omega⟩
    have hs : (l.take (i + 1)).flatMap rB = (l.take i).flatMap rB ++ (low 8 (bits64 l[i].1) ++ low 8 (bits64 l[i].2)) := by
      rw [List.take_succ_eq_append_getElem hil, List.flatMap_append]; simp [rB]
    rw [hs, ← List.append_assoc]
    exact o7
  · obtain rfl : i = l.length := by omega
    rw [List.take_length] at ob
    simp (disch := omega) only [dm_t, wZ, ↓reduceIte, Nat.reduceEqDiff, Nat.reduceAdd, Nat.reduceSub, Nat.reduceMul, Nat.reduceLeDiff, Nat.reduceLT, Nat.reduceMod, Nat.reduceDiv, Int.reduceToNat, Nat.min_eq_left, IntKind.bits, Int.reducePow, Int.reduceLT, Int.reduceLE, Int.reduceEq, Int.reduceNe, Int.reduceAdd, Int.reduceSub, reduceCtorEq, eq_self, implies_true, exists_const, Option.isNone_some, Option.isNone_none, Option.isSome_some, Option.isSome_none, Option.getD_some]
    exact ⟨ob, E⟩
end
end Go.Proofs.Ytmjbgfflbeibnaa.ti
