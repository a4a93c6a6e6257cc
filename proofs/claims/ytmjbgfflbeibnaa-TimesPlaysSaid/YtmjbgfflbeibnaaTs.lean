/-
  times: the law's rises, as; any bytes opened and written again.
-/
import Derived.Test.YtmjbgfflbeibnaaTr
namespace Go.Proofs.Ytmjbgfflbeibnaa.ti
open Go.Proofs.Ytmjbgfflbeibnaa wi
set_option linter.unusedVariables false
set_option linter.unusedSimpArgs false
section
variable {S T : Nat → Prop} {g g' : H} {p q : Nat} {b e b2 e2 : Int} {v v2 w : Value} {l l2 : List Ri} {bs : List UInt8}
theorem rises_ok (h : SlK 2 S g v (rrows l)) (h2 : SlK 2 T g v2 (rrows l2)) (hl : l.length ≤ 1000000) : Ok Try.prog 38 #[v, v2] g fun w h' => w = .bool (decide (l = l2)) ∧ g = h' := by
  obtain ⟨a, c, hv⟩ := SlK.len h
  obtain ⟨a2, c2, hv2⟩ := SlK.len h2
  rw [List.length_map] at hv hv2
  subst hv hv2
  refine c38_ok (args := [_, _]) (by simp) ?_
  by_cases hlm : l.length = l2.length
  · simp (disch := omega) only [dm_t, wZ, ↓reduceIte, Nat.reduceEqDiff, Nat.reduceAdd, Nat.reduceSub, Nat.reduceMul, Nat.reduceLeDiff, Nat.reduceLT, Nat.reduceMod, Nat.reduceDiv, Int.reduceToNat, Nat.min_eq_left, IntKind.bits, Int.reducePow, Int.reduceLT, Int.reduceLE, Int.reduceEq, Int.reduceNe, Int.reduceAdd, Int.reduceSub, reduceCtorEq, eq_self, implies_true, exists_const, Option.isNone_some, Option.isNone_none, Option.isSome_some, Option.isSome_none, Option.getD_some]
    refine vc_loop1 (fun vi h' => h' = g ∧ ∃ i : Nat, vi = .int .i64 (i : Int) ∧ i ≤ l.length ∧ l.take i = l2.take i) (fun vi _ => l.length - m1 vi) ?_ ?_
    · simp (disch := omega) only [dm_t, wZ, ↓reduceIte, Nat.reduceEqDiff, Nat.reduceAdd, Nat.reduceSub, Nat.reduceMul, Nat.reduceLeDiff, Nat.reduceLT, Nat.reduceMod, Nat.reduceDiv, Int.reduceToNat, Nat.min_eq_left, IntKind.bits, Int.reducePow, Int.reduceLT, Int.reduceLE, Int.reduceEq, Int.reduceNe, Int.reduceAdd, Int.reduceSub, reduceCtorEq, eq_self, implies_true, exists_const, Option.isNone_some, Option.isNone_none, Option.isSome_some, Option.isSome_none, Option.getD_some]
      exact ⟨0, rfl, by omega, by simp⟩
    rintro _ _ ⟨rfl, i, rfl, hi, heq⟩
    by_cases hil : i < l.length
    · have him : i < l2.length := by omega
      obtain ⟨b1, o1, i1, -, -, t1⟩ := rl_at h hil .i64
      obtain ⟨b3, o3, i3, -, -, t3⟩ := rl_at h2 him .i64
      simp (disch := omega) only [dm_t, wZ, ↓reduceIte, Nat.reduceEqDiff, Nat.reduceAdd, Nat.reduceSub, Nat.reduceMul, Nat.reduceLeDiff, Nat.reduceLT, Nat.reduceMod, Nat.reduceDiv, Int.reduceToNat, Nat.min_eq_left, IntKind.bits, Int.reducePow, Int.reduceLT, Int.reduceLE, Int.reduceEq, Int.reduceNe, Int.reduceAdd, Int.reduceSub, reduceCtorEq, eq_self, implies_true, exists_const, Option.isNone_some, Option.isNone_none, Option.isSome_some, Option.isSome_none, Option.getD_some, i1, t1, i3, t3]
      refine raw_neSt2 (fun w => run_eqSt2 (k := .i64) (a1 := l[i].1) (a2 := l[i].2) (b1 := l2[i].1) (b2 := l2[i].2) 9998 Try.underlying50 (by kernel_rfl) (by decide) (by decide) (by kernel_rfl) (by kernel_rfl) rfl rfl rfl rfl) rfl rfl (by kernel_rfl) ?_
      have hx : (l[i].1 == l2[i].1 && l[i].2 == l2[i].2) = decide (l[i] = l2[i]) := by
        rw [Bool.eq_iff_iff]
        simp [Prod.ext_iff]
      rw [hx]
      by_cases hq : l[i] = l2[i]
      · simp (disch := omega) only [dm_t, wZ, ↓reduceIte, Nat.reduceEqDiff, Nat.reduceAdd, Nat.reduceSub, Nat.reduceMul, Nat.reduceLeDiff, Nat.reduceLT, Nat.reduceMod, Nat.reduceDiv, Int.reduceToNat, Nat.min_eq_left, IntKind.bits, Int.reducePow, Int.reduceLT, Int.reduceLE, Int.reduceEq, Int.reduceNe, Int.reduceAdd, Int.reduceSub, reduceCtorEq, eq_self, implies_true, exists_const, Option.isNone_some, Option.isNone_none, Option.isSome_some, Option.isSome_none, Option.getD_some, hq]
        refine ⟨⟨i + 1, by simp, by omega, ?_⟩, by simp [m1]; omega⟩
        rw [List.take_succ_eq_append_getElem hil, List.take_succ_eq_append_getElem him, heq, hq]
      · simp (disch := omega) only [dm_t, wZ, ↓reduceIte, Nat.reduceEqDiff, Nat.reduceAdd, Nat.reduceSub, Nat.reduceMul, Nat.reduceLeDiff, Nat.reduceLT, Nat.reduceMod, Nat.reduceDiv, Int.reduceToNat, Nat.min_eq_left, IntKind.bits, Int.reducePow, Int.reduceLT, Int.reduceLE, Int.reduceEq, Int.reduceNe, Int.reduceAdd, Int.reduceSub, reduceCtorEq, eq_self, implies_true, exists_const, Option.isNone_some, Option.isNone_none, Option.isSome_some, Option.isSome_none, Option.getD_some, hq]
        have : ¬ l = l2 := fun h => hq (by subst h; rfl)
        simp [this]
    · obtain rfl : i = l.length := by omega
      rw [List.take_length, List.take_of_length_le (by omega)] at heq
      simp (disch := omega) only [dm_t, wZ, ↓reduceIte, Nat.reduceEqDiff, Nat.reduceAdd, Nat.reduceSub, Nat.reduceMul, Nat.reduceLeDiff, Nat.reduceLT, Nat.reduceMod, Nat.reduceDiv, Int.reduceToNat, Nat.min_eq_left, IntKind.bits, Int.reducePow, Int.reduceLT, Int.reduceLE, Int.reduceEq, Int.reduceNe, Int.reduceAdd, Int.reduceSub, reduceCtorEq, eq_self, implies_true, exists_const, Option.isNone_some, Option.isNone_none, Option.isSome_some, Option.isSome_none, Option.getD_some, heq]
  · simp (disch := omega) only [dm_t, wZ, ↓reduceIte, Nat.reduceEqDiff, Nat.reduceAdd, Nat.reduceSub, Nat.reduceMul, Nat.reduceLeDiff, Nat.reduceLT, Nat.reduceMod, Nat.reduceDiv, Int.reduceToNat, Nat.min_eq_left, IntKind.bits, Int.reducePow, Int.reduceLT, Int.reduceLE, Int.reduceEq, Int.reduceNe, Int.reduceAdd, Int.reduceSub, reduceCtorEq, eq_self, implies_true, exists_const, Option.isNone_some, Option.isNone_none, Option.isSome_some, Option.isSome_none, Option.getD_some]
    have : ¬ l = l2 := fun h0 => hlm (by rw [h0])
    simp [this]
/-- An index and the document's, the same. -/
theorem as_ok (X : XI S g p b e v l) (Y : DX T g q b e v2 l) : Ok Try.prog 11 #[.pointer (some ⟨p, 0, none⟩), .pointer (some ⟨q, 0, none⟩)] g fun u h' => u = .bool true ∧ Ext g h' := by
  have hl := X.wf.len
  refine c11_ok (args := [_, _]) (by simp) ?_
  simp (disch := omega) only [dm_t, wZ, ↓reduceIte, Nat.reduceEqDiff, Nat.reduceAdd, Nat.reduceSub, Nat.reduceMul, Nat.reduceLeDiff, Nat.reduceLT, Nat.reduceMod, Nat.reduceDiv, Int.reduceToNat, Nat.min_eq_left, IntKind.bits, Int.reducePow, Int.reduceLT, Int.reduceLE, Int.reduceEq, Int.reduceNe, Int.reduceAdd, Int.reduceSub, reduceCtorEq, eq_self, implies_true, exists_const, Option.isNone_some, Option.isNone_none, Option.isSome_some, Option.isSome_none, Option.getD_some, Y.c0, Y.c1, Y.c2]
  refine (Base_ok X).k ?_
  rintro _ _ ⟨rfl, rfl⟩
  simp (disch := omega) only [dm_t, wZ, ↓reduceIte, Nat.reduceEqDiff, Nat.reduceAdd, Nat.reduceSub, Nat.reduceMul, Nat.reduceLeDiff, Nat.reduceLT, Nat.reduceMod, Nat.reduceDiv, Int.reduceToNat, Nat.min_eq_left, IntKind.bits, Int.reducePow, Int.reduceLT, Int.reduceLE, Int.reduceEq, Int.reduceNe, Int.reduceAdd, Int.reduceSub, reduceCtorEq, eq_self, implies_true, exists_const, Option.isNone_some, Option.isNone_none, Option.isSome_some, Option.isSome_none, Option.getD_some, Y.c0, Y.c1, Y.c2]
  refine (End_ok X).k ?_
  rintro _ _ ⟨rfl, rfl⟩
  simp (disch := omega) only [dm_t, wZ, ↓reduceIte, Nat.reduceEqDiff, Nat.reduceAdd, Nat.reduceSub, Nat.reduceMul, Nat.reduceLeDiff, Nat.reduceLT, Nat.reduceMod, Nat.reduceDiv, Int.reduceToNat, Nat.min_eq_left, IntKind.bits, Int.reducePow, Int.reduceLT, Int.reduceLE, Int.reduceEq, Int.reduceNe, Int.reduceAdd, Int.reduceSub, reduceCtorEq, eq_self, implies_true, exists_const, Option.isNone_some, Option.isNone_none, Option.isSome_some, Option.isSome_none, Option.getD_some, Y.c0, Y.c1, Y.c2]
  refine (Rises_ok X).k ?_
  rintro u g2 ⟨ou, e2⟩
  have Y2 := Y.ext e2
  simp (disch := omega) only [dm_t, wZ, ↓reduceIte, Nat.reduceEqDiff, Nat.reduceAdd, Nat.reduceSub, Nat.reduceMul, Nat.reduceLeDiff, Nat.reduceLT, Nat.reduceMod, Nat.reduceDiv, Int.reduceToNat, Nat.min_eq_left, IntKind.bits, Int.reducePow, Int.reduceLT, Int.reduceLE, Int.reduceEq, Int.reduceNe, Int.reduceAdd, Int.reduceSub, reduceCtorEq, eq_self, implies_true, exists_const, Option.isNone_some, Option.isNone_none, Option.isSome_some, Option.isSome_none, Option.getD_some, Y2.c0, Y2.c1, Y2.c2]
  refine (rises_ok ou.s0 Y2.lst (by omega)).k ?_
  rintro _ _ ⟨rfl, rfl⟩
  simp (disch := omega) only [dm_t, wZ, ↓reduceIte, Nat.reduceEqDiff, Nat.reduceAdd, Nat.reduceSub, Nat.reduceMul, Nat.reduceLeDiff, Nat.reduceLT, Nat.reduceMod, Nat.reduceDiv, Int.reduceToNat, Nat.min_eq_left, IntKind.bits, Int.reducePow, Int.reduceLT, Int.reduceLE, Int.reduceEq, Int.reduceNe, Int.reduceAdd, Int.reduceSub, reduceCtorEq, eq_self, implies_true, exists_const, Option.isNone_some, Option.isNone_none, Option.isSome_some, Option.isSome_none, Option.getD_some]
  exact e2
theorem piece_low {bs : List UInt8} {k n : Nat} (h : k + n ≤ bs.length) : low n (num ((bs.drop k).take n)) = (bs.drop k).take n := by
  have hl : ((bs.drop k).take n).length = n := by rw [List.length_take, List.length_drop]; omega
  have := low_num ((bs.drop k).take n)
  rwa [hl] at this
theorem bits_piece (bs : List UInt8) (k : Nat) : bits64 (sgn64 (num ((bs.drop k).take 8))) = num ((bs.drop k).take 8) := bits_sgn _ (piece_lt bs k 8)
theorem take_two (bs : List UInt8) (k m n : Nat) : (bs.drop k).take m ++ (bs.drop (k + m)).take n = (bs.drop k).take (m + n) := by
  rw [List.take_add, List.drop_drop]
theorem lst_bytes {bs : List UInt8} : ∀ {n : Nat}, 20 + 16 * n ≤ bs.length → (oLst bs n).flatMap rB = (bs.drop 20).take (16 * n)
  | 0, _ => by simp [oLst]
  | n + 1, h => by
    rw [oLst_succ, List.flatMap_append, lst_bytes (by omega), List.flatMap_cons, List.flatMap_nil, List.append_nil, rB, oRise]
    simp only [bits_piece]
    rw [piece_low (by omega), piece_low (by omega), show 28 + 16 * n = (20 + 16 * n) + 8 by omega, take_two, take_two, show 16 * n + (8 + 8) = 16 * (n + 1) by omega]
theorem bytes_back {bs : List UInt8} (h : openE bs = 0) : bytesP (oBase bs) (oEnd bs) (oLst bs (oCnt bs)) = bs := by
  have hh : 20 + 16 * oCnt bs = bs.length := by
    unfold openE at h
    split at h
    · cases h
    · split at h
      · cases h
      · split at h
        · cases h
        · omega
  rw [bytesP, lst_bytes (by omega), oLst_len, headB, oBase, oEnd, bits_piece, bits_piece, oCnt, piece_low (by omega), piece_low (by omega), piece_low (by omega), take_two bs 0 8 8, take_two bs 0 16 4, take_two bs 0 20]
  rw [List.drop_zero, List.take_of_length_le]
  have : num ((bs.drop 16).take 4) = oCnt bs := rfl
  rw [this]; omega
end
end Go.Proofs.Ytmjbgfflbeibnaa.ti
