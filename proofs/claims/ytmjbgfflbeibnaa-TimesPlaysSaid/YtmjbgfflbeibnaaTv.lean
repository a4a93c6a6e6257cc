/-
  times: the document's index: Top, Find, Until, Cut, Same.
-/
import Derived.Test.YtmjbgfflbeibnaaTs
namespace Go.Proofs.Ytmjbgfflbeibnaa.ti
open Go.Proofs.Ytmjbgfflbeibnaa wi
set_option linter.unusedVariables false
set_option linter.unusedSimpArgs false
section
variable {S T : Nat → Prop} {g g' : H} {p q : Nat} {b e b2 e2 : Int} {v v2 w : Value} {l l2 : List Ri}
theorem DTop_ok (X : DX S g q b e v l) : Ok Try.prog 68 #[.pointer (some ⟨q, 0, none⟩)] g fun u h' => u = .int .i64 (topP l) ∧ g = h' := by
  obtain ⟨a, c, rfl⟩ := X.slen
  have hl := X.len
  refine c68_ok (args := [_]) (by simp) ?_
  by_cases h0 : l.length = 0
  · have : l = [] := List.length_eq_zero_iff.1 h0
    subst this
    simp (disch := omega) only [dm_t, wZ, ↓reduceIte, Nat.reduceEqDiff, Nat.reduceAdd, Nat.reduceSub, Nat.reduceMul, Nat.reduceLeDiff, Nat.reduceLT, Nat.reduceMod, Nat.reduceDiv, Int.reduceToNat, Nat.min_eq_left, IntKind.bits, Int.reducePow, Int.reduceLT, Int.reduceLE, Int.reduceEq, Int.reduceNe, Int.reduceAdd, Int.reduceSub, reduceCtorEq, eq_self, implies_true, exists_const, Option.isNone_some, Option.isNone_none, Option.isSome_some, Option.isSome_none, Option.getD_some, X.c2]
    rfl
  · obtain ⟨pb, po, i1, -, t1, -⟩ := rl_at X.lst (i := l.length - 1) (by omega) .i64
    have hi : ((l.length - 1 : Nat) : Int) = (l.length : Int) - 1 := by omega
    rw [hi] at i1
    simp (disch := omega) only [dm_t, wZ, ↓reduceIte, Nat.reduceEqDiff, Nat.reduceAdd, Nat.reduceSub, Nat.reduceMul, Nat.reduceLeDiff, Nat.reduceLT, Nat.reduceMod, Nat.reduceDiv, Int.reduceToNat, Nat.min_eq_left, IntKind.bits, Int.reducePow, Int.reduceLT, Int.reduceLE, Int.reduceEq, Int.reduceNe, Int.reduceAdd, Int.reduceSub, reduceCtorEq, eq_self, implies_true, exists_const, Option.isNone_some, Option.isNone_none, Option.isSome_some, Option.isSome_none, Option.getD_some, X.c2, i1, t1]
    rw [topP_last (by omega)]
theorem DFind_ok (X : DX S g q b e v l) (t : Int) : Ok Try.prog 55 #[.pointer (some ⟨q, 0, none⟩), .int .i64 t] g fun u h' => u = .tuple #[.int .i64 (findP l t).1, .bool (findP l t).2] ∧ g = h' := by
  obtain ⟨a, c, rfl⟩ := X.slen
  have hl := X.len
  refine c55_ok (args := [_, _]) (by simp) ?_
  simp (disch := omega) only [dm_t, wZ, ↓reduceIte, Nat.reduceEqDiff, Nat.reduceAdd, Nat.reduceSub, Nat.reduceMul, Nat.reduceLeDiff, Nat.reduceLT, Nat.reduceMod, Nat.reduceDiv, Int.reduceToNat, Nat.min_eq_left, IntKind.bits, Int.reducePow, Int.reduceLT, Int.reduceLE, Int.reduceEq, Int.reduceNe, Int.reduceAdd, Int.reduceSub, reduceCtorEq, eq_self, implies_true, exists_const, Option.isNone_some, Option.isNone_none, Option.isSome_some, Option.isSome_none, Option.getD_some]
  refine vc_loop1 (fun vi G => G = g ∧ ∃ i : Nat, vi = .int .i64 (i : Int) ∧ i ≤ l.length ∧ (l.take i).find? (fun r => decide (t ≤ r.2)) = none) (fun vi _ => l.length - m1 vi) ?_ ?_
  · simp (disch := omega) only [dm_t, wZ, ↓reduceIte, Nat.reduceEqDiff, Nat.reduceAdd, Nat.reduceSub, Nat.reduceMul, Nat.reduceLeDiff, Nat.reduceLT, Nat.reduceMod, Nat.reduceDiv, Int.reduceToNat, Nat.min_eq_left, IntKind.bits, Int.reducePow, Int.reduceLT, Int.reduceLE, Int.reduceEq, Int.reduceNe, Int.reduceAdd, Int.reduceSub, reduceCtorEq, eq_self, implies_true, exists_const, Option.isNone_some, Option.isNone_none, Option.isSome_some, Option.isSome_none, Option.getD_some]
    exact ⟨0, rfl, by omega, by simp⟩
  rintro _ _ ⟨rfl, i, rfl, hi, hf⟩
  by_cases hil : i < l.length
  · obtain ⟨pb, po, i1, t0, t1, -⟩ := rl_at X.lst hil .i64
    by_cases hc : t ≤ l[i].2
    · have hp : findP l t = (l[i].1, true) := by
        have h1 : l = l.take i ++ l[i] :: l.drop (i + 1) := by simp
        rw [findP]
        conv => lhs; rw [h1]
        rw [List.find?_append, hf, List.find?_cons_of_pos (by simpa using hc)]; rfl
      rw [hp]
      simp (disch := omega) only [dm_t, wZ, ↓reduceIte, Nat.reduceEqDiff, Nat.reduceAdd, Nat.reduceSub, Nat.reduceMul, Nat.reduceLeDiff, Nat.reduceLT, Nat.reduceMod, Nat.reduceDiv, Int.reduceToNat, Nat.min_eq_left, IntKind.bits, Int.reducePow, Int.reduceLT, Int.reduceLE, Int.reduceEq, Int.reduceNe, Int.reduceAdd, Int.reduceSub, reduceCtorEq, eq_self, implies_true, exists_const, Option.isNone_some, Option.isNone_none, Option.isSome_some, Option.isSome_none, Option.getD_some, X.c2, i1, t0, t1]
    · simp (disch := omega) only [dm_t, wZ, ↓reduceIte, Nat.reduceEqDiff, Nat.reduceAdd, Nat.reduceSub, Nat.reduceMul, Nat.reduceLeDiff, Nat.reduceLT, Nat.reduceMod, Nat.reduceDiv, Int.reduceToNat, Nat.min_eq_left, IntKind.bits, Int.reducePow, Int.reduceLT, Int.reduceLE, Int.reduceEq, Int.reduceNe, Int.reduceAdd, Int.reduceSub, reduceCtorEq, eq_self, implies_true, exists_const, Option.isNone_some, Option.isNone_none, Option.isSome_some, Option.isSome_none, Option.getD_some, X.c2, i1, t1]
      refine ⟨⟨i + 1, by simp, by omega, ?_⟩, by simp [m1]; omega⟩
      rw [List.take_succ_eq_append_getElem hil, List.find?_append, hf, List.find?_cons_of_neg (by simpa using hc)]; rfl
  · obtain rfl : i = l.length := by omega
    rw [List.take_length] at hf
    have hp : findP l t = (0, false) := by rw [findP, hf]
    rw [hp]
    simp (disch := omega) only [dm_t, wZ, ↓reduceIte, Nat.reduceEqDiff, Nat.reduceAdd, Nat.reduceSub, Nat.reduceMul, Nat.reduceLeDiff, Nat.reduceLT, Nat.reduceMod, Nat.reduceDiv, Int.reduceToNat, Nat.min_eq_left, IntKind.bits, Int.reducePow, Int.reduceLT, Int.reduceLE, Int.reduceEq, Int.reduceNe, Int.reduceAdd, Int.reduceSub, reduceCtorEq, eq_self, implies_true, exists_const, Option.isNone_some, Option.isNone_none, Option.isSome_some, Option.isSome_none, Option.getD_some, X.c2]
theorem DUntil_ok (X : DX S g q b e v l) (o : Int) : Ok Try.prog 56 #[.pointer (some ⟨q, 0, none⟩), .int .i64 o] g fun u h' => u = .tuple #[.int .i64 (untilP l o).1, .bool (untilP l o).2] ∧ g = h' := by
  obtain ⟨a, c, rfl⟩ := X.slen
  have hl := X.len
  refine c56_ok (args := [_, _]) (by simp) ?_
  simp (disch := omega) only [dm_t, wZ, ↓reduceIte, Nat.reduceEqDiff, Nat.reduceAdd, Nat.reduceSub, Nat.reduceMul, Nat.reduceLeDiff, Nat.reduceLT, Nat.reduceMod, Nat.reduceDiv, Int.reduceToNat, Nat.min_eq_left, IntKind.bits, Int.reducePow, Int.reduceLT, Int.reduceLE, Int.reduceEq, Int.reduceNe, Int.reduceAdd, Int.reduceSub, reduceCtorEq, eq_self, implies_true, exists_const, Option.isNone_some, Option.isNone_none, Option.isSome_some, Option.isSome_none, Option.getD_some]
  refine vc_loop3 (fun vt vo vi G => G = g ∧ ∃ i : Nat, vi = .int .i64 (i : Int) ∧ i ≤ l.length ∧ vt = .int .i64 (untilP (l.take i) o).1 ∧ vo = .bool (untilP (l.take i) o).2) (fun _ _ vi _ => l.length - m1 vi) ?_ ?_
  · simp (disch := omega) only [dm_t, wZ, ↓reduceIte, Nat.reduceEqDiff, Nat.reduceAdd, Nat.reduceSub, Nat.reduceMul, Nat.reduceLeDiff, Nat.reduceLT, Nat.reduceMod, Nat.reduceDiv, Int.reduceToNat, Nat.min_eq_left, IntKind.bits, Int.reducePow, Int.reduceLT, Int.reduceLE, Int.reduceEq, Int.reduceNe, Int.reduceAdd, Int.reduceSub, reduceCtorEq, eq_self, implies_true, exists_const, Option.isNone_some, Option.isNone_none, Option.isSome_some, Option.isSome_none, Option.getD_some]
    exact ⟨0, rfl, by omega, by simp [untilP], by simp [untilP]⟩
  rintro _ _ _ _ ⟨rfl, i, rfl, hi, rfl, rfl⟩
  by_cases hil : i < l.length
  · obtain ⟨pb, po, i1, t0, t1, -⟩ := rl_at X.lst hil .i64
    have hs := List.take_succ_eq_append_getElem hil
    by_cases hc : l[i].1 ≤ o
    · have hp : untilP (l.take (i + 1)) o = (l[i].2, true) := by
        rw [untilP, hs, List.filter_append, List.filter_cons_of_pos (by simpa using hc)]; simp
      simp (disch := omega) only [dm_t, wZ, ↓reduceIte, Nat.reduceEqDiff, Nat.reduceAdd, Nat.reduceSub, Nat.reduceMul, Nat.reduceLeDiff, Nat.reduceLT, Nat.reduceMod, Nat.reduceDiv, Int.reduceToNat, Nat.min_eq_left, IntKind.bits, Int.reducePow, Int.reduceLT, Int.reduceLE, Int.reduceEq, Int.reduceNe, Int.reduceAdd, Int.reduceSub, reduceCtorEq, eq_self, implies_true, exists_const, Option.isNone_some, Option.isNone_none, Option.isSome_some, Option.isSome_none, Option.getD_some, X.c2, i1, t0, t1]
      exact ⟨⟨i + 1, by simp, by omega, by rw [hp], by rw [hp]⟩, by simp [m1]; omega⟩
    · have hp : untilP (l.take (i + 1)) o = untilP (l.take i) o := by
        rw [untilP, hs, List.filter_append, List.filter_cons_of_neg (by simpa using hc)]; simp [untilP]
      simp (disch := omega) only [dm_t, wZ, ↓reduceIte, Nat.reduceEqDiff, Nat.reduceAdd, Nat.reduceSub, Nat.reduceMul, Nat.reduceLeDiff, Nat.reduceLT, Nat.reduceMod, Nat.reduceDiv, Int.reduceToNat, Nat.min_eq_left, IntKind.bits, Int.reducePow, Int.reduceLT, Int.reduceLE, Int.reduceEq, Int.reduceNe, Int.reduceAdd, Int.reduceSub, reduceCtorEq, eq_self, implies_true, exists_const, Option.isNone_some, Option.isNone_none, Option.isSome_some, Option.isSome_none, Option.getD_some, X.c2, i1, t0]
      exact ⟨⟨i + 1, by simp, by omega, by rw [hp], by rw [hp]⟩, by simp [m1]; omega⟩
  · obtain rfl : i = l.length := by omega
    rw [List.take_length]
    simp (disch := omega) only [dm_t, wZ, ↓reduceIte, Nat.reduceEqDiff, Nat.reduceAdd, Nat.reduceSub, Nat.reduceMul, Nat.reduceLeDiff, Nat.reduceLT, Nat.reduceMod, Nat.reduceDiv, Int.reduceToNat, Nat.min_eq_left, IntKind.bits, Int.reducePow, Int.reduceLT, Int.reduceLE, Int.reduceEq, Int.reduceNe, Int.reduceAdd, Int.reduceSub, reduceCtorEq, eq_self, implies_true, exists_const, Option.isNone_some, Option.isNone_none, Option.isSome_some, Option.isSome_none, Option.getD_some, X.c2]
theorem DCut_ok {n : Int} (X : DX S g q b e v l) (hSq : S q) (hS : ∀ y, S y → g y ≠ none) : Ok Try.prog 57 #[.pointer (some ⟨q, 0, none⟩), .int .i64 n] g fun u h' => u = .int .i64 (cutE b e n) ∧ if cutE b e n = 0 then ∃ v', DX S h' q b n v' (cutP l n) ∧ Fr (fun y => y = q) g h' else Ext g h' := by
  obtain ⟨a, c, rfl⟩ := X.slen
  have hl := X.len
  refine c57_ok (args := [_, _]) (by simp) ?_
  by_cases h1 : n < b
  · have hc : cutE b e n = 4 := by rw [cutE, if_pos (.inl h1)]
    rw [hc]
    simp (disch := omega) only [dm_t, wZ, ↓reduceIte, Nat.reduceEqDiff, Nat.reduceAdd, Nat.reduceSub, Nat.reduceMul, Nat.reduceLeDiff, Nat.reduceLT, Nat.reduceMod, Nat.reduceDiv, Int.reduceToNat, Nat.min_eq_left, IntKind.bits, Int.reducePow, Int.reduceLT, Int.reduceLE, Int.reduceEq, Int.reduceNe, Int.reduceAdd, Int.reduceSub, reduceCtorEq, eq_self, implies_true, exists_const, Option.isNone_some, Option.isNone_none, Option.isSome_some, Option.isSome_none, Option.getD_some, X.c0, X.c1]
    exact Ext.refl _
  by_cases h2 : e < n
  · have hc : cutE b e n = 4 := by rw [cutE, if_pos (.inr h2)]
    rw [hc]
    simp (disch := omega) only [dm_t, wZ, ↓reduceIte, Nat.reduceEqDiff, Nat.reduceAdd, Nat.reduceSub, Nat.reduceMul, Nat.reduceLeDiff, Nat.reduceLT, Nat.reduceMod, Nat.reduceDiv, Int.reduceToNat, Nat.min_eq_left, IntKind.bits, Int.reducePow, Int.reduceLT, Int.reduceLE, Int.reduceEq, Int.reduceNe, Int.reduceAdd, Int.reduceSub, reduceCtorEq, eq_self, implies_true, exists_const, Option.isNone_some, Option.isNone_none, Option.isSome_some, Option.isSome_none, Option.getD_some, X.c0, X.c1]
    exact Ext.refl _
  have hc : cutE b e n = 0 := by rw [cutE, if_neg (by omega)]
  rw [hc]
  simp (disch := omega) only [dm_t, wZ, ↓reduceIte, Nat.reduceEqDiff, Nat.reduceAdd, Nat.reduceSub, Nat.reduceMul, Nat.reduceLeDiff, Nat.reduceLT, Nat.reduceMod, Nat.reduceDiv, Int.reduceToNat, Nat.min_eq_left, IntKind.bits, Int.reducePow, Int.reduceLT, Int.reduceLE, Int.reduceEq, Int.reduceNe, Int.reduceAdd, Int.reduceSub, reduceCtorEq, eq_self, implies_true, exists_const, Option.isNone_some, Option.isNone_none, Option.isSome_some, Option.isSome_none, Option.getD_some, X.c0, X.c1]
  refine vc_loop2 (fun vo vi G => ∃ i : Nat, vi = .int .i64 (i : Int) ∧ i ≤ l.length ∧ OwK 2 (fun y => g y = none) G 50 vo (rrows (cutP (l.take i) n)) ∧ Ext g G) (fun _ vi _ => l.length - m1 vi) ?_ ?_
  · simp (disch := omega) only [dm_t, wZ, ↓reduceIte, Nat.reduceEqDiff, Nat.reduceAdd, Nat.reduceSub, Nat.reduceMul, Nat.reduceLeDiff, Nat.reduceLT, Nat.reduceMod, Nat.reduceDiv, Int.reduceToNat, Nat.min_eq_left, IntKind.bits, Int.reducePow, Int.reduceLT, Int.reduceLE, Int.reduceEq, Int.reduceNe, Int.reduceAdd, Int.reduceSub, reduceCtorEq, eq_self, implies_true, exists_const, Option.isNone_some, Option.isNone_none, Option.isSome_some, Option.isSome_none, Option.getD_some]
    exact ⟨0, rfl, by omega, by simpa [cutP] using OwK.nil, Ext.refl _⟩
  rintro vo _ G ⟨i, rfl, hi, ho, E⟩
  have XG := X.ext E
  obtain ⟨oa, oc, rfl⟩ := SlK.len ho.s0
  by_cases hil : i < l.length
  · obtain ⟨pb, po, i1, t0, t1, t2⟩ := rl_at XG.lst hil .i64
    have hs := List.take_succ_eq_append_getElem hil
    have hcl : (cutP (l.take i) n).length ≤ i := by
      have := List.length_filter_le (fun r : Ri => decide (r.1 < n)) (l.take i)
      rw [List.length_take] at this
      unfold cutP; omega
    by_cases hcn : l[i].1 < n
    · have hp : cutP (l.take (i + 1)) n = cutP (l.take i) n ++ [l[i]] := by
        rw [cutP, hs, List.filter_append, List.filter_cons_of_pos (by simpa using hcn)]; rfl
      simp (disch := omega) only [dm_t, wZ, ↓reduceIte, Nat.reduceEqDiff, Nat.reduceAdd, Nat.reduceSub, Nat.reduceMul, Nat.reduceLeDiff, Nat.reduceLT, Nat.reduceMod, Nat.reduceDiv, Int.reduceToNat, Nat.min_eq_left, IntKind.bits, Int.reducePow, Int.reduceLT, Int.reduceLE, Int.reduceEq, Int.reduceNe, Int.reduceAdd, Int.reduceSub, reduceCtorEq, eq_self, implies_true, exists_const, Option.isNone_some, Option.isNone_none, Option.isSome_some, Option.isSome_none, Option.getD_some, XG.c2, i1, t0, t2]
      refine pushk (V := fun _ => _) (bytes := 16) (z := #[.int .i64 0, .int .i64 0]) (row := rrow l[i]) ho (fun y hy => E.bk hy) rfl rfl rfl (by rw [List.length_map]; omega) (by rw [List.length_map]; omega) ?_
      intro _ v' G2 hb2 o2 f2 hat
      obtain ⟨oa2, oc2, rfl⟩ := SlK.len o2.s0
      simp (disch := omega) only [dm_t, wZ, ↓reduceIte, Nat.reduceEqDiff, Nat.reduceAdd, Nat.reduceSub, Nat.reduceMul, Nat.reduceLeDiff, Nat.reduceLT, Nat.reduceMod, Nat.reduceDiv, Int.reduceToNat, Nat.min_eq_left, IntKind.bits, Int.reducePow, Int.reduceLT, Int.reduceLE, Int.reduceEq, Int.reduceNe, Int.reduceAdd, Int.reduceSub, reduceCtorEq, eq_self, implies_true, exists_const, Option.isNone_some, Option.isNone_none, Option.isSome_some, Option.isSome_none, Option.getD_some]
      refine ⟨⟨i + 1, by simp, by omega, ?_, Ext.step E f2⟩, by simp [m1]; omega⟩
      rw [hp]
      simpa using o2
    · have hp : cutP (l.take (i + 1)) n = cutP (l.take i) n := by
        rw [cutP, hs, List.filter_append, List.filter_cons_of_neg (by simpa using hcn)]; simp [cutP]
      simp (disch := omega) only [dm_t, wZ, ↓reduceIte, Nat.reduceEqDiff, Nat.reduceAdd, Nat.reduceSub, Nat.reduceMul, Nat.reduceLeDiff, Nat.reduceLT, Nat.reduceMod, Nat.reduceDiv, Int.reduceToNat, Nat.min_eq_left, IntKind.bits, Int.reducePow, Int.reduceLT, Int.reduceLE, Int.reduceEq, Int.reduceNe, Int.reduceAdd, Int.reduceSub, reduceCtorEq, eq_self, implies_true, exists_const, Option.isNone_some, Option.isNone_none, Option.isSome_some, Option.isSome_none, Option.getD_some, XG.c2, i1, t0]
      exact ⟨⟨i + 1, by simp, by omega, by rw [hp]; exact ho, E⟩, by simp [m1]; omega⟩
  · obtain rfl : i = l.length := by omega
    rw [List.take_length] at ho ⊢
    have hcl : (cutP l n).length ≤ l.length := List.length_filter_le _ _
    have hq := XG.obj
    simp (disch := omega) only [dm_t, wZ, ↓reduceIte, Nat.reduceEqDiff, Nat.reduceAdd, Nat.reduceSub, Nat.reduceMul, Nat.reduceLeDiff, Nat.reduceLT, Nat.reduceMod, Nat.reduceDiv, Int.reduceToNat, Nat.min_eq_left, IntKind.bits, Int.reducePow, Int.reduceLT, Int.reduceLE, Int.reduceEq, Int.reduceNe, Int.reduceAdd, Int.reduceSub, reduceCtorEq, eq_self, implies_true, exists_const, Option.isNone_some, Option.isNone_none, Option.isSome_some, Option.isSome_none, Option.getD_some, XG.c2]
    rw [storeH_0 hq]
    refine ⟨by simp, rfl, ?_⟩
    generalize hG : hupd G q _ = G2
    have f2 : Fr (fun y => y = q) G G2 := hG ▸ Fr.upd (S := fun y => y = q) rfl _
    have q2 : G2 q = some (.cells #[.int .i64 b, .int .i64 e, .slice oa (rrows (cutP l n)).length oc] 59) := by rw [← hG, hupd_same]; rfl
    clear hG
    simp (disch := omega) only [dm_t, wZ, ↓reduceIte, Nat.reduceEqDiff, Nat.reduceAdd, Nat.reduceSub, Nat.reduceMul, Nat.reduceLeDiff, Nat.reduceLT, Nat.reduceMod, Nat.reduceDiv, Int.reduceToNat, Nat.min_eq_left, IntKind.bits, Int.reducePow, Int.reduceLT, Int.reduceLE, Int.reduceEq, Int.reduceNe, Int.reduceAdd, Int.reduceSub, reduceCtorEq, eq_self, implies_true, exists_const, Option.isNone_some, Option.isNone_none, Option.isSome_some, Option.isSome_none, Option.getD_some]
    rw [storeH_0 q2]
    refine ⟨by simp, rfl, ?_⟩
    generalize hG : hupd G2 q _ = G3
    have f3 : Fr (fun y => y = q) G2 G3 := hG ▸ Fr.upd (S := fun y => y = q) rfl _
    have q3 : G3 q = some (.cells #[.int .i64 b, .int .i64 n, .slice oa (rrows (cutP l n)).length oc] 59) := by rw [← hG, hupd_same]; rfl
    clear hG
    simp (disch := omega) only [dm_t, wZ, ↓reduceIte, Nat.reduceEqDiff, Nat.reduceAdd, Nat.reduceSub, Nat.reduceMul, Nat.reduceLeDiff, Nat.reduceLT, Nat.reduceMod, Nat.reduceDiv, Int.reduceToNat, Nat.min_eq_left, IntKind.bits, Int.reducePow, Int.reduceLT, Int.reduceLE, Int.reduceEq, Int.reduceNe, Int.reduceAdd, Int.reduceSub, reduceCtorEq, eq_self, implies_true, exists_const, Option.isNone_some, Option.isNone_none, Option.isSome_some, Option.isSome_none, Option.getD_some]
    have f := f2.trans f3
    exact ⟨_, ⟨q3, SlK.fr (OwK.sl ho fun y hy hs => hS y hs hy) f fun y hy => hy ▸ hSq, by omega⟩, (E.mono fun _ h => h.elim).trans f⟩
end
end Go.Proofs.Ytmjbgfflbeibnaa.ti
