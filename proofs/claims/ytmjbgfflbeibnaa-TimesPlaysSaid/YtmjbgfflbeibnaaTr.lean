/-
  times: the document's Open; the law's rises, as.
-/
import Derived.Test.YtmjbgfflbeibnaaTq
namespace Go.Proofs.Ytmjbgfflbeibnaa.ti
open Go.Proofs.Ytmjbgfflbeibnaa wi
set_option linter.unusedVariables false
set_option linter.unusedSimpArgs false
section
variable {S T : Nat → Prop} {g g' : H} {p q : Nat} {b e b2 e2 : Int} {v v2 w : Value} {l l2 : List Ri} {bs : List UInt8}
/-- What the document's Open answers. -/
def DR (g : H) (bs : List UInt8) (u : Value) (h' : H) : Prop :=
  (∃ pv, u = .tuple #[pv, .int .i64 (openE bs)] ∧ if openE bs = 0 then ∃ q v, pv = .pointer (some ⟨q, 0, none⟩) ∧ g q = none ∧ DX (fun y => g y ≠ none ∨ y = q) h' q (oBase bs) (oEnd bs) v (oLst bs (oCnt bs)) else pv = .pointer none) ∧ Ext g h'
theorem dr_bad {g h' : H} {bs : List UInt8} {n : Int} (h : openE bs = n) (hn : n ≠ 0) (E : Ext g h') : DR g bs (.tuple #[.pointer none, .int .i64 n]) h' :=
  ⟨⟨_, by rw [h], by rw [h, if_neg hn]⟩, E⟩
/-- A piece of bytes, as a number. -/
theorem piece_lt (bs : List UInt8) (k n : Nat) : num ((bs.drop k).take n) < 256 ^ n := by
  refine Nat.lt_of_lt_of_le (num_lt _) (Nat.pow_le_pow_right (by decide) ?_)
  rw [List.length_take]; omega
structure DS (g G : H) (q : Nat) (bs : List UInt8) (i : Nat) (v : Value) : Prop where
  obj : G q = some (.cells #[.int .i64 (oBase bs), .int .i64 (oEnd bs), v] 59)
  own : OwK 2 (fun y => g y = none ∧ y ≠ q) G 50 v (rrows (oLst bs i))
  E : Ext g G
theorem do_s7 {Q0 : Post} {G : H} {i : Nat} {wa : Option Addr} {wc : Nat} (hw : By nos g (.slice wa bs.length wc) bs) (hl0 : bs.length ≤ 1000000) (hq : g q = none) (O : DS g G q bs i v) (hi : i < oCnt bs) (hl : bs.length = 20 + 16 * oCnt bs)
    (hQ : ∀ G' v', DS g G' q bs (i + 1) v' → vc Try.prog c9_s8 Q0 [(0, .slice wa bs.length wc), (5, .pointer (some ⟨q, 0, none⟩)), (6, .int .i64 ((20 + 16 * i : Nat) : Int))] G') :
    vc Try.prog c9_s7 Q0 [(0, .slice wa bs.length wc), (5, .pointer (some ⟨q, 0, none⟩)), (6, .int .i64 ((20 + 16 * i : Nat) : Int))] G := by
  have hcap := SlK.cap hw
  rw [one_len, bvs_len] at hcap
  have hwG := SlK.ext hw O.E
  have hli := oLst_len bs i
  obtain ⟨a, c, hv⟩ := SlK.len O.own.s0
  rw [List.length_map, hli] at hv
  subst hv
  have x2 : cellAt G ⟨q, 2, none⟩ = some (.slice a i c) := by rw [cellAt_of O.obj]; rfl
  have hA := piece_lt bs (20 + 16 * i) 8
  have hB := piece_lt bs (28 + 16 * i) 8
  simp (disch := omega) only [dm_t, wZ, ↓reduceIte, Nat.reduceEqDiff, Nat.reduceAdd, Nat.reduceSub, Nat.reduceMul, Nat.reduceLeDiff, Nat.reduceLT, Nat.reduceMod, Nat.reduceDiv, Int.reduceToNat, Nat.min_eq_left, IntKind.bits, Int.reducePow, Int.reduceLT, Int.reduceLE, Int.reduceEq, Int.reduceNe, Int.reduceAdd, Int.reduceSub, reduceCtorEq, eq_self, implies_true, exists_const, Option.isNone_some, Option.isNone_none, Option.isSome_some, Option.isSome_none, Option.getD_some, x2]
  refine By.cutK hwG (20 + 16 * i) (28 + 16 * i) wc (by omega) (by omega) rfl (by omega) (.inr rfl) ?_
  intro w2 hw2
  rw [show 28 + 16 * i - (20 + 16 * i) = 8 by omega] at hw2
  simp (disch := omega) only [dm_t, wZ, ↓reduceIte, Nat.reduceEqDiff, Nat.reduceAdd, Nat.reduceSub, Nat.reduceMul, Nat.reduceLeDiff, Nat.reduceLT, Nat.reduceMod, Nat.reduceDiv, Int.reduceToNat, Nat.min_eq_left, IntKind.bits, Int.reducePow, Int.reduceLT, Int.reduceLE, Int.reduceEq, Int.reduceNe, Int.reduceAdd, Int.reduceSub, reduceCtorEq, eq_self, implies_true, exists_const, Option.isNone_some, Option.isNone_none, Option.isSome_some, Option.isSome_none, Option.getD_some]
  refine By.cutK hwG (28 + 16 * i) (36 + 16 * i) wc (by omega) (by omega) rfl (by omega) (.inr rfl) ?_
  intro w3 hw3
  rw [show 36 + 16 * i - (28 + 16 * i) = 8 by omega] at hw3
  simp (disch := omega) only [dm_t, wZ, ↓reduceIte, Nat.reduceEqDiff, Nat.reduceAdd, Nat.reduceSub, Nat.reduceMul, Nat.reduceLeDiff, Nat.reduceLT, Nat.reduceMod, Nat.reduceDiv, Int.reduceToNat, Nat.min_eq_left, IntKind.bits, Int.reducePow, Int.reduceLT, Int.reduceLE, Int.reduceEq, Int.reduceNe, Int.reduceAdd, Int.reduceSub, reduceCtorEq, eq_self, implies_true, exists_const, Option.isNone_some, Option.isNone_none, Option.isSome_some, Option.isSome_none, Option.getD_some]
  refine (Number_ok hw2 (by rw [List.length_take]; omega)).k ?_
  rintro _ _ ⟨rfl, rfl⟩
  simp (disch := omega) only [dm_t, wZ, ↓reduceIte, Nat.reduceEqDiff, Nat.reduceAdd, Nat.reduceSub, Nat.reduceMul, Nat.reduceLeDiff, Nat.reduceLT, Nat.reduceMod, Nat.reduceDiv, Int.reduceToNat, Nat.min_eq_left, IntKind.bits, Int.reducePow, Int.reduceLT, Int.reduceLE, Int.reduceEq, Int.reduceNe, Int.reduceAdd, Int.reduceSub, reduceCtorEq, eq_self, implies_true, exists_const, Option.isNone_some, Option.isNone_none, Option.isSome_some, Option.isSome_none, Option.getD_some, wrap_sgn _ hA, x2]
  refine (Number_ok hw3 (by rw [List.length_take]; omega)).k ?_
  rintro _ _ ⟨rfl, rfl⟩
  have hr : ((sgn64 (num ((bs.drop (20 + 16 * i)).take 8)), sgn64 (num ((bs.drop (28 + 16 * i)).take 8))) : Ri) = oRise bs i := rfl
  have hsn := oLst_succ bs i
  have hwA := wrap_sgn _ hA
  have hwB := wrap_sgn _ hB
  have hr' : oRise bs i = (sgn64 (num ((bs.drop (20 + 16 * i)).take 8)), sgn64 (num ((bs.drop (28 + 16 * i)).take 8))) := rfl
  generalize sgn64 (num ((bs.drop (20 + 16 * i)).take 8)) = r1 at *
  generalize sgn64 (num ((bs.drop (28 + 16 * i)).take 8)) = r2 at *
  rw [hr'] at hsn
  simp (disch := omega) only [dm_t, wZ, ↓reduceIte, Nat.reduceEqDiff, Nat.reduceAdd, Nat.reduceSub, Nat.reduceMul, Nat.reduceLeDiff, Nat.reduceLT, Nat.reduceMod, Nat.reduceDiv, Int.reduceToNat, Nat.min_eq_left, IntKind.bits, Int.reducePow, Int.reduceLT, Int.reduceLE, Int.reduceEq, Int.reduceNe, Int.reduceAdd, Int.reduceSub, reduceCtorEq, eq_self, implies_true, exists_const, Option.isNone_some, Option.isNone_none, Option.isSome_some, Option.isSome_none, Option.getD_some, hwA, hwB, x2]
  intro lb hlb
  have el := Ext.new hlb (.cells #[.int .i64 r1, .int .i64 r2] 50)
  simp (disch := omega) only [dm_t, wZ, ↓reduceIte, Nat.reduceEqDiff, Nat.reduceAdd, Nat.reduceSub, Nat.reduceMul, Nat.reduceLeDiff, Nat.reduceLT, Nat.reduceMod, Nat.reduceDiv, Int.reduceToNat, Nat.min_eq_left, IntKind.bits, Int.reducePow, Int.reduceLT, Int.reduceLE, Int.reduceEq, Int.reduceNe, Int.reduceAdd, Int.reduceSub, reduceCtorEq, eq_self, implies_true, exists_const, Option.isNone_some, Option.isNone_none, Option.isSome_some, Option.isSome_none, Option.getD_some, cellAt_ext el x2]
  refine pushk (V := fun _ => _) (bytes := 16) (z := #[.int .i64 0, .int .i64 0]) (row := rrow (r1, r2)) O.own (fun y hy => ⟨O.E.bk hy, fun h => by rw [h, O.obj] at hy; cases hy⟩) rfl rfl rfl (by simp [hli]; omega) (by simp [hli]; omega) ?_ lb hlb
  intro _ v' G6 hb6 o6 f6 hat
  have obj6 := f6 _ _ O.obj fun h => h.1.2 rfl
  obtain ⟨va, vn, rfl⟩ := SlK.len o6.s0
  have x6 : cellAt G6 ⟨q, 2, none⟩ = some (.slice a i c) := by rw [cellAt_of obj6]; rfl
  simp (disch := omega) only [dm_t, wZ, ↓reduceIte, Nat.reduceEqDiff, Nat.reduceAdd, Nat.reduceSub, Nat.reduceMul, Nat.reduceLeDiff, Nat.reduceLT, Nat.reduceMod, Nat.reduceDiv, Int.reduceToNat, Nat.min_eq_left, IntKind.bits, Int.reducePow, Int.reduceLT, Int.reduceLE, Int.reduceEq, Int.reduceNe, Int.reduceAdd, Int.reduceSub, reduceCtorEq, eq_self, implies_true, exists_const, Option.isNone_some, Option.isNone_none, Option.isSome_some, Option.isSome_none, Option.getD_some, x6]
  rw [storeH_0 obj6]
  refine ⟨by simp, rfl, ?_⟩
  generalize hG : hupd G6 q _ = G7
  have f7 : Fr (fun y => y = q) G6 G7 := hG ▸ Fr.upd (S := fun y => y = q) rfl _
  have q7 : G7 q = some (.cells #[.int .i64 (oBase bs), .int .i64 (oEnd bs), .slice va (rrows (oLst bs i) ++ [rrow (r1, r2)]).length vn] 59) := by rw [← hG, hupd_same]; rfl
  clear hG
  have k := hQ G7 _ ⟨q7, by
    rw [hsn, show rrows (oLst bs i ++ [(r1, r2)]) = rrows (oLst bs i) ++ [rrow (r1, r2)] by simp]
    exact OwK.fr o6 f7 fun y hy ho _ => ho.2 hy, Ext.step' (Ext.step' O.E f6 fun y hy => hy.1.1) f7 fun y hy => by rw [hy]; exact hq⟩
  simp (disch := omega) only [dm_t, wZ, ↓reduceIte, Nat.reduceEqDiff, Nat.reduceAdd, Nat.reduceSub, Nat.reduceMul, Nat.reduceLeDiff, Nat.reduceLT, Nat.reduceMod, Nat.reduceDiv, Int.reduceToNat, Nat.min_eq_left, IntKind.bits, Int.reducePow, Int.reduceLT, Int.reduceLE, Int.reduceEq, Int.reduceNe, Int.reduceAdd, Int.reduceSub, reduceCtorEq, eq_self, implies_true, exists_const, Option.isNone_some, Option.isNone_none, Option.isSome_some, Option.isSome_none, Option.getD_some, k]
theorem DOpen_ok {w : Value} (hw : By nos g w bs) (hl0 : bs.length ≤ 1000000) : Ok Try.prog 9 #[w] g fun u h' => DR g bs u h' := by
  obtain ⟨wa, wc, rfl⟩ := By.len hw
  have hcap := SlK.cap hw
  rw [one_len, bvs_len] at hcap
  refine c9_ok (args := [_]) (by simp) ?_
  by_cases h20 : bs.length < 20
  · simp (disch := omega) only [dm_t, wZ, ↓reduceIte, Nat.reduceEqDiff, Nat.reduceAdd, Nat.reduceSub, Nat.reduceMul, Nat.reduceLeDiff, Nat.reduceLT, Nat.reduceMod, Nat.reduceDiv, Int.reduceToNat, Nat.min_eq_left, IntKind.bits, Int.reducePow, Int.reduceLT, Int.reduceLE, Int.reduceEq, Int.reduceNe, Int.reduceAdd, Int.reduceSub, reduceCtorEq, eq_self, implies_true, exists_const, Option.isNone_some, Option.isNone_none, Option.isSome_some, Option.isSome_none, Option.getD_some]
    exact dr_bad (by rw [openE, if_pos h20]) (by decide) (Ext.refl _)
  have hc4 : oCnt bs < 256 ^ 4 := piece_lt bs 16 4
  simp (disch := omega) only [dm_t, wZ, ↓reduceIte, Nat.reduceEqDiff, Nat.reduceAdd, Nat.reduceSub, Nat.reduceMul, Nat.reduceLeDiff, Nat.reduceLT, Nat.reduceMod, Nat.reduceDiv, Int.reduceToNat, Nat.min_eq_left, IntKind.bits, Int.reducePow, Int.reduceLT, Int.reduceLE, Int.reduceEq, Int.reduceNe, Int.reduceAdd, Int.reduceSub, reduceCtorEq, eq_self, implies_true, exists_const, Option.isNone_some, Option.isNone_none, Option.isSome_some, Option.isSome_none, Option.getD_some]
  refine hw.cutK 16 20 wc rfl rfl rfl (by omega) (.inr rfl) ?_
  intro w1 hw1
  simp (disch := omega) only [dm_t, wZ, ↓reduceIte, Nat.reduceEqDiff, Nat.reduceAdd, Nat.reduceSub, Nat.reduceMul, Nat.reduceLeDiff, Nat.reduceLT, Nat.reduceMod, Nat.reduceDiv, Int.reduceToNat, Nat.min_eq_left, IntKind.bits, Int.reducePow, Int.reduceLT, Int.reduceLE, Int.reduceEq, Int.reduceNe, Int.reduceAdd, Int.reduceSub, reduceCtorEq, eq_self, implies_true, exists_const, Option.isNone_some, Option.isNone_none, Option.isSome_some, Option.isSome_none, Option.getD_some]
  refine (Number_ok hw1 (by rw [List.length_take]; omega)).k ?_
  rintro _ _ ⟨rfl, rfl⟩
  have hco : num ((bs.drop 16).take (20 - 16)) = oCnt bs := rfl
  rw [hco]
  by_cases c1 : oCnt bs ≤ 65536 ∧ bs.length - 20 < 16 * oCnt bs
  · obtain ⟨c2, c3⟩ := c1
    simp (disch := omega) only [dm_t, wZ, ↓reduceIte, Nat.reduceEqDiff, Nat.reduceAdd, Nat.reduceSub, Nat.reduceMul, Nat.reduceLeDiff, Nat.reduceLT, Nat.reduceMod, Nat.reduceDiv, Int.reduceToNat, Nat.min_eq_left, IntKind.bits, Int.reducePow, Int.reduceLT, Int.reduceLE, Int.reduceEq, Int.reduceNe, Int.reduceAdd, Int.reduceSub, reduceCtorEq, eq_self, implies_true, exists_const, Option.isNone_some, Option.isNone_none, Option.isSome_some, Option.isSome_none, Option.getD_some]
    exact dr_bad (oe2 h20 ⟨c2, c3⟩) (by decide) (Ext.refl _)
  by_cases c2 : 65536 < oCnt bs ∨ bs.length - 20 ≠ 16 * oCnt bs
  · have c3 : ¬ (bs.length : Int) = 20 + 16 * (oCnt bs : Int) := by omega
    by_cases c4 : oCnt bs ≤ 65536
    · simp (disch := omega) only [dm_t, wZ, ↓reduceIte, Nat.reduceEqDiff, Nat.reduceAdd, Nat.reduceSub, Nat.reduceMul, Nat.reduceLeDiff, Nat.reduceLT, Nat.reduceMod, Nat.reduceDiv, Int.reduceToNat, Nat.min_eq_left, IntKind.bits, Int.reducePow, Int.reduceLT, Int.reduceLE, Int.reduceEq, Int.reduceNe, Int.reduceAdd, Int.reduceSub, reduceCtorEq, eq_self, implies_true, exists_const, Option.isNone_some, Option.isNone_none, Option.isSome_some, Option.isSome_none, Option.getD_some]
      exact dr_bad (oe3 h20 c1 c2) (by decide) (Ext.refl _)
    · simp (disch := omega) only [dm_t, wZ, ↓reduceIte, Nat.reduceEqDiff, Nat.reduceAdd, Nat.reduceSub, Nat.reduceMul, Nat.reduceLeDiff, Nat.reduceLT, Nat.reduceMod, Nat.reduceDiv, Int.reduceToNat, Nat.min_eq_left, IntKind.bits, Int.reducePow, Int.reduceLT, Int.reduceLE, Int.reduceEq, Int.reduceNe, Int.reduceAdd, Int.reduceSub, reduceCtorEq, eq_self, implies_true, exists_const, Option.isNone_some, Option.isNone_none, Option.isSome_some, Option.isSome_none, Option.getD_some]
      exact dr_bad (oe3 h20 c1 c2) (by decide) (Ext.refl _)
  have hcn : bs.length = 20 + 16 * oCnt bs := by omega
  have hc6 : oCnt bs ≤ 65536 := by omega
  have hb8 := piece_lt bs 0 8
  have he8 := piece_lt bs 8 8
  simp (disch := omega) only [dm_t, wZ, ↓reduceIte, Nat.reduceEqDiff, Nat.reduceAdd, Nat.reduceSub, Nat.reduceMul, Nat.reduceLeDiff, Nat.reduceLT, Nat.reduceMod, Nat.reduceDiv, Int.reduceToNat, Nat.min_eq_left, IntKind.bits, Int.reducePow, Int.reduceLT, Int.reduceLE, Int.reduceEq, Int.reduceNe, Int.reduceAdd, Int.reduceSub, reduceCtorEq, eq_self, implies_true, exists_const, Option.isNone_some, Option.isNone_none, Option.isSome_some, Option.isSome_none, Option.getD_some]
  refine hw.cutK 0 8 wc rfl rfl rfl (by omega) (.inr rfl) ?_
  intro w2 hw2
  simp (disch := omega) only [dm_t, wZ, ↓reduceIte, Nat.reduceEqDiff, Nat.reduceAdd, Nat.reduceSub, Nat.reduceMul, Nat.reduceLeDiff, Nat.reduceLT, Nat.reduceMod, Nat.reduceDiv, Int.reduceToNat, Nat.min_eq_left, IntKind.bits, Int.reducePow, Int.reduceLT, Int.reduceLE, Int.reduceEq, Int.reduceNe, Int.reduceAdd, Int.reduceSub, reduceCtorEq, eq_self, implies_true, exists_const, Option.isNone_some, Option.isNone_none, Option.isSome_some, Option.isSome_none, Option.getD_some]
  refine hw.cutK 8 16 wc rfl rfl rfl (by omega) (.inr rfl) ?_
  intro w3 hw3
  simp (disch := omega) only [dm_t, wZ, ↓reduceIte, Nat.reduceEqDiff, Nat.reduceAdd, Nat.reduceSub, Nat.reduceMul, Nat.reduceLeDiff, Nat.reduceLT, Nat.reduceMod, Nat.reduceDiv, Int.reduceToNat, Nat.min_eq_left, IntKind.bits, Int.reducePow, Int.reduceLT, Int.reduceLE, Int.reduceEq, Int.reduceNe, Int.reduceAdd, Int.reduceSub, reduceCtorEq, eq_self, implies_true, exists_const, Option.isNone_some, Option.isNone_none, Option.isSome_some, Option.isSome_none, Option.getD_some]
  refine (Number_ok hw2 (by rw [List.length_take]; omega)).k ?_
  rintro _ _ ⟨rfl, rfl⟩
  simp (disch := omega) only [dm_t, wZ, ↓reduceIte, Nat.reduceEqDiff, Nat.reduceAdd, Nat.reduceSub, Nat.reduceMul, Nat.reduceLeDiff, Nat.reduceLT, Nat.reduceMod, Nat.reduceDiv, Int.reduceToNat, Nat.min_eq_left, IntKind.bits, Int.reducePow, Int.reduceLT, Int.reduceLE, Int.reduceEq, Int.reduceNe, Int.reduceAdd, Int.reduceSub, reduceCtorEq, eq_self, implies_true, exists_const, Option.isNone_some, Option.isNone_none, Option.isSome_some, Option.isSome_none, Option.getD_some, wrap_sgn _ hb8]
  refine (Number_ok hw3 (by rw [List.length_take]; omega)).k ?_
  rintro _ _ ⟨rfl, rfl⟩
  simp (disch := omega) only [dm_t, wZ, ↓reduceIte, Nat.reduceEqDiff, Nat.reduceAdd, Nat.reduceSub, Nat.reduceMul, Nat.reduceLeDiff, Nat.reduceLT, Nat.reduceMod, Nat.reduceDiv, Int.reduceToNat, Nat.min_eq_left, IntKind.bits, Int.reducePow, Int.reduceLT, Int.reduceLE, Int.reduceEq, Int.reduceNe, Int.reduceAdd, Int.reduceSub, reduceCtorEq, eq_self, implies_true, exists_const, Option.isNone_some, Option.isNone_none, Option.isSome_some, Option.isSome_none, Option.getD_some, wrap_sgn _ hb8, wrap_sgn _ he8]
  intro q hq
  have e1 := Ext.new hq (.cells #[.int .i64 (oBase bs), .int .i64 (oEnd bs), .slice none 0 0] 59)
  have key : vc Try.prog c9_s5 (retQ [2, 3] (okR (DR g bs))) [(0, .slice wa bs.length wc), (5, .pointer (some ⟨q, 0, none⟩))] (hupd g q (.cells #[.int .i64 (oBase bs), .int .i64 (oEnd bs), .slice none 0 0] 59)) := by
    simp (disch := omega) only [dm_t, wZ, ↓reduceIte, Nat.reduceEqDiff, Nat.reduceAdd, Nat.reduceSub, Nat.reduceMul, Nat.reduceLeDiff, Nat.reduceLT, Nat.reduceMod, Nat.reduceDiv, Int.reduceToNat, Nat.min_eq_left, IntKind.bits, Int.reducePow, Int.reduceLT, Int.reduceLE, Int.reduceEq, Int.reduceNe, Int.reduceAdd, Int.reduceSub, reduceCtorEq, eq_self, implies_true, exists_const, Option.isNone_some, Option.isNone_none, Option.isSome_some, Option.isSome_none, Option.getD_some]
    refine vc_loop1 (fun vi G => ∃ (i : Nat) (v : Value), vi = .int .i64 ((20 + 16 * i : Nat) : Int) ∧ i ≤ oCnt bs ∧ DS g G q bs i v) (fun vi _ => bs.length + 20 - m1 vi) ?_ ?_
    · simp (disch := omega) only [dm_t, wZ, ↓reduceIte, Nat.reduceEqDiff, Nat.reduceAdd, Nat.reduceSub, Nat.reduceMul, Nat.reduceLeDiff, Nat.reduceLT, Nat.reduceMod, Nat.reduceDiv, Int.reduceToNat, Nat.min_eq_left, IntKind.bits, Int.reducePow, Int.reduceLT, Int.reduceLE, Int.reduceEq, Int.reduceNe, Int.reduceAdd, Int.reduceSub, reduceCtorEq, eq_self, implies_true, exists_const, Option.isNone_some, Option.isNone_none, Option.isSome_some, Option.isSome_none, Option.getD_some]
      exact ⟨0, _, rfl, by omega, hupd_same _ _ _, OwK.nil, e1⟩
    rintro _ G ⟨i, v, rfl, hi, O⟩
    by_cases hil : i < oCnt bs
    · generalize hQ0 : lq1 _ _ _ _ _ _ _ = Q0
      have k7 := do_s7 (Q0 := Q0) hw hl0 hq O hil hcn (fun G' v' O' => by
        rw [← hQ0]
        simp (disch := omega) only [dm_t, wZ, ↓reduceIte, Nat.reduceEqDiff, Nat.reduceAdd, Nat.reduceSub, Nat.reduceMul, Nat.reduceLeDiff, Nat.reduceLT, Nat.reduceMod, Nat.reduceDiv, Int.reduceToNat, Nat.min_eq_left, IntKind.bits, Int.reducePow, Int.reduceLT, Int.reduceLE, Int.reduceEq, Int.reduceNe, Int.reduceAdd, Int.reduceSub, reduceCtorEq, eq_self, implies_true, exists_const, Option.isNone_some, Option.isNone_none, Option.isSome_some, Option.isSome_none, Option.getD_some]
        exact ⟨⟨i + 1, v', by congr 1, by omega, O'⟩, by simp [m1]; omega⟩)
      simp (disch := omega) only [dm_t, wZ, ↓reduceIte, Nat.reduceEqDiff, Nat.reduceAdd, Nat.reduceSub, Nat.reduceMul, Nat.reduceLeDiff, Nat.reduceLT, Nat.reduceMod, Nat.reduceDiv, Int.reduceToNat, Nat.min_eq_left, IntKind.bits, Int.reducePow, Int.reduceLT, Int.reduceLE, Int.reduceEq, Int.reduceNe, Int.reduceAdd, Int.reduceSub, reduceCtorEq, eq_self, implies_true, exists_const, Option.isNone_some, Option.isNone_none, Option.isSome_some, Option.isSome_none, Option.getD_some, k7]
    · obtain rfl : i = oCnt bs := by omega
      have hX : DX (fun y => g y ≠ none ∨ y = q) G q (oBase bs) (oEnd bs) v (oLst bs (oCnt bs)) := ⟨O.obj, OwK.sl O.own fun y hy hn => hn.elim (fun h => h hy.1) hy.2, by rw [oLst_len]; omega⟩
      simp (disch := omega) only [dm_t, wZ, ↓reduceIte, Nat.reduceEqDiff, Nat.reduceAdd, Nat.reduceSub, Nat.reduceMul, Nat.reduceLeDiff, Nat.reduceLT, Nat.reduceMod, Nat.reduceDiv, Int.reduceToNat, Nat.min_eq_left, IntKind.bits, Int.reducePow, Int.reduceLT, Int.reduceLE, Int.reduceEq, Int.reduceNe, Int.reduceAdd, Int.reduceSub, reduceCtorEq, eq_self, implies_true, exists_const, Option.isNone_some, Option.isNone_none, Option.isSome_some, Option.isSome_none, Option.getD_some]
      refine (Right_ok hX).k ?_
      rintro _ G2 ⟨bb, rfl, hbb, e2⟩
      have E2 := O.E.trans e2
      cases bb with
      | true =>
        have h0 := oe4 h20 c1 c2 (hbb.1 rfl)
        simp (disch := omega) only [dm_t, wZ, ↓reduceIte, Nat.reduceEqDiff, Nat.reduceAdd, Nat.reduceSub, Nat.reduceMul, Nat.reduceLeDiff, Nat.reduceLT, Nat.reduceMod, Nat.reduceDiv, Int.reduceToNat, Nat.min_eq_left, IntKind.bits, Int.reducePow, Int.reduceLT, Int.reduceLE, Int.reduceEq, Int.reduceNe, Int.reduceAdd, Int.reduceSub, reduceCtorEq, eq_self, implies_true, exists_const, Option.isNone_some, Option.isNone_none, Option.isSome_some, Option.isSome_none, Option.getD_some]
        exact ⟨⟨_, by rw [h0], by rw [if_pos h0]; exact ⟨q, v, rfl, hq, hX.ext e2⟩⟩, E2⟩
      | false =>
        have h0 := oe5 h20 c1 c2 fun h => by have := hbb.2 h; cases this
        simp (disch := omega) only [dm_t, wZ, ↓reduceIte, Nat.reduceEqDiff, Nat.reduceAdd, Nat.reduceSub, Nat.reduceMul, Nat.reduceLeDiff, Nat.reduceLT, Nat.reduceMod, Nat.reduceDiv, Int.reduceToNat, Nat.min_eq_left, IntKind.bits, Int.reducePow, Int.reduceLT, Int.reduceLE, Int.reduceEq, Int.reduceNe, Int.reduceAdd, Int.reduceSub, reduceCtorEq, eq_self, implies_true, exists_const, Option.isNone_some, Option.isNone_none, Option.isSome_some, Option.isSome_none, Option.getD_some]
        exact dr_bad h0 (by decide) E2
  have ho1 : sgn64 (num ((bs.drop 0).take (8 - 0))) = oBase bs := rfl
  have ho2 : sgn64 (num ((bs.drop 8).take (16 - 8))) = oEnd bs := rfl
  rw [ho1, ho2]
  revert key
  simp (disch := omega) only [dm_t, wZ, ↓reduceIte, Nat.reduceEqDiff, Nat.reduceAdd, Nat.reduceSub, Nat.reduceMul, Nat.reduceLeDiff, Nat.reduceLT, Nat.reduceMod, Nat.reduceDiv, Int.reduceToNat, Nat.min_eq_left, IntKind.bits, Int.reducePow, Int.reduceLT, Int.reduceLE, Int.reduceEq, Int.reduceNe, Int.reduceAdd, Int.reduceSub, reduceCtorEq, eq_self, implies_true, exists_const, Option.isNone_some, Option.isNone_none, Option.isSome_some, Option.isSome_none, Option.getD_some]
  exact id
end
end Go.Proofs.Ytmjbgfflbeibnaa.ti
