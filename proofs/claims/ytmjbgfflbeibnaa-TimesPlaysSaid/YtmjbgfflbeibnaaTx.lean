/-
  times: the document's index: Put; Bytes.
-/
import Derived.Test.YtmjbgfflbeibnaaTw
namespace Go.Proofs.Ytmjbgfflbeibnaa.ti
open Go.Proofs.Ytmjbgfflbeibnaa wi
set_option linter.unusedVariables false
set_option linter.unusedSimpArgs false
section
variable {S T : Nat → Prop} {g g' : H} {p q r : Nat} {b e b2 e2 : Int} {v v2 w : Value} {l l2 : List Ri} {rs : List rc.D}
theorem DPut_s8 {Q : Post} {wa : Option Addr} {wc : Nat} (X : DX S g q b e v l) (hl : l.length ≤ 65536) (he : inI e ∧ e ≤ 9007199254740993 ∧ 0 ≤ e) (hr : RepL nos rc g (.slice wa rs.length wc) rs) (hrl : rs.length ≤ 100000)
    (hQ : ∀ G vo, OwK 2 (fun y => g y = none) G 50 vo (rrows (outP l e rs)) → Ext g G → vc Try.prog c54_s15 Q [(0, .pointer (some ⟨q, 0, none⟩)), (1, .slice wa rs.length wc), (8, vo)] G) :
    vc Try.prog c54_s8 Q [(0, .pointer (some ⟨q, 0, none⟩)), (1, .slice wa rs.length wc)] g := by
  obtain ⟨a, c, hv⟩ := X.slen
  simp (disch := omega) only [dm_t, wZ, ↓reduceIte, Nat.reduceEqDiff, Nat.reduceAdd, Nat.reduceSub, Nat.reduceMul, Nat.reduceLeDiff, Nat.reduceLT, Nat.reduceMod, Nat.reduceDiv, Int.reduceToNat, Nat.min_eq_left, IntKind.bits, Int.reducePow, Int.reduceLT, Int.reduceLE, Int.reduceEq, Int.reduceNe, Int.reduceAdd, Int.reduceSub, reduceCtorEq, eq_self, implies_true, exists_const, Option.isNone_some, Option.isNone_none, Option.isSome_some, Option.isSome_none, Option.getD_some, X.c2]
  intro lb hlb
  have el := Ext.new hlb (.cells #[] 50)
  have Xl := X.ext el
  simp (disch := omega) only [dm_t, wZ, ↓reduceIte, Nat.reduceEqDiff, Nat.reduceAdd, Nat.reduceSub, Nat.reduceMul, Nat.reduceLeDiff, Nat.reduceLT, Nat.reduceMod, Nat.reduceDiv, Int.reduceToNat, Nat.min_eq_left, IntKind.bits, Int.reducePow, Int.reduceLT, Int.reduceLE, Int.reduceEq, Int.reduceNe, Int.reduceAdd, Int.reduceSub, reduceCtorEq, eq_self, implies_true, exists_const, Option.isNone_some, Option.isNone_none, Option.isSome_some, Option.isSome_none, Option.getD_some, Xl.c2]
  refine app_rises X.lst X.len hlb ?_
  intro w1 G1 o1 E1
  have X1 := X.ext E1
  simp (disch := omega) only [dm_t, wZ, ↓reduceIte, Nat.reduceEqDiff, Nat.reduceAdd, Nat.reduceSub, Nat.reduceMul, Nat.reduceLeDiff, Nat.reduceLT, Nat.reduceMod, Nat.reduceDiv, Int.reduceToNat, Nat.min_eq_left, IntKind.bits, Int.reducePow, Int.reduceLT, Int.reduceLE, Int.reduceEq, Int.reduceNe, Int.reduceAdd, Int.reduceSub, reduceCtorEq, eq_self, implies_true, exists_const, Option.isNone_some, Option.isNone_none, Option.isSome_some, Option.isSome_none, Option.getD_some]
  refine (DTop_ok X1).k ?_
  rintro _ _ ⟨rfl, rfl⟩
  simp (disch := omega) only [dm_t, wZ, ↓reduceIte, Nat.reduceEqDiff, Nat.reduceAdd, Nat.reduceSub, Nat.reduceMul, Nat.reduceLeDiff, Nat.reduceLT, Nat.reduceMod, Nat.reduceDiv, Int.reduceToNat, Nat.min_eq_left, IntKind.bits, Int.reducePow, Int.reduceLT, Int.reduceLE, Int.reduceEq, Int.reduceNe, Int.reduceAdd, Int.reduceSub, reduceCtorEq, eq_self, implies_true, exists_const, Option.isNone_some, Option.isNone_none, Option.isSome_some, Option.isSome_none, Option.getD_some]
  refine vc_loop3 (fun vt vo vi G => ∃ i : Nat, vi = .int .i64 (i : Int) ∧ i ≤ rs.length ∧ vt = .int .i64 (topR (topP l) (rs.take i)) ∧ OwK 2 (fun y => g y = none) G 50 vo (rrows (outP l e (rs.take i))) ∧ Ext g G) (fun _ _ vi _ => rs.length - m1 vi) ?_ ?_
  · simp (disch := omega) only [dm_t, wZ, ↓reduceIte, Nat.reduceEqDiff, Nat.reduceAdd, Nat.reduceSub, Nat.reduceMul, Nat.reduceLeDiff, Nat.reduceLT, Nat.reduceMod, Nat.reduceDiv, Int.reduceToNat, Nat.min_eq_left, IntKind.bits, Int.reducePow, Int.reduceLT, Int.reduceLE, Int.reduceEq, Int.reduceNe, Int.reduceAdd, Int.reduceSub, reduceCtorEq, eq_self, implies_true, exists_const, Option.isNone_some, Option.isNone_none, Option.isSome_some, Option.isSome_none, Option.getD_some]
    have h0 : outP l e (rs.take 0) = l := by simp [outP, risesP]
    exact ⟨0, rfl, by omega, by simp [topR], by rw [h0]; exact o1, E1⟩
  rintro _ vo _ G ⟨i, rfl, hi, rfl, ho, E⟩
  by_cases hil : i < rs.length
  · obtain ⟨b1, o1', cs, i1, -, t0, -⟩ := rec_load (hr.ext E) hil
    have XG := X.ext E
    have htk := topR_take hil (topP l)
    have hrk := risesP_take hil (topP l) e
    have hol : (outP l e (rs.take i)).length ≤ 200000 := by
      have h1 := risesP_len (topP l) e (rs.take i)
      rw [List.length_take] at h1
      rw [outP, List.length_append]; omega
    obtain ⟨oa, oc, rfl⟩ := SlK.len ho.s0
    by_cases hgt : @LT.lt Int _ (topR (topP l) (rs.take i)) rs[i].1
    · rw [if_pos hgt] at htk hrk
      have hout : outP l e (rs.take (i + 1)) = outP l e (rs.take i) ++ [(e + i, rs[i].1)] := by rw [outP, hrk, outP, List.append_assoc]
      simp (disch := omega) only [dm_t, wZ, ↓reduceIte, Nat.reduceEqDiff, Nat.reduceAdd, Nat.reduceSub, Nat.reduceMul, Nat.reduceLeDiff, Nat.reduceLT, Nat.reduceMod, Nat.reduceDiv, Int.reduceToNat, Nat.min_eq_left, IntKind.bits, Int.reducePow, Int.reduceLT, Int.reduceLE, Int.reduceEq, Int.reduceNe, Int.reduceAdd, Int.reduceSub, reduceCtorEq, eq_self, implies_true, exists_const, Option.isNone_some, Option.isNone_none, Option.isSome_some, Option.isSome_none, Option.getD_some, i1, t0, XG.c1]
      refine pushk (V := fun _ => _) (bytes := 16) (z := #[.int .i64 0, .int .i64 0]) (row := rrow (e + i, rs[i].1)) ho (fun y hy => E.bk hy) rfl rfl rfl (by rw [List.length_map]; omega) (by rw [List.length_map]; omega) ?_
      intro _ vo' G2 hb2 o2 f2 hat
      obtain ⟨oa2, oc2, rfl⟩ := SlK.len o2.s0
      simp (disch := omega) only [dm_t, wZ, ↓reduceIte, Nat.reduceEqDiff, Nat.reduceAdd, Nat.reduceSub, Nat.reduceMul, Nat.reduceLeDiff, Nat.reduceLT, Nat.reduceMod, Nat.reduceDiv, Int.reduceToNat, Nat.min_eq_left, IntKind.bits, Int.reducePow, Int.reduceLT, Int.reduceLE, Int.reduceEq, Int.reduceNe, Int.reduceAdd, Int.reduceSub, reduceCtorEq, eq_self, implies_true, exists_const, Option.isNone_some, Option.isNone_none, Option.isSome_some, Option.isSome_none, Option.getD_some]
      refine ⟨⟨i + 1, by simp, by omega, by rw [htk], ?_, Ext.step E f2⟩, by simp [m1]; omega⟩
      rw [hout]
      simpa using o2
    · rw [if_neg hgt] at htk hrk
      have hout : outP l e (rs.take (i + 1)) = outP l e (rs.take i) := by rw [outP, hrk, outP, List.append_nil]
      simp (disch := omega) only [dm_t, wZ, ↓reduceIte, Nat.reduceEqDiff, Nat.reduceAdd, Nat.reduceSub, Nat.reduceMul, Nat.reduceLeDiff, Nat.reduceLT, Nat.reduceMod, Nat.reduceDiv, Int.reduceToNat, Nat.min_eq_left, IntKind.bits, Int.reducePow, Int.reduceLT, Int.reduceLE, Int.reduceEq, Int.reduceNe, Int.reduceAdd, Int.reduceSub, reduceCtorEq, eq_self, implies_true, exists_const, Option.isNone_some, Option.isNone_none, Option.isSome_some, Option.isSome_none, Option.getD_some, i1, t0]
      exact ⟨⟨i + 1, by simp, by omega, by rw [htk], by rw [hout]; exact ho, E⟩, by simp [m1]; omega⟩
  · obtain rfl : i = rs.length := by omega
    rw [List.take_length] at ho
    have k := hQ G vo ho E
    simp (disch := omega) only [dm_t, wZ, ↓reduceIte, Nat.reduceEqDiff, Nat.reduceAdd, Nat.reduceSub, Nat.reduceMul, Nat.reduceLeDiff, Nat.reduceLT, Nat.reduceMod, Nat.reduceDiv, Int.reduceToNat, Nat.min_eq_left, IntKind.bits, Int.reducePow, Int.reduceLT, Int.reduceLE, Int.reduceEq, Int.reduceNe, Int.reduceAdd, Int.reduceSub, reduceCtorEq, eq_self, implies_true, exists_const, Option.isNone_some, Option.isNone_none, Option.isSome_some, Option.isSome_none, Option.getD_some, k]
theorem DPut_ok (X : DX S g q b e v l) (hSq : S q) (hS : ∀ y, S y → g y ≠ none) (hl : l.length ≤ 65536) (he : inI e ∧ e ≤ 9007199254740993 ∧ 0 ≤ e) (hr : RepL nos rc g w rs) (hrl : rs.length ≤ 100000) (hm : rs.all may = true) : Ok Try.prog 54 #[.pointer (some ⟨q, 0, none⟩), w] g fun u h' => u = .int .i64 (putE l e rs) ∧ (if putE l e rs = 0 then ∃ v', DX S h' q b (e + rs.length) v' (outP l e rs) ∧ Fr (fun y => y = q) g h' else Ext g h') := by
  obtain ⟨a, c, hv⟩ := X.slen
  obtain ⟨wa, wc, rfl⟩ := hr.len
  have hpE : putE l e rs = if 65536 < (outP l e rs).length ∨ 9007199254740993 - e < rs.length then 3 else 0 := by rw [putE, if_neg (by rw [hm]; simp)]
  refine c54_ok (args := [_, _]) (by simp) ?_
  simp (disch := omega) only [dm_t, wZ, ↓reduceIte, Nat.reduceEqDiff, Nat.reduceAdd, Nat.reduceSub, Nat.reduceMul, Nat.reduceLeDiff, Nat.reduceLT, Nat.reduceMod, Nat.reduceDiv, Int.reduceToNat, Nat.min_eq_left, IntKind.bits, Int.reducePow, Int.reduceLT, Int.reduceLE, Int.reduceEq, Int.reduceNe, Int.reduceAdd, Int.reduceSub, reduceCtorEq, eq_self, implies_true, exists_const, Option.isNone_some, Option.isNone_none, Option.isSome_some, Option.isSome_none, Option.getD_some]
  refine (DTop_ok X).k ?_
  rintro _ _ ⟨rfl, rfl⟩
  simp (disch := omega) only [dm_t, wZ, ↓reduceIte, Nat.reduceEqDiff, Nat.reduceAdd, Nat.reduceSub, Nat.reduceMul, Nat.reduceLeDiff, Nat.reduceLT, Nat.reduceMod, Nat.reduceDiv, Int.reduceToNat, Nat.min_eq_left, IntKind.bits, Int.reducePow, Int.reduceLT, Int.reduceLE, Int.reduceEq, Int.reduceNe, Int.reduceAdd, Int.reduceSub, reduceCtorEq, eq_self, implies_true, exists_const, Option.isNone_some, Option.isNone_none, Option.isSome_some, Option.isSome_none, Option.getD_some]
  refine vc_loop3 (fun vn vt vi G => g = G ∧ ∃ i : Nat, vi = .int .i64 (i : Int) ∧ i ≤ rs.length ∧ vt = .int .i64 (topR (topP l) (rs.take i)) ∧ vn = .int .i64 ((risesP (topP l) e (rs.take i)).length : Int)) (fun _ _ vi _ => rs.length - m1 vi) ?_ ?_
  · simp (disch := omega) only [dm_t, wZ, ↓reduceIte, Nat.reduceEqDiff, Nat.reduceAdd, Nat.reduceSub, Nat.reduceMul, Nat.reduceLeDiff, Nat.reduceLT, Nat.reduceMod, Nat.reduceDiv, Int.reduceToNat, Nat.min_eq_left, IntKind.bits, Int.reducePow, Int.reduceLT, Int.reduceLE, Int.reduceEq, Int.reduceNe, Int.reduceAdd, Int.reduceSub, reduceCtorEq, eq_self, implies_true, exists_const, Option.isNone_some, Option.isNone_none, Option.isSome_some, Option.isSome_none, Option.getD_some]
    exact ⟨0, rfl, by omega, by simp [topR], by simp [risesP]⟩
  rintro _ _ _ _ ⟨rfl, i, rfl, hi, rfl, rfl⟩
  have hlen := risesP_len (topP l) e (rs.take i)
  rw [List.length_take] at hlen
  by_cases hil : i < rs.length
  · obtain ⟨b1, o1', cs, i1, -, t0, -⟩ := rec_load hr hil
    have htk := topR_take hil (topP l)
    have hrk := risesP_take hil (topP l) e
    by_cases hgt : @LT.lt Int _ (topR (topP l) (rs.take i)) rs[i].1
    · rw [if_pos hgt] at htk hrk
      simp (disch := omega) only [dm_t, wZ, ↓reduceIte, Nat.reduceEqDiff, Nat.reduceAdd, Nat.reduceSub, Nat.reduceMul, Nat.reduceLeDiff, Nat.reduceLT, Nat.reduceMod, Nat.reduceDiv, Int.reduceToNat, Nat.min_eq_left, IntKind.bits, Int.reducePow, Int.reduceLT, Int.reduceLE, Int.reduceEq, Int.reduceNe, Int.reduceAdd, Int.reduceSub, reduceCtorEq, eq_self, implies_true, exists_const, Option.isNone_some, Option.isNone_none, Option.isSome_some, Option.isSome_none, Option.getD_some, i1, t0]
      exact ⟨⟨i + 1, by simp, by omega, by rw [htk], by rw [hrk]; simp⟩, by simp [m1]; omega⟩
    · rw [if_neg hgt] at htk hrk
      simp (disch := omega) only [dm_t, wZ, ↓reduceIte, Nat.reduceEqDiff, Nat.reduceAdd, Nat.reduceSub, Nat.reduceMul, Nat.reduceLeDiff, Nat.reduceLT, Nat.reduceMod, Nat.reduceDiv, Int.reduceToNat, Nat.min_eq_left, IntKind.bits, Int.reducePow, Int.reduceLT, Int.reduceLE, Int.reduceEq, Int.reduceNe, Int.reduceAdd, Int.reduceSub, reduceCtorEq, eq_self, implies_true, exists_const, Option.isNone_some, Option.isNone_none, Option.isSome_some, Option.isSome_none, Option.getD_some, i1, t0]
      exact ⟨⟨i + 1, by simp, by omega, by rw [htk], by rw [hrk]; simp⟩, by simp [m1]; omega⟩
  · obtain rfl : i = rs.length := by omega
    rw [List.take_length] at hlen ⊢
    have hol : (outP l e rs).length = l.length + (risesP (topP l) e rs).length := by rw [outP, List.length_append]
    have h0 := X.c2
    rw [hv] at h0
    have hei := he.1
    unfold inI at hei
    by_cases h3 : 65536 < (outP l e rs).length
    · rw [if_pos (.inl h3)] at hpE
      rw [hpE]
      simp (disch := omega) only [dm_t, wZ, ↓reduceIte, Nat.reduceEqDiff, Nat.reduceAdd, Nat.reduceSub, Nat.reduceMul, Nat.reduceLeDiff, Nat.reduceLT, Nat.reduceMod, Nat.reduceDiv, Int.reduceToNat, Nat.min_eq_left, IntKind.bits, Int.reducePow, Int.reduceLT, Int.reduceLE, Int.reduceEq, Int.reduceNe, Int.reduceAdd, Int.reduceSub, reduceCtorEq, eq_self, implies_true, exists_const, Option.isNone_some, Option.isNone_none, Option.isSome_some, Option.isSome_none, Option.getD_some, h0, X.c1]
      exact Ext.refl _
    · by_cases h4 : @LT.lt Int _ (9007199254740993 - e) rs.length
      · rw [if_pos (.inr h4)] at hpE
        rw [hpE]
        simp (disch := omega) only [dm_t, wZ, ↓reduceIte, Nat.reduceEqDiff, Nat.reduceAdd, Nat.reduceSub, Nat.reduceMul, Nat.reduceLeDiff, Nat.reduceLT, Nat.reduceMod, Nat.reduceDiv, Int.reduceToNat, Nat.min_eq_left, IntKind.bits, Int.reducePow, Int.reduceLT, Int.reduceLE, Int.reduceEq, Int.reduceNe, Int.reduceAdd, Int.reduceSub, reduceCtorEq, eq_self, implies_true, exists_const, Option.isNone_some, Option.isNone_none, Option.isSome_some, Option.isSome_none, Option.getD_some, h0, X.c1]
        exact Ext.refl _
      · rw [if_neg (by omega)] at hpE
        rw [hpE]
        have k8 := DPut_s8 (Q := retQ [4] (okR fun u h' => u = .int .i64 0 ∧ ∃ v', DX S h' q b (e + rs.length) v' (outP l e rs) ∧ Fr (fun y => y = q) g h')) X hl he hr hrl fun G vo ho E => by
          have XG := X.ext E
          obtain ⟨oa, oc, rfl⟩ := SlK.len ho.s0
          have hou : (rrows (outP l e rs)).length = (outP l e rs).length := by simp
          simp (disch := omega) only [dm_t, wZ, ↓reduceIte, Nat.reduceEqDiff, Nat.reduceAdd, Nat.reduceSub, Nat.reduceMul, Nat.reduceLeDiff, Nat.reduceLT, Nat.reduceMod, Nat.reduceDiv, Int.reduceToNat, Nat.min_eq_left, IntKind.bits, Int.reducePow, Int.reduceLT, Int.reduceLE, Int.reduceEq, Int.reduceNe, Int.reduceAdd, Int.reduceSub, reduceCtorEq, eq_self, implies_true, exists_const, Option.isNone_some, Option.isNone_none, Option.isSome_some, Option.isSome_none, Option.getD_some]
          rw [storeH_0 XG.obj]
          refine ⟨by simp, rfl, ?_⟩
          generalize hG : hupd G q _ = G2
          have f2 : Fr (fun y => y = q) G G2 := hG ▸ Fr.upd (S := fun y => y = q) rfl _
          have q2 : G2 q = some (.cells #[.int .i64 b, .int .i64 e, .slice oa (rrows (outP l e rs)).length oc] 59) := by rw [← hG, hupd_same]; rfl
          clear hG
          have d1 : cellAt G2 ⟨q, 1, none⟩ = some (.int .i64 e) := by rw [cellAt_of q2]; rfl
          simp (disch := omega) only [dm_t, wZ, ↓reduceIte, Nat.reduceEqDiff, Nat.reduceAdd, Nat.reduceSub, Nat.reduceMul, Nat.reduceLeDiff, Nat.reduceLT, Nat.reduceMod, Nat.reduceDiv, Int.reduceToNat, Nat.min_eq_left, IntKind.bits, Int.reducePow, Int.reduceLT, Int.reduceLE, Int.reduceEq, Int.reduceNe, Int.reduceAdd, Int.reduceSub, reduceCtorEq, eq_self, implies_true, exists_const, Option.isNone_some, Option.isNone_none, Option.isSome_some, Option.isSome_none, Option.getD_some, d1]
          rw [storeH_0 q2]
          refine ⟨by simp, rfl, ?_⟩
          generalize hG : hupd G2 q _ = G3
          have f3 : Fr (fun y => y = q) G2 G3 := hG ▸ Fr.upd (S := fun y => y = q) rfl _
          have q3 : G3 q = some (.cells #[.int .i64 b, .int .i64 (e + rs.length), .slice oa (rrows (outP l e rs)).length oc] 59) := by rw [← hG, hupd_same]; rfl
          clear hG
          simp (disch := omega) only [dm_t, wZ, ↓reduceIte, Nat.reduceEqDiff, Nat.reduceAdd, Nat.reduceSub, Nat.reduceMul, Nat.reduceLeDiff, Nat.reduceLT, Nat.reduceMod, Nat.reduceDiv, Int.reduceToNat, Nat.min_eq_left, IntKind.bits, Int.reducePow, Int.reduceLT, Int.reduceLE, Int.reduceEq, Int.reduceNe, Int.reduceAdd, Int.reduceSub, reduceCtorEq, eq_self, implies_true, exists_const, Option.isNone_some, Option.isNone_none, Option.isSome_some, Option.isSome_none, Option.getD_some]
          have f := f2.trans f3
          exact ⟨_, ⟨q3, SlK.fr (OwK.sl ho fun y hy hs => hS y hs hy) f fun y hy => hy ▸ hSq, by omega⟩, (E.mono fun _ h => h.elim).trans f⟩
        simp (disch := omega) only [dm_t, wZ, ↓reduceIte, Nat.reduceEqDiff, Nat.reduceAdd, Nat.reduceSub, Nat.reduceMul, Nat.reduceLeDiff, Nat.reduceLT, Nat.reduceMod, Nat.reduceDiv, Int.reduceToNat, Nat.min_eq_left, IntKind.bits, Int.reducePow, Int.reduceLT, Int.reduceLE, Int.reduceEq, Int.reduceNe, Int.reduceAdd, Int.reduceSub, reduceCtorEq, eq_self, implies_true, exists_const, Option.isNone_some, Option.isNone_none, Option.isSome_some, Option.isSome_none, Option.getD_some, h0, X.c1, k8]
theorem low_ok (h : H) (x n : Nat) (hx : x < 2 ^ 64) (hn : n ≤ 8) : Ok Try.prog 61 #[.int .u64 (x : Int), .int .i64 (n : Int)] h fun v h' => OwB (fun y => h y = none) h' 5 v (low n x) ∧ Ext h h' := by
  refine c61_ok (args := [_, _]) (by simp) ?_
  simp (disch := omega) only [dm_t, wZ, ↓reduceIte, Nat.reduceEqDiff, Nat.reduceAdd, Nat.reduceSub, Nat.reduceMul, Nat.reduceLeDiff, Nat.reduceLT, Nat.reduceMod, Nat.reduceDiv, Int.reduceToNat, Nat.min_eq_left, IntKind.bits, Int.reducePow, Int.reduceLT, Int.reduceLE, Int.reduceEq, Int.reduceNe, Int.reduceAdd, Int.reduceSub, reduceCtorEq, eq_self, implies_true, exists_const, Option.isNone_some, Option.isNone_none, Option.isSome_some, Option.isSome_none, Option.getD_some]
  refine vc_loop3 (fun vx vb vi h' => ∃ k : Nat, k ≤ n ∧ vx = .int .u64 ((x / 256 ^ k : Nat) : Int) ∧ vi = .int .i64 k ∧ OwB (fun y => h y = none) h' 5 vb (low k x) ∧ Ext h h') (fun _ _ vi _ => n - m1 vi) ?_ ?_
  · simp (disch := omega) only [dm_t, wZ, ↓reduceIte, Nat.reduceEqDiff, Nat.reduceAdd, Nat.reduceSub, Nat.reduceMul, Nat.reduceLeDiff, Nat.reduceLT, Nat.reduceMod, Nat.reduceDiv, Int.reduceToNat, Nat.min_eq_left, IntKind.bits, Int.reducePow, Int.reduceLT, Int.reduceLE, Int.reduceEq, Int.reduceNe, Int.reduceAdd, Int.reduceSub, reduceCtorEq, eq_self, implies_true, exists_const, Option.isNone_some, Option.isNone_none, Option.isSome_some, Option.isSome_none, Option.getD_some]
    exact ⟨0, by omega, by simp, rfl, OwK.nil, Fr.refl _ _⟩
  rintro _ vb _ h2 ⟨k, hk, rfl, rfl, ho2, e2⟩
  have hxk : x / 256 ^ k ≤ x := Nat.div_le_self _ _
  have hls := low_succ k x
  have hps : x / 256 ^ (k + 1) = x / 256 ^ k / 256 := by rw [Nat.pow_succ, ← Nat.div_div_eq_div_mul]
  generalize x / 256 ^ k = y at hxk hls hps
  by_cases hlt : k < n
  · simp (disch := omega) only [dm_t, wZ, ↓reduceIte, Nat.reduceEqDiff, Nat.reduceAdd, Nat.reduceSub, Nat.reduceMul, Nat.reduceLeDiff, Nat.reduceLT, Nat.reduceMod, Nat.reduceDiv, Int.reduceToNat, Nat.min_eq_left, IntKind.bits, Int.reducePow, Int.reduceLT, Int.reduceLE, Int.reduceEq, Int.reduceNe, Int.reduceAdd, Int.reduceSub, reduceCtorEq, eq_self, implies_true, exists_const, Option.isNone_some, Option.isNone_none, Option.isSome_some, Option.isSome_none, Option.getD_some]
    refine pushB (UInt8.ofNat y) ho2 (fun y hy => e2.bk hy) ?_ (by simp [low_len]; omega) ?_
    · exact byte_of _
    intro _ v h3 _ ho3 hf3
    simp (disch := omega) only [dm_t, wZ, ↓reduceIte, Nat.reduceEqDiff, Nat.reduceAdd, Nat.reduceSub, Nat.reduceMul, Nat.reduceLeDiff, Nat.reduceLT, Nat.reduceMod, Nat.reduceDiv, Int.reduceToNat, Nat.min_eq_left, IntKind.bits, Int.reducePow, Int.reduceLT, Int.reduceLE, Int.reduceEq, Int.reduceNe, Int.reduceAdd, Int.reduceSub, reduceCtorEq, eq_self, implies_true, exists_const, Option.isNone_some, Option.isNone_none, Option.isSome_some, Option.isSome_none, Option.getD_some]
    refine ⟨⟨k + 1, by omega, ?_, by simp, ?_, e2.step hf3⟩, by simp [m1]; omega⟩
    · rw [hps]; rfl
    · rw [hls]; exact ho3
  · simp (disch := omega) only [dm_t, wZ, ↓reduceIte, Nat.reduceEqDiff, Nat.reduceAdd, Nat.reduceSub, Nat.reduceMul, Nat.reduceLeDiff, Nat.reduceLT, Nat.reduceMod, Nat.reduceDiv, Int.reduceToNat, Nat.min_eq_left, IntKind.bits, Int.reducePow, Int.reduceLT, Int.reduceLE, Int.reduceEq, Int.reduceNe, Int.reduceAdd, Int.reduceSub, reduceCtorEq, eq_self, implies_true, exists_const, Option.isNone_some, Option.isNone_none, Option.isSome_some, Option.isSome_none, Option.getD_some]
    obtain rfl : k = n := by omega
    exact ⟨ho2, e2⟩
end
end Go.Proofs.Ytmjbgfflbeibnaa.ti
