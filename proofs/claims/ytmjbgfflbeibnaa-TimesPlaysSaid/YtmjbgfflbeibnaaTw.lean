/-
  times: the document's index: Same, Join, Put.
-/
import Derived.Test.YtmjbgfflbeibnaaTv
namespace Go.Proofs.Ytmjbgfflbeibnaa.ti
open Go.Proofs.Ytmjbgfflbeibnaa wi
set_option linter.unusedVariables false
set_option linter.unusedSimpArgs false
section
variable {S T : Nat → Prop} {g g' : H} {p q r : Nat} {b e b2 e2 : Int} {v v2 w : Value} {l l2 : List Ri} {rs : List rc.D}
theorem DSame_ok (X : DX S g q b e v l) (Y : DX T g r b2 e2 v2 l2) : Ok Try.prog 26 #[.pointer (some ⟨q, 0, none⟩), .pointer (some ⟨r, 0, none⟩)] g fun w h' => w = .bool (decide (b = b2 ∧ e = e2 ∧ l = l2)) ∧ g = h' := by
  obtain ⟨a, c, rfl⟩ := X.slen
  obtain ⟨a2, c2, rfl⟩ := Y.slen
  have hl := X.len
  refine c26_ok (args := [_, _]) (by simp) ?_
  by_cases hb : b = b2
  · by_cases he : e = e2
    · by_cases hlm : l.length = l2.length
      · simp (disch := omega) only [dm_t, wZ, ↓reduceIte, Nat.reduceEqDiff, Nat.reduceAdd, Nat.reduceSub, Nat.reduceMul, Nat.reduceLeDiff, Nat.reduceLT, Nat.reduceMod, Nat.reduceDiv, Int.reduceToNat, Nat.min_eq_left, IntKind.bits, Int.reducePow, Int.reduceLT, Int.reduceLE, Int.reduceEq, Int.reduceNe, Int.reduceAdd, Int.reduceSub, reduceCtorEq, eq_self, implies_true, exists_const, Option.isNone_some, Option.isNone_none, Option.isSome_some, Option.isSome_none, Option.getD_some, X.c0, X.c1, X.c2, Y.c0, Y.c1, Y.c2, hb, he]
        refine vc_loop1 (fun vi h' => h' = g ∧ ∃ i : Nat, vi = .int .i64 (i : Int) ∧ i ≤ l.length ∧ l.take i = l2.take i) (fun vi _ => l.length - m1 vi) ?_ ?_
        · simp (disch := omega) only [dm_t, wZ, ↓reduceIte, Nat.reduceEqDiff, Nat.reduceAdd, Nat.reduceSub, Nat.reduceMul, Nat.reduceLeDiff, Nat.reduceLT, Nat.reduceMod, Nat.reduceDiv, Int.reduceToNat, Nat.min_eq_left, IntKind.bits, Int.reducePow, Int.reduceLT, Int.reduceLE, Int.reduceEq, Int.reduceNe, Int.reduceAdd, Int.reduceSub, reduceCtorEq, eq_self, implies_true, exists_const, Option.isNone_some, Option.isNone_none, Option.isSome_some, Option.isSome_none, Option.getD_some]
          exact ⟨0, rfl, by omega, by simp⟩
        rintro _ _ ⟨rfl, i, rfl, hi, heq⟩
        by_cases hil : i < l.length
        · have him : i < l2.length := by omega
          obtain ⟨b1, o1, i1, -, -, t1⟩ := rl_at X.lst hil .i64
          obtain ⟨b3, o3, i3, -, -, t3⟩ := rl_at Y.lst him .i64
          simp (disch := omega) only [dm_t, wZ, ↓reduceIte, Nat.reduceEqDiff, Nat.reduceAdd, Nat.reduceSub, Nat.reduceMul, Nat.reduceLeDiff, Nat.reduceLT, Nat.reduceMod, Nat.reduceDiv, Int.reduceToNat, Nat.min_eq_left, IntKind.bits, Int.reducePow, Int.reduceLT, Int.reduceLE, Int.reduceEq, Int.reduceNe, Int.reduceAdd, Int.reduceSub, reduceCtorEq, eq_self, implies_true, exists_const, Option.isNone_some, Option.isNone_none, Option.isSome_some, Option.isSome_none, Option.getD_some, X.c2, Y.c2, i1, t1, i3, t3]
          refine raw_neSt2 (fun w => run_eqSt2 (k := .i64) (a1 := l[i].1) (a2 := l[i].2) (b1 := l2[i].1) (b2 := l2[i].2) 9998 Try.underlying50 (by kernel_rfl) (by decide) (by decide) (by kernel_rfl) (by kernel_rfl) rfl rfl rfl rfl) rfl rfl (by kernel_rfl) ?_
          have hx : (l[i].1 == l2[i].1 && l[i].2 == l2[i].2) = decide (l[i] = l2[i]) := by
            rw [Bool.eq_iff_iff]
            simp [Prod.ext_iff]
          rw [hx]
          by_cases hq : l[i] = l2[i]
          · simp (disch := omega) only [dm_t, wZ, ↓reduceIte, Nat.reduceEqDiff, Nat.reduceAdd, Nat.reduceSub, Nat.reduceMul, Nat.reduceLeDiff, Nat.reduceLT, Nat.reduceMod, Nat.reduceDiv, Int.reduceToNat, Nat.min_eq_left, IntKind.bits, Int.reducePow, Int.reduceLT, Int.reduceLE, Int.reduceEq, Int.reduceNe, Int.reduceAdd, Int.reduceSub, reduceCtorEq, eq_self, implies_true, exists_const, Option.isNone_some, Option.isNone_none, Option.isSome_some, Option.isSome_none, Option.getD_some, hq, X.c2, Y.c2, i1, t1, i3, t3]
            refine ⟨⟨i + 1, by simp, by omega, ?_⟩, by simp [m1]; omega⟩
            rw [List.take_succ_eq_append_getElem hil, List.take_succ_eq_append_getElem him, heq, hq]
          · simp (disch := omega) only [dm_t, wZ, ↓reduceIte, Nat.reduceEqDiff, Nat.reduceAdd, Nat.reduceSub, Nat.reduceMul, Nat.reduceLeDiff, Nat.reduceLT, Nat.reduceMod, Nat.reduceDiv, Int.reduceToNat, Nat.min_eq_left, IntKind.bits, Int.reducePow, Int.reduceLT, Int.reduceLE, Int.reduceEq, Int.reduceNe, Int.reduceAdd, Int.reduceSub, reduceCtorEq, eq_self, implies_true, exists_const, Option.isNone_some, Option.isNone_none, Option.isSome_some, Option.isSome_none, Option.getD_some, hq, X.c2, Y.c2, i1, t1, i3, t3]
            have : ¬ l = l2 := fun h => hq (by subst h; rfl)
            simp [this]
        · obtain rfl : i = l.length := by omega
          rw [List.take_length, List.take_of_length_le (by omega)] at heq
          simp (disch := omega) only [dm_t, wZ, ↓reduceIte, Nat.reduceEqDiff, Nat.reduceAdd, Nat.reduceSub, Nat.reduceMul, Nat.reduceLeDiff, Nat.reduceLT, Nat.reduceMod, Nat.reduceDiv, Int.reduceToNat, Nat.min_eq_left, IntKind.bits, Int.reducePow, Int.reduceLT, Int.reduceLE, Int.reduceEq, Int.reduceNe, Int.reduceAdd, Int.reduceSub, reduceCtorEq, eq_self, implies_true, exists_const, Option.isNone_some, Option.isNone_none, Option.isSome_some, Option.isSome_none, Option.getD_some, X.c2, hb, he, heq]
      · simp (disch := omega) only [dm_t, wZ, ↓reduceIte, Nat.reduceEqDiff, Nat.reduceAdd, Nat.reduceSub, Nat.reduceMul, Nat.reduceLeDiff, Nat.reduceLT, Nat.reduceMod, Nat.reduceDiv, Int.reduceToNat, Nat.min_eq_left, IntKind.bits, Int.reducePow, Int.reduceLT, Int.reduceLE, Int.reduceEq, Int.reduceNe, Int.reduceAdd, Int.reduceSub, reduceCtorEq, eq_self, implies_true, exists_const, Option.isNone_some, Option.isNone_none, Option.isSome_some, Option.isSome_none, Option.getD_some, X.c0, X.c1, X.c2, Y.c0, Y.c1, Y.c2, hb, he]
        have : ¬ l = l2 := fun h0 => hlm (by rw [h0])
        simp [this]
    · simp (disch := omega) only [dm_t, wZ, ↓reduceIte, Nat.reduceEqDiff, Nat.reduceAdd, Nat.reduceSub, Nat.reduceMul, Nat.reduceLeDiff, Nat.reduceLT, Nat.reduceMod, Nat.reduceDiv, Int.reduceToNat, Nat.min_eq_left, IntKind.bits, Int.reducePow, Int.reduceLT, Int.reduceLE, Int.reduceEq, Int.reduceNe, Int.reduceAdd, Int.reduceSub, reduceCtorEq, eq_self, implies_true, exists_const, Option.isNone_some, Option.isNone_none, Option.isSome_some, Option.isSome_none, Option.getD_some, X.c0, X.c1, X.c2, Y.c0, Y.c1, Y.c2, hb, he]
      simp [he]
  · simp (disch := omega) only [dm_t, wZ, ↓reduceIte, Nat.reduceEqDiff, Nat.reduceAdd, Nat.reduceSub, Nat.reduceMul, Nat.reduceLeDiff, Nat.reduceLT, Nat.reduceMod, Nat.reduceDiv, Int.reduceToNat, Nat.min_eq_left, IntKind.bits, Int.reducePow, Int.reduceLT, Int.reduceLE, Int.reduceEq, Int.reduceNe, Int.reduceAdd, Int.reduceSub, reduceCtorEq, eq_self, implies_true, exists_const, Option.isNone_some, Option.isNone_none, Option.isSome_some, Option.isSome_none, Option.getD_some, X.c0, X.c1, X.c2, Y.c0, Y.c1, Y.c2, hb]
    simp [hb]
/-- The rises copied to a slice of the call's own. -/
theorem app_rises {lb : Nat} {V : Value → H → Prop} (h : SlK 2 S g v (rrows l)) (hl : l.length ≤ 1000000) (hb : g lb = none) (hV : ∀ w h', OwK 2 (fun y => g y = none) h' 50 w (rrows l) → Ext g h' → V w h') :
    appM 50 2 16 #[.int .i64 0, .int .i64 0] (.slice (some ⟨lb, 0, none⟩) 0 0) v (hupd g lb (.cells #[] 50)) V := by
  have hll : (rrows l).length = l.length := by simp
  obtain ⟨s1, s2⟩ := SlK.src (SlK.ext h (Ext.new hb (.cells #[] 50)))
  have s3 := s2 _ (Nat.le_refl _)
  rw [List.take_length] at s3
  refine app_ow (O := fun y => g y = none) (rows := []) (OwK.lit (rows := []) (fun r h => by simp at h) rfl (by simp) (Nat.le_refl _) (fun m hm => by simp [flat] at hm) hb (.inl rfl)) (fun y hy => (Ext.new hb _).bk hy) (rrows_rect l) s1 s3 (rrows_cells l) (by rfl) (by rw [hll]; simp; omega) (by rw [hll]; simp; omega) ?_
  intro w h3 ho hf hat
  exact hV _ _ ho ((Ext.new hb _).step hf)
theorem DJoin_ok (X : DX S g q b e v l) (Y : DX T g r b2 e2 v2 l2) (hrq : r ≠ q) (hSq : S q) (hS : ∀ y, S y → g y ≠ none) (h1 : l.length ≤ 65536) (h2 : l2.length ≤ 65536) : Ok Try.prog 60 #[.pointer (some ⟨q, 0, none⟩), .pointer (some ⟨r, 0, none⟩)] g fun u h' => u = .int .i64 (joinE l e b2 l2) ∧ if joinE l e b2 l2 = 0 then ∃ v', DX S h' q b e2 v' (joinP l l2) ∧ Fr (fun y => y = q) g h' else Ext g h' := by
  obtain ⟨a, c, hv⟩ := X.slen
  obtain ⟨a2, c2, hv2⟩ := Y.slen
  refine c60_ok (args := [_, _]) (by simp) ?_
  by_cases hb : b2 = e
  · subst hb
    have hjE : joinE l b2 b2 l2 = if 65536 < (joinP l l2).length then 3 else 0 := by rw [joinE, if_neg (by simp)]
    simp (disch := omega) only [dm_t, wZ, ↓reduceIte, Nat.reduceEqDiff, Nat.reduceAdd, Nat.reduceSub, Nat.reduceMul, Nat.reduceLeDiff, Nat.reduceLT, Nat.reduceMod, Nat.reduceDiv, Int.reduceToNat, Nat.min_eq_left, IntKind.bits, Int.reducePow, Int.reduceLT, Int.reduceLE, Int.reduceEq, Int.reduceNe, Int.reduceAdd, Int.reduceSub, reduceCtorEq, eq_self, implies_true, exists_const, Option.isNone_some, Option.isNone_none, Option.isSome_some, Option.isSome_none, Option.getD_some, X.c1, Y.c0, X.c2]
    intro lb hlb
    have el := Ext.new hlb (.cells #[] 50)
    have Xl := X.ext el
    simp (disch := omega) only [dm_t, wZ, ↓reduceIte, Nat.reduceEqDiff, Nat.reduceAdd, Nat.reduceSub, Nat.reduceMul, Nat.reduceLeDiff, Nat.reduceLT, Nat.reduceMod, Nat.reduceDiv, Int.reduceToNat, Nat.min_eq_left, IntKind.bits, Int.reducePow, Int.reduceLT, Int.reduceLE, Int.reduceEq, Int.reduceNe, Int.reduceAdd, Int.reduceSub, reduceCtorEq, eq_self, implies_true, exists_const, Option.isNone_some, Option.isNone_none, Option.isSome_some, Option.isSome_none, Option.getD_some, Xl.c2]
    refine app_rises X.lst X.len hlb ?_
    intro w1 G1 o1 E1
    have X1 := X.ext E1
    have Y1 := Y.ext E1
    simp (disch := omega) only [dm_t, wZ, ↓reduceIte, Nat.reduceEqDiff, Nat.reduceAdd, Nat.reduceSub, Nat.reduceMul, Nat.reduceLeDiff, Nat.reduceLT, Nat.reduceMod, Nat.reduceDiv, Int.reduceToNat, Nat.min_eq_left, IntKind.bits, Int.reducePow, Int.reduceLT, Int.reduceLE, Int.reduceEq, Int.reduceNe, Int.reduceAdd, Int.reduceSub, reduceCtorEq, eq_self, implies_true, exists_const, Option.isNone_some, Option.isNone_none, Option.isSome_some, Option.isSome_none, Option.getD_some]
    refine (DTop_ok X1).k ?_
    rintro _ _ ⟨rfl, rfl⟩
    have hjl : ∀ i, (joinP l (l2.take i)).length ≤ l.length + i := fun i => by
      have := List.length_filter_le (fun r : Ri => decide (topP l < r.2)) (l2.take i)
      rw [List.length_take] at this
      rw [joinP, List.length_append]; omega
    simp (disch := omega) only [dm_t, wZ, ↓reduceIte, Nat.reduceEqDiff, Nat.reduceAdd, Nat.reduceSub, Nat.reduceMul, Nat.reduceLeDiff, Nat.reduceLT, Nat.reduceMod, Nat.reduceDiv, Int.reduceToNat, Nat.min_eq_left, IntKind.bits, Int.reducePow, Int.reduceLT, Int.reduceLE, Int.reduceEq, Int.reduceNe, Int.reduceAdd, Int.reduceSub, reduceCtorEq, eq_self, implies_true, exists_const, Option.isNone_some, Option.isNone_none, Option.isSome_some, Option.isSome_none, Option.getD_some]
    refine vc_loop2 (fun vo vi G => ∃ i : Nat, vi = .int .i64 (i : Int) ∧ i ≤ l2.length ∧ OwK 2 (fun y => g y = none) G 50 vo (rrows (joinP l (l2.take i))) ∧ Ext g G) (fun _ vi _ => l2.length - m1 vi) ?_ ?_
    · simp (disch := omega) only [dm_t, wZ, ↓reduceIte, Nat.reduceEqDiff, Nat.reduceAdd, Nat.reduceSub, Nat.reduceMul, Nat.reduceLeDiff, Nat.reduceLT, Nat.reduceMod, Nat.reduceDiv, Int.reduceToNat, Nat.min_eq_left, IntKind.bits, Int.reducePow, Int.reduceLT, Int.reduceLE, Int.reduceEq, Int.reduceNe, Int.reduceAdd, Int.reduceSub, reduceCtorEq, eq_self, implies_true, exists_const, Option.isNone_some, Option.isNone_none, Option.isSome_some, Option.isSome_none, Option.getD_some]
      exact ⟨0, rfl, by omega, by simpa [joinP] using o1, E1⟩
    rintro vo _ G ⟨i, rfl, hi, ho, E⟩
    have XG := X.ext E
    have YG := Y.ext E
    rw [hv2] at YG
    obtain ⟨oa, oc, rfl⟩ := SlK.len ho.s0
    by_cases hil : i < l2.length
    · obtain ⟨pb, po, i1, t0, t1, t2⟩ := rl_at YG.lst hil .i64
      have hs := List.take_succ_eq_append_getElem hil
      have hj := hjl i
      by_cases hcn : topP l < l2[i].2
      · have hp : joinP l (l2.take (i + 1)) = joinP l (l2.take i) ++ [l2[i]] := by
          rw [joinP, hs, List.filter_append, List.filter_cons_of_pos (by simpa using hcn), joinP, List.append_assoc]; rfl
        simp (disch := omega) only [dm_t, wZ, ↓reduceIte, Nat.reduceEqDiff, Nat.reduceAdd, Nat.reduceSub, Nat.reduceMul, Nat.reduceLeDiff, Nat.reduceLT, Nat.reduceMod, Nat.reduceDiv, Int.reduceToNat, Nat.min_eq_left, IntKind.bits, Int.reducePow, Int.reduceLT, Int.reduceLE, Int.reduceEq, Int.reduceNe, Int.reduceAdd, Int.reduceSub, reduceCtorEq, eq_self, implies_true, exists_const, Option.isNone_some, Option.isNone_none, Option.isSome_some, Option.isSome_none, Option.getD_some, YG.c2, i1, t1, t2]
        refine pushk (V := fun _ => _) (bytes := 16) (z := #[.int .i64 0, .int .i64 0]) (row := rrow l2[i]) ho (fun y hy => E.bk hy) rfl rfl rfl (by rw [List.length_map]; omega) (by rw [List.length_map]; omega) ?_
        intro _ v' G2 hb2 o2 f2 hat
        obtain ⟨oa2, oc2, rfl⟩ := SlK.len o2.s0
        simp (disch := omega) only [dm_t, wZ, ↓reduceIte, Nat.reduceEqDiff, Nat.reduceAdd, Nat.reduceSub, Nat.reduceMul, Nat.reduceLeDiff, Nat.reduceLT, Nat.reduceMod, Nat.reduceDiv, Int.reduceToNat, Nat.min_eq_left, IntKind.bits, Int.reducePow, Int.reduceLT, Int.reduceLE, Int.reduceEq, Int.reduceNe, Int.reduceAdd, Int.reduceSub, reduceCtorEq, eq_self, implies_true, exists_const, Option.isNone_some, Option.isNone_none, Option.isSome_some, Option.isSome_none, Option.getD_some]
        refine ⟨⟨i + 1, by simp, by omega, ?_, Ext.step E f2⟩, by simp [m1]; omega⟩
        rw [hp]
        simpa using o2
      · have hp : joinP l (l2.take (i + 1)) = joinP l (l2.take i) := by
          rw [joinP, hs, List.filter_append, List.filter_cons_of_neg (by simpa using hcn), joinP]; simp
        simp (disch := omega) only [dm_t, wZ, ↓reduceIte, Nat.reduceEqDiff, Nat.reduceAdd, Nat.reduceSub, Nat.reduceMul, Nat.reduceLeDiff, Nat.reduceLT, Nat.reduceMod, Nat.reduceDiv, Int.reduceToNat, Nat.min_eq_left, IntKind.bits, Int.reducePow, Int.reduceLT, Int.reduceLE, Int.reduceEq, Int.reduceNe, Int.reduceAdd, Int.reduceSub, reduceCtorEq, eq_self, implies_true, exists_const, Option.isNone_some, Option.isNone_none, Option.isSome_some, Option.isSome_none, Option.getD_some, YG.c2, i1, t1]
        exact ⟨⟨i + 1, by simp, by omega, by rw [hp]; exact ho, E⟩, by simp [m1]; omega⟩
    · obtain rfl : i = l2.length := by omega
      have hj := hjl l2.length
      rw [List.take_length] at ho hj ⊢
      by_cases h3 : 65536 < (joinP l l2).length
      · rw [if_pos h3] at hjE
        rw [hjE]
        have h3' : 65536 < (rrows (joinP l l2)).length := by simpa using h3
        simp (disch := omega) only [dm_t, wZ, ↓reduceIte, Nat.reduceEqDiff, Nat.reduceAdd, Nat.reduceSub, Nat.reduceMul, Nat.reduceLeDiff, Nat.reduceLT, Nat.reduceMod, Nat.reduceDiv, Int.reduceToNat, Nat.min_eq_left, IntKind.bits, Int.reducePow, Int.reduceLT, Int.reduceLE, Int.reduceEq, Int.reduceNe, Int.reduceAdd, Int.reduceSub, reduceCtorEq, eq_self, implies_true, exists_const, Option.isNone_some, Option.isNone_none, Option.isSome_some, Option.isSome_none, Option.getD_some, YG.c2]
        exact E
      · rw [if_neg h3] at hjE
        rw [hjE]
        have h3' : (rrows (joinP l l2)).length ≤ 65536 := by simpa using h3
        simp (disch := omega) only [dm_t, wZ, ↓reduceIte, Nat.reduceEqDiff, Nat.reduceAdd, Nat.reduceSub, Nat.reduceMul, Nat.reduceLeDiff, Nat.reduceLT, Nat.reduceMod, Nat.reduceDiv, Int.reduceToNat, Nat.min_eq_left, IntKind.bits, Int.reducePow, Int.reduceLT, Int.reduceLE, Int.reduceEq, Int.reduceNe, Int.reduceAdd, Int.reduceSub, reduceCtorEq, eq_self, implies_true, exists_const, Option.isNone_some, Option.isNone_none, Option.isSome_some, Option.isSome_none, Option.getD_some, YG.c2, YG.c1]
        rw [storeH_0 XG.obj]
        refine ⟨by simp, rfl, ?_⟩
        generalize hG : hupd G q _ = G2
        have f2 : Fr (fun y => y = q) G G2 := hG ▸ Fr.upd (S := fun y => y = q) rfl _
        have q2 : G2 q = some (.cells #[.int .i64 b, .int .i64 b2, .slice oa (rrows (joinP l l2)).length oc] 59) := by rw [← hG, hupd_same]; rfl
        clear hG
        simp (disch := omega) only [dm_t, wZ, ↓reduceIte, Nat.reduceEqDiff, Nat.reduceAdd, Nat.reduceSub, Nat.reduceMul, Nat.reduceLeDiff, Nat.reduceLT, Nat.reduceMod, Nat.reduceDiv, Int.reduceToNat, Nat.min_eq_left, IntKind.bits, Int.reducePow, Int.reduceLT, Int.reduceLE, Int.reduceEq, Int.reduceNe, Int.reduceAdd, Int.reduceSub, reduceCtorEq, eq_self, implies_true, exists_const, Option.isNone_some, Option.isNone_none, Option.isSome_some, Option.isSome_none, Option.getD_some]
        rw [storeH_0 q2]
        refine ⟨by simp, rfl, ?_⟩
        generalize hG : hupd G2 q _ = G3
        have f3 : Fr (fun y => y = q) G2 G3 := hG ▸ Fr.upd (S := fun y => y = q) rfl _
        have q3 : G3 q = some (.cells #[.int .i64 b, .int .i64 e2, .slice oa (rrows (joinP l l2)).length oc] 59) := by rw [← hG, hupd_same]; rfl
        clear hG
        simp (disch := omega) only [dm_t, wZ, ↓reduceIte, Nat.reduceEqDiff, Nat.reduceAdd, Nat.reduceSub, Nat.reduceMul, Nat.reduceLeDiff, Nat.reduceLT, Nat.reduceMod, Nat.reduceDiv, Int.reduceToNat, Nat.min_eq_left, IntKind.bits, Int.reducePow, Int.reduceLT, Int.reduceLE, Int.reduceEq, Int.reduceNe, Int.reduceAdd, Int.reduceSub, reduceCtorEq, eq_self, implies_true, exists_const, Option.isNone_some, Option.isNone_none, Option.isSome_some, Option.isSome_none, Option.getD_some]
        have f := f2.trans f3
        exact ⟨_, ⟨q3, SlK.fr (OwK.sl ho fun y hy hs => hS y hs hy) f fun y hy => hy ▸ hSq, by omega⟩, (E.mono fun _ h => h.elim).trans f⟩
  · have hjE : joinE l e b2 l2 = 4 := by rw [joinE, if_pos hb]
    rw [hjE]
    simp (disch := omega) only [dm_t, wZ, ↓reduceIte, Nat.reduceEqDiff, Nat.reduceAdd, Nat.reduceSub, Nat.reduceMul, Nat.reduceLeDiff, Nat.reduceLT, Nat.reduceMod, Nat.reduceDiv, Int.reduceToNat, Nat.min_eq_left, IntKind.bits, Int.reducePow, Int.reduceLT, Int.reduceLE, Int.reduceEq, Int.reduceNe, Int.reduceAdd, Int.reduceSub, reduceCtorEq, eq_self, implies_true, exists_const, Option.isNone_some, Option.isNone_none, Option.isSome_some, Option.isSome_none, Option.getD_some, X.c1, Y.c0, hb]
    exact Ext.refl _
end
end Go.Proofs.Ytmjbgfflbeibnaa.ti
