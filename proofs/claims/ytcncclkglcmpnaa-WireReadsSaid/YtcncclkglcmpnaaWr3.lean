/-
  wire: lists whose strings may be written; both readers asked.
-/
import Derived.Test.YtcncclkglcmpnaaWr2
namespace Go.Proofs.Ytcncclkglcmpnaa.wr
open Go.Proofs.Ytcncclkglcmpnaa wi wl
set_option linter.unusedVariables false
set_option linter.unusedSimpArgs false

/-- An own list of own strings, each in memory of its own. -/
def LS (O : Nat → Prop) (h : H) (v : Value) (ss : List (List UInt8)) : Prop :=
  ∃ vs, O1 O h 22 v vs ∧ vs.length = ss.length ∧ (∀ (i : Nat) w x, vs[i]? = some w → ss[i]? = some x → OwB O h 5 w x) ∧ ∀ (i j : Nat) w w', i < j → vs[i]? = some w → vs[j]? = some w' → ∀ y, isAt w y → ¬ isAt w' y
/-- A block of it. -/
def inLS (h : H) (v : Value) (y : Nat) : Prop := isAt v y ∨ h y ≠ none
theorem LS.nil {O : Nat → Prop} {h : H} : LS O h (.slice none 0 0) [] := ⟨[], OwK.nil, rfl, fun i w x h => by simp at h, fun i j w w' _ h => by simp at h⟩
theorem LS.len {O : Nat → Prop} {h : H} {v : Value} {ss : List (List UInt8)} (s : LS O h v ss) : ∃ a c, v = .slice a ss.length c := by
  obtain ⟨vs, h1, h2, _⟩ := s
  rw [← h2]; exact S1.len h1.s0
theorem LS.fr {O T : Nat → Prop} {h h' : H} {v : Value} {ss : List (List UInt8)} (s : LS O h v ss) (f : Fr T h h') (hT : ∀ x, T x → ¬ O x) : LS O h' v ss := by
  obtain ⟨vs, h1, h2, h3, h4⟩ := s
  exact ⟨vs, OwK.fr h1 f fun x hx hx' => absurd hx' (hT x hx), h2, fun i w x hw hx => OwK.fr (h3 i w x hw hx) f fun x hx hx' => absurd hx' (hT x hx), h4⟩
theorem LS.push {O T : Nat → Prop} {h2 h3 : H} {v w : Value} {x : List UInt8} {ss : List (List UInt8)} {V : Nat → Value → H → Prop} (s : LS O h2 v ss) (f : Fr T h2 h3) (hT : ∀ x, T x → ¬ O x) (hO : ∀ b, h3 b = none → O b) (hw : OwB (fun y => h2 y = none) h3 5 w x) (hO2 : ∀ y o, h3 y = some o → h2 y = none → O y) (hl : ss.length ≤ 1000000000000)
    (hk : ∀ (b : Nat) v' h4, h3 b = none → LS O h4 v' (ss ++ [x]) → Fr (fun y => O y ∧ isAt v y) h3 h4 → V b v' h4) :
    ∀ b, h3 b = none → appM 22 1 24 #[.slice none 0 0] v (.slice (some ⟨b, 0, none⟩) 1 1) (hupd h3 b (.cells #[w] 22)) (V b) := by
  obtain ⟨vs, p1, p2, p3, p4⟩ := s
  have q1 := OwK.fr p1 f fun x hx hx' => absurd hx' (hT x hx)
  have q3 : ∀ (i : Nat) u x, vs[i]? = some u → ss[i]? = some x → OwB O h3 5 u x := fun i u x hu hx => OwK.fr (p3 i u x hu hx) f fun x hx hx' => absurd hx' (hT x hx)
  have hwO : OwB O h3 5 w x := hw.mono hO2
  have hwc : isCell w = true := by obtain ⟨a, c, rfl⟩ := By.len hw.s0; rfl
  refine push1 (bytes := 24) q1 hO hwc (by omega) (by omega) ?_
  intro b v' h4 hb o4 f4
  refine hk b v' h4 hb ⟨vs ++ [w], o4, by simp [p2], ?_, ?_⟩ f4
  · intro i u z hu hz
    by_cases hi : i < vs.length
    · rw [List.getElem?_append_left hi] at hu
      rw [List.getElem?_append_left (by omega)] at hz
      exact OwK.fr (q3 i u z hu hz) f4 fun x hx _ hat => OwK.unlike q1 (q3 i u z hu hz) (by decide) hx.2 hat
    · have h1 : i = vs.length := by
        have := (List.getElem?_eq_some_iff.1 hu).1
        simp at this; omega
      subst h1
      rw [List.getElem?_append_right (by omega)] at hu
      rw [List.getElem?_append_right (by omega)] at hz
      simp [p2] at hu hz
      subst hu hz
      exact OwK.fr hwO f4 fun x hx _ hat => OwK.unlike q1 hwO (by decide) hx.2 hat
  · intro i j u u' hij hu hu' y hy hy'
    have hj := (List.getElem?_eq_some_iff.1 hu').1
    have hi : i < vs.length := by simp at hj; omega
    rw [List.getElem?_append_left hi] at hu
    by_cases hjl : j < vs.length
    · rw [List.getElem?_append_left hjl] at hu'
      exact p4 i j u u' hij hu hu' y hy hy'
    · have h1 : j = vs.length := by simp at hj; omega
      subst h1
      rw [List.getElem?_append_right (by omega)] at hu'
      simp at hu'
      subst hu'
      have hx : i < ss.length := by omega
      exact OwK.there (p3 i u _ hu (List.getElem?_eq_getElem hx)) hy (OwK.own hw hy')
theorem List2_ok {h : H} {b : Nat} {s : Value} {l : List UInt8} {k : Nat} (r : Rd h b s l k) (items most : Int) (hi : 0 ≤ items) (hm : 0 ≤ most) (hi' : items ≤ 9223372036854775807) (hm' : most ≤ 9223372036854775807) :
    Ok Try.prog 43 #[.pointer (some ⟨b, 0, none⟩), .int .i64 items, .int .i64 most] h fun v h' => (match rdList l k items most with
      | .ok (ss, k') => ∃ w, v = .tuple #[w, .int .i64 0] ∧ LS (fun y => h y = none) h' w ss ∧ Rd h' b s l k'
      | .error e => v = .tuple #[.slice none 0 0, .int .i64 e] ∧ Rd h' b s l k) ∧ Fr (fun y => y = b) h h' := by
  have r0 := r
  obtain ⟨r1, r2, r3, r4⟩ := r
  obtain ⟨sa, sc, rfl⟩ := r2.len
  refine c43_ok (args := [_, _, _]) (by simp) ?_
  simp (disch := omega) only [dm_t, wA, wB, wL, wW, wY, Int.fdiv_eq_ediv_of_nonneg, Int.tdiv_eq_ediv_of_nonneg, Int.tmod_eq_emod_of_nonneg, chk_pos, decT, decF, br_pos, br_neg, wX, ↓reduceIte, Nat.reduceEqDiff, Nat.reduceAdd, Nat.reduceSub, Nat.reduceMul, Nat.reduceLeDiff, Nat.reduceLT, Nat.reduceMod, Nat.reduceDiv, Int.reduceToNat, Nat.min_eq_left, IntKind.bits, Int.reducePow, Int.reduceLT, Int.reduceLE, Int.reduceEq, Int.reduceNe, Int.reduceAdd, Int.reduceSub, and_self, reduceCtorEq, decide_eq_true_eq, decide_eq_false_iff_not, eq_self, implies_true, exists_const, Option.isNone_some, Option.isNone_none, Option.isSome_some, Option.isSome_none, Option.getD_some]
  refine (none_ok r1).k ?_
  rintro _ _ ⟨rfl, rfl⟩
  simp (disch := omega) only [dm_t, wA, wB, wL, wW, wY, Int.fdiv_eq_ediv_of_nonneg, Int.tdiv_eq_ediv_of_nonneg, Int.tmod_eq_emod_of_nonneg, chk_pos, decT, decF, br_pos, br_neg, wX, ↓reduceIte, Nat.reduceEqDiff, Nat.reduceAdd, Nat.reduceSub, Nat.reduceMul, Nat.reduceLeDiff, Nat.reduceLT, Nat.reduceMod, Nat.reduceDiv, Int.reduceToNat, Nat.min_eq_left, IntKind.bits, Int.reducePow, Int.reduceLT, Int.reduceLE, Int.reduceEq, Int.reduceNe, Int.reduceAdd, Int.reduceSub, and_self, reduceCtorEq, decide_eq_true_eq, decide_eq_false_iff_not, eq_self, implies_true, exists_const, Option.isNone_some, Option.isNone_none, Option.isSome_some, Option.isSome_none, Option.getD_some, cellAt_of r1]
  by_cases h4 : l.length < k + 4
  · refine (number_more r0 4 (by omega) h4).k ?_
    rintro _ _ ⟨rfl, rfl⟩
    simp (disch := omega) only [dm_t, wA, wB, wL, wW, wY, Int.fdiv_eq_ediv_of_nonneg, Int.tdiv_eq_ediv_of_nonneg, Int.tmod_eq_emod_of_nonneg, chk_pos, decT, decF, br_pos, br_neg, wX, ↓reduceIte, Nat.reduceEqDiff, Nat.reduceAdd, Nat.reduceSub, Nat.reduceMul, Nat.reduceLeDiff, Nat.reduceLT, Nat.reduceMod, Nat.reduceDiv, Int.reduceToNat, Nat.min_eq_left, IntKind.bits, Int.reducePow, Int.reduceLT, Int.reduceLE, Int.reduceEq, Int.reduceNe, Int.reduceAdd, Int.reduceSub, and_self, reduceCtorEq, decide_eq_true_eq, decide_eq_false_iff_not, eq_self, implies_true, exists_const, Option.isNone_some, Option.isNone_none, Option.isSome_some, Option.isSome_none, Option.getD_some]
    refine vc_loop3 (fun _ ve _ h' => ve = .int .i64 111 ∧ h' = h) (fun _ _ _ _ => 0) ?_ ?_
    · simp (disch := omega) only [dm_t, wA, wB, wL, wW, wY, Int.fdiv_eq_ediv_of_nonneg, Int.tdiv_eq_ediv_of_nonneg, Int.tmod_eq_emod_of_nonneg, chk_pos, decT, decF, br_pos, br_neg, wX, ↓reduceIte, Nat.reduceEqDiff, Nat.reduceAdd, Nat.reduceSub, Nat.reduceMul, Nat.reduceLeDiff, Nat.reduceLT, Nat.reduceMod, Nat.reduceDiv, Int.reduceToNat, Nat.min_eq_left, IntKind.bits, Int.reducePow, Int.reduceLT, Int.reduceLE, Int.reduceEq, Int.reduceNe, Int.reduceAdd, Int.reduceSub, and_self, reduceCtorEq, decide_eq_true_eq, decide_eq_false_iff_not, eq_self, implies_true, exists_const, Option.isNone_some, Option.isNone_none, Option.isSome_some, Option.isSome_none, Option.getD_some]
    rintro vn _ vl _ ⟨rfl, rfl⟩
    simp (disch := omega) only [dm_t, wA, wB, wL, wW, wY, Int.fdiv_eq_ediv_of_nonneg, Int.tdiv_eq_ediv_of_nonneg, Int.tmod_eq_emod_of_nonneg, chk_pos, decT, decF, br_pos, br_neg, wX, ↓reduceIte, Nat.reduceEqDiff, Nat.reduceAdd, Nat.reduceSub, Nat.reduceMul, Nat.reduceLeDiff, Nat.reduceLT, Nat.reduceMod, Nat.reduceDiv, Int.reduceToNat, Nat.min_eq_left, IntKind.bits, Int.reducePow, Int.reduceLT, Int.reduceLE, Int.reduceEq, Int.reduceNe, Int.reduceAdd, Int.reduceSub, and_self, reduceCtorEq, decide_eq_true_eq, decide_eq_false_iff_not, eq_self, implies_true, exists_const, Option.isNone_some, Option.isNone_none, Option.isSome_some, Option.isSome_none, Option.getD_some, cellAt_of r1, storeH_0 r1]
    rw [rdList, if_pos h4]
    exact ⟨⟨rfl, Rd.move r1 r2 r3 r4 _ rfl⟩, Fr.upd (S := fun y => y = b) rfl _⟩
  refine (number_ok r0 4 (by omega) (by omega)).k ?_
  rintro _ h1 ⟨rfl, q0, f1⟩
  have hx := num_lt ((l.drop k).take 4)
  rw [show ((l.drop k).take 4).length = 4 by rw [List.length_take, List.length_drop]; omega] at hx
  rw [rdList, if_neg h4]
  generalize num ((l.drop k).take 4) = n at hx ⊢
  by_cases h5 : items < n
  · obtain ⟨q1, q2, q3, q4⟩ := q0
    simp (disch := omega) only [dm_t, wA, wB, wL, wW, wY, Int.fdiv_eq_ediv_of_nonneg, Int.tdiv_eq_ediv_of_nonneg, Int.tmod_eq_emod_of_nonneg, chk_pos, decT, decF, br_pos, br_neg, wX, ↓reduceIte, Nat.reduceEqDiff, Nat.reduceAdd, Nat.reduceSub, Nat.reduceMul, Nat.reduceLeDiff, Nat.reduceLT, Nat.reduceMod, Nat.reduceDiv, Int.reduceToNat, Nat.min_eq_left, IntKind.bits, Int.reducePow, Int.reduceLT, Int.reduceLE, Int.reduceEq, Int.reduceNe, Int.reduceAdd, Int.reduceSub, and_self, reduceCtorEq, decide_eq_true_eq, decide_eq_false_iff_not, eq_self, implies_true, exists_const, Option.isNone_some, Option.isNone_none, Option.isSome_some, Option.isSome_none, Option.getD_some]
    refine vc_loop3 (fun _ ve _ h' => ve = .int .i64 110 ∧ h' = h1) (fun _ _ _ _ => 0) ?_ ?_
    · simp (disch := omega) only [dm_t, wA, wB, wL, wW, wY, Int.fdiv_eq_ediv_of_nonneg, Int.tdiv_eq_ediv_of_nonneg, Int.tmod_eq_emod_of_nonneg, chk_pos, decT, decF, br_pos, br_neg, wX, ↓reduceIte, Nat.reduceEqDiff, Nat.reduceAdd, Nat.reduceSub, Nat.reduceMul, Nat.reduceLeDiff, Nat.reduceLT, Nat.reduceMod, Nat.reduceDiv, Int.reduceToNat, Nat.min_eq_left, IntKind.bits, Int.reducePow, Int.reduceLT, Int.reduceLE, Int.reduceEq, Int.reduceNe, Int.reduceAdd, Int.reduceSub, and_self, reduceCtorEq, decide_eq_true_eq, decide_eq_false_iff_not, eq_self, implies_true, exists_const, Option.isNone_some, Option.isNone_none, Option.isSome_some, Option.isSome_none, Option.getD_some]
    rintro vn _ vl _ ⟨rfl, rfl⟩
    simp (disch := omega) only [dm_t, wA, wB, wL, wW, wY, Int.fdiv_eq_ediv_of_nonneg, Int.tdiv_eq_ediv_of_nonneg, Int.tmod_eq_emod_of_nonneg, chk_pos, decT, decF, br_pos, br_neg, wX, ↓reduceIte, Nat.reduceEqDiff, Nat.reduceAdd, Nat.reduceSub, Nat.reduceMul, Nat.reduceLeDiff, Nat.reduceLT, Nat.reduceMod, Nat.reduceDiv, Int.reduceToNat, Nat.min_eq_left, IntKind.bits, Int.reducePow, Int.reduceLT, Int.reduceLE, Int.reduceEq, Int.reduceNe, Int.reduceAdd, Int.reduceSub, and_self, reduceCtorEq, decide_eq_true_eq, decide_eq_false_iff_not, eq_self, implies_true, exists_const, Option.isNone_some, Option.isNone_none, Option.isSome_some, Option.isSome_none, Option.getD_some, cellAt_of q1, storeH_0 q1]
    rw [if_pos h5]
    exact ⟨⟨rfl, Rd.move q1 q2 r3 q4 _ rfl⟩, f1.trans (Fr.upd (S := fun y => y = b) rfl _)⟩
  rw [if_neg h5]
  have hOb : ∀ y, y = b → h y ≠ none := by rintro y rfl; rw [r1]; simp
  simp (disch := omega) only [dm_t, wA, wB, wL, wW, wY, Int.fdiv_eq_ediv_of_nonneg, Int.tdiv_eq_ediv_of_nonneg, Int.tmod_eq_emod_of_nonneg, chk_pos, decT, decF, br_pos, br_neg, wX, ↓reduceIte, Nat.reduceEqDiff, Nat.reduceAdd, Nat.reduceSub, Nat.reduceMul, Nat.reduceLeDiff, Nat.reduceLT, Nat.reduceMod, Nat.reduceDiv, Int.reduceToNat, Nat.min_eq_left, IntKind.bits, Int.reducePow, Int.reduceLT, Int.reduceLE, Int.reduceEq, Int.reduceNe, Int.reduceAdd, Int.reduceSub, and_self, reduceCtorEq, decide_eq_true_eq, decide_eq_false_iff_not, eq_self, implies_true, exists_const, Option.isNone_some, Option.isNone_none, Option.isSome_some, Option.isSome_none, Option.getD_some]
  refine vc_loop3 (fun vn ve vl h' => ∃ c : Nat, vn = .int .u64 c ∧ Fr (fun y => y = b) h h' ∧
    ((ve = .int .i64 0 ∧ ∃ kk ss, c + ss.length = n ∧ Rd h' b (.slice sa l.length sc) l kk ∧ LS (fun y => h y = none) h' vl ss ∧
      rdStrs l most n (k + 4) = (match rdStrs l most c kk with | .ok (r, k'') => .ok (ss ++ r, k'') | .error e => .error e)) ∨
    (∃ e : Int, (e = 110 ∨ e = 111) ∧ ve = .int .i64 e ∧ rdStrs l most n (k + 4) = .error e ∧ ∃ kk, Rd h' b (.slice sa l.length sc) l kk))) (fun vn _ _ _ => m1 vn) ?_ ?_
  · simp (disch := omega) only [dm_t, wA, wB, wL, wW, wY, Int.fdiv_eq_ediv_of_nonneg, Int.tdiv_eq_ediv_of_nonneg, Int.tmod_eq_emod_of_nonneg, chk_pos, decT, decF, br_pos, br_neg, wX, ↓reduceIte, Nat.reduceEqDiff, Nat.reduceAdd, Nat.reduceSub, Nat.reduceMul, Nat.reduceLeDiff, Nat.reduceLT, Nat.reduceMod, Nat.reduceDiv, Int.reduceToNat, Nat.min_eq_left, IntKind.bits, Int.reducePow, Int.reduceLT, Int.reduceLE, Int.reduceEq, Int.reduceNe, Int.reduceAdd, Int.reduceSub, and_self, reduceCtorEq, decide_eq_true_eq, decide_eq_false_iff_not, eq_self, implies_true, exists_const, Option.isNone_some, Option.isNone_none, Option.isSome_some, Option.isSome_none, Option.getD_some]
    refine ⟨n, rfl, f1, .inl ⟨k + 4, [], by simp, q0, LS.nil, ?_⟩⟩
    cases rdStrs l most n (k + 4) <;> rfl
  have fin : ∀ (h2 : H) (e : Int) (kk : Nat) (K : H → Prop), Rd h2 b (.slice sa l.length sc) l kk → Fr (fun y => y = b) h h2 → (∀ h', Rd h' b (.slice sa l.length sc) l k → Fr (fun y => y = b) h h' → K h') → storeH h2 ⟨b, 1, none⟩ [.int .i64 (k : Int)] K := by
    intro h2 e kk K q f hK
    obtain ⟨q1, q2, q3, q4⟩ := q
    rw [storeH_0 q1]
    exact ⟨by simp, rfl, hK _ (Rd.move q1 q2 r3 q4 _ rfl) (f.trans (Fr.upd (S := fun y => y = b) rfl _))⟩
  rintro _ ve vl h2 ⟨c, rfl, f2, ⟨rfl, kk, ss, hc, q2, o2, e2⟩ | ⟨e, he, rfl, e2, kk, q2⟩⟩
  · by_cases hc0 : 0 < c
    · obtain ⟨d, rfl⟩ : ∃ d, c = d + 1 := ⟨c - 1, by omega⟩
      simp (disch := omega) only [dm_t, wA, wB, wL, wW, wY, Int.fdiv_eq_ediv_of_nonneg, Int.tdiv_eq_ediv_of_nonneg, Int.tmod_eq_emod_of_nonneg, chk_pos, decT, decF, br_pos, br_neg, wX, ↓reduceIte, Nat.reduceEqDiff, Nat.reduceAdd, Nat.reduceSub, Nat.reduceMul, Nat.reduceLeDiff, Nat.reduceLT, Nat.reduceMod, Nat.reduceDiv, Int.reduceToNat, Nat.min_eq_left, IntKind.bits, Int.reducePow, Int.reduceLT, Int.reduceLE, Int.reduceEq, Int.reduceNe, Int.reduceAdd, Int.reduceSub, and_self, reduceCtorEq, decide_eq_true_eq, decide_eq_false_iff_not, eq_self, implies_true, exists_const, Option.isNone_some, Option.isNone_none, Option.isSome_some, Option.isSome_none, Option.getD_some]
      refine (String_ok q2 most hm hm').k ?_
      rintro _ h3 ⟨hm3, f3⟩
      have f23 := f2.trans f3
      rw [rdStrs] at e2
      cases hr : rdStr l kk most with
      | error e =>
        rw [hr] at hm3 e2
        obtain ⟨rfl, q3⟩ := hm3
        have he : e = 110 ∨ e = 111 := by
          unfold rdStr at hr
          split at hr
          · simp only [Except.error.injEq] at hr; exact .inr hr.symm
          split at hr
          · simp only [Except.error.injEq] at hr; exact .inl hr.symm
          split at hr
          · simp only [Except.error.injEq] at hr; exact .inr hr.symm
          · cases hr
        have hO : ∀ y, h3 y = none → h y = none := fun y hy => f23.back hy fun z hz => by subst hz; exact q3.there
        simp (disch := omega) only [dm_t, wA, wB, wL, wW, wY, Int.fdiv_eq_ediv_of_nonneg, Int.tdiv_eq_ediv_of_nonneg, Int.tmod_eq_emod_of_nonneg, chk_pos, decT, decF, br_pos, br_neg, wX, ↓reduceIte, Nat.reduceEqDiff, Nat.reduceAdd, Nat.reduceSub, Nat.reduceMul, Nat.reduceLeDiff, Nat.reduceLT, Nat.reduceMod, Nat.reduceDiv, Int.reduceToNat, Nat.min_eq_left, IntKind.bits, Int.reducePow, Int.reduceLT, Int.reduceLE, Int.reduceEq, Int.reduceNe, Int.reduceAdd, Int.reduceSub, and_self, reduceCtorEq, decide_eq_true_eq, decide_eq_false_iff_not, eq_self, implies_true, exists_const, Option.isNone_some, Option.isNone_none, Option.isSome_some, Option.isSome_none, Option.getD_some]
        refine LS.push o2 f3 (fun y hy hO => hOb y hy hO) hO (x := []) (show OwB (fun y => h2 y = none) h3 5 (.slice none 0 0) [] from OwK.nil) (fun y o _ hy => f2.back hy fun z hz => by subst hz; exact q2.there) (by omega) ?_
        intro _ vl' h4 _ o4 f4
        have f5 := f23.step f4
        have q4 := r0.step q3 f5 f4 fun hy => hOb b rfl hy.1
        simp (disch := omega) only [dm_t, wA, wB, wL, wW, wY, Int.fdiv_eq_ediv_of_nonneg, Int.tdiv_eq_ediv_of_nonneg, Int.tmod_eq_emod_of_nonneg, chk_pos, decT, decF, br_pos, br_neg, wX, ↓reduceIte, Nat.reduceEqDiff, Nat.reduceAdd, Nat.reduceSub, Nat.reduceMul, Nat.reduceLeDiff, Nat.reduceLT, Nat.reduceMod, Nat.reduceDiv, Int.reduceToNat, Nat.min_eq_left, IntKind.bits, Int.reducePow, Int.reduceLT, Int.reduceLE, Int.reduceEq, Int.reduceNe, Int.reduceAdd, Int.reduceSub, and_self, reduceCtorEq, decide_eq_true_eq, decide_eq_false_iff_not, eq_self, implies_true, exists_const, Option.isNone_some, Option.isNone_none, Option.isSome_some, Option.isSome_none, Option.getD_some]
        exact ⟨⟨d, by simp, f5, .inr ⟨e, he, rfl, e2, kk, q4⟩⟩, by simp [m1]⟩
      | ok p =>
        obtain ⟨s, k'⟩ := p
        rw [hr] at hm3 e2
        obtain ⟨w, rfl, ho, q3⟩ := hm3
        obtain ⟨wa, wc, rfl⟩ := By.len ho.s0
        have hO : ∀ y, h3 y = none → h y = none := fun y hy => f23.back hy fun z hz => by subst hz; exact q3.there
        simp (disch := omega) only [dm_t, wA, wB, wL, wW, wY, Int.fdiv_eq_ediv_of_nonneg, Int.tdiv_eq_ediv_of_nonneg, Int.tmod_eq_emod_of_nonneg, chk_pos, decT, decF, br_pos, br_neg, wX, ↓reduceIte, Nat.reduceEqDiff, Nat.reduceAdd, Nat.reduceSub, Nat.reduceMul, Nat.reduceLeDiff, Nat.reduceLT, Nat.reduceMod, Nat.reduceDiv, Int.reduceToNat, Nat.min_eq_left, IntKind.bits, Int.reducePow, Int.reduceLT, Int.reduceLE, Int.reduceEq, Int.reduceNe, Int.reduceAdd, Int.reduceSub, and_self, reduceCtorEq, decide_eq_true_eq, decide_eq_false_iff_not, eq_self, implies_true, exists_const, Option.isNone_some, Option.isNone_none, Option.isSome_some, Option.isSome_none, Option.getD_some]
        refine LS.push o2 f3 (fun y hy hO => hOb y hy hO) hO ho (fun y o _ hy => f2.back hy fun z hz => by subst hz; exact q2.there) (by omega) ?_
        intro _ vl' h4 _ o4 f4
        have f5 := f23.step f4
        have q4 := r0.step q3 f5 f4 fun hy => hOb b rfl hy.1
        simp (disch := omega) only [dm_t, wA, wB, wL, wW, wY, Int.fdiv_eq_ediv_of_nonneg, Int.tdiv_eq_ediv_of_nonneg, Int.tmod_eq_emod_of_nonneg, chk_pos, decT, decF, br_pos, br_neg, wX, ↓reduceIte, Nat.reduceEqDiff, Nat.reduceAdd, Nat.reduceSub, Nat.reduceMul, Nat.reduceLeDiff, Nat.reduceLT, Nat.reduceMod, Nat.reduceDiv, Int.reduceToNat, Nat.min_eq_left, IntKind.bits, Int.reducePow, Int.reduceLT, Int.reduceLE, Int.reduceEq, Int.reduceNe, Int.reduceAdd, Int.reduceSub, and_self, reduceCtorEq, decide_eq_true_eq, decide_eq_false_iff_not, eq_self, implies_true, exists_const, Option.isNone_some, Option.isNone_none, Option.isSome_some, Option.isSome_none, Option.getD_some]
        refine ⟨⟨d, by simp, f5, .inl ⟨k', ss ++ [s], by simp; omega, q4, o4, ?_⟩⟩, by simp [m1]⟩
        rw [e2]
        simp only []
        cases rdStrs l most d k' with
        | error e => rfl
        | ok p => simp
    · obtain rfl : c = 0 := by omega
      simp (disch := omega) only [dm_t, wA, wB, wL, wW, wY, Int.fdiv_eq_ediv_of_nonneg, Int.tdiv_eq_ediv_of_nonneg, Int.tmod_eq_emod_of_nonneg, chk_pos, decT, decF, br_pos, br_neg, wX, ↓reduceIte, Nat.reduceEqDiff, Nat.reduceAdd, Nat.reduceSub, Nat.reduceMul, Nat.reduceLeDiff, Nat.reduceLT, Nat.reduceMod, Nat.reduceDiv, Int.reduceToNat, Nat.min_eq_left, IntKind.bits, Int.reducePow, Int.reduceLT, Int.reduceLE, Int.reduceEq, Int.reduceNe, Int.reduceAdd, Int.reduceSub, and_self, reduceCtorEq, decide_eq_true_eq, decide_eq_false_iff_not, eq_self, implies_true, exists_const, Option.isNone_some, Option.isNone_none, Option.isSome_some, Option.isSome_none, Option.getD_some]
      rw [e2, rdStrs]
      simp only [List.append_nil]
      exact ⟨⟨vl, rfl, o2, q2⟩, f2⟩
  · rcases he with rfl | rfl
    · simp (disch := omega) only [dm_t, wA, wB, wL, wW, wY, Int.fdiv_eq_ediv_of_nonneg, Int.tdiv_eq_ediv_of_nonneg, Int.tmod_eq_emod_of_nonneg, chk_pos, decT, decF, br_pos, br_neg, wX, ↓reduceIte, Nat.reduceEqDiff, Nat.reduceAdd, Nat.reduceSub, Nat.reduceMul, Nat.reduceLeDiff, Nat.reduceLT, Nat.reduceMod, Nat.reduceDiv, Int.reduceToNat, Nat.min_eq_left, IntKind.bits, Int.reducePow, Int.reduceLT, Int.reduceLE, Int.reduceEq, Int.reduceNe, Int.reduceAdd, Int.reduceSub, and_self, reduceCtorEq, decide_eq_true_eq, decide_eq_false_iff_not, eq_self, implies_true, exists_const, Option.isNone_some, Option.isNone_none, Option.isSome_some, Option.isSome_none, Option.getD_some]
      refine fin h2 110 kk _ q2 f2 ?_
      intro h3 q3 f3
      simp (disch := omega) only [dm_t, wA, wB, wL, wW, wY, Int.fdiv_eq_ediv_of_nonneg, Int.tdiv_eq_ediv_of_nonneg, Int.tmod_eq_emod_of_nonneg, chk_pos, decT, decF, br_pos, br_neg, wX, ↓reduceIte, Nat.reduceEqDiff, Nat.reduceAdd, Nat.reduceSub, Nat.reduceMul, Nat.reduceLeDiff, Nat.reduceLT, Nat.reduceMod, Nat.reduceDiv, Int.reduceToNat, Nat.min_eq_left, IntKind.bits, Int.reducePow, Int.reduceLT, Int.reduceLE, Int.reduceEq, Int.reduceNe, Int.reduceAdd, Int.reduceSub, and_self, reduceCtorEq, decide_eq_true_eq, decide_eq_false_iff_not, eq_self, implies_true, exists_const, Option.isNone_some, Option.isNone_none, Option.isSome_some, Option.isSome_none, Option.getD_some]
      rw [e2]
      exact ⟨⟨rfl, q3⟩, f3⟩
    · simp (disch := omega) only [dm_t, wA, wB, wL, wW, wY, Int.fdiv_eq_ediv_of_nonneg, Int.tdiv_eq_ediv_of_nonneg, Int.tmod_eq_emod_of_nonneg, chk_pos, decT, decF, br_pos, br_neg, wX, ↓reduceIte, Nat.reduceEqDiff, Nat.reduceAdd, Nat.reduceSub, Nat.reduceMul, Nat.reduceLeDiff, Nat.reduceLT, Nat.reduceMod, Nat.reduceDiv, Int.reduceToNat, Nat.min_eq_left, IntKind.bits, Int.reducePow, Int.reduceLT, Int.reduceLE, Int.reduceEq, Int.reduceNe, Int.reduceAdd, Int.reduceSub, and_self, reduceCtorEq, decide_eq_true_eq, decide_eq_false_iff_not, eq_self, implies_true, exists_const, Option.isNone_some, Option.isNone_none, Option.isSome_some, Option.isSome_none, Option.getD_some]
      refine fin h2 111 kk _ q2 f2 ?_
      intro h3 q3 f3
      simp (disch := omega) only [dm_t, wA, wB, wL, wW, wY, Int.fdiv_eq_ediv_of_nonneg, Int.tdiv_eq_ediv_of_nonneg, Int.tmod_eq_emod_of_nonneg, chk_pos, decT, decF, br_pos, br_neg, wX, ↓reduceIte, Nat.reduceEqDiff, Nat.reduceAdd, Nat.reduceSub, Nat.reduceMul, Nat.reduceLeDiff, Nat.reduceLT, Nat.reduceMod, Nat.reduceDiv, Int.reduceToNat, Nat.min_eq_left, IntKind.bits, Int.reducePow, Int.reduceLT, Int.reduceLE, Int.reduceEq, Int.reduceNe, Int.reduceAdd, Int.reduceSub, and_self, reduceCtorEq, decide_eq_true_eq, decide_eq_false_iff_not, eq_self, implies_true, exists_const, Option.isNone_some, Option.isNone_none, Option.isSome_some, Option.isSome_none, Option.getD_some]
      rw [e2]
      exact ⟨⟨rfl, q3⟩, f3⟩
end Go.Proofs.Ytcncclkglcmpnaa.wr
