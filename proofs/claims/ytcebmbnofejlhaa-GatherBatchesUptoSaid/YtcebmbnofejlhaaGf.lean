/-
  gather: lists lent, each in memory of its own.
-/
import Derived.Test.YtcebmbnofejlhaaG9
import Derived.Test.YtcebmbnofejlhaaK22
namespace Go.Proofs.Ytcebmbnofejlhaa.gf
open Go.Proofs.Ytcebmbnofejlhaa rr ga
set_option linter.unusedVariables false
set_option linter.unusedSimpArgs false
theorem LR.impH {O O' S S' : Nat → Prop} {h : H} {v : Value} {l : List rc.D} (s : LR O S h v l) (hS : ∀ y, S' y → S y) (hO : ∀ x o, h x = some o → O x → O' x) : LR O' S' h v l := by
  obtain ⟨a, c, h1, h2, h3⟩ := s
  exact ⟨a, c, h1, h2, h3.imp hS hO fun r hr => hr.mono hO⟩
theorem LR.wl {O S : Nat → Prop} {h : H} {v : Value} {l : List rc.D} (s : LR O S h v l) : WL O h v l.length := by
  obtain ⟨a, c, rfl, h2, rows, h3, h4, h5, h6⟩ := s
  have hl : rows.length = l.length + 1 := by simpa using h4
  exact ⟨rows.take l.length, OwK.pre h3 (by omega) hl.symm, by rw [List.length_take]; omega, fun r hr => h6 r (List.mem_of_mem_take hr)⟩
theorem WL.fr {O T : Nat → Prop} {h h' : H} {v : Value} {n : Nat} (s : WL O h v n) (f : Fr T h h') (hT : ∀ y, T y → ¬ O y) : WL O h' v n := by
  obtain ⟨rows, h1, h2, h3⟩ := s
  exact ⟨rows, OwK.fr h1 f fun y hy ho _ => hT y hy ho, h2, fun r hr => wrow_fr (h3 r hr) f hT⟩
/-- Lent lists, the memory of each apart from the others'. -/
structure LM (O : Nat → Nat → Prop) (h0 h : H) (v : Value) (vs : List Value) (ls : List rcs.D) (n : Nat) : Prop where
  par : O1 (fun y => h0 y = none ∧ ∀ j, j < n → ¬ O j y) h 32 v vs
  len : vs.length = n
  lst : ∀ (i : Nat) w l, vs[i]? = some w → ls[i]? = some l → LR (O i) (fun y => h0 y ≠ none) h w l
  dis : ∀ i j y, i < n → j < n → i ≠ j → O i y → ¬ O j y
  new : ∀ i y, i < n → O i y → h0 y = none ∧ h y ≠ none
theorem LM.ext {O : Nat → Nat → Prop} {h0 h h' : H} {v : Value} {vs : List Value} {ls : List rcs.D} {n : Nat} (s : LM O h0 h v vs ls n) (e : Ext h h') : LM O h0 h' v vs ls n :=
  ⟨OwK.ext s.par e, s.len, fun i w l hw hl => (s.lst i w l hw hl).ext e, s.dis, fun i y hi hy => ⟨(s.new i y hi hy).1, fun hn => (s.new i y hi hy).2 (e.bk hn)⟩⟩
theorem LM.ll {O : Nat → Nat → Prop} {h0 h : H} {v : Value} {vs : List Value} {ls : List rcs.D} (s : LM O h0 h v vs ls ls.length) : LL (fun y => h0 y = none) (fun y => h0 y ≠ none) h v ls :=
  ⟨vs, s.par.s0, s.len, fun i w l hw hl => (s.lst i w l hw hl).imp (fun _ h => h) fun y hy => (s.new i y (by
    have := (List.getElem?_eq_some_iff.1 hl).1
    exact this) hy).1⟩
theorem lent2_ok {S : Nat → Prop} {h : H} {s : Value} {ls : List rcs.D} (hs : RepL S rcs h s ls) (hl : ls.length ≤ 1000000) (hx : ∀ x ∈ ls, x.length ≤ 999999) (hk : ∀ l ∈ ls, ∀ x ∈ l, x.2.1.length ≤ 140737488355328 ∧ x.2.2.length ≤ 140737488355328) :
    Ok Try.prog 10 #[s] h fun v h' => (∃ O vs, LM O h h' v vs ls ls.length) ∧ Ext h h' := by
  obtain ⟨sa, sc, rfl⟩ := hs.len
  refine c10_ok (args := [_]) (by simp) ?_
  simp (disch := omega) only [dm_t, wA, wB, wL, wW, wY, Int.fdiv_eq_ediv_of_nonneg, Int.tdiv_eq_ediv_of_nonneg, Int.tmod_eq_emod_of_nonneg, chk_pos, decT, decF, br_pos, br_neg, wX, ↓reduceIte, Nat.reduceEqDiff, Nat.reduceAdd, Nat.reduceSub, Nat.reduceMul, Nat.reduceLeDiff, Nat.reduceLT, Nat.reduceMod, Nat.reduceDiv, Int.reduceToNat, Nat.min_eq_left, IntKind.bits, Int.reducePow, Int.reduceLT, Int.reduceLE, Int.reduceEq, Int.reduceNe, Int.reduceAdd, Int.reduceSub, and_self, reduceCtorEq, decide_eq_true_eq, decide_eq_false_iff_not, eq_self, implies_true, exists_const, Option.isNone_some, Option.isNone_none, Option.isSome_some, Option.isSome_none, Option.getD_some]
  refine vc_loop2 (fun vo vi h' => ∃ (i : Nat) (O : Nat → Nat → Prop) (vs : List Value), vi = .int .i64 (i : Int) ∧ i ≤ ls.length ∧ LM O h h' vo vs ls i ∧ Ext h h') (fun _ vi _ => ls.length - m1 vi) ?_ ?_
  · simp (disch := omega) only [dm_t, wA, wB, wL, wW, wY, Int.fdiv_eq_ediv_of_nonneg, Int.tdiv_eq_ediv_of_nonneg, Int.tmod_eq_emod_of_nonneg, chk_pos, decT, decF, br_pos, br_neg, wX, ↓reduceIte, Nat.reduceEqDiff, Nat.reduceAdd, Nat.reduceSub, Nat.reduceMul, Nat.reduceLeDiff, Nat.reduceLT, Nat.reduceMod, Nat.reduceDiv, Int.reduceToNat, Nat.min_eq_left, IntKind.bits, Int.reducePow, Int.reduceLT, Int.reduceLE, Int.reduceEq, Int.reduceNe, Int.reduceAdd, Int.reduceSub, and_self, reduceCtorEq, decide_eq_true_eq, decide_eq_false_iff_not, eq_self, implies_true, exists_const, Option.isNone_some, Option.isNone_none, Option.isSome_some, Option.isSome_none, Option.getD_some]
    exact ⟨0, fun _ _ => False, [], rfl, by omega, ⟨OwK.nil, rfl, fun j w l hw => by simp at hw, fun _ _ _ h => by omega, fun _ _ h => by omega⟩, Ext.refl h⟩
  rintro vo _ g ⟨i, O, vs, rfl, hi, M, e1⟩
  have hvl := M.len
  have ho := M.par
  by_cases hil : i < ls.length
  · have hxi := hx _ (List.getElem_mem hil)
    obtain ⟨pb, po, w, gi, g1, g2⟩ := (hs.fresh.ext e1).load1 hil .i64 (by rfl)
    have g2' : RepL (fun y => h y = none) rc g w ls[i] := g2
    obtain ⟨wa, wc, rfl⟩ := g2'.len
    simp (disch := omega) only [dm_t, wA, wB, wL, wW, wY, Int.fdiv_eq_ediv_of_nonneg, Int.tdiv_eq_ediv_of_nonneg, Int.tmod_eq_emod_of_nonneg, chk_pos, decT, decF, br_pos, br_neg, wX, ↓reduceIte, Nat.reduceEqDiff, Nat.reduceAdd, Nat.reduceSub, Nat.reduceMul, Nat.reduceLeDiff, Nat.reduceLT, Nat.reduceMod, Nat.reduceDiv, Int.reduceToNat, Nat.min_eq_left, IntKind.bits, Int.reducePow, Int.reduceLT, Int.reduceLE, Int.reduceEq, Int.reduceNe, Int.reduceAdd, Int.reduceSub, and_self, reduceCtorEq, decide_eq_true_eq, decide_eq_false_iff_not, eq_self, implies_true, exists_const, Option.isNone_some, Option.isNone_none, Option.isSome_some, Option.isSome_none, Option.getD_some, gi, g1]
    refine (Copy_ok g2' (by omega) (hk _ (List.getElem_mem hil))).k ?_
    rintro m h2 ⟨o2, e2⟩
    obtain ⟨ma, mc, rfl⟩ := o2.l.len
    simp (disch := omega) only [dm_t, wA, wB, wL, wW, wY, Int.fdiv_eq_ediv_of_nonneg, Int.tdiv_eq_ediv_of_nonneg, Int.tmod_eq_emod_of_nonneg, chk_pos, decT, decF, br_pos, br_neg, wX, ↓reduceIte, Nat.reduceEqDiff, Nat.reduceAdd, Nat.reduceSub, Nat.reduceMul, Nat.reduceLeDiff, Nat.reduceLT, Nat.reduceMod, Nat.reduceDiv, Int.reduceToNat, Nat.min_eq_left, IntKind.bits, Int.reducePow, Int.reduceLT, Int.reduceLE, Int.reduceEq, Int.reduceNe, Int.reduceAdd, Int.reduceSub, and_self, reduceCtorEq, decide_eq_true_eq, decide_eq_false_iff_not, eq_self, implies_true, exists_const, Option.isNone_some, Option.isNone_none, Option.isSome_some, Option.isSome_none, Option.getD_some]
    refine OwQ.push (x := z77) 3 sz_rc o2 (fun y hy => e2.bk hy) (rep_rc.2 ⟨_, _, rfl, by decide, By.nil, By.nil⟩) (by rfl) (by omega) (by omega) ⟨_, _, _, [], [], rfl, OwK.nil, OwK.nil, by simp, by simp⟩ (fun h' rows so f r hr => hr.fr (by decide) so f fun x hx => hx.2) ?_
    intro _ m' h3 _ o3 f3
    have e3 : Ext g h3 := Ext.step e2 f3
    obtain ⟨m'a, m'c, rfl⟩ := o3.l.len
    have hcap := RepL.cap o3.l.rep
    simp only [List.length_append, List.length_cons, List.length_nil, Nat.zero_add] at o3 hcap
    simp (disch := omega) only [dm_t, wA, wB, wL, wW, wY, Int.fdiv_eq_ediv_of_nonneg, Int.tdiv_eq_ediv_of_nonneg, Int.tmod_eq_emod_of_nonneg, chk_pos, decT, decF, br_pos, br_neg, wX, ↓reduceIte, Nat.reduceEqDiff, Nat.reduceAdd, Nat.reduceSub, Nat.reduceMul, Nat.reduceLeDiff, Nat.reduceLT, Nat.reduceMod, Nat.reduceDiv, Int.reduceToNat, Nat.min_eq_left, IntKind.bits, Int.reducePow, Int.reduceLT, Int.reduceLE, Int.reduceEq, Int.reduceNe, Int.reduceAdd, Int.reduceSub, and_self, reduceCtorEq, decide_eq_true_eq, decide_eq_false_iff_not, eq_self, implies_true, exists_const, Option.isNone_some, Option.isNone_none, Option.isSome_some, Option.isSome_none, Option.getD_some, gi, cellAt_ext e3 g1]
    refine slc_pre (ls[i]).length rfl rfl (by omega) ?_
    simp (disch := omega) only [dm_t, wA, wB, wL, wW, wY, Int.fdiv_eq_ediv_of_nonneg, Int.tdiv_eq_ediv_of_nonneg, Int.tmod_eq_emod_of_nonneg, chk_pos, decT, decF, br_pos, br_neg, wX, ↓reduceIte, Nat.reduceEqDiff, Nat.reduceAdd, Nat.reduceSub, Nat.reduceMul, Nat.reduceLeDiff, Nat.reduceLT, Nat.reduceMod, Nat.reduceDiv, Int.reduceToNat, Nat.min_eq_left, IntKind.bits, Int.reducePow, Int.reduceLT, Int.reduceLE, Int.reduceEq, Int.reduceNe, Int.reduceAdd, Int.reduceSub, and_self, reduceCtorEq, decide_eq_true_eq, decide_eq_false_iff_not, eq_self, implies_true, exists_const, Option.isNone_some, Option.isNone_none, Option.isSome_some, Option.isSome_none, Option.getD_some]
    -- the new list's own memory
    let O' : Nat → Nat → Prop := fun j y => if j = i then g y = none ∧ h3 y ≠ none else O j y
    have O'i : ∀ y, O' i y = (g y = none ∧ h3 y ≠ none) := fun y => if_pos rfl
    have O'j : ∀ {j y}, j < i → O' j y = O j y := fun hj => if_neg (by omega)
    have new' : ∀ j y, j < i + 1 → O' j y → h y = none ∧ h3 y ≠ none := fun j y hj hy => by
      by_cases hji : j = i
      · subst hji
        rw [O'i] at hy
        exact ⟨e1.bk hy.1, hy.2⟩
      · rw [O'j (by omega)] at hy
        have := M.new j y (by omega) hy
        exact ⟨this.1, fun hn => this.2 (e3.bk hn)⟩
    have ho' : O1 (fun y => h y = none ∧ ∀ j, j < i + 1 → ¬ O' j y) h3 32 vo vs := by
      refine OwK.ext (OwK.mono ho fun y o hy hn => ⟨hn.1, fun j hj hO => ?_⟩) e3
      by_cases hji : j = i
      · subst hji
        rw [O'i, hy] at hO
        cases hO.1
      · rw [O'j (by omega)] at hO
        exact hn.2 j (by omega) hO
    refine push1 ho' (fun y hy => ⟨(e1.trans e3).bk hy, fun j hj hO => (new' j y hj hO).2 hy⟩) (by rfl) (by rw [hvl]; omega) (by rw [hvl]; omega) ?_
    intro _ vo' h4 _ o4 f4
    have hT : ∀ x, (h x = none ∧ ∀ j, j < i + 1 → ¬ O' j x) ∧ isAt vo x → ∃ c fr, h3 x = some (.cells c 32 fr) := fun x hx => (OwK.ext ho e3).ty hx.2
    have hnew : LR (O' i) (fun y => h y ≠ none) h4 (.slice m'a (ls[i]).length m'c) ls[i] := by
      have h5 : LR (fun y => g y = none) (fun y => g y ≠ none) h3 (.slice m'a (ls[i]).length m'c) ls[i] := ⟨_, _, rfl, by omega, o3⟩
      refine (LR.impH h5 (fun y hy hn => hy (e1.bk hn)) fun x o hx hn => ?_).frT f4 hT
      rw [O'i]
      exact ⟨hn, by rw [hx]; simp⟩
    simp (disch := omega) only [dm_t, wA, wB, wL, wW, wY, Int.fdiv_eq_ediv_of_nonneg, Int.tdiv_eq_ediv_of_nonneg, Int.tmod_eq_emod_of_nonneg, chk_pos, decT, decF, br_pos, br_neg, wX, ↓reduceIte, Nat.reduceEqDiff, Nat.reduceAdd, Nat.reduceSub, Nat.reduceMul, Nat.reduceLeDiff, Nat.reduceLT, Nat.reduceMod, Nat.reduceDiv, Int.reduceToNat, Nat.min_eq_left, IntKind.bits, Int.reducePow, Int.reduceLT, Int.reduceLE, Int.reduceEq, Int.reduceNe, Int.reduceAdd, Int.reduceSub, and_self, reduceCtorEq, decide_eq_true_eq, decide_eq_false_iff_not, eq_self, implies_true, exists_const, Option.isNone_some, Option.isNone_none, Option.isSome_some, Option.isSome_none, Option.getD_some]
    refine ⟨⟨i + 1, O', vs ++ [.slice m'a (ls[i]).length m'c], by simp, by omega, ⟨o4, by simp [hvl], ?_, ?_, ?_⟩, ?_⟩, by simp [m1]; omega⟩
    · intro j w l hw hl'
      by_cases hj : j < vs.length
      · rw [List.getElem?_append_left hj] at hw
        have h6 := ((M.lst j w l hw hl').ext e3).frT f4 hT
        exact h6.imp (fun _ h => h) fun y hy => by rw [O'j (by omega)]; exact hy
      · rw [List.getElem?_append_right (by omega)] at hw
        have hji : j = i := by
          have := (List.getElem?_eq_some_iff.1 hw).1
          simp at this; omega
        subst hji
        simp only [hvl, Nat.sub_self, List.getElem?_cons_zero, Option.some.injEq] at hw
        rw [List.getElem?_eq_getElem hil, Option.some.injEq] at hl'
        subst hw hl'
        exact hnew
    · intro a b y ha hb hab hy hy2
      by_cases h1 : a = i
      · subst h1
        rw [O'i] at hy
        rw [O'j (by omega)] at hy2
        exact (M.new b y (by omega) hy2).2 hy.1
      · rw [O'j (by omega)] at hy
        by_cases h2 : b = i
        · subst h2
          rw [O'i] at hy2
          exact (M.new a y (by omega) hy).2 hy2.1
        · rw [O'j (by omega)] at hy2
          exact M.dis a b y (by omega) (by omega) hab hy hy2
    · intro j y hj hy
      have h7 := new' j y hj hy
      refine ⟨h7.1, fun hn => ?_⟩
      cases hc : h3 y with
      | none => exact h7.2 hc
      | some o => rw [f4 y o hc fun hh => hh.1.2 j hj hy] at hn; cases hn
    · exact Ext.step' (e1.trans e3) f4 fun y hy => hy.1.1
  · obtain rfl : i = ls.length := by omega
    simp (disch := omega) only [dm_t, wA, wB, wL, wW, wY, Int.fdiv_eq_ediv_of_nonneg, Int.tdiv_eq_ediv_of_nonneg, Int.tmod_eq_emod_of_nonneg, chk_pos, decT, decF, br_pos, br_neg, wX, ↓reduceIte, Nat.reduceEqDiff, Nat.reduceAdd, Nat.reduceSub, Nat.reduceMul, Nat.reduceLeDiff, Nat.reduceLT, Nat.reduceMod, Nat.reduceDiv, Int.reduceToNat, Nat.min_eq_left, IntKind.bits, Int.reducePow, Int.reduceLT, Int.reduceLE, Int.reduceEq, Int.reduceNe, Int.reduceAdd, Int.reduceSub, and_self, reduceCtorEq, decide_eq_true_eq, decide_eq_false_iff_not, eq_self, implies_true, exists_const, Option.isNone_some, Option.isNone_none, Option.isSome_some, Option.isSome_none, Option.getD_some]
    exact ⟨⟨O, vs, M⟩, e1⟩
end Go.Proofs.Ytcebmbnofejlhaa.gf
