/-
  gather: lists lent, and held against what they were.
-/
import Derived.Test.YtcebmbnofejlhaaG8
namespace Go.Proofs.Ytcebmbnofejlhaa.gf
open Go.Proofs.Ytcebmbnofejlhaa rr ga
set_option linter.unusedVariables false
set_option linter.unusedSimpArgs false

theorem SlK.frAt {k : Nat} {S T : Nat → Prop} {h h' : H} {v : Value} {rows : List (List Value)} (s : SlK k S h v rows) (f : Fr T h h') (hT : ∀ x, T x → ¬ isAt v x) : SlK k S h' v rows := by
  obtain ⟨hr, s | ⟨b, o, cp, c, E, fr, h1, h2, h3, h4, h5, h6⟩⟩ := s
  · exact ⟨hr, .inl s⟩
  · exact ⟨hr, .inr ⟨b, o, cp, c, E, fr, h1, f _ _ h2 fun hb => hT b hb ⟨_, _, _, h1⟩, h3, h4, h5, h6⟩⟩
/-- The record behind a lent list. -/
def z77 : rc.D := ((77 : Int), ([] : List UInt8), ([] : List UInt8))
/-- Records in memory of their own, one more behind them. -/
def LR (O S : Nat → Prop) (h : H) (v : Value) (l : List rc.D) : Prop := ∃ a c, v = .slice a l.length c ∧ l.length + 1 ≤ c ∧ OwQ (WRow 5 O) S rc O h 81 (.slice a (l.length + 1) c) (l ++ [z77])
theorem LR.ext {O S : Nat → Prop} {h h' : H} {v : Value} {l : List rc.D} (s : LR O S h v l) (e : Ext h h') : LR O S h' v l := by
  obtain ⟨a, c, h1, h2, h3⟩ := s
  exact ⟨a, c, h1, h2, h3.ext e fun r hr => hr.ext e⟩
theorem LR.imp {O O' S S' : Nat → Prop} {h : H} {v : Value} {l : List rc.D} (s : LR O S h v l) (hS : ∀ y, S' y → S y) (hO : ∀ x, O x → O' x) : LR O' S' h v l := by
  obtain ⟨a, c, h1, h2, h3⟩ := s
  exact ⟨a, c, h1, h2, h3.imp hS (fun x _ _ hx => hO x hx) fun r hr => hr.mono fun x _ _ hx => hO x hx⟩
/-- Lists of another type may change. -/
theorem LR.frT {O S T : Nat → Prop} {h h' : H} {v : Value} {l : List rc.D} (s : LR O S h v l) (f : Fr T h h') (hT : ∀ x, T x → ∃ c fr, h x = some (.cells c 32 fr)) : LR O S h' v l := by
  obtain ⟨a, c, h1, h2, rows, g1, g2, g3, g4⟩ := s
  have no : ∀ {k : Nat} {O' : Nat → Prop} {E : TypeId} {w : Value} {rw_ : List (List Value)}, E ≠ 32 → OwK k O' h E w rw_ → ∀ x, T x → ¬ isAt w x := by
    intro k O' E w rw_ hE ow x hx hat
    obtain ⟨c1, fr1, q1⟩ := hT x hx
    obtain ⟨c2, fr2, q2⟩ := ow.ty hat
    rw [q1] at q2
    simp only [Option.some.injEq, Obj.cells.injEq] at q2
    exact hE q2.2.1.symm
  refine ⟨a, c, h1, h2, rows, g1.fr f fun x hx _ => no (by decide) g1 x hx, g2, ?_, ?_⟩
  · intro i r x hr hx
    obtain ⟨k, w, hrow, hb, hk, hw⟩ := rep_rc.1 (g3 i r x hr hx)
    obtain ⟨t, k', w', lk, lv, hrow', ok, ow, _⟩ := g4 r (List.mem_of_getElem? hr)
    rw [hrow] at hrow'
    simp only [List.cons.injEq, and_true] at hrow'
    obtain ⟨_, rfl, rfl⟩ := hrow'
    exact rep_rc.2 ⟨k, w, hrow, hb, SlK.frAt hk f (no (by decide) ok), SlK.frAt hw f (no (by decide) ow)⟩
  · intro r hr
    obtain ⟨t, k', w', lk, lv, hrow', ok, ow, hlb⟩ := g4 r hr
    exact ⟨t, k', w', lk, lv, hrow', OwK.fr ok f fun x hx _ => no (by decide) ok x hx, OwK.fr ow f fun x hx _ => no (by decide) ow x hx, hlb⟩
theorem rep_take {S : Nat → Prop} {t : Ty} {h : H} {a : Option Addr} {c : Nat} {l r : List t.D} (s : RepL S t h (.slice a (l ++ r).length c) (l ++ r)) : RepL S t h (.slice a l.length c) l := by
  obtain ⟨rows, h1, h2, h3⟩ := repL_iff.1 s
  have h4 := h1.pre (m := l.length) (by simp)
  refine repL_iff.2 ⟨_, h4, by rw [List.length_take, h2]; simp, ?_⟩
  intro i r' x hr hx
  rw [List.getElem?_take] at hr
  split at hr
  · refine h3 i r' x hr ?_
    rw [List.getElem?_append_left (by assumption)]; exact hx
  · cases hr
theorem LR.rep {O S : Nat → Prop} {h : H} {v : Value} {l : List rc.D} (s : LR O S h v l) : RepL nos rc h v l := by
  obtain ⟨a, c, rfl, h2, h3⟩ := s
  have h4 := h3.l.rep
  rw [show l.length + 1 = (l ++ [z77]).length by simp] at h4
  exact rep_take h4
/-- Lent lists. -/
def LL (O S : Nat → Prop) (h : H) (v : Value) (ls : List rcs.D) : Prop := ∃ vs, S1 nos h v vs ∧ vs.length = ls.length ∧ ∀ (i : Nat) w l, vs[i]? = some w → ls[i]? = some l → LR O S h w l
theorem LL.ext {O S : Nat → Prop} {h h' : H} {v : Value} {ls : List rcs.D} (s : LL O S h v ls) (e : Ext h h') : LL O S h' v ls := by
  obtain ⟨vs, h1, h2, h3⟩ := s
  exact ⟨vs, SlK.ext h1 e, h2, fun i w l hw hl => (h3 i w l hw hl).ext e⟩
theorem LL.rep {O S : Nat → Prop} {h : H} {v : Value} {ls : List rcs.D} (s : LL O S h v ls) : RepL nos rcs h v ls := by
  obtain ⟨vs, h1, h2, h3⟩ := s
  refine repL_iff.2 ⟨one vs, h1, by rw [one_len, h2], ?_⟩
  intro i r x hr hx
  simp only [one, List.getElem?_map, Option.map_eq_some_iff] at hr
  obtain ⟨w, hw, rfl⟩ := hr
  exact (h3 i w x hw hx).rep
theorem lent_ok {S : Nat → Prop} {h : H} {s : Value} {ls : List rcs.D} (hs : RepL S rcs h s ls) (hl : ls.length ≤ 1000000) (hx : ∀ x ∈ ls, x.length ≤ 999999) (hk : ∀ l ∈ ls, ∀ x ∈ l, x.2.1.length ≤ 140737488355328 ∧ x.2.2.length ≤ 140737488355328) :
    Ok Try.prog 10 #[s] h fun v h' => LL (fun y => h y = none) (fun y => h y ≠ none) h' v ls ∧ Ext h h' := by
  obtain ⟨sa, sc, rfl⟩ := hs.len
  refine c10_ok (args := [_]) (by simp) ?_
  simp (disch := omega) only [dm_t, wA, wB, wL, wW, wY, Int.fdiv_eq_ediv_of_nonneg, Int.tdiv_eq_ediv_of_nonneg, Int.tmod_eq_emod_of_nonneg, chk_pos, decT, decF, br_pos, br_neg, wX, ↓reduceIte, Nat.reduceEqDiff, Nat.reduceAdd, Nat.reduceSub, Nat.reduceMul, Nat.reduceLeDiff, Nat.reduceLT, Nat.reduceMod, Nat.reduceDiv, Int.reduceToNat, Nat.min_eq_left, IntKind.bits, Int.reducePow, Int.reduceLT, Int.reduceLE, Int.reduceEq, Int.reduceNe, Int.reduceAdd, Int.reduceSub, and_self, reduceCtorEq, decide_eq_true_eq, decide_eq_false_iff_not, eq_self, implies_true, exists_const, Option.isNone_some, Option.isNone_none, Option.isSome_some, Option.isSome_none, Option.getD_some]
  refine vc_loop2 (fun vo vi h' => ∃ (i : Nat) (vs : List Value), vi = .int .i64 (i : Int) ∧ i ≤ ls.length ∧ O1 (fun y => h y = none) h' 32 vo vs ∧ vs.length = i ∧ (∀ (j : Nat) w l, vs[j]? = some w → ls[j]? = some l → LR (fun y => h y = none) (fun y => h y ≠ none) h' w l) ∧ Ext h h') (fun _ vi _ => ls.length - m1 vi) ?_ ?_
  · simp (disch := omega) only [dm_t, wA, wB, wL, wW, wY, Int.fdiv_eq_ediv_of_nonneg, Int.tdiv_eq_ediv_of_nonneg, Int.tmod_eq_emod_of_nonneg, chk_pos, decT, decF, br_pos, br_neg, wX, ↓reduceIte, Nat.reduceEqDiff, Nat.reduceAdd, Nat.reduceSub, Nat.reduceMul, Nat.reduceLeDiff, Nat.reduceLT, Nat.reduceMod, Nat.reduceDiv, Int.reduceToNat, Nat.min_eq_left, IntKind.bits, Int.reducePow, Int.reduceLT, Int.reduceLE, Int.reduceEq, Int.reduceNe, Int.reduceAdd, Int.reduceSub, and_self, reduceCtorEq, decide_eq_true_eq, decide_eq_false_iff_not, eq_self, implies_true, exists_const, Option.isNone_some, Option.isNone_none, Option.isSome_some, Option.isSome_none, Option.getD_some]
    exact ⟨0, [], rfl, by omega, OwK.nil, rfl, fun j w l hw => by simp at hw, Ext.refl h⟩
  rintro vo _ g ⟨i, vs, rfl, hi, ho, hvl, hlr, e1⟩
  by_cases hil : i < ls.length
  · have hxi := hx _ (List.getElem_mem hil)
    obtain ⟨pb, po, w, gi, g1, g2⟩ := (hs.fresh.ext e1).load1 hil .i64 (by rfl)
    have g2' : RepL (fun y => h y = none) rc g w ls[i] := g2
    obtain ⟨wa, wc, rfl⟩ := g2'.len
    simp (disch := omega) only [dm_t, wA, wB, wL, wW, wY, Int.fdiv_eq_ediv_of_nonneg, Int.tdiv_eq_ediv_of_nonneg, Int.tmod_eq_emod_of_nonneg, chk_pos, decT, decF, br_pos, br_neg, wX, ↓reduceIte, Nat.reduceEqDiff, Nat.reduceAdd, Nat.reduceSub, Nat.reduceMul, Nat.reduceLeDiff, Nat.reduceLT, Nat.reduceMod, Nat.reduceDiv, Int.reduceToNat, Nat.min_eq_left, IntKind.bits, Int.reducePow, Int.reduceLT, Int.reduceLE, Int.reduceEq, Int.reduceNe, Int.reduceAdd, Int.reduceSub, and_self, reduceCtorEq, decide_eq_true_eq, decide_eq_false_iff_not, eq_self, implies_true, exists_const, Option.isNone_some, Option.isNone_none, Option.isSome_some, Option.isSome_none, Option.getD_some, gi, g1]
    refine (Copy_ok g2' (by omega) (hk _ (List.getElem_mem hil))).k ?_
    rintro m h2 ⟨o2, e2⟩
    obtain ⟨ma, mc, rfl⟩ := o2.l.len
    simp (disch := omega) only [dm_t, wA, wB, wL, wW, wY, Int.fdiv_eq_ediv_of_nonneg, Int.tdiv_eq_ediv_of_nonneg, Int.tmod_eq_emod_of_nonneg, chk_pos, decT, decF, br_pos, br_neg, wX, ↓reduceIte, Nat.reduceEqDiff, Nat.reduceAdd, Nat.reduceSub, Nat.reduceMul, Nat.reduceLeDiff, Nat.reduceLT, Nat.reduceMod, Nat.reduceDiv, Int.reduceToNat, Nat.min_eq_left, IntKind.bits, Int.reducePow, Int.reduceLT, Int.reduceLE, Int.reduceEq, Int.reduceNe, Int.reduceAdd, Int.reduceSub, and_self, reduceCtorEq, decide_eq_true_eq, decide_eq_false_iff_not, eq_self, implies_true, exists_const, Option.isNone_some, Option.isNone_none, Option.isSome_some, Option.isSome_none, Option.getD_some]
    refine OwQ.push (x := z77) 3 sz_rc o2 (fun y hy => e2.bk hy) (rep_rc.2 ⟨_, _, rfl, by decide, By.nil, By.nil⟩) (by rfl) (by omega) (by omega) ⟨_, _, _, [], [], rfl, OwK.nil, OwK.nil, by simp, by simp⟩ (fun h' rows so f r hr => hr.fr (by decide) so f fun x hx => hx.2) ?_
    intro _ m' h3 _ o3 f3
    have e3 : Ext g h3 := Ext.step e2 f3
    obtain ⟨m'a, m'c, rfl⟩ := o3.l.len
    have hcap := RepL.cap o3.l.rep
    simp only [List.length_append, List.length_cons, List.length_nil, Nat.zero_add] at o3 hcap
    simp (disch := omega) only [dm_t, wA, wB, wL, wW, wY, Int.fdiv_eq_ediv_of_nonneg, Int.tdiv_eq_ediv_of_nonneg, Int.tmod_eq_emod_of_nonneg, chk_pos, decT, decF, br_pos, br_neg, wX, ↓reduceIte, Nat.reduceEqDiff, Nat.reduceAdd, Nat.reduceSub, Nat.reduceMul, Nat.reduceLeDiff, Nat.reduceLT, Nat.reduceMod, Nat.reduceDiv, Int.reduceToNat, Nat.min_eq_left, IntKind.bits, Int.reducePow, Int.reduceLT, Int.reduceLE, Int.reduceEq, Int.reduceNe, Int.reduceAdd, Int.reduceSub, and_self, reduceCtorEq, decide_eq_true_eq, decide_eq_false_iff_not, eq_self, implies_true, exists_const, Option.isNone_some, Option.isNone_none, Option.isSome_some, Option.isSome_none, Option.getD_some, gi, cellAt_ext e3 g1]
    refine slc_pre (ls[i]).length rfl rfl (by omega) ?_
    simp (disch := omega) only [dm_t, wA, wB, wL, wW, wY, Int.fdiv_eq_ediv_of_nonneg, Int.tdiv_eq_ediv_of_nonneg, Int.tmod_eq_emod_of_nonneg, chk_pos, decT, decF, br_pos, br_neg, wX, ↓reduceIte, Nat.reduceEqDiff, Nat.reduceAdd, Nat.reduceSub, Nat.reduceMul, Nat.reduceLeDiff, Nat.reduceLT, Nat.reduceMod, Nat.reduceDiv, Int.reduceToNat, Nat.min_eq_left, IntKind.bits, Int.reducePow, Int.reduceLT, Int.reduceLE, Int.reduceEq, Int.reduceNe, Int.reduceAdd, Int.reduceSub, and_self, reduceCtorEq, decide_eq_true_eq, decide_eq_false_iff_not, eq_self, implies_true, exists_const, Option.isNone_some, Option.isNone_none, Option.isSome_some, Option.isSome_none, Option.getD_some]
    refine push1 (ho.ext e3) (fun y hy => (e1.trans e3).bk hy) (by rfl) (by rw [hvl]; omega) (by rw [hvl]; omega) ?_
    intro _ vo' h4 _ o4 f4
    have hT : ∀ x, h x = none ∧ isAt vo x → ∃ c fr, h3 x = some (.cells c 32 fr) := fun x hx => (OwK.ext ho e3).ty hx.2
    have hnew : LR (fun y => h y = none) (fun y => h y ≠ none) h4 (.slice m'a (ls[i]).length m'c) ls[i] := by
      have h5 : LR (fun y => g y = none) (fun y => g y ≠ none) h3 (.slice m'a (ls[i]).length m'c) ls[i] := ⟨_, _, rfl, by omega, o3⟩
      exact (h5.imp (fun y hy hn => hy (e1.bk hn)) fun x hx => e1.bk hx).frT f4 hT
    simp (disch := omega) only [dm_t, wA, wB, wL, wW, wY, Int.fdiv_eq_ediv_of_nonneg, Int.tdiv_eq_ediv_of_nonneg, Int.tmod_eq_emod_of_nonneg, chk_pos, decT, decF, br_pos, br_neg, wX, ↓reduceIte, Nat.reduceEqDiff, Nat.reduceAdd, Nat.reduceSub, Nat.reduceMul, Nat.reduceLeDiff, Nat.reduceLT, Nat.reduceMod, Nat.reduceDiv, Int.reduceToNat, Nat.min_eq_left, IntKind.bits, Int.reducePow, Int.reduceLT, Int.reduceLE, Int.reduceEq, Int.reduceNe, Int.reduceAdd, Int.reduceSub, and_self, reduceCtorEq, decide_eq_true_eq, decide_eq_false_iff_not, eq_self, implies_true, exists_const, Option.isNone_some, Option.isNone_none, Option.isSome_some, Option.isSome_none, Option.getD_some]
    refine ⟨⟨i + 1, vs ++ [.slice m'a (ls[i]).length m'c], by simp, by omega, o4, by simp [hvl], ?_, Ext.step (e1.trans e3) f4⟩, by simp [m1]; omega⟩
    intro j w l hw hl'
    by_cases hj : j < vs.length
    · rw [List.getElem?_append_left hj] at hw
      exact ((hlr j w l hw hl').ext e3).frT f4 hT
    · rw [List.getElem?_append_right (by omega)] at hw
      have hji : j = i := by
        have := (List.getElem?_eq_some_iff.1 hw).1
        simp at this; omega
      subst hji
      simp only [hvl, Nat.sub_self, List.getElem?_cons_zero, Option.some.injEq] at hw
      rw [List.getElem?_eq_getElem hil, Option.some.injEq] at hl'
      subst hw hl'
      exact hnew
  · obtain rfl : i = ls.length := by omega
    simp (disch := omega) only [dm_t, wA, wB, wL, wW, wY, Int.fdiv_eq_ediv_of_nonneg, Int.tdiv_eq_ediv_of_nonneg, Int.tmod_eq_emod_of_nonneg, chk_pos, decT, decF, br_pos, br_neg, wX, ↓reduceIte, Nat.reduceEqDiff, Nat.reduceAdd, Nat.reduceSub, Nat.reduceMul, Nat.reduceLeDiff, Nat.reduceLT, Nat.reduceMod, Nat.reduceDiv, Int.reduceToNat, Nat.min_eq_left, IntKind.bits, Int.reducePow, Int.reduceLT, Int.reduceLE, Int.reduceEq, Int.reduceNe, Int.reduceAdd, Int.reduceSub, and_self, reduceCtorEq, decide_eq_true_eq, decide_eq_false_iff_not, eq_self, implies_true, exists_const, Option.isNone_some, Option.isNone_none, Option.isSome_some, Option.isSome_none, Option.getD_some]
    exact ⟨⟨vs, ho.s0, hvl, hlr⟩, e1⟩
theorem kept_ok {O S S' : Nat → Prop} {h : H} {m s : Value} {ls : List rcs.D} (hm : LL O S h m ls) (hs : RepL S' rcs h s ls) (hl : ls.length ≤ 1000000) (hx : ∀ x ∈ ls, x.length ≤ 1000000) : Ok Try.prog 15 #[m, s] h fun v h' => v = .bool true ∧ h = h' := by
  obtain ⟨sa, sc, rfl⟩ := hs.len
  obtain ⟨vs, hv, hvl, hlr⟩ := hm
  obtain ⟨ma, mc, rfl⟩ := S1.len hv
  refine c15_ok (args := [_, _]) (by simp) ?_
  simp (disch := omega) only [dm_t, wA, wB, wL, wW, wY, Int.fdiv_eq_ediv_of_nonneg, Int.tdiv_eq_ediv_of_nonneg, Int.tmod_eq_emod_of_nonneg, chk_pos, decT, decF, br_pos, br_neg, wX, ↓reduceIte, Nat.reduceEqDiff, Nat.reduceAdd, Nat.reduceSub, Nat.reduceMul, Nat.reduceLeDiff, Nat.reduceLT, Nat.reduceMod, Nat.reduceDiv, Int.reduceToNat, Nat.min_eq_left, IntKind.bits, Int.reducePow, Int.reduceLT, Int.reduceLE, Int.reduceEq, Int.reduceNe, Int.reduceAdd, Int.reduceSub, and_self, reduceCtorEq, decide_eq_true_eq, decide_eq_false_iff_not, eq_self, implies_true, exists_const, Option.isNone_some, Option.isNone_none, Option.isSome_some, Option.isSome_none, Option.getD_some]
  refine vc_loop1 (fun vi h' => h' = h ∧ ∃ i : Nat, vi = .int .i64 (i : Int) ∧ i ≤ ls.length) (fun vi _ => ls.length - m1 vi) ?_ ?_
  · simp (disch := omega) only [dm_t, wA, wB, wL, wW, wY, Int.fdiv_eq_ediv_of_nonneg, Int.tdiv_eq_ediv_of_nonneg, Int.tmod_eq_emod_of_nonneg, chk_pos, decT, decF, br_pos, br_neg, wX, ↓reduceIte, Nat.reduceEqDiff, Nat.reduceAdd, Nat.reduceSub, Nat.reduceMul, Nat.reduceLeDiff, Nat.reduceLT, Nat.reduceMod, Nat.reduceDiv, Int.reduceToNat, Nat.min_eq_left, IntKind.bits, Int.reducePow, Int.reduceLT, Int.reduceLE, Int.reduceEq, Int.reduceNe, Int.reduceAdd, Int.reduceSub, and_self, reduceCtorEq, decide_eq_true_eq, decide_eq_false_iff_not, eq_self, implies_true, exists_const, Option.isNone_some, Option.isNone_none, Option.isSome_some, Option.isSome_none, Option.getD_some]
    exact ⟨0, rfl, by omega⟩
  rintro _ h' ⟨rfl, i, rfl, hi⟩
  by_cases hil : i < ls.length
  · have hiv : i < vs.length := by omega
    have hxi := hx _ (List.getElem_mem hil)
    obtain ⟨b1, o1, gi1, g1⟩ := S1.load hv hiv .i64
    obtain ⟨b2, o2, w, gi2, g2, g3⟩ := hs.load1 hil .i64 (by rfl)
    have g3' : RepL S' rc h' w ls[i] := g3
    have hlri := hlr i vs[i] ls[i] (by simp [hiv]) (by simp [hil])
    have hrep := hlri.rep
    obtain ⟨a, c, hve, hc1, hq⟩ := hlri
    rw [hve] at g1 hrep
    obtain ⟨wa, wc, rfl⟩ := g3'.len
    have hqr := hq.l.rep
    have hlen1 : (ls[i] ++ [z77]).length = (ls[i]).length + 1 := by simp
    obtain ⟨b3, o3, k, v, gi3, t1, -, -, -, -⟩ := rec_at hqr (i := (ls[i]).length) (by rw [hlen1]; omega)
    have t1' : cellAt h' ⟨b3, o3, none⟩ = some (.int .i64 77) := by
      rw [t1]; simp [z77]
    simp (disch := omega) only [dm_t, wA, wB, wL, wW, wY, Int.fdiv_eq_ediv_of_nonneg, Int.tdiv_eq_ediv_of_nonneg, Int.tmod_eq_emod_of_nonneg, chk_pos, decT, decF, br_pos, br_neg, wX, ↓reduceIte, Nat.reduceEqDiff, Nat.reduceAdd, Nat.reduceSub, Nat.reduceMul, Nat.reduceLeDiff, Nat.reduceLT, Nat.reduceMod, Nat.reduceDiv, Int.reduceToNat, Nat.min_eq_left, IntKind.bits, Int.reducePow, Int.reduceLT, Int.reduceLE, Int.reduceEq, Int.reduceNe, Int.reduceAdd, Int.reduceSub, and_self, reduceCtorEq, decide_eq_true_eq, decide_eq_false_iff_not, eq_self, implies_true, exists_const, Option.isNone_some, Option.isNone_none, Option.isSome_some, Option.isSome_none, Option.getD_some, gi1, g1, gi2, g2]
    refine (Same_ok hrep g3' (by omega)).k ?_
    rintro _ _ ⟨rfl, rfl⟩
    simp (disch := omega) only [dm_t, wA, wB, wL, wW, wY, Int.fdiv_eq_ediv_of_nonneg, Int.tdiv_eq_ediv_of_nonneg, Int.tmod_eq_emod_of_nonneg, chk_pos, decT, decF, br_pos, br_neg, wX, ↓reduceIte, Nat.reduceEqDiff, Nat.reduceAdd, Nat.reduceSub, Nat.reduceMul, Nat.reduceLeDiff, Nat.reduceLT, Nat.reduceMod, Nat.reduceDiv, Int.reduceToNat, Nat.min_eq_left, IntKind.bits, Int.reducePow, Int.reduceLT, Int.reduceLE, Int.reduceEq, Int.reduceNe, Int.reduceAdd, Int.reduceSub, and_self, reduceCtorEq, decide_eq_true_eq, decide_eq_false_iff_not, eq_self, implies_true, exists_const, Option.isNone_some, Option.isNone_none, Option.isSome_some, Option.isSome_none, Option.getD_some, gi1, g1, gi2, g2]
    refine slc_pre ((ls[i]).length + 1) (by simp) rfl (by omega) ?_
    simp (disch := omega) only [dm_t, wA, wB, wL, wW, wY, Int.fdiv_eq_ediv_of_nonneg, Int.tdiv_eq_ediv_of_nonneg, Int.tmod_eq_emod_of_nonneg, chk_pos, decT, decF, br_pos, br_neg, wX, ↓reduceIte, Nat.reduceEqDiff, Nat.reduceAdd, Nat.reduceSub, Nat.reduceMul, Nat.reduceLeDiff, Nat.reduceLT, Nat.reduceMod, Nat.reduceDiv, Int.reduceToNat, Nat.min_eq_left, IntKind.bits, Int.reducePow, Int.reduceLT, Int.reduceLE, Int.reduceEq, Int.reduceNe, Int.reduceAdd, Int.reduceSub, and_self, reduceCtorEq, decide_eq_true_eq, decide_eq_false_iff_not, eq_self, implies_true, exists_const, Option.isNone_some, Option.isNone_none, Option.isSome_some, Option.isSome_none, Option.getD_some, gi1, g1, gi2, g2, gi3, t1']
    exact ⟨⟨i + 1, by simp, by omega⟩, by simp [m1]; omega⟩
  · obtain rfl : i = ls.length := by omega
    simp (disch := omega) only [dm_t, wA, wB, wL, wW, wY, Int.fdiv_eq_ediv_of_nonneg, Int.tdiv_eq_ediv_of_nonneg, Int.tmod_eq_emod_of_nonneg, chk_pos, decT, decF, br_pos, br_neg, wX, ↓reduceIte, Nat.reduceEqDiff, Nat.reduceAdd, Nat.reduceSub, Nat.reduceMul, Nat.reduceLeDiff, Nat.reduceLT, Nat.reduceMod, Nat.reduceDiv, Int.reduceToNat, Nat.min_eq_left, IntKind.bits, Int.reducePow, Int.reduceLT, Int.reduceLE, Int.reduceEq, Int.reduceNe, Int.reduceAdd, Int.reduceSub, and_self, reduceCtorEq, decide_eq_true_eq, decide_eq_false_iff_not, eq_self, implies_true, exists_const, Option.isNone_some, Option.isNone_none, Option.isSome_some, Option.isSome_none, Option.getD_some, hvl]
end Go.Proofs.Ytcebmbnofejlhaa.gf
