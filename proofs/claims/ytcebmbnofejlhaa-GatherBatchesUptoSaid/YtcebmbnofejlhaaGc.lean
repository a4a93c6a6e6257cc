/-
  gather: Batches.
-/
import Derived.Test.YtcebmbnofejlhaaGa
import Derived.Test.YtcebmbnofejlhaaK22
namespace Go.Proofs.Ytcebmbnofejlhaa.gf
open Go.Proofs.Ytcebmbnofejlhaa rr ga
set_option linter.unusedVariables false
set_option linter.unusedSimpArgs false
/-- What the going over holds: base, plan, records; none of it in S. -/
structure BI (S : Nat → Prop) (bb pb ab : Nat) (pv av : Value) (base : Nat) (pl : List Nat) (ls : List rcs.D) (h : H) : Prop where
  base : h bb = some (.cells #[.int .i64 (base : Int)] 2)
  nb : ¬ S bb
  plan : h pb = some (.cells #[pv] 29)
  np : ¬ S pb
  planS : S1 S h pv (ga.ints pl)
  all : h ab = some (.cells #[av] 22)
  na : ¬ S ab
  allS : RepL S rcs h av ls
section
variable {S T : Nat → Prop} {h h' : H} {bb pb ab : Nat} {pv av : Value} {base : Nat} {pl : List Nat} {ls : List rcs.D}
theorem BI.fr (b : BI S bb pb ab pv av base pl ls h) (f : Fr T h h') (hT : ∀ y, T y → S y) : BI S bb pb ab pv av base pl ls h' :=
  ⟨f _ _ b.base fun h => b.nb (hT _ h), b.nb, f _ _ b.plan fun h => b.np (hT _ h), b.np, SlK.fr b.planS f hT, f _ _ b.all fun h => b.na (hT _ h), b.na, b.allS.fr f hT⟩
theorem BI.ext (b : BI S bb pb ab pv av base pl ls h) (e : Ext h h') : BI S bb pb ab pv av base pl ls h' := b.fr e fun _ h => h.elim
theorem BI.avoid (b : BI S bb pb ab pv av base pl ls h) (hS : ∀ y, T y → S y ∨ h y = none) : BI T bb pb ab pv av base pl ls h := by
  have hn : ∀ {y o}, h y = some o → ¬ S y → ¬ T y := fun hy hs ht => (hS _ ht).elim hs fun h => by rw [h] at hy; cases hy
  have hm : ∀ x o, h x = some o → T x → S x := fun x o hx ht => (hS x ht).elim id fun h => by rw [h] at hx; cases hx
  exact ⟨b.base, hn b.base b.nb, b.plan, hn b.plan b.np, SlK.mono b.planS hm, b.all, hn b.all b.na, b.allS.mono hm⟩
end
/-- Where part i of a plan begins. -/
def begins (pl : List Nat) (i : Nat) : Nat := (pl.take i).sum
theorem begins_succ {pl : List Nat} {i : Nat} (hi : i < pl.length) : begins pl (i + 1) = begins pl i + pl[i] := by
  unfold begins
  rw [List.take_succ_eq_append_getElem hi, List.sum_append]
  simp
theorem begins_le {pl : List Nat} : ∀ {i : Nat}, begins pl i ≤ pl.sum := by
  intro i
  unfold begins
  have := List.sum_append (l₁ := pl.take i) (l₂ := pl.drop i)
  rw [List.take_append_drop] at this
  omega
theorem plan_sum {take : Int} (ht : 1 ≤ take) : ∀ (n : Nat) {ls : List rcs.D}, ls.length ≤ n → (∀ x ∈ ls, fitsE x = 0) → (plan take ls).sum = ls.length := by
  intro n
  induction n with
  | zero =>
    intro ls hl _
    obtain rfl := List.length_eq_zero_iff.1 (Nat.le_zero.1 hl)
    simp [plan, planG]
  | succ n ih =>
    intro ls hl hf
    by_cases hn : ls = []
    · subst hn; simp [plan, planG]
    · have h1 := cnt_pos ht hn hf
      have h2 := cnt_le take ls
      rw [plan_cons ht hn hf, List.sum_cons, ih (by rw [List.length_drop]; omega) fun x hx => hf x (List.mem_of_mem_drop hx), List.length_drop]
      omega
/-- Round i's arguments. -/
def BA (pl : List Nat) (ls : List rcs.D) (base : Nat) (i : Nat) (h0 h : H) (args : List Value) : Prop :=
  ∃ rv, args = [.int .i64 ((pl.getD i 0 : Nat) : Int), .agg #[.int .i64 ((base + total (ls.take (begins pl i)) : Nat) : Int), rv]] ∧
    OwQ (WRow 5 fun y => h0 y = none) (fun y => h0 y ≠ none) rc (fun y => h0 y = none) h 81 rv (List.flatten ((ls.drop (begins pl i)).take (pl.getD i 0)))
theorem total_drop (a : List rcs.D) (i n : Nat) : total ((a.drop i).take n) ≤ total a := by
  have h1 := total_append (a.take i) (a.drop i)
  rw [List.take_append_drop] at h1
  have h2 := total_take (a.drop i) n
  omega
theorem total_step (a : List rcs.D) (i n : Nat) : total (a.take (i + n)) = total (a.take i) + total ((a.drop i).take n) := by
  rw [← total_append, List.take_add]
theorem Batches1_it {bb pb ab : Nat} {pv av : Value} {base : Nat} {pl : List Nat} {ls : List rcs.D} (hb : base ≤ 9007199254740992) (ht : total ls ≤ 3000) (hls : ls.length ≤ 300) (hsum : pl.sum ≤ ls.length) (hpl : pl.length ≤ 300) (hk : ∀ l ∈ ls, ∀ x ∈ l, x.2.1.length ≤ 140737488355328 ∧ x.2.2.length ≤ 140737488355328) :
    RngA Try.prog 43 #[.pointer (some ⟨bb, 0, none⟩), .pointer (some ⟨pb, 0, none⟩), .pointer (some ⟨ab, 0, none⟩)] pl.length (BA pl ls base) (BI nos bb pb ab pv av base pl ls) := by
  intro L J Jx h X hJ hE hy h0
  have key : Ok Try.prog 43 #[.func (.yield L) #[] #[], .pointer (some ⟨bb, 0, none⟩), .pointer (some ⟨pb, 0, none⟩), .pointer (some ⟨ab, 0, none⟩)] h fun _ h' => J pl.length h' ∨ ∃ i, i < pl.length ∧ Jx (i + 1) h' := by
    have A := hJ _ _ h0
    obtain ⟨pa, pn, hpv⟩ := S1.len A.planS
    have hpln : (ga.ints pl).length = pl.length := by simp [ga.ints]
    rw [hpln] at hpv
    subst hpv
    refine c43_ok (args := [_, _, _, _]) (by simp) ?_
    simp (disch := omega) only [dm_t, wA, wB, wL, wW, wY, Int.fdiv_eq_ediv_of_nonneg, Int.tdiv_eq_ediv_of_nonneg, Int.tmod_eq_emod_of_nonneg, chk_pos, decT, decF, br_pos, br_neg, wX, ↓reduceIte, Nat.reduceEqDiff, Nat.reduceAdd, Nat.reduceSub, Nat.reduceMul, Nat.reduceLeDiff, Nat.reduceLT, Nat.reduceMod, Nat.reduceDiv, Int.reduceToNat, Nat.min_eq_left, IntKind.bits, Int.reducePow, Int.reduceLT, Int.reduceLE, Int.reduceEq, Int.reduceNe, Int.reduceAdd, Int.reduceSub, and_self, reduceCtorEq, decide_eq_true_eq, decide_eq_false_iff_not, eq_self, implies_true, exists_const, Option.isNone_some, Option.isNone_none, Option.isSome_some, Option.isSome_none, Option.getD_some, cellAt_of A.base, cellAt_of A.plan]
    refine vc_loop3 (fun vf va vi h' => ∃ i : Nat, vf = .int .i64 (begins pl i : Int) ∧ va = .int .i64 ((base + total (ls.take (begins pl i)) : Nat) : Int) ∧ vi = .int .i64 (i : Int) ∧ i ≤ pl.length ∧ J i h') (fun _ _ vi _ => pl.length - m1 vi) ?_ ?_
    · simp (disch := omega) only [dm_t, wA, wB, wL, wW, wY, Int.fdiv_eq_ediv_of_nonneg, Int.tdiv_eq_ediv_of_nonneg, Int.tmod_eq_emod_of_nonneg, chk_pos, decT, decF, br_pos, br_neg, wX, ↓reduceIte, Nat.reduceEqDiff, Nat.reduceAdd, Nat.reduceSub, Nat.reduceMul, Nat.reduceLeDiff, Nat.reduceLT, Nat.reduceMod, Nat.reduceDiv, Int.reduceToNat, Nat.min_eq_left, IntKind.bits, Int.reducePow, Int.reduceLT, Int.reduceLE, Int.reduceEq, Int.reduceNe, Int.reduceAdd, Int.reduceSub, and_self, reduceCtorEq, decide_eq_true_eq, decide_eq_false_iff_not, eq_self, implies_true, exists_const, Option.isNone_some, Option.isNone_none, Option.isSome_some, Option.isSome_none, Option.getD_some]
      exact ⟨0, by simp [begins], by simp [begins, total], rfl, by omega, h0⟩
    rintro _ _ _ h1 ⟨i, rfl, rfl, rfl, hi, hj⟩
    have A1 := hJ _ _ hj
    by_cases hil : i < pl.length
    · obtain ⟨b1, o1, i1, t1⟩ := S1.load A1.planS (i := i) (by rw [hpln]; exact hil) .i64
      have hg : (ga.ints pl)[i]'(by rw [hpln]; exact hil) = .int .i64 (pl[i] : Int) := by simp [ga.ints]
      rw [hg] at t1
      have hbs := begins_succ hil
      have hble := @begins_le pl (i + 1)
      have htt := total_take ls (begins pl i)
      have allS := A1.allS
      obtain ⟨aa, ac, rfl⟩ := allS.len
      have hacap := allS.cap
      have hgd : pl.getD i 0 = pl[i] := by simp [List.getD_eq_getElem?_getD, hil]
      have hA1 := cellAt_of A1.all 0
      simp (disch := omega) only [dm_t, wA, wB, wL, wW, wY, Int.fdiv_eq_ediv_of_nonneg, Int.tdiv_eq_ediv_of_nonneg, Int.tmod_eq_emod_of_nonneg, chk_pos, decT, decF, br_pos, br_neg, wX, ↓reduceIte, Nat.reduceEqDiff, Nat.reduceAdd, Nat.reduceSub, Nat.reduceMul, Nat.reduceLeDiff, Nat.reduceLT, Nat.reduceMod, Nat.reduceDiv, Int.reduceToNat, Nat.min_eq_left, IntKind.bits, Int.reducePow, Int.reduceLT, Int.reduceLE, Int.reduceEq, Int.reduceNe, Int.reduceAdd, Int.reduceSub, and_self, reduceCtorEq, decide_eq_true_eq, decide_eq_false_iff_not, eq_self, implies_true, exists_const, Option.isNone_some, Option.isNone_none, Option.isSome_some, Option.isSome_none, Option.getD_some, i1, t1, cellAt_of A1.all]
      refine RepL.cutK allS (by rfl) (begins pl i) (begins pl i + pl[i]) ac rfl (by omega) (by simp) (by omega) (.inr rfl) ?_
      intro v2 hv2
      rw [Nat.add_sub_cancel_left] at hv2
      have htd := total_drop ls (begins pl i) pl[i]
      simp (disch := omega) only [dm_t, wA, wB, wL, wW, wY, Int.fdiv_eq_ediv_of_nonneg, Int.tdiv_eq_ediv_of_nonneg, Int.tmod_eq_emod_of_nonneg, chk_pos, decT, decF, br_pos, br_neg, wX, ↓reduceIte, Nat.reduceEqDiff, Nat.reduceAdd, Nat.reduceSub, Nat.reduceMul, Nat.reduceLeDiff, Nat.reduceLT, Nat.reduceMod, Nat.reduceDiv, Int.reduceToNat, Nat.min_eq_left, IntKind.bits, Int.reducePow, Int.reduceLT, Int.reduceLE, Int.reduceEq, Int.reduceNe, Int.reduceAdd, Int.reduceSub, and_self, reduceCtorEq, decide_eq_true_eq, decide_eq_false_iff_not, eq_self, implies_true, exists_const, Option.isNone_some, Option.isNone_none, Option.isSome_some, Option.isSome_none, Option.getD_some]
      refine (Concat_ok hv2 (by rw [List.length_take, List.length_drop]; omega) (by omega)).k ?_
      rintro w g2 ⟨rw2, e2⟩
      simp (disch := omega) only [dm_t, wA, wB, wL, wW, wY, Int.fdiv_eq_ediv_of_nonneg, Int.tdiv_eq_ediv_of_nonneg, Int.tmod_eq_emod_of_nonneg, chk_pos, decT, decF, br_pos, br_neg, wX, ↓reduceIte, Nat.reduceEqDiff, Nat.reduceAdd, Nat.reduceSub, Nat.reduceMul, Nat.reduceLeDiff, Nat.reduceLT, Nat.reduceMod, Nat.reduceDiv, Int.reduceToNat, Nat.min_eq_left, IntKind.bits, Int.reducePow, Int.reduceLT, Int.reduceLE, Int.reduceEq, Int.reduceNe, Int.reduceAdd, Int.reduceSub, and_self, reduceCtorEq, decide_eq_true_eq, decide_eq_false_iff_not, eq_self, implies_true, exists_const, Option.isNone_some, Option.isNone_none, Option.isSome_some, Option.isSome_none, Option.getD_some]
      refine (rr.Copy_ok rw2 (by rw [total_flat]; omega) fun x hx => ?_).k ?_
      · obtain ⟨l, hl, hxl⟩ := List.mem_flatten.1 hx
        exact hk l (List.mem_of_mem_drop (List.mem_of_mem_take hl)) x hxl
      rintro u g3 ⟨ow, e3⟩
      obtain ⟨ua, uc, rfl⟩ := ow.l.len
      simp (disch := omega) only [dm_t, wA, wB, wL, wW, wY, Int.fdiv_eq_ediv_of_nonneg, Int.tdiv_eq_ediv_of_nonneg, Int.tmod_eq_emod_of_nonneg, chk_pos, decT, decF, br_pos, br_neg, wX, ↓reduceIte, Nat.reduceEqDiff, Nat.reduceAdd, Nat.reduceSub, Nat.reduceMul, Nat.reduceLeDiff, Nat.reduceLT, Nat.reduceMod, Nat.reduceDiv, Int.reduceToNat, Nat.min_eq_left, IntKind.bits, Int.reducePow, Int.reduceLT, Int.reduceLE, Int.reduceEq, Int.reduceNe, Int.reduceAdd, Int.reduceSub, and_self, reduceCtorEq, decide_eq_true_eq, decide_eq_false_iff_not, eq_self, implies_true, exists_const, Option.isNone_some, Option.isNone_none, Option.isSome_some, Option.isSome_none, Option.getD_some]
      intro xb hxb
      refine storeH_all (vs := [_, _]) (hupd_same _ _ _) rfl rfl ?_
      rw [hupd_hupd]
      generalize hG : hupd g3 xb _ = g4
      obtain ⟨e4, qx⟩ := new_ext hG hxb
      clear hG
      have hst := total_step ls (begins pl i) pl[i]
      have x1 : cellAt g4 ⟨xb, 1, none⟩ = some (.slice ua (List.flatten ((ls.drop (begins pl i)).take pl[i])).length uc) := by rw [cellAt_of qx]; rfl
      have htf := total_flat ((ls.drop (begins pl i)).take pl[i])
      have e14 := e2.trans (e3.trans e4)
      have hA : BA pl ls base i h1 g4 [.int .i64 (pl[i] : Int), .agg #[.int .i64 ((base + total (ls.take (begins pl i)) : Nat) : Int), .slice ua (List.flatten ((ls.drop (begins pl i)).take pl[i])).length uc]] := by
        refine ⟨_, by rw [hgd], ?_⟩
        rw [hgd]
        exact (OwQ.ext ow e4 fun r hr => hr.ext e4).imp (fun y hy hn => hy (e2.bk hn)) (fun y _ _ hn => e2.bk hn) fun r hr => hr.mono fun y _ _ hn => e2.bk hn
      have hy1 := hy i hil h1 g4 _ hj e14 hA
      rw [← htf] at hst
      simp (disch := omega) only [dm_t, wA, wB, wL, wW, wY, Int.fdiv_eq_ediv_of_nonneg, Int.tdiv_eq_ediv_of_nonneg, Int.tmod_eq_emod_of_nonneg, chk_pos, decT, decF, br_pos, br_neg, wX, ↓reduceIte, Nat.reduceEqDiff, Nat.reduceAdd, Nat.reduceSub, Nat.reduceMul, Nat.reduceLeDiff, Nat.reduceLT, Nat.reduceMod, Nat.reduceDiv, Int.reduceToNat, Nat.min_eq_left, IntKind.bits, Int.reducePow, Int.reduceLT, Int.reduceLE, Int.reduceEq, Int.reduceNe, Int.reduceAdd, Int.reduceSub, and_self, reduceCtorEq, decide_eq_true_eq, decide_eq_false_iff_not, eq_self, implies_true, exists_const, Option.isNone_some, Option.isNone_none, Option.isSome_some, Option.isSome_none, Option.getD_some, x1, cellsAt_all qx 2 rfl]
      refine hy1.k ?_
      rintro (_ | _) h2 hj3
      · simp (disch := omega) only [dm_t, wA, wB, wL, wW, wY, Int.fdiv_eq_ediv_of_nonneg, Int.tdiv_eq_ediv_of_nonneg, Int.tmod_eq_emod_of_nonneg, chk_pos, decT, decF, br_pos, br_neg, wX, ↓reduceIte, Nat.reduceEqDiff, Nat.reduceAdd, Nat.reduceSub, Nat.reduceMul, Nat.reduceLeDiff, Nat.reduceLT, Nat.reduceMod, Nat.reduceDiv, Int.reduceToNat, Nat.min_eq_left, IntKind.bits, Int.reducePow, Int.reduceLT, Int.reduceLE, Int.reduceEq, Int.reduceNe, Int.reduceAdd, Int.reduceSub, and_self, reduceCtorEq, decide_eq_true_eq, decide_eq_false_iff_not, eq_self, implies_true, exists_const, Option.isNone_some, Option.isNone_none, Option.isSome_some, Option.isSome_none, Option.getD_some]
        exact .inr ⟨i, hil, by simpa using hj3⟩
      · simp (disch := omega) only [dm_t, wA, wB, wL, wW, wY, Int.fdiv_eq_ediv_of_nonneg, Int.tdiv_eq_ediv_of_nonneg, Int.tmod_eq_emod_of_nonneg, chk_pos, decT, decF, br_pos, br_neg, wX, ↓reduceIte, Nat.reduceEqDiff, Nat.reduceAdd, Nat.reduceSub, Nat.reduceMul, Nat.reduceLeDiff, Nat.reduceLT, Nat.reduceMod, Nat.reduceDiv, Int.reduceToNat, Nat.min_eq_left, IntKind.bits, Int.reducePow, Int.reduceLT, Int.reduceLE, Int.reduceEq, Int.reduceNe, Int.reduceAdd, Int.reduceSub, and_self, reduceCtorEq, decide_eq_true_eq, decide_eq_false_iff_not, eq_self, implies_true, exists_const, Option.isNone_some, Option.isNone_none, Option.isSome_some, Option.isSome_none, Option.getD_some]
        exact ⟨⟨i + 1, by rw [hbs]; simp, by rw [hbs, hst]; simp; omega, by simp, by omega, by simpa using hj3⟩, by simp [m1]; omega⟩
    · obtain rfl : i = pl.length := by omega
      simp (disch := omega) only [dm_t, wA, wB, wL, wW, wY, Int.fdiv_eq_ediv_of_nonneg, Int.tdiv_eq_ediv_of_nonneg, Int.tmod_eq_emod_of_nonneg, chk_pos, decT, decF, br_pos, br_neg, wX, ↓reduceIte, Nat.reduceEqDiff, Nat.reduceAdd, Nat.reduceSub, Nat.reduceMul, Nat.reduceLeDiff, Nat.reduceLT, Nat.reduceMod, Nat.reduceDiv, Int.reduceToNat, Nat.min_eq_left, IntKind.bits, Int.reducePow, Int.reduceLT, Int.reduceLE, Int.reduceEq, Int.reduceNe, Int.reduceAdd, Int.reduceSub, and_self, reduceCtorEq, decide_eq_true_eq, decide_eq_false_iff_not, eq_self, implies_true, exists_const, Option.isNone_some, Option.isNone_none, Option.isSome_some, Option.isSome_none, Option.getD_some]
      exact .inl hj
  exact key.k fun _ _ h => h
end Go.Proofs.Ytcebmbnofejlhaa.gf
