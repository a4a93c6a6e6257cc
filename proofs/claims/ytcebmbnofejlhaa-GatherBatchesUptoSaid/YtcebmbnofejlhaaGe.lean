/-
  gather: a going over, gone over.
-/
import Derived.Test.YtcebmbnofejlhaaGd
import Derived.Test.YtcebmbnofejlhaaG8
namespace Go.Proofs.Ytcebmbnofejlhaa.gf
open Go.Proofs.Ytcebmbnofejlhaa rr ga
set_option linter.unusedVariables false
set_option linter.unusedSimpArgs false
theorem goes_ok {S T : Nat → Prop} {h : H} {bb pb ab : Nat} {pv av pw lv : Value} {base : Nat} {pl : List Nat} {ls : List rcs.D} {leave : Int} (B : BI T bb pb ab pv av base pl ls h) (hp : S1 nos h pw (ga.ints pl)) (hl : RepL S rcs h lv ls) (hb : base ≤ 9007199254740992) (ht : total ls ≤ 3000) (hls : ls.length ≤ 300) (hsum : pl.sum ≤ ls.length) (hpl : pl.length ≤ 300)
    (hk : ∀ l ∈ ls, ∀ x ∈ l, x.2.1.length ≤ 140737488355328 ∧ x.2.2.length ≤ 140737488355328) (hlv : -9223372036854775808 ≤ leave ∧ leave ≤ 9223372036854775807) :
    Ok Try.prog 28 #[.func (.func 43) #[] #[.pointer (some ⟨bb, 0, none⟩), .pointer (some ⟨pb, 0, none⟩), .pointer (some ⟨ab, 0, none⟩)], pw, .int .i64 (base : Int), lv, .int .i64 leave] h fun v h' => v = .bool true ∧ Ext h h' := by
  obtain ⟨pa, pn, hpv⟩ := S1.len hp
  have hpln : (ga.ints pl).length = pl.length := by simp [ga.ints]
  rw [hpln] at hpv
  subst hpv
  obtain ⟨la, lc, rfl⟩ := hl.len
  have hlcap := hl.cap
  refine c28_ok (args := [_, _, _, _, _]) (by simp) ?_
  simp (disch := omega) only [dm_t, wA, wB, wL, wW, wY, Int.fdiv_eq_ediv_of_nonneg, Int.tdiv_eq_ediv_of_nonneg, Int.tmod_eq_emod_of_nonneg, chk_pos, decT, decF, br_pos, br_neg, wX, ↓reduceIte, Nat.reduceEqDiff, Nat.reduceAdd, Nat.reduceSub, Nat.reduceMul, Nat.reduceLeDiff, Nat.reduceLT, Nat.reduceMod, Nat.reduceDiv, Int.reduceToNat, Nat.min_eq_left, IntKind.bits, Int.reducePow, Int.reduceLT, Int.reduceLE, Int.reduceEq, Int.reduceNe, Int.reduceAdd, Int.reduceSub, and_self, reduceCtorEq, decide_eq_true_eq, decide_eq_false_iff_not, eq_self, implies_true, exists_const, Option.isNone_some, Option.isNone_none, Option.isSome_some, Option.isSome_none, Option.getD_some]
  intro b6 h6 b7 h7 b8 h8 b9 h9 b10 h10
  generalize hG : hupd h b6 _ = g1 at h7 h8 h9 h10 ⊢
  obtain ⟨e1, q6⟩ := new_ext hG h6
  clear hG
  generalize hG : hupd g1 b7 _ = g2 at h8 h9 h10 ⊢
  obtain ⟨e2, q7⟩ := new_ext hG h7
  clear hG
  generalize hG : hupd g2 b8 _ = g3 at h9 h10 ⊢
  obtain ⟨e3, q8⟩ := new_ext hG h8
  clear hG
  generalize hG : hupd g3 b9 _ = g4 at h10 ⊢
  obtain ⟨e4, q9⟩ := new_ext hG h9
  clear hG
  generalize hG : hupd g4 b10 _ = g5
  obtain ⟨e5, q10⟩ := new_ext hG h10
  clear hG
  have n7 := e1.bk h7
  have n10 := (e1.trans (e2.trans (e3.trans e4))).bk h10
  simp (disch := omega) only [dm_t, wA, wB, wL, wW, wY, Int.fdiv_eq_ediv_of_nonneg, Int.tdiv_eq_ediv_of_nonneg, Int.tmod_eq_emod_of_nonneg, chk_pos, decT, decF, br_pos, br_neg, wX, ↓reduceIte, Nat.reduceEqDiff, Nat.reduceAdd, Nat.reduceSub, Nat.reduceMul, Nat.reduceLeDiff, Nat.reduceLT, Nat.reduceMod, Nat.reduceDiv, Int.reduceToNat, Nat.min_eq_left, IntKind.bits, Int.reducePow, Int.reduceLT, Int.reduceLE, Int.reduceEq, Int.reduceNe, Int.reduceAdd, Int.reduceSub, and_self, reduceCtorEq, decide_eq_true_eq, decide_eq_false_iff_not, eq_self, implies_true, exists_const, Option.isNone_some, Option.isNone_none, Option.isSome_some, Option.isSome_none, Option.getD_some]
  intro b11 h11 b12 h12
  generalize hG : hupd g5 b11 _ = g6 at h12 ⊢
  obtain ⟨e6, q11⟩ := new_ext hG h11
  clear hG
  generalize hG : hupd g6 b12 _ = g7
  obtain ⟨e7, q12⟩ := new_ext hG h12
  clear hG
  have E5 := e1.trans (e2.trans (e3.trans (e4.trans e5)))
  have n11 := E5.bk h11
  have n12 := (E5.trans e6).bk h12
  have hne12 : b11 ≠ b12 := ne_of q11 h12
  have d6 : b6 ≠ b7 ∧ b6 ≠ b11 ∧ b6 ≠ b12 := ⟨ne_of q6 h7, ne_of ((e2.trans (e3.trans (e4.trans e5))).at q6) h11, ne_of ((e2.trans (e3.trans (e4.trans (e5.trans e6)))).at q6) h12⟩
  have d7 : b7 ≠ b11 ∧ b7 ≠ b12 := ⟨ne_of ((e3.trans (e4.trans e5)).at q7) h11, ne_of ((e3.trans (e4.trans (e5.trans e6))).at q7) h12⟩
  have d8 : b8 ≠ b7 ∧ b8 ≠ b11 ∧ b8 ≠ b12 := ⟨(ne_of q7 h8).symm, ne_of ((e4.trans e5).at q8) h11, ne_of ((e4.trans (e5.trans e6)).at q8) h12⟩
  have d9 : b9 ≠ b7 ∧ b9 ≠ b11 ∧ b9 ≠ b12 := ⟨(ne_of (e3.at q7) h9).symm, ne_of (e5.at q9) h11, ne_of ((e5.trans e6).at q9) h12⟩
  have d10 : b10 ≠ b7 ∧ b10 ≠ b11 ∧ b10 ≠ b12 := ⟨(ne_of ((e3.trans e4).at q7) h10).symm, ne_of q10 h11, ne_of (e6.at q10) h12⟩
  have E7 := (E5.trans e6).trans e7
  replace q11 := e7.at q11
  replace q6 := (e2.trans (e3.trans (e4.trans (e5.trans (e6.trans e7))))).at q6
  replace q7 := (e3.trans (e4.trans (e5.trans (e6.trans e7)))).at q7
  replace q8 := (e4.trans (e5.trans (e6.trans e7))).at q8
  replace q9 := (e5.trans (e6.trans e7)).at q9
  replace q10 := (e6.trans e7).at q10
  have B7 : BI (fun y => y = b7 ∨ y = b11 ∨ y = b12) bb pb ab pv av base pl ls g7 := (B.avoid fun y hy => .inr (by rcases hy with rfl | rfl | rfl <;> assumption)).ext E7
  have hp7 : S1 (fun y => y = b7 ∨ y = b11 ∨ y = b12) g7 _ _ := SlK.ext (SlK.old hp fun y hy => by rcases hy with rfl | rfl | rfl <;> assumption) E7
  have hl7 : RepL (fun y => y = b7 ∨ y = b11 ∨ y = b12) rcs g7 _ _ := RepL.ext (Rep.old hl fun y hy => by rcases hy with rfl | rfl | rfl <;> assumption) E7
  -- the numbers that are written
  let W : Nat → Prop := fun y => y = b7 ∨ y = b11 ∨ y = b12
  have nW : ∀ y, W y → h y = none := fun y hy => by rcases hy with rfl | rfl | rfl <;> assumption
  have a6 : ¬ W b6 := fun hh => hh.elim d6.1 fun hh => hh.elim d6.2.1 d6.2.2
  have a8 : ¬ W b8 := fun hh => hh.elim d8.1 fun hh => hh.elim d8.2.1 d8.2.2
  have a9 : ¬ W b9 := fun hh => hh.elim d9.1 fun hh => hh.elim d9.2.1 d9.2.2
  have a10 : ¬ W b10 := fun hh => hh.elim d10.1 fun hh => hh.elim d10.2.1 d10.2.2
  simp (disch := omega) only [dm_t, wA, wB, wL, wW, wY, Int.fdiv_eq_ediv_of_nonneg, Int.tdiv_eq_ediv_of_nonneg, Int.tmod_eq_emod_of_nonneg, chk_pos, decT, decF, br_pos, br_neg, wX, ↓reduceIte, Nat.reduceEqDiff, Nat.reduceAdd, Nat.reduceSub, Nat.reduceMul, Nat.reduceLeDiff, Nat.reduceLT, Nat.reduceMod, Nat.reduceDiv, Int.reduceToNat, Nat.min_eq_left, IntKind.bits, Int.reducePow, Int.reduceLT, Int.reduceLE, Int.reduceEq, Int.reduceNe, Int.reduceAdd, Int.reduceSub, and_self, reduceCtorEq, decide_eq_true_eq, decide_eq_false_iff_not, eq_self, implies_true, exists_const, Option.isNone_some, Option.isNone_none, Option.isSome_some, Option.isSome_none, Option.getD_some]
  refine storeH_all (vs := [_]) q11 rfl rfl ?_
  generalize hG : hupd g7 b11 _ = g8
  have f8 : Fr (fun y => y = b11) g7 g8 := hG ▸ Fr.upd (S := fun y => y = b11) rfl _
  have q11' : g8 b11 = some (.cells #[.int .i64 0] 3) := hG ▸ hupd_same _ _ _
  clear hG
  simp (disch := omega) only [dm_t, wA, wB, wL, wW, wY, Int.fdiv_eq_ediv_of_nonneg, Int.tdiv_eq_ediv_of_nonneg, Int.tmod_eq_emod_of_nonneg, chk_pos, decT, decF, br_pos, br_neg, wX, ↓reduceIte, Nat.reduceEqDiff, Nat.reduceAdd, Nat.reduceSub, Nat.reduceMul, Nat.reduceLeDiff, Nat.reduceLT, Nat.reduceMod, Nat.reduceDiv, Int.reduceToNat, Nat.min_eq_left, IntKind.bits, Int.reducePow, Int.reduceLT, Int.reduceLE, Int.reduceEq, Int.reduceNe, Int.reduceAdd, Int.reduceSub, and_self, reduceCtorEq, decide_eq_true_eq, decide_eq_false_iff_not, eq_self, implies_true, exists_const, Option.isNone_some, Option.isNone_none, Option.isSome_some, Option.isSome_none, Option.getD_some]
  refine storeH_all (vs := [_]) (f8 _ _ q12 hne12.symm) rfl rfl ?_
  generalize hG : hupd g8 b12 _ = g9
  have f9 : Fr (fun y => y = b12) g8 g9 := hG ▸ Fr.upd (S := fun y => y = b12) rfl _
  have q12' : g9 b12 = some (.cells #[.int .i64 0] 3) := hG ▸ hupd_same _ _ _
  clear hG
  replace q11' := f9 _ _ q11' hne12
  have F79 : Fr W g7 g9 := (f8.mono fun y hy => .inr (.inl hy)).trans (f9.mono fun y hy => .inr (.inr hy))
  have q7' := f9 _ _ (f8 _ _ q7 d7.1) d7.2
  simp (disch := omega) only [dm_t, wA, wB, wL, wW, wY, Int.fdiv_eq_ediv_of_nonneg, Int.tdiv_eq_ediv_of_nonneg, Int.tmod_eq_emod_of_nonneg, chk_pos, decT, decF, br_pos, br_neg, wX, ↓reduceIte, Nat.reduceEqDiff, Nat.reduceAdd, Nat.reduceSub, Nat.reduceMul, Nat.reduceLeDiff, Nat.reduceLT, Nat.reduceMod, Nat.reduceDiv, Int.reduceToNat, Nat.min_eq_left, IntKind.bits, Int.reducePow, Int.reduceLT, Int.reduceLE, Int.reduceEq, Int.reduceNe, Int.reduceAdd, Int.reduceSub, and_self, reduceCtorEq, decide_eq_true_eq, decide_eq_false_iff_not, eq_self, implies_true, exists_const, Option.isNone_some, Option.isNone_none, Option.isSome_some, Option.isSome_none, Option.getD_some]
  refine vc_rngA rfl rfl (Batches1_it (pv := pv) (av := av) hb ht hls hsum hpl hk) ?_
    (fun i G => Fr W g7 G ∧ G b7 = some (.cells #[.int .i64 ((base + total (ls.take (begins pl i)) : Nat) : Int)] 2) ∧ G b11 = some (.cells #[.int .i64 (i : Int)] 3) ∧ G b12 = some (.cells #[.int .i64 (begins pl i : Int)] 3))
    (fun G => G b10 = some (.cells #[.bool true] 4) ∧ Ext h G) (fun _ _ => False) ?_ ?_ ?_ ?_ ?_ ?_ ?_ (fun _ _ h => h.elim)
  · rintro h b o hb h1
    exact h1.ext (Ext.new hb o)
  · rintro i G ⟨z0, z1, z2, z3⟩
    exact (B7.fr z0 fun y hy => hy).avoid fun y hy => hy.elim
  · rintro i h' h'' ⟨z0, z1, z2, z3⟩ e
    exact ⟨z0.trans (e.mono fun _ h => h.elim), e.at z1, e.at z2, e.at z3⟩
  · refine ⟨F79, ?_, q11', by simpa [begins] using q12'⟩
    simpa [begins, total] using q7'
  · rintro i h0 h' args hi ⟨w, rfl, -⟩; rfl
  · rintro L i h0 h1 args hi ⟨r, hr⟩ ⟨z0, z1, z2, z3⟩ e0 ⟨rv, rfl, ow⟩
    have hgd : pl.getD i 0 = pl[i] := by simp [List.getD_eq_getElem?_getD, hi]
    rw [hgd] at ow ⊢
    obtain ⟨ra, rn, rfl⟩ := ow.l.len
    have hbs := begins_succ hi
    have hble := @begins_le pl (i + 1)
    have htf := total_flat ((ls.drop (begins pl i)).take pl[i])
    have htd := total_drop ls (begins pl i) pl[i]
    have htt := total_take ls (begins pl i)
    have hst := total_step ls (begins pl i) pl[i]
    have f1 : Fr (fun y => y = L) h1 (hdel h1 L) := fun x o hx hn => by show (if x = L then none else h1 x) = _; rw [if_neg hn]; exact hx
    have hL0 : ∀ y, y = L → h0 y ≠ none := fun y hy => by rw [hy, hr]; simp
    have ow1 : OwQ (WRow 5 fun y => h0 y = none ∧ h1 y ≠ none) (fun y => h0 y ≠ none) rc (fun y => h0 y = none ∧ h1 y ≠ none) (hdel h1 L) 81 (.slice ra _ rn) _ :=
      OwQ.fr (ow.imp (fun _ h => h) (fun y o hy hn => ⟨hn, by rw [hy]; simp⟩) fun r hr => hr.mono fun y o hy hn => ⟨hn, by rw [hy]; simp⟩) f1 hL0 (fun y hy ho _ => hL0 y hy ho.1) fun r hr => wrow_fr hr f1 fun y hy ho => hL0 y hy ho.1
    clear ow
    have hd0 : ∀ y, h0 y = none → hdel h0 L y = none := fun y hy => by
      show (if y = L then none else h0 y) = none
      split
      · rfl
      · exact hy
    simp (disch := omega) only [dm_t, wA, wB, wL, wW, wY, Int.fdiv_eq_ediv_of_nonneg, Int.tdiv_eq_ediv_of_nonneg, Int.tmod_eq_emod_of_nonneg, chk_pos, decT, decF, br_pos, br_neg, wX, ↓reduceIte, Nat.reduceEqDiff, Nat.reduceAdd, Nat.reduceSub, Nat.reduceMul, Nat.reduceLeDiff, Nat.reduceLT, Nat.reduceMod, Nat.reduceDiv, Int.reduceToNat, Nat.min_eq_left, IntKind.bits, Int.reducePow, Int.reduceLT, Int.reduceLE, Int.reduceEq, Int.reduceNe, Int.reduceAdd, Int.reduceSub, and_self, reduceCtorEq, decide_eq_true_eq, decide_eq_false_iff_not, eq_self, implies_true, exists_const, Option.isNone_some, Option.isNone_none, Option.isSome_some, Option.isSome_none, Option.getD_some, List.zip_cons_cons, List.zip_nil_right, List.cons_append, List.nil_append]
    intro cb hcb
    have hcL : cb ≠ L := fun h => by subst h; rw [e0.at hr] at hcb; cases hcb
    simp (disch := omega) only [dm_t, wA, wB, wL, wW, wY, Int.fdiv_eq_ediv_of_nonneg, Int.tdiv_eq_ediv_of_nonneg, Int.tmod_eq_emod_of_nonneg, chk_pos, decT, decF, br_pos, br_neg, wX, ↓reduceIte, Nat.reduceEqDiff, Nat.reduceAdd, Nat.reduceSub, Nat.reduceMul, Nat.reduceLeDiff, Nat.reduceLT, Nat.reduceMod, Nat.reduceDiv, Int.reduceToNat, Nat.min_eq_left, IntKind.bits, Int.reducePow, Int.reduceLT, Int.reduceLE, Int.reduceEq, Int.reduceNe, Int.reduceAdd, Int.reduceSub, and_self, reduceCtorEq, decide_eq_true_eq, decide_eq_false_iff_not, eq_self, implies_true, exists_const, Option.isNone_some, Option.isNone_none, Option.isSome_some, Option.isSome_none, Option.getD_some]
    refine storeH_all (vs := [_, _]) (hupd_same _ _ _) rfl rfl ?_
    rw [hupd_hupd]
    simp (disch := omega) only [dm_t, wA, wB, wL, wW, wY, Int.fdiv_eq_ediv_of_nonneg, Int.tdiv_eq_ediv_of_nonneg, Int.tmod_eq_emod_of_nonneg, chk_pos, decT, decF, br_pos, br_neg, wX, ↓reduceIte, Nat.reduceEqDiff, Nat.reduceAdd, Nat.reduceSub, Nat.reduceMul, Nat.reduceLeDiff, Nat.reduceLT, Nat.reduceMod, Nat.reduceDiv, Int.reduceToNat, Nat.min_eq_left, IntKind.bits, Int.reducePow, Int.reduceLT, Int.reduceLE, Int.reduceEq, Int.reduceNe, Int.reduceAdd, Int.reduceSub, and_self, reduceCtorEq, decide_eq_true_eq, decide_eq_false_iff_not, eq_self, implies_true, exists_const, Option.isNone_some, Option.isNone_none, Option.isSome_some, Option.isSome_none, Option.getD_some]
    refine ⟨hupd_ne _ _ hcL.symm, ?_⟩
    have e5' := hdel_mono L (Ext.new hcb (.cells #[.int .i64 ((base + total (ls.take (begins pl i)) : Nat) : Int), .slice ra (List.flatten ((ls.drop (begins pl i)).take pl[i])).length rn] 87))
    have q0 : hdel (hupd h1 cb (.cells #[.int .i64 ((base + total (ls.take (begins pl i)) : Nat) : Int), .slice ra (List.flatten ((ls.drop (begins pl i)).take pl[i])).length rn] 87)) L cb = some (.cells #[.int .i64 ((base + total (ls.take (begins pl i)) : Nat) : Int), .slice ra (List.flatten ((ls.drop (begins pl i)).take pl[i])).length rn] 87) := by
      rw [hdel_hupd_ne hcL, hupd_same]
    generalize hdel (hupd h1 cb (.cells #[.int .i64 ((base + total (ls.take (begins pl i)) : Nat) : Int), .slice ra (List.flatten ((ls.drop (begins pl i)).take pl[i])).length rn] 87)) L = G at e5' q0 ⊢
    have e0G := (hdel_mono L e0).trans e5'
    have ow2 := OwQ.ext ow1 e5' fun r hr => hr.ext e5'
    clear ow1 e5'
    have w0 := z0.trans (e0G.mono fun _ h => h.elim)
    have c6 : cellAt G ⟨b6, 0, none⟩ = some (.slice pa pl.length pn) := by rw [cellAt_of (w0 _ _ q6 a6)]; rfl
    have c8 : cellAt G ⟨b8, 0, none⟩ = some (.slice la ls.length lc) := by rw [cellAt_of (w0 _ _ q8 a8)]; rfl
    have c7 : cellAt G ⟨b7, 0, none⟩ = some (.int .i64 ((base + total (ls.take (begins pl i)) : Nat) : Int)) := by rw [cellAt_of (e0G.at z1)]; rfl
    have c11 : cellAt G ⟨b11, 0, none⟩ = some (.int .i64 (i : Int)) := by rw [cellAt_of (e0G.at z2)]; rfl
    have c12 : cellAt G ⟨b12, 0, none⟩ = some (.int .i64 (begins pl i : Int)) := by rw [cellAt_of (e0G.at z3)]; rfl
    have x0 : cellAt G ⟨cb, 0, none⟩ = some (.int .i64 ((base + total (ls.take (begins pl i)) : Nat) : Int)) := by rw [cellAt_of q0]; rfl
    have x1 : cellAt G ⟨cb, 1, none⟩ = some (.slice ra (List.flatten ((ls.drop (begins pl i)).take pl[i])).length rn) := by rw [cellAt_of q0]; rfl
    have hpG := SlK.fr hp7 w0 fun y hy => hy
    obtain ⟨p1, o1, i1, t1⟩ := S1.load hpG (i := i) (by rw [hpln]; exact hi) .i64
    have hg : (ga.ints pl)[i]'(by rw [hpln]; exact hi) = .int .i64 (pl[i] : Int) := by simp [ga.ints]
    rw [hg] at t1
    have hlG := (hl7.fr w0 fun y hy => hy)
    simp (disch := omega) only [dm_t, wA, wB, wL, wW, wY, Int.fdiv_eq_ediv_of_nonneg, Int.tdiv_eq_ediv_of_nonneg, Int.tmod_eq_emod_of_nonneg, chk_pos, decT, decF, br_pos, br_neg, wX, ↓reduceIte, Nat.reduceEqDiff, Nat.reduceAdd, Nat.reduceSub, Nat.reduceMul, Nat.reduceLeDiff, Nat.reduceLT, Nat.reduceMod, Nat.reduceDiv, Int.reduceToNat, Nat.min_eq_left, IntKind.bits, Int.reducePow, Int.reduceLT, Int.reduceLE, Int.reduceEq, Int.reduceNe, Int.reduceAdd, Int.reduceSub, and_self, reduceCtorEq, decide_eq_true_eq, decide_eq_false_iff_not, eq_self, implies_true, exists_const, Option.isNone_some, Option.isNone_none, Option.isSome_some, Option.isSome_none, Option.getD_some, c11, c6, i1, t1, x0, c7, x1, c8, c12]
    refine RepL.cutK hlG (by rfl) (begins pl i) (begins pl i + pl[i]) lc rfl (by omega) (by simp) (by omega) (.inr rfl) ?_
    intro v2 hv2
    rw [Nat.add_sub_cancel_left] at hv2
    simp (disch := omega) only [dm_t, wA, wB, wL, wW, wY, Int.fdiv_eq_ediv_of_nonneg, Int.tdiv_eq_ediv_of_nonneg, Int.tmod_eq_emod_of_nonneg, chk_pos, decT, decF, br_pos, br_neg, wX, ↓reduceIte, Nat.reduceEqDiff, Nat.reduceAdd, Nat.reduceSub, Nat.reduceMul, Nat.reduceLeDiff, Nat.reduceLT, Nat.reduceMod, Nat.reduceDiv, Int.reduceToNat, Nat.min_eq_left, IntKind.bits, Int.reducePow, Int.reduceLT, Int.reduceLE, Int.reduceEq, Int.reduceNe, Int.reduceAdd, Int.reduceSub, and_self, reduceCtorEq, decide_eq_true_eq, decide_eq_false_iff_not, eq_self, implies_true, exists_const, Option.isNone_some, Option.isNone_none, Option.isSome_some, Option.isSome_none, Option.getD_some]
    refine (gf.Together_ok hv2 (by rw [List.length_take, List.length_drop]; omega) (by omega)).k ?_
    rintro w g2 ⟨rw2, e2⟩
    have ow3 := OwQ.ext ow2 e2 fun r hr => hr.ext e2
    have y7 := cellAt_ext e2 c7
    have y12 := cellAt_ext e2 c12
    have y11 := cellAt_ext e2 c11
    have y1 := cellAt_ext e2 x1
    simp (disch := omega) only [dm_t, wA, wB, wL, wW, wY, Int.fdiv_eq_ediv_of_nonneg, Int.tdiv_eq_ediv_of_nonneg, Int.tmod_eq_emod_of_nonneg, chk_pos, decT, decF, br_pos, br_neg, wX, ↓reduceIte, Nat.reduceEqDiff, Nat.reduceAdd, Nat.reduceSub, Nat.reduceMul, Nat.reduceLeDiff, Nat.reduceLT, Nat.reduceMod, Nat.reduceDiv, Int.reduceToNat, Nat.min_eq_left, IntKind.bits, Int.reducePow, Int.reduceLT, Int.reduceLE, Int.reduceEq, Int.reduceNe, Int.reduceAdd, Int.reduceSub, and_self, reduceCtorEq, decide_eq_true_eq, decide_eq_false_iff_not, eq_self, implies_true, exists_const, Option.isNone_some, Option.isNone_none, Option.isSome_some, Option.isSome_none, Option.getD_some, y7, y12, y11, y1, cellAt_ext e2 c6, cellAt_ext e2 c8, cellAt_ext e2 x0, i1, cellAt_ext e2 t1]
    refine (gf.Same_ok (ow3.l.mono0.repS fun _ _ h => h : RepL nos rc g2 _ _) rw2 (by omega)).k ?_
    rintro _ _ ⟨rfl, rfl⟩
    have e02 := e0G.trans e2
    have v7 := e02.at z1
    have v11 := e02.at z2
    have v12 := e02.at z3
    simp (disch := omega) only [dm_t, wA, wB, wL, wW, wY, Int.fdiv_eq_ediv_of_nonneg, Int.tdiv_eq_ediv_of_nonneg, Int.tmod_eq_emod_of_nonneg, chk_pos, decT, decF, br_pos, br_neg, wX, ↓reduceIte, Nat.reduceEqDiff, Nat.reduceAdd, Nat.reduceSub, Nat.reduceMul, Nat.reduceLeDiff, Nat.reduceLT, Nat.reduceMod, Nat.reduceDiv, Int.reduceToNat, Nat.min_eq_left, IntKind.bits, Int.reducePow, Int.reduceLT, Int.reduceLE, Int.reduceEq, Int.reduceNe, Int.reduceAdd, Int.reduceSub, and_self, reduceCtorEq, decide_eq_true_eq, decide_eq_false_iff_not, eq_self, implies_true, exists_const, Option.isNone_some, Option.isNone_none, Option.isSome_some, Option.isSome_none, Option.getD_some, y7, y1]
    refine storeH_all (vs := [_]) v7 rfl rfl ?_
    generalize hG : hupd g2 b7 _ = g3
    have f3 : Fr (fun y => y = b7) g2 g3 := hG ▸ Fr.upd (S := fun y => y = b7) rfl _
    have u7 : g3 b7 = some (.cells #[.int .i64 ((base + total (ls.take (begins pl (i + 1))) : Nat) : Int)] 2) := by
      rw [← hG, hupd_same, hbs, hst, htf]
      simp only [Int.natCast_add, Int.add_assoc]
    clear hG
    have k7 := (Ext.hdel h0 L).at z1
    have k11 := (Ext.hdel h0 L).at z2
    have k12 := (Ext.hdel h0 L).at z3
    have hne7 := ne_of (e0.at k7) hcb
    have s11 := f3 _ _ v11 d7.1.symm
    have s12 := f3 _ _ v12 d7.2.symm
    have qc3 := f3 _ _ (e2.at q0) hne7.symm
    have x13 : cellAt g3 ⟨cb, 1, none⟩ = some (.slice ra (List.flatten ((ls.drop (begins pl i)).take pl[i])).length rn) := by rw [cellAt_of qc3]; rfl
    have hO7 : ∀ y, y = b7 → ¬ (h0 y = none ∧ h1 y ≠ none) := fun y hy ho => by rw [hy, k7] at ho; cases ho.1
    have wl : WL (fun y => h0 y = none ∧ h1 y ≠ none) g3 (.slice ra (List.flatten ((ls.drop (begins pl i)).take pl[i])).length rn) (List.flatten ((ls.drop (begins pl i)).take pl[i])).length := by
      obtain ⟨rows, r1, r2, -, r4⟩ := ow3
      exact ⟨rows, OwK.fr r1 f3 fun y hy ho _ => hO7 y hy ho, r2, fun r hr => wrow_fr (r4 r hr) f3 hO7⟩
    simp (disch := omega) only [dm_t, wA, wB, wL, wW, wY, Int.fdiv_eq_ediv_of_nonneg, Int.tdiv_eq_ediv_of_nonneg, Int.tmod_eq_emod_of_nonneg, chk_pos, decT, decF, br_pos, br_neg, wX, ↓reduceIte, Nat.reduceEqDiff, Nat.reduceAdd, Nat.reduceSub, Nat.reduceMul, Nat.reduceLeDiff, Nat.reduceLT, Nat.reduceMod, Nat.reduceDiv, Int.reduceToNat, Nat.min_eq_left, IntKind.bits, Int.reducePow, Int.reduceLT, Int.reduceLE, Int.reduceEq, Int.reduceNe, Int.reduceAdd, Int.reduceSub, and_self, reduceCtorEq, decide_eq_true_eq, decide_eq_false_iff_not, eq_self, implies_true, exists_const, Option.isNone_some, Option.isNone_none, Option.isSome_some, Option.isSome_none, Option.getD_some, x13]
    refine (spoil_ok wl (by omega)).k ?_
    rintro _ g4 ⟨rfl, f4⟩
    have nO : ∀ {y o}, h0 y = some o → ¬ (h0 y = none ∧ h1 y ≠ none) := fun hy ho => by rw [hy] at ho; cases ho.1
    have t7 := f4 _ _ u7 (nO k7)
    have t11 := f4 _ _ s11 (nO k11)
    have t12 := f4 _ _ s12 (nO k12)
    have c124 : cellAt g4 ⟨b12, 0, none⟩ = some (.int .i64 (begins pl i : Int)) := by rw [cellAt_of t12]; rfl
    simp (disch := omega) only [dm_t, wA, wB, wL, wW, wY, Int.fdiv_eq_ediv_of_nonneg, Int.tdiv_eq_ediv_of_nonneg, Int.tmod_eq_emod_of_nonneg, chk_pos, decT, decF, br_pos, br_neg, wX, ↓reduceIte, Nat.reduceEqDiff, Nat.reduceAdd, Nat.reduceSub, Nat.reduceMul, Nat.reduceLeDiff, Nat.reduceLT, Nat.reduceMod, Nat.reduceDiv, Int.reduceToNat, Nat.min_eq_left, IntKind.bits, Int.reducePow, Int.reduceLT, Int.reduceLE, Int.reduceEq, Int.reduceNe, Int.reduceAdd, Int.reduceSub, and_self, reduceCtorEq, decide_eq_true_eq, decide_eq_false_iff_not, eq_self, implies_true, exists_const, Option.isNone_some, Option.isNone_none, Option.isSome_some, Option.isSome_none, Option.getD_some, c124]
    refine storeH_all (vs := [_]) t12 rfl rfl ?_
    generalize hG : hupd g4 b12 _ = g5'
    have f5 : Fr (fun y => y = b12) g4 g5' := hG ▸ Fr.upd (S := fun y => y = b12) rfl _
    have m12 : g5' b12 = some (.cells #[.int .i64 (begins pl (i + 1) : Int)] 3) := by
      rw [← hG, hupd_same, hbs]; simp
    clear hG
    have m7 := f5 _ _ t7 d7.2
    have m11 := f5 _ _ t11 hne12
    have c115 : cellAt g5' ⟨b11, 0, none⟩ = some (.int .i64 (i : Int)) := by rw [cellAt_of m11]; rfl
    simp (disch := omega) only [dm_t, wA, wB, wL, wW, wY, Int.fdiv_eq_ediv_of_nonneg, Int.tdiv_eq_ediv_of_nonneg, Int.tmod_eq_emod_of_nonneg, chk_pos, decT, decF, br_pos, br_neg, wX, ↓reduceIte, Nat.reduceEqDiff, Nat.reduceAdd, Nat.reduceSub, Nat.reduceMul, Nat.reduceLeDiff, Nat.reduceLT, Nat.reduceMod, Nat.reduceDiv, Int.reduceToNat, Nat.min_eq_left, IntKind.bits, Int.reducePow, Int.reduceLT, Int.reduceLE, Int.reduceEq, Int.reduceNe, Int.reduceAdd, Int.reduceSub, and_self, reduceCtorEq, decide_eq_true_eq, decide_eq_false_iff_not, eq_self, implies_true, exists_const, Option.isNone_some, Option.isNone_none, Option.isSome_some, Option.isSome_none, Option.getD_some, c115]
    refine storeH_all (vs := [_]) m11 rfl rfl ?_
    generalize hG : hupd g5' b11 _ = g6'
    have f6 : Fr (fun y => y = b11) g5' g6' := hG ▸ Fr.upd (S := fun y => y = b11) rfl _
    have p11 : g6' b11 = some (.cells #[.int .i64 ((i + 1 : Nat) : Int)] 3) := hG ▸ hupd_same _ _ _
    clear hG
    have p7 := f6 _ _ m7 d7.1
    have p12 := f6 _ _ m12 hne12.symm
    -- what stands
    have FF : Fr W g7 g6' := by
      intro y o hy hn
      have q1 := z0 y o hy hn
      have q2 := f3 y o (e02.at q1) fun h => hn (.inl h)
      have q3 := f4 y o q2 fun ho => by have := hd0 y ho.1; rw [q1] at this; cases this
      have q4 := f5 y o q3 fun h => hn (.inr (.inr h))
      exact f6 y o q4 fun h => hn (.inr (.inl h))
    have c116 : cellAt g6' ⟨b11, 0, none⟩ = some (.int .i64 ((i + 1 : Nat) : Int)) := by rw [cellAt_of p11]; rfl
    have c96 : cellAt g6' ⟨b9, 0, none⟩ = some (.int .i64 leave) := by rw [cellAt_of (FF _ _ q9 a9)]; rfl
    have c106 := FF _ _ q10 a10
    by_cases hlv' : ((i + 1 : Nat) : Int) = leave
    · simp (disch := omega) only [dm_t, wA, wB, wL, wW, wY, Int.fdiv_eq_ediv_of_nonneg, Int.tdiv_eq_ediv_of_nonneg, Int.tmod_eq_emod_of_nonneg, chk_pos, decT, decF, br_pos, br_neg, wX, ↓reduceIte, Nat.reduceEqDiff, Nat.reduceAdd, Nat.reduceSub, Nat.reduceMul, Nat.reduceLeDiff, Nat.reduceLT, Nat.reduceMod, Nat.reduceDiv, Int.reduceToNat, Nat.min_eq_left, IntKind.bits, Int.reducePow, Int.reduceLT, Int.reduceLE, Int.reduceEq, Int.reduceNe, Int.reduceAdd, Int.reduceSub, and_self, reduceCtorEq, decide_eq_true_eq, decide_eq_false_iff_not, eq_self, implies_true, exists_const, Option.isNone_some, Option.isNone_none, Option.isSome_some, Option.isSome_none, Option.getD_some, c116, c96, hlv']
      refine storeH_all (vs := [_]) c106 rfl rfl ?_
      generalize hG : hupd g6' b10 _ = g8'
      have f8 : Fr (fun y => y = b10) g6' g8' := hG ▸ Fr.upd (S := fun y => y = b10) rfl _
      have q8 : g8' b10 = some (.cells #[.bool true] 4) := hG ▸ hupd_same _ _ _
      clear hG
      simp (disch := omega) only [dm_t, wA, wB, wL, wW, wY, Int.fdiv_eq_ediv_of_nonneg, Int.tdiv_eq_ediv_of_nonneg, Int.tmod_eq_emod_of_nonneg, chk_pos, decT, decF, br_pos, br_neg, wX, ↓reduceIte, Nat.reduceEqDiff, Nat.reduceAdd, Nat.reduceSub, Nat.reduceMul, Nat.reduceLeDiff, Nat.reduceLT, Nat.reduceMod, Nat.reduceDiv, Int.reduceToNat, Nat.min_eq_left, IntKind.bits, Int.reducePow, Int.reduceLT, Int.reduceLE, Int.reduceEq, Int.reduceNe, Int.reduceAdd, Int.reduceSub, and_self, reduceCtorEq, decide_eq_true_eq, decide_eq_false_iff_not, eq_self, implies_true, exists_const, Option.isNone_some, Option.isNone_none, Option.isSome_some, Option.isSome_none, Option.getD_some]
      exact fun _ => ⟨q8, Ext.step' (Ext.step' E7 FF nW) f8 fun y hy => by rw [hy]; exact n10⟩
    · simp (disch := omega) only [dm_t, wA, wB, wL, wW, wY, Int.fdiv_eq_ediv_of_nonneg, Int.tdiv_eq_ediv_of_nonneg, Int.tmod_eq_emod_of_nonneg, chk_pos, decT, decF, br_pos, br_neg, wX, ↓reduceIte, Nat.reduceEqDiff, Nat.reduceAdd, Nat.reduceSub, Nat.reduceMul, Nat.reduceLeDiff, Nat.reduceLT, Nat.reduceMod, Nat.reduceDiv, Int.reduceToNat, Nat.min_eq_left, IntKind.bits, Int.reducePow, Int.reduceLT, Int.reduceLE, Int.reduceEq, Int.reduceNe, Int.reduceAdd, Int.reduceSub, and_self, reduceCtorEq, decide_eq_true_eq, decide_eq_false_iff_not, eq_self, implies_true, exists_const, Option.isNone_some, Option.isNone_none, Option.isSome_some, Option.isSome_none, Option.getD_some, c116, c96, hlv']
      exact fun _ => ⟨FF, p7, p11, p12⟩
  · rintro G ⟨z0, z1, z2, z3⟩
    have c11 : cellAt G ⟨b11, 0, none⟩ = some (.int .i64 (pl.length : Int)) := by rw [cellAt_of z2]; rfl
    have c6 : cellAt G ⟨b6, 0, none⟩ = some (.slice pa pl.length pn) := by rw [cellAt_of (z0 _ _ q6 a6)]; rfl
    simp (disch := omega) only [dm_t, wA, wB, wL, wW, wY, Int.fdiv_eq_ediv_of_nonneg, Int.tdiv_eq_ediv_of_nonneg, Int.tmod_eq_emod_of_nonneg, chk_pos, decT, decF, br_pos, br_neg, wX, ↓reduceIte, Nat.reduceEqDiff, Nat.reduceAdd, Nat.reduceSub, Nat.reduceMul, Nat.reduceLeDiff, Nat.reduceLT, Nat.reduceMod, Nat.reduceDiv, Int.reduceToNat, Nat.min_eq_left, IntKind.bits, Int.reducePow, Int.reduceLT, Int.reduceLE, Int.reduceEq, Int.reduceNe, Int.reduceAdd, Int.reduceSub, and_self, reduceCtorEq, decide_eq_true_eq, decide_eq_false_iff_not, eq_self, implies_true, exists_const, Option.isNone_some, Option.isNone_none, Option.isSome_some, Option.isSome_none, Option.getD_some, c11, c6]
    refine storeH_all (vs := [_]) (z0 _ _ q10 a10) rfl rfl ?_
    generalize hG : hupd G b10 _ = G2
    have f2 : Fr (fun y => y = b10) G G2 := hG ▸ Fr.upd (S := fun y => y = b10) rfl _
    have q2 : G2 b10 = some (.cells #[.bool true] 4) := by rw [← hG, hupd_same]
    clear hG
    simp (disch := omega) only [dm_t, wA, wB, wL, wW, wY, Int.fdiv_eq_ediv_of_nonneg, Int.tdiv_eq_ediv_of_nonneg, Int.tmod_eq_emod_of_nonneg, chk_pos, decT, decF, br_pos, br_neg, wX, ↓reduceIte, Nat.reduceEqDiff, Nat.reduceAdd, Nat.reduceSub, Nat.reduceMul, Nat.reduceLeDiff, Nat.reduceLT, Nat.reduceMod, Nat.reduceDiv, Int.reduceToNat, Nat.min_eq_left, IntKind.bits, Int.reducePow, Int.reduceLT, Int.reduceLE, Int.reduceEq, Int.reduceNe, Int.reduceAdd, Int.reduceSub, and_self, reduceCtorEq, decide_eq_true_eq, decide_eq_false_iff_not, eq_self, implies_true, exists_const, Option.isNone_some, Option.isNone_none, Option.isSome_some, Option.isSome_none, Option.getD_some, cellAt_of q2]
    exact Ext.step' (Ext.step' E7 z0 nW) f2 fun y hy => by rw [hy]; exact n10
  · rintro G ⟨q2, E⟩
    simp (disch := omega) only [dm_t, wA, wB, wL, wW, wY, Int.fdiv_eq_ediv_of_nonneg, Int.tdiv_eq_ediv_of_nonneg, Int.tmod_eq_emod_of_nonneg, chk_pos, decT, decF, br_pos, br_neg, wX, ↓reduceIte, Nat.reduceEqDiff, Nat.reduceAdd, Nat.reduceSub, Nat.reduceMul, Nat.reduceLeDiff, Nat.reduceLT, Nat.reduceMod, Nat.reduceDiv, Int.reduceToNat, Nat.min_eq_left, IntKind.bits, Int.reducePow, Int.reduceLT, Int.reduceLE, Int.reduceEq, Int.reduceNe, Int.reduceAdd, Int.reduceSub, and_self, reduceCtorEq, decide_eq_true_eq, decide_eq_false_iff_not, eq_self, implies_true, exists_const, Option.isNone_some, Option.isNone_none, Option.isSome_some, Option.isSome_none, Option.getD_some, cellAt_of q2]
    exact E
end Go.Proofs.Ytcebmbnofejlhaa.gf
