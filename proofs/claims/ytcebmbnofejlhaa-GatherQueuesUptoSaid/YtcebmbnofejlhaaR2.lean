/-
  Lists of records: gone over, copied into new memory.
-/
import Derived.Test.YtcebmbnofejlhaaR1
namespace Go.Proofs.Ytcebmbnofejlhaa.rr
open Go.Proofs.Ytcebmbnofejlhaa
set_option linter.unusedVariables false
set_option linter.unusedSimpArgs false

theorem Values_ok {h : H} {s : Value} {l : List rc.D} {S : Nat → Prop} (hs : RepL S rc h s l) : Ok Try.prog 49 #[s] h fun v h' => ∃ b, v = .func (.func 55) #[] #[.pointer (some ⟨b, 0, none⟩)] ∧ h b = none ∧ h' = hupd h b (.cells #[s] 32) := by
  obtain ⟨sa, sc, rfl⟩ := hs.len
  refine c49_ok (args := [_]) (by simp) ?_
  simp (disch := omega) only [dm_t, wA, wB, wL, wW, wY, Int.fdiv_eq_ediv_of_nonneg, Int.tdiv_eq_ediv_of_nonneg, Int.tmod_eq_emod_of_nonneg, chk_pos, decT, decF, br_pos, br_neg, wX, ↓reduceIte, Nat.reduceEqDiff, Nat.reduceAdd, Nat.reduceSub, Nat.reduceMul, Nat.reduceLeDiff, Nat.reduceLT, Nat.reduceMod, Nat.reduceDiv, Int.reduceToNat, Nat.min_eq_left, IntKind.bits, Int.reducePow, Int.reduceLT, Int.reduceLE, Int.reduceEq, Int.reduceNe, Int.reduceAdd, Int.reduceSub, and_self, reduceCtorEq, decide_eq_true_eq, decide_eq_false_iff_not, eq_self, implies_true, exists_const, Option.isNone_some, Option.isNone_none, Option.isSome_some, Option.isSome_none, Option.getD_some]
  intro b hb
  exact ⟨b, rfl, hb, rfl⟩
theorem Values_it {b : Nat} {s : Value} {rows : List (List Value)} (hcell : ∀ r ∈ rows, r.all isCell = true) (hlen : rows.length ≤ 4611686018427387904) :
    Rng Try.prog 55 #[.pointer (some ⟨b, 0, none⟩)] rows.length (fun i => [.agg (rows.getD i []).toArray]) (fun h => h b = some (.cells #[s] 32) ∧ SlK 3 nos h s rows) := by
  intro L J Jx h X hJ hE hy h0
  obtain ⟨hb, hsl⟩ := hJ _ _ h0
  obtain ⟨sa, sc, rfl⟩ := hsl.len
  have key : Ok Try.prog 55 #[.func (.yield L) #[] #[], .pointer (some ⟨b, 0, none⟩)] h fun _ h' => J rows.length h' ∨ ∃ i, i < rows.length ∧ Jx (i + 1) h' := by
    refine c55_ok (args := [_, _]) (by simp) ?_
    simp (disch := omega) only [dm_t, wA, wB, wL, wW, wY, Int.fdiv_eq_ediv_of_nonneg, Int.tdiv_eq_ediv_of_nonneg, Int.tmod_eq_emod_of_nonneg, chk_pos, decT, decF, br_pos, br_neg, wX, ↓reduceIte, Nat.reduceEqDiff, Nat.reduceAdd, Nat.reduceSub, Nat.reduceMul, Nat.reduceLeDiff, Nat.reduceLT, Nat.reduceMod, Nat.reduceDiv, Int.reduceToNat, Nat.min_eq_left, IntKind.bits, Int.reducePow, Int.reduceLT, Int.reduceLE, Int.reduceEq, Int.reduceNe, Int.reduceAdd, Int.reduceSub, and_self, reduceCtorEq, decide_eq_true_eq, decide_eq_false_iff_not, eq_self, implies_true, exists_const, Option.isNone_some, Option.isNone_none, Option.isSome_some, Option.isSome_none, Option.getD_some, cellAt_of hb]
    refine vc_loop1 (fun vi h' => ∃ i : Nat, vi = .int .i64 (i : Int) ∧ i ≤ rows.length ∧ J i h') (fun vi _ => rows.length - m1 vi) ?_ ?_
    · simp (disch := omega) only [dm_t, wA, wB, wL, wW, wY, Int.fdiv_eq_ediv_of_nonneg, Int.tdiv_eq_ediv_of_nonneg, Int.tmod_eq_emod_of_nonneg, chk_pos, decT, decF, br_pos, br_neg, wX, ↓reduceIte, Nat.reduceEqDiff, Nat.reduceAdd, Nat.reduceSub, Nat.reduceMul, Nat.reduceLeDiff, Nat.reduceLT, Nat.reduceMod, Nat.reduceDiv, Int.reduceToNat, Nat.min_eq_left, IntKind.bits, Int.reducePow, Int.reduceLT, Int.reduceLE, Int.reduceEq, Int.reduceNe, Int.reduceAdd, Int.reduceSub, and_self, reduceCtorEq, decide_eq_true_eq, decide_eq_false_iff_not, eq_self, implies_true, exists_const, Option.isNone_some, Option.isNone_none, Option.isSome_some, Option.isSome_none, Option.getD_some]
      exact ⟨0, rfl, by omega, h0⟩
    rintro _ h1 ⟨i, rfl, hi, hj⟩
    by_cases hil : i < rows.length
    · obtain ⟨hb1, hs1⟩ := hJ _ _ hj
      obtain ⟨pb, po, g1, g2, g3, g4⟩ := hs1.row hil .i64
      simp (disch := omega) only [dm_t, wA, wB, wL, wW, wY, Int.fdiv_eq_ediv_of_nonneg, Int.tdiv_eq_ediv_of_nonneg, Int.tmod_eq_emod_of_nonneg, chk_pos, decT, decF, br_pos, br_neg, wX, ↓reduceIte, Nat.reduceEqDiff, Nat.reduceAdd, Nat.reduceSub, Nat.reduceMul, Nat.reduceLeDiff, Nat.reduceLT, Nat.reduceMod, Nat.reduceDiv, Int.reduceToNat, Nat.min_eq_left, IntKind.bits, Int.reducePow, Int.reduceLT, Int.reduceLE, Int.reduceEq, Int.reduceNe, Int.reduceAdd, Int.reduceSub, and_self, reduceCtorEq, decide_eq_true_eq, decide_eq_false_iff_not, eq_self, implies_true, exists_const, Option.isNone_some, Option.isNone_none, Option.isSome_some, Option.isSome_none, Option.getD_some, g1, g4]
      intro c hc
      have hrl : rows[i].length = 3 := hs1.rect _ (List.getElem_mem hil)
      have hrc : rows[i].all isCell = true := hcell _ (List.getElem_mem hil)
      simp (disch := omega) only [dm_t, wA, wB, wL, wW, wY, Int.fdiv_eq_ediv_of_nonneg, Int.tdiv_eq_ediv_of_nonneg, Int.tmod_eq_emod_of_nonneg, chk_pos, decT, decF, br_pos, br_neg, wX, ↓reduceIte, Nat.reduceEqDiff, Nat.reduceAdd, Nat.reduceSub, Nat.reduceMul, Nat.reduceLeDiff, Nat.reduceLT, Nat.reduceMod, Nat.reduceDiv, Int.reduceToNat, Nat.min_eq_left, IntKind.bits, Int.reducePow, Int.reduceLT, Int.reduceLE, Int.reduceEq, Int.reduceNe, Int.reduceAdd, Int.reduceSub, and_self, reduceCtorEq, decide_eq_true_eq, decide_eq_false_iff_not, eq_self, implies_true, exists_const, Option.isNone_some, Option.isNone_none, Option.isSome_some, Option.isSome_none, Option.getD_some]
      refine stn_new hrl (by rfl) hrc ?_
      have g5 : cellsAt (hupd h1 c (.cells rows[i].toArray 81)) ⟨c, 0, none⟩ 3 = some rows[i].toArray := cellsAt_all (hupd_same _ _ _) 3 hrl
      simp (disch := omega) only [dm_t, wA, wB, wL, wW, wY, Int.fdiv_eq_ediv_of_nonneg, Int.tdiv_eq_ediv_of_nonneg, Int.tmod_eq_emod_of_nonneg, chk_pos, decT, decF, br_pos, br_neg, wX, ↓reduceIte, Nat.reduceEqDiff, Nat.reduceAdd, Nat.reduceSub, Nat.reduceMul, Nat.reduceLeDiff, Nat.reduceLT, Nat.reduceMod, Nat.reduceDiv, Int.reduceToNat, Nat.min_eq_left, IntKind.bits, Int.reducePow, Int.reduceLT, Int.reduceLE, Int.reduceEq, Int.reduceNe, Int.reduceAdd, Int.reduceSub, and_self, reduceCtorEq, decide_eq_true_eq, decide_eq_false_iff_not, eq_self, implies_true, exists_const, Option.isNone_some, Option.isNone_none, Option.isSome_some, Option.isSome_none, Option.getD_some, g5]
      have hj2 : J i (hupd h1 c (.cells rows[i].toArray 81)) := hE _ _ _ hj (Ext.new hc _)
      have henc : [Value.agg (rows.getD i []).toArray] = [Value.agg rows[i].toArray] := by simp [hil]
      have hy1 := hy i hil _ hj2
      simp only [henc] at hy1
      refine hy1.k ?_
      rintro (_ | _) h2 hj3
      · simp (disch := omega) only [dm_t, wA, wB, wL, wW, wY, Int.fdiv_eq_ediv_of_nonneg, Int.tdiv_eq_ediv_of_nonneg, Int.tmod_eq_emod_of_nonneg, chk_pos, decT, decF, br_pos, br_neg, wX, ↓reduceIte, Nat.reduceEqDiff, Nat.reduceAdd, Nat.reduceSub, Nat.reduceMul, Nat.reduceLeDiff, Nat.reduceLT, Nat.reduceMod, Nat.reduceDiv, Int.reduceToNat, Nat.min_eq_left, IntKind.bits, Int.reducePow, Int.reduceLT, Int.reduceLE, Int.reduceEq, Int.reduceNe, Int.reduceAdd, Int.reduceSub, and_self, reduceCtorEq, decide_eq_true_eq, decide_eq_false_iff_not, eq_self, implies_true, exists_const, Option.isNone_some, Option.isNone_none, Option.isSome_some, Option.isSome_none, Option.getD_some]
        exact .inr ⟨i, hil, by simpa using hj3⟩
      · simp (disch := omega) only [dm_t, wA, wB, wL, wW, wY, Int.fdiv_eq_ediv_of_nonneg, Int.tdiv_eq_ediv_of_nonneg, Int.tmod_eq_emod_of_nonneg, chk_pos, decT, decF, br_pos, br_neg, wX, ↓reduceIte, Nat.reduceEqDiff, Nat.reduceAdd, Nat.reduceSub, Nat.reduceMul, Nat.reduceLeDiff, Nat.reduceLT, Nat.reduceMod, Nat.reduceDiv, Int.reduceToNat, Nat.min_eq_left, IntKind.bits, Int.reducePow, Int.reduceLT, Int.reduceLE, Int.reduceEq, Int.reduceNe, Int.reduceAdd, Int.reduceSub, and_self, reduceCtorEq, decide_eq_true_eq, decide_eq_false_iff_not, eq_self, implies_true, exists_const, Option.isNone_some, Option.isNone_none, Option.isSome_some, Option.isSome_none, Option.getD_some]
        exact ⟨⟨i + 1, by simp, by omega, by simpa using hj3⟩, by simp [m1]; omega⟩
    · obtain rfl : i = rows.length := by omega
      simp (disch := omega) only [dm_t, wA, wB, wL, wW, wY, Int.fdiv_eq_ediv_of_nonneg, Int.tdiv_eq_ediv_of_nonneg, Int.tmod_eq_emod_of_nonneg, chk_pos, decT, decF, br_pos, br_neg, wX, ↓reduceIte, Nat.reduceEqDiff, Nat.reduceAdd, Nat.reduceSub, Nat.reduceMul, Nat.reduceLeDiff, Nat.reduceLT, Nat.reduceMod, Nat.reduceDiv, Int.reduceToNat, Nat.min_eq_left, IntKind.bits, Int.reducePow, Int.reduceLT, Int.reduceLE, Int.reduceEq, Int.reduceNe, Int.reduceAdd, Int.reduceSub, and_self, reduceCtorEq, decide_eq_true_eq, decide_eq_false_iff_not, eq_self, implies_true, exists_const, Option.isNone_some, Option.isNone_none, Option.isSome_some, Option.isSome_none, Option.getD_some]
      exact .inl hj
  exact key.k fun _ _ h => h
theorem wrow_fr {U : TypeId} {O T : Nat → Prop} {h h' : H} {r : List Value} (w : WRow U O h r) (f : Fr T h h') (hT : ∀ x, T x → ¬ O x) : WRow U O h' r := by
  obtain ⟨t, kk, vv, lk, lv, rfl, h1, h2, hlb⟩ := w
  exact ⟨t, kk, vv, lk, lv, rfl, OwK.fr h1 f fun x hx hx' => absurd hx' (hT x hx), OwK.fr h2 f fun x hx hx' => absurd hx' (hT x hx), hlb⟩
theorem hasAt {a : Addr} {n c x : Nat} (h : isAt (.slice (some a) n c) x) : x = a.block := by
  obtain ⟨o, n', c', h⟩ := h
  simp only [Value.slice.injEq, Option.some.injEq] at h
  rw [h.1]
theorem Copy_ok {S : Nat → Prop} {h : H} {s : Value} {l : List rc.D} (hs : RepL S rc h s l) (hl : l.length ≤ 1000000) (hk : ∀ x ∈ l, x.2.1.length ≤ 140737488355328 ∧ x.2.2.length ≤ 140737488355328) :
    Ok Try.prog 40 #[s] h fun v h' => OwQ (WRow 5 fun y => h y = none) (fun y => h y ≠ none) rc (fun y => h y = none) h' 81 v l ∧ Ext h h' := by
  obtain ⟨rows, hsl, hrl, hrep⟩ := repL_iff.1 hs
  have hcell : ∀ r ∈ rows, r.all isCell = true := by
    intro r hr
    obtain ⟨i, hi, rfl⟩ := List.getElem_of_mem hr
    exact (hrep i _ l[i] (by simp [hi]) (by simp)).cells
  refine c40_ok (args := [_]) (by simp) ?_
  simp (disch := omega) only [dm_t, wA, wB, wL, wW, wY, Int.fdiv_eq_ediv_of_nonneg, Int.tdiv_eq_ediv_of_nonneg, Int.tmod_eq_emod_of_nonneg, chk_pos, decT, decF, br_pos, br_neg, wX, ↓reduceIte, Nat.reduceEqDiff, Nat.reduceAdd, Nat.reduceSub, Nat.reduceMul, Nat.reduceLeDiff, Nat.reduceLT, Nat.reduceMod, Nat.reduceDiv, Int.reduceToNat, Nat.min_eq_left, IntKind.bits, Int.reducePow, Int.reduceLT, Int.reduceLE, Int.reduceEq, Int.reduceNe, Int.reduceAdd, Int.reduceSub, and_self, reduceCtorEq, decide_eq_true_eq, decide_eq_false_iff_not, eq_self, implies_true, exists_const, Option.isNone_some, Option.isNone_none, Option.isSome_some, Option.isSome_none, Option.getD_some]
  intro ob hob
  have e0 : Ext h (hupd h ob (.cells #[.slice none 0 0] 32)) := Ext.new hob _
  simp (disch := omega) only [dm_t, wA, wB, wL, wW, wY, Int.fdiv_eq_ediv_of_nonneg, Int.tdiv_eq_ediv_of_nonneg, Int.tmod_eq_emod_of_nonneg, chk_pos, decT, decF, br_pos, br_neg, wX, ↓reduceIte, Nat.reduceEqDiff, Nat.reduceAdd, Nat.reduceSub, Nat.reduceMul, Nat.reduceLeDiff, Nat.reduceLT, Nat.reduceMod, Nat.reduceDiv, Int.reduceToNat, Nat.min_eq_left, IntKind.bits, Int.reducePow, Int.reduceLT, Int.reduceLE, Int.reduceEq, Int.reduceNe, Int.reduceAdd, Int.reduceSub, and_self, reduceCtorEq, decide_eq_true_eq, decide_eq_false_iff_not, eq_self, implies_true, exists_const, Option.isNone_some, Option.isNone_none, Option.isSome_some, Option.isSome_none, Option.getD_some]
  refine (Values_ok (hs.ext e0)).k ?_
  rintro _ _ ⟨vb, rfl, hvb, rfl⟩
  have hne : vb ≠ ob := fun h => by subst h; rw [hupd_same] at hvb; cases hvb
  have e1 : Ext h (hupd (hupd h ob (.cells #[.slice none 0 0] 32)) vb (.cells #[s] 32)) := e0.trans (Ext.new hvb _)
  simp (disch := omega) only [dm_t, wA, wB, wL, wW, wY, Int.fdiv_eq_ediv_of_nonneg, Int.tdiv_eq_ediv_of_nonneg, Int.tmod_eq_emod_of_nonneg, chk_pos, decT, decF, br_pos, br_neg, wX, ↓reduceIte, Nat.reduceEqDiff, Nat.reduceAdd, Nat.reduceSub, Nat.reduceMul, Nat.reduceLeDiff, Nat.reduceLT, Nat.reduceMod, Nat.reduceDiv, Int.reduceToNat, Nat.min_eq_left, IntKind.bits, Int.reducePow, Int.reduceLT, Int.reduceLE, Int.reduceEq, Int.reduceNe, Int.reduceAdd, Int.reduceSub, and_self, reduceCtorEq, decide_eq_true_eq, decide_eq_false_iff_not, eq_self, implies_true, exists_const, Option.isNone_some, Option.isNone_none, Option.isSome_some, Option.isSome_none, Option.getD_some]
  refine vc_rng rfl rfl (Values_it (s := s) hcell (by omega)) ?_
    (fun i h' => ∃ v, h' ob = some (.cells #[v] 32) ∧ h' vb = some (.cells #[s] 32) ∧ OwQ (WRow 5 fun y => h y = none ∧ y ≠ ob ∧ y ≠ vb) (fun y => h y ≠ none ∨ y = ob) rc (fun y => h y = none ∧ y ≠ ob ∧ y ≠ vb) h' 81 v (l.take i) ∧ Ext h h')
    (fun _ => False) (fun _ _ => False) ?_ ?_ ?_ ?_ ?_ ?_ (fun _ h => h.elim) (fun _ _ h => h.elim)
  · rintro h b o hb ⟨h1, h2⟩
    exact ⟨(Ext.new hb o).at h1, h2.ext (Ext.new hb o)⟩
  · rintro i h' ⟨v, h1, h2, h3, h4⟩
    exact ⟨h2, hsl.nos.ext h4⟩
  · rintro i h' h'' ⟨v, h1, h2, h3, h4⟩ e
    exact ⟨v, e.at h1, e.at h2, h3.ext e fun r hr => hr.ext e, h4.trans e⟩
  · exact ⟨_, by rw [hupd_ne _ _ hne.symm, hupd_same], hupd_same _ _ _, by rw [List.take_zero]; exact OwQ.nil, e1⟩
  · intro i hi; rfl
  · rintro L i h1 hi ⟨r, hr⟩ ⟨v, q1, q2, q3, q4⟩
    have hil : i < l.length := by omega
    have hrw : rows.getD i [] = rows[i] := by simp [hi]
    have hri : Rep S rc h rows[i] l[i] := hrep i _ _ (by simp [hi]) (by simp [hil])
    have hki := hk l[i] (List.getElem_mem hil)
    rw [hrw]
    generalize rows[i] = row at hri
    clear hrw
    simp (disch := omega) only [dm_t, wA, wB, wL, wW, wY, Int.fdiv_eq_ediv_of_nonneg, Int.tdiv_eq_ediv_of_nonneg, Int.tmod_eq_emod_of_nonneg, chk_pos, decT, decF, br_pos, br_neg, wX, ↓reduceIte, Nat.reduceEqDiff, Nat.reduceAdd, Nat.reduceSub, Nat.reduceMul, Nat.reduceLeDiff, Nat.reduceLT, Nat.reduceMod, Nat.reduceDiv, Int.reduceToNat, Nat.min_eq_left, IntKind.bits, Int.reducePow, Int.reduceLT, Int.reduceLE, Int.reduceEq, Int.reduceNe, Int.reduceAdd, Int.reduceSub, and_self, reduceCtorEq, decide_eq_true_eq, decide_eq_false_iff_not, eq_self, implies_true, exists_const, Option.isNone_some, Option.isNone_none, Option.isSome_some, Option.isSome_none, Option.getD_some, List.zip_cons_cons, List.zip_nil_right, List.cons_append, List.nil_append]
    intro cb hcb
    have hcL : cb ≠ L := fun h => by subst h; rw [hr] at hcb; cases hcb
    simp (disch := omega) only [dm_t, wA, wB, wL, wW, wY, Int.fdiv_eq_ediv_of_nonneg, Int.tdiv_eq_ediv_of_nonneg, Int.tmod_eq_emod_of_nonneg, chk_pos, decT, decF, br_pos, br_neg, wX, ↓reduceIte, Nat.reduceEqDiff, Nat.reduceAdd, Nat.reduceSub, Nat.reduceMul, Nat.reduceLeDiff, Nat.reduceLT, Nat.reduceMod, Nat.reduceDiv, Int.reduceToNat, Nat.min_eq_left, IntKind.bits, Int.reducePow, Int.reduceLT, Int.reduceLE, Int.reduceEq, Int.reduceNe, Int.reduceAdd, Int.reduceSub, and_self, reduceCtorEq, decide_eq_true_eq, decide_eq_false_iff_not, eq_self, implies_true, exists_const, Option.isNone_some, Option.isNone_none, Option.isSome_some, Option.isSome_none, Option.getD_some]
    refine stn_new (hri.len.trans sz_rc) (by rfl) hri.cells ?_
    obtain ⟨ka, kc, va, vc', rfl, hbd, hkk, hvv⟩ := rc_len hri
    have e5 := hdel_mono L (Ext.new hcb (.cells #[.int .i64 l[i].1, .slice ka l[i].2.1.length kc, .slice va l[i].2.2.length vc'] 81))
    have q0 : hdel (hupd h1 cb (.cells #[.int .i64 l[i].1, .slice ka l[i].2.1.length kc, .slice va l[i].2.2.length vc'] 81)) L cb = some (.cells #[.int .i64 l[i].1, .slice ka l[i].2.1.length kc, .slice va l[i].2.2.length vc'] 81) := by
      rw [hdel_hupd_ne hcL, hupd_same]
    simp (disch := omega) only [dm_t, wA, wB, wL, wW, wY, Int.fdiv_eq_ediv_of_nonneg, Int.tdiv_eq_ediv_of_nonneg, Int.tmod_eq_emod_of_nonneg, chk_pos, decT, decF, br_pos, br_neg, wX, ↓reduceIte, Nat.reduceEqDiff, Nat.reduceAdd, Nat.reduceSub, Nat.reduceMul, Nat.reduceLeDiff, Nat.reduceLT, Nat.reduceMod, Nat.reduceDiv, Int.reduceToNat, Nat.min_eq_left, IntKind.bits, Int.reducePow, Int.reduceLT, Int.reduceLE, Int.reduceEq, Int.reduceNe, Int.reduceAdd, Int.reduceSub, and_self, reduceCtorEq, decide_eq_true_eq, decide_eq_false_iff_not, eq_self, implies_true, exists_const, Option.isNone_some, Option.isNone_none, Option.isSome_some, Option.isSome_none, Option.getD_some, hupd_ne _ _ hcL.symm, cellAt_of q0]
    generalize hdel (hupd h1 cb (.cells #[.int .i64 l[i].1, .slice ka l[i].2.1.length kc, .slice va l[i].2.2.length vc'] 81)) L = g at e5 q0 ⊢
    have p1 := e5.at q1
    have p2 := e5.at q2
    have p3 := q3.ext e5 fun r hr => hr.ext e5
    have p4 := q4.trans e5
    clear q1 q2 q3 q4 e5
    have hsplit : l.take (i + 1) = l.take i ++ [l[i]] := by simp
    have hlt : (l.take i).length = i := by rw [List.length_take]; omega
    have hgc : ∀ x, g x = none → cb ≠ x := fun x hx h => by subst h; rw [q0] at hx; cases hx
    have kx : ∀ (x : Nat) (n : Nat) (G : H), G x = none → OwB (fun y => y = x) (hupd G x (.cells (Builtin.zeroCells #[.int .u8 0] n) 5)) 5 (.slice (some ⟨x, 0, none⟩) n n) (List.replicate n 0) := fun x n G hG => omakeB (Nat.le_refl _) rfl
    refine ⟨⟨by omega, fun kb hkb => ⟨?_, by omega, fun vw hvw => ⟨?_, ?_⟩⟩⟩, by omega, fun vw hvw => ⟨?_, by omega, fun kb hkb => ⟨?_, ?_⟩⟩⟩
    · rw [cellAt_of ((Ext.new hkb _).at q0)]; rfl
    · rw [cellAt_of (((Ext.new hkb _).trans (Ext.new hvw _)).at q0)]; rfl
    rotate_left
    · rw [cellAt_of ((Ext.new hvw _).at q0)]; rfl
    · rw [cellAt_of (((Ext.new hvw _).trans (Ext.new hkb _)).at q0)]; rfl
    · have hkv : kb ≠ vw := fun h => by subst h; rw [hupd_same] at hkb; cases hkb
      have gk : g kb = none := by rwa [hupd_ne _ _ hkv] at hkb
      have e6 : Ext g _ := (Ext.new hvw (.cells (Builtin.zeroCells #[.int .u8 0] l[i].2.2.length) 5)).trans (Ext.new hkb (.cells (Builtin.zeroCells #[.int .u8 0] l[i].2.1.length) 5))
      have o6 := (kx vw l[i].2.2.length g hvw).ext (Ext.new hkb (.cells (Builtin.zeroCells #[.int .u8 0] l[i].2.1.length) 5))
      have o5 := kx kb l[i].2.1.length _ hkb
      generalize hupd (hupd g vw _) kb _ = G at e6 o5 o6 ⊢
      have gv := hvw
      clear hkb hvw
      have hck := hgc _ gk
      have hcv := hgc _ gv
      have hhk : h kb = none := p4.bk gk
      have hhv : h vw = none := p4.bk gv
      have hok : kb ≠ ob := fun h => by subst h; rw [p1] at gk; cases gk
      have hov : vw ≠ ob := fun h => by subst h; rw [p1] at gv; cases gv
      have hak : ¬ isAt v kb := fun h => p3.l.there h gk
      have hav : ¬ isAt v vw := fun h => p3.l.there h gv
      have c0 := e6.at q0
      simp (disch := omega) only [dm_t, wA, wB, wL, wW, wY, Int.fdiv_eq_ediv_of_nonneg, Int.tdiv_eq_ediv_of_nonneg, Int.tmod_eq_emod_of_nonneg, chk_pos, decT, decF, br_pos, br_neg, wX, ↓reduceIte, Nat.reduceEqDiff, Nat.reduceAdd, Nat.reduceSub, Nat.reduceMul, Nat.reduceLeDiff, Nat.reduceLT, Nat.reduceMod, Nat.reduceDiv, Int.reduceToNat, Nat.min_eq_left, IntKind.bits, Int.reducePow, Int.reduceLT, Int.reduceLE, Int.reduceEq, Int.reduceNe, Int.reduceAdd, Int.reduceSub, and_self, reduceCtorEq, decide_eq_true_eq, decide_eq_false_iff_not, eq_self, implies_true, exists_const, Option.isNone_some, Option.isNone_none, Option.isSome_some, Option.isSome_none, Option.getD_some, cellAt_of c0]
      refine cpyB o5 (hkk.ext (p4.trans e6)) ?_
      intro G2 o7 f7
      have e7 : Ext g G2 := Ext.step' e6 f7 fun x hx => by rw [hx.1]; exact gk
      have c1 := e7.at q0
      have o8 := o6.fr f7 fun x hx hx' => absurd (hx.1.symm.trans hx') hkv
      simp (disch := omega) only [dm_t, wA, wB, wL, wW, wY, Int.fdiv_eq_ediv_of_nonneg, Int.tdiv_eq_ediv_of_nonneg, Int.tmod_eq_emod_of_nonneg, chk_pos, decT, decF, br_pos, br_neg, wX, ↓reduceIte, Nat.reduceEqDiff, Nat.reduceAdd, Nat.reduceSub, Nat.reduceMul, Nat.reduceLeDiff, Nat.reduceLT, Nat.reduceMod, Nat.reduceDiv, Int.reduceToNat, Nat.min_eq_left, IntKind.bits, Int.reducePow, Int.reduceLT, Int.reduceLE, Int.reduceEq, Int.reduceNe, Int.reduceAdd, Int.reduceSub, and_self, reduceCtorEq, decide_eq_true_eq, decide_eq_false_iff_not, eq_self, implies_true, exists_const, Option.isNone_some, Option.isNone_none, Option.isSome_some, Option.isSome_none, Option.getD_some, cellAt_of c1]
      refine cpyB o8 (hvv.ext (p4.trans e7)) ?_
      intro G3 o9 f9
      have e8 : Ext g G3 := Ext.step' e7 f9 fun x hx => by rw [hx.1]; exact gv
      have c2 := e8.at q0
      have o10 := o7.fr f9 fun x hx hx' => absurd (hx'.symm.trans hx.1) hkv
      have d1 := e8.at p1
      simp only [List.take_length, List.drop_eq_nil_of_le, List.length_replicate, Nat.le_refl, List.append_nil] at o9 o10
      simp (disch := omega) only [dm_t, wA, wB, wL, wW, wY, Int.fdiv_eq_ediv_of_nonneg, Int.tdiv_eq_ediv_of_nonneg, Int.tmod_eq_emod_of_nonneg, chk_pos, decT, decF, br_pos, br_neg, wX, ↓reduceIte, Nat.reduceEqDiff, Nat.reduceAdd, Nat.reduceSub, Nat.reduceMul, Nat.reduceLeDiff, Nat.reduceLT, Nat.reduceMod, Nat.reduceDiv, Int.reduceToNat, Nat.min_eq_left, IntKind.bits, Int.reducePow, Int.reduceLT, Int.reduceLE, Int.reduceEq, Int.reduceNe, Int.reduceAdd, Int.reduceSub, and_self, reduceCtorEq, decide_eq_true_eq, decide_eq_false_iff_not, eq_self, implies_true, exists_const, Option.isNone_some, Option.isNone_none, Option.isSome_some, Option.isSome_none, Option.getD_some, cellAt_of c2, cellAt_of d1]
      refine OwQ.push (x := l[i]) 3 sz_rc (p3.ext e8 fun r hr => hr.ext e8) ?_ ?_ (by rfl) (by rw [hlt]; omega) (by rw [hlt]; omega) ⟨_, _, _, _, _, rfl, o10.mono ?_, o9.mono ?_, hki⟩ (fun h' rows so f r hr => hr.fr (by decide) so f fun x hx => hx.2) ?_
      · intro x hx
        refine ⟨(p4.trans e8).bk hx, ?_, ?_⟩
        · rintro rfl; rw [d1] at hx; cases hx
        · rintro rfl; rw [e8.at p2] at hx; cases hx
      · refine rep_rc.2 ⟨_, _, rfl, hbd, o10.sl ?_, o9.sl ?_⟩
        · rintro x rfl (hx | hx | hx)
          · exact hak hx
          · exact hx hhk
          · exact hok hx
        · rintro x rfl (hx | hx | hx)
          · exact hav hx
          · exact hx hhv
          · exact hov hx
      · rintro x o hx rfl
        exact ⟨hhk, hok, fun h => by subst h; rw [p2] at gk; cases gk⟩
      · rintro x o hx rfl
        exact ⟨hhv, hov, fun h => by subst h; rw [p2] at gv; cases gv⟩
      intro _ s' G4 _ o11 f11
      obtain ⟨s'a, s'c, rfl⟩ := o11.l.len
      have d2 : G4 ob = some (.cells #[v] 32) := f11 _ _ d1 fun hx => hx.1.2.1 rfl
      simp (disch := omega) only [dm_t, wA, wB, wL, wW, wY, Int.fdiv_eq_ediv_of_nonneg, Int.tdiv_eq_ediv_of_nonneg, Int.tmod_eq_emod_of_nonneg, chk_pos, decT, decF, br_pos, br_neg, wX, ↓reduceIte, Nat.reduceEqDiff, Nat.reduceAdd, Nat.reduceSub, Nat.reduceMul, Nat.reduceLeDiff, Nat.reduceLT, Nat.reduceMod, Nat.reduceDiv, Int.reduceToNat, Nat.min_eq_left, IntKind.bits, Int.reducePow, Int.reduceLT, Int.reduceLE, Int.reduceEq, Int.reduceNe, Int.reduceAdd, Int.reduceSub, and_self, reduceCtorEq, decide_eq_true_eq, decide_eq_false_iff_not, eq_self, implies_true, exists_const, Option.isNone_some, Option.isNone_none, Option.isSome_some, Option.isSome_none, Option.getD_some, storeH_0 d2]
      intro _
      have e9 : Ext h G4 := Ext.step' (p4.trans e8) f11 fun x hx => hx.1.1
      refine ⟨_, hupd_same _ _ _, ?_, ?_, Ext.step' e9 (Fr.upd (S := fun y => y = ob) rfl _) fun x hx => by rw [hx]; exact hob⟩
      · rw [hupd_ne _ _ hne]
        exact f11 _ _ (e8.at p2) fun hx => hx.1.2.2 rfl
      · rw [hsplit]
        exact o11.fr (Fr.upd (S := fun y => y = ob) rfl _) (fun x hx => .inr hx) (fun x hx hx' => absurd hx hx'.2.1) fun r hr => wrow_fr hr (Fr.upd (S := fun y => y = ob) rfl _) fun x hx hx' => hx'.2.1 hx
    · have hkv : kb ≠ vw := fun h => by subst h; rw [hupd_same] at hvw; cases hvw
      have gv : g vw = none := by rwa [hupd_ne _ _ hkv.symm] at hvw
      have e6 : Ext g _ := (Ext.new hkb (.cells (Builtin.zeroCells #[.int .u8 0] l[i].2.1.length) 5)).trans (Ext.new hvw (.cells (Builtin.zeroCells #[.int .u8 0] l[i].2.2.length) 5))
      have o5 := (kx kb l[i].2.1.length g hkb).ext (Ext.new hvw (.cells (Builtin.zeroCells #[.int .u8 0] l[i].2.2.length) 5))
      have o6 := kx vw l[i].2.2.length _ hvw
      generalize hupd (hupd g kb _) vw _ = G at e6 o5 o6 ⊢
      have gk := hkb
      clear hkb hvw
      have hck := hgc _ gk
      have hcv := hgc _ gv
      have hhk : h kb = none := p4.bk gk
      have hhv : h vw = none := p4.bk gv
      have hok : kb ≠ ob := fun h => by subst h; rw [p1] at gk; cases gk
      have hov : vw ≠ ob := fun h => by subst h; rw [p1] at gv; cases gv
      have hak : ¬ isAt v kb := fun h => p3.l.there h gk
      have hav : ¬ isAt v vw := fun h => p3.l.there h gv
      have c0 := e6.at q0
      simp (disch := omega) only [dm_t, wA, wB, wL, wW, wY, Int.fdiv_eq_ediv_of_nonneg, Int.tdiv_eq_ediv_of_nonneg, Int.tmod_eq_emod_of_nonneg, chk_pos, decT, decF, br_pos, br_neg, wX, ↓reduceIte, Nat.reduceEqDiff, Nat.reduceAdd, Nat.reduceSub, Nat.reduceMul, Nat.reduceLeDiff, Nat.reduceLT, Nat.reduceMod, Nat.reduceDiv, Int.reduceToNat, Nat.min_eq_left, IntKind.bits, Int.reducePow, Int.reduceLT, Int.reduceLE, Int.reduceEq, Int.reduceNe, Int.reduceAdd, Int.reduceSub, and_self, reduceCtorEq, decide_eq_true_eq, decide_eq_false_iff_not, eq_self, implies_true, exists_const, Option.isNone_some, Option.isNone_none, Option.isSome_some, Option.isSome_none, Option.getD_some, cellAt_of c0]
      refine cpyB o5 (hkk.ext (p4.trans e6)) ?_
      intro G2 o7 f7
      have e7 : Ext g G2 := Ext.step' e6 f7 fun x hx => by rw [hx.1]; exact gk
      have c1 := e7.at q0
      have o8 := o6.fr f7 fun x hx hx' => absurd (hx.1.symm.trans hx') hkv
      simp (disch := omega) only [dm_t, wA, wB, wL, wW, wY, Int.fdiv_eq_ediv_of_nonneg, Int.tdiv_eq_ediv_of_nonneg, Int.tmod_eq_emod_of_nonneg, chk_pos, decT, decF, br_pos, br_neg, wX, ↓reduceIte, Nat.reduceEqDiff, Nat.reduceAdd, Nat.reduceSub, Nat.reduceMul, Nat.reduceLeDiff, Nat.reduceLT, Nat.reduceMod, Nat.reduceDiv, Int.reduceToNat, Nat.min_eq_left, IntKind.bits, Int.reducePow, Int.reduceLT, Int.reduceLE, Int.reduceEq, Int.reduceNe, Int.reduceAdd, Int.reduceSub, and_self, reduceCtorEq, decide_eq_true_eq, decide_eq_false_iff_not, eq_self, implies_true, exists_const, Option.isNone_some, Option.isNone_none, Option.isSome_some, Option.isSome_none, Option.getD_some, cellAt_of c1]
      refine cpyB o8 (hvv.ext (p4.trans e7)) ?_
      intro G3 o9 f9
      have e8 : Ext g G3 := Ext.step' e7 f9 fun x hx => by rw [hx.1]; exact gv
      have c2 := e8.at q0
      have o10 := o7.fr f9 fun x hx hx' => absurd (hx'.symm.trans hx.1) hkv
      have d1 := e8.at p1
      simp only [List.take_length, List.drop_eq_nil_of_le, List.length_replicate, Nat.le_refl, List.append_nil] at o9 o10
      simp (disch := omega) only [dm_t, wA, wB, wL, wW, wY, Int.fdiv_eq_ediv_of_nonneg, Int.tdiv_eq_ediv_of_nonneg, Int.tmod_eq_emod_of_nonneg, chk_pos, decT, decF, br_pos, br_neg, wX, ↓reduceIte, Nat.reduceEqDiff, Nat.reduceAdd, Nat.reduceSub, Nat.reduceMul, Nat.reduceLeDiff, Nat.reduceLT, Nat.reduceMod, Nat.reduceDiv, Int.reduceToNat, Nat.min_eq_left, IntKind.bits, Int.reducePow, Int.reduceLT, Int.reduceLE, Int.reduceEq, Int.reduceNe, Int.reduceAdd, Int.reduceSub, and_self, reduceCtorEq, decide_eq_true_eq, decide_eq_false_iff_not, eq_self, implies_true, exists_const, Option.isNone_some, Option.isNone_none, Option.isSome_some, Option.isSome_none, Option.getD_some, cellAt_of c2, cellAt_of d1]
      refine OwQ.push (x := l[i]) 3 sz_rc (p3.ext e8 fun r hr => hr.ext e8) ?_ ?_ (by rfl) (by rw [hlt]; omega) (by rw [hlt]; omega) ⟨_, _, _, _, _, rfl, o10.mono ?_, o9.mono ?_, hki⟩ (fun h' rows so f r hr => hr.fr (by decide) so f fun x hx => hx.2) ?_
      · intro x hx
        refine ⟨(p4.trans e8).bk hx, ?_, ?_⟩
        · rintro rfl; rw [d1] at hx; cases hx
        · rintro rfl; rw [e8.at p2] at hx; cases hx
      · refine rep_rc.2 ⟨_, _, rfl, hbd, o10.sl ?_, o9.sl ?_⟩
        · rintro x rfl (hx | hx | hx)
          · exact hak hx
          · exact hx hhk
          · exact hok hx
        · rintro x rfl (hx | hx | hx)
          · exact hav hx
          · exact hx hhv
          · exact hov hx
      · rintro x o hx rfl
        exact ⟨hhk, hok, fun h => by subst h; rw [p2] at gk; cases gk⟩
      · rintro x o hx rfl
        exact ⟨hhv, hov, fun h => by subst h; rw [p2] at gv; cases gv⟩
      intro _ s' G4 _ o11 f11
      obtain ⟨s'a, s'c, rfl⟩ := o11.l.len
      have d2 : G4 ob = some (.cells #[v] 32) := f11 _ _ d1 fun hx => hx.1.2.1 rfl
      simp (disch := omega) only [dm_t, wA, wB, wL, wW, wY, Int.fdiv_eq_ediv_of_nonneg, Int.tdiv_eq_ediv_of_nonneg, Int.tmod_eq_emod_of_nonneg, chk_pos, decT, decF, br_pos, br_neg, wX, ↓reduceIte, Nat.reduceEqDiff, Nat.reduceAdd, Nat.reduceSub, Nat.reduceMul, Nat.reduceLeDiff, Nat.reduceLT, Nat.reduceMod, Nat.reduceDiv, Int.reduceToNat, Nat.min_eq_left, IntKind.bits, Int.reducePow, Int.reduceLT, Int.reduceLE, Int.reduceEq, Int.reduceNe, Int.reduceAdd, Int.reduceSub, and_self, reduceCtorEq, decide_eq_true_eq, decide_eq_false_iff_not, eq_self, implies_true, exists_const, Option.isNone_some, Option.isNone_none, Option.isSome_some, Option.isSome_none, Option.getD_some, storeH_0 d2]
      intro _
      have e9 : Ext h G4 := Ext.step' (p4.trans e8) f11 fun x hx => hx.1.1
      refine ⟨_, hupd_same _ _ _, ?_, ?_, Ext.step' e9 (Fr.upd (S := fun y => y = ob) rfl _) fun x hx => by rw [hx]; exact hob⟩
      · rw [hupd_ne _ _ hne]
        exact f11 _ _ (e8.at p2) fun hx => hx.1.2.2 rfl
      · rw [hsplit]
        exact o11.fr (Fr.upd (S := fun y => y = ob) rfl _) (fun x hx => .inr hx) (fun x hx hx' => absurd hx hx'.2.1) fun r hr => wrow_fr hr (Fr.upd (S := fun y => y = ob) rfl _) fun x hx hx' => hx'.2.1 hx
  · rintro h' ⟨v, q1, q2, q3, q4⟩
    rw [hrl, List.take_of_length_le (by omega)] at q3
    simp (disch := omega) only [dm_t, wA, wB, wL, wW, wY, Int.fdiv_eq_ediv_of_nonneg, Int.tdiv_eq_ediv_of_nonneg, Int.tmod_eq_emod_of_nonneg, chk_pos, decT, decF, br_pos, br_neg, wX, ↓reduceIte, Nat.reduceEqDiff, Nat.reduceAdd, Nat.reduceSub, Nat.reduceMul, Nat.reduceLeDiff, Nat.reduceLT, Nat.reduceMod, Nat.reduceDiv, Int.reduceToNat, Nat.min_eq_left, IntKind.bits, Int.reducePow, Int.reduceLT, Int.reduceLE, Int.reduceEq, Int.reduceNe, Int.reduceAdd, Int.reduceSub, and_self, reduceCtorEq, decide_eq_true_eq, decide_eq_false_iff_not, eq_self, implies_true, exists_const, Option.isNone_some, Option.isNone_none, Option.isSome_some, Option.isSome_none, Option.getD_some, cellAt_of q1]
    exact ⟨q3.imp (fun y hy => .inl hy) (fun x o _ hx => hx.1) fun r hr => hr.mono fun x o _ hx => hx.1, q4⟩
end Go.Proofs.Ytcebmbnofejlhaa.rr
