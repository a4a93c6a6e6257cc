/-
  times: an index gone over.
-/
import Derived.Test.YtmjbgfflbeibnaaTb
import Derived.Test.YtmjbgfflbeibnaaTj
namespace Go.Proofs.Ytmjbgfflbeibnaa.ti
open Go.Proofs.Ytmjbgfflbeibnaa wi
set_option linter.unusedVariables false
set_option linter.unusedSimpArgs false
section
variable {S T : Nat → Prop} {g g' : H} {p q r : Nat} {b e b2 e2 : Int} {v v2 w : Value} {l l2 : List Ri} {rs : List rc.D}
theorem VR_it {b : Nat} {s : Value} (hlen : l.length ≤ 4611686018427387904) :
    Rng Try.prog 69 #[.pointer (some ⟨b, 0, none⟩)] l.length (fun i => [.agg (rrow (l.getD i (0, 0))).toArray]) (fun h => h b = some (.cells #[s] 45) ∧ SlK 2 nos h s (rrows l)) := by
  intro L J Jx h X hJ hE hy h0
  obtain ⟨hb, hsl⟩ := hJ _ _ h0
  obtain ⟨sa, sc, hs⟩ := hsl.len
  rw [List.length_map] at hs
  subst hs
  have key : Ok Try.prog 69 #[.func (.yield L) #[] #[], .pointer (some ⟨b, 0, none⟩)] h fun _ h' => J l.length h' ∨ ∃ i, i < l.length ∧ Jx (i + 1) h' := by
    refine c69_ok (args := [_, _]) (by simp) ?_
    simp (disch := omega) only [dm_t, wZ, ↓reduceIte, Nat.reduceEqDiff, Nat.reduceAdd, Nat.reduceSub, Nat.reduceMul, Nat.reduceLeDiff, Nat.reduceLT, Nat.reduceMod, Nat.reduceDiv, Int.reduceToNat, Nat.min_eq_left, IntKind.bits, Int.reducePow, Int.reduceLT, Int.reduceLE, Int.reduceEq, Int.reduceNe, Int.reduceAdd, Int.reduceSub, reduceCtorEq, eq_self, implies_true, exists_const, Option.isNone_some, Option.isNone_none, Option.isSome_some, Option.isSome_none, Option.getD_some, cellAt_of hb]
    refine vc_loop1 (fun vi h' => ∃ i : Nat, vi = .int .i64 (i : Int) ∧ i ≤ l.length ∧ J i h') (fun vi _ => l.length - m1 vi) ?_ ?_
    · simp (disch := omega) only [dm_t, wZ, ↓reduceIte, Nat.reduceEqDiff, Nat.reduceAdd, Nat.reduceSub, Nat.reduceMul, Nat.reduceLeDiff, Nat.reduceLT, Nat.reduceMod, Nat.reduceDiv, Int.reduceToNat, Nat.min_eq_left, IntKind.bits, Int.reducePow, Int.reduceLT, Int.reduceLE, Int.reduceEq, Int.reduceNe, Int.reduceAdd, Int.reduceSub, reduceCtorEq, eq_self, implies_true, exists_const, Option.isNone_some, Option.isNone_none, Option.isSome_some, Option.isSome_none, Option.getD_some]
      exact ⟨0, rfl, by omega, h0⟩
    rintro _ h1 ⟨i, rfl, hi, hj⟩
    by_cases hil : i < l.length
    · obtain ⟨hb1, hs1⟩ := hJ _ _ hj
      obtain ⟨pb, po, g1, -, -, g4⟩ := rl_at hs1 hil .i64
      simp (disch := omega) only [dm_t, wZ, ↓reduceIte, Nat.reduceEqDiff, Nat.reduceAdd, Nat.reduceSub, Nat.reduceMul, Nat.reduceLeDiff, Nat.reduceLT, Nat.reduceMod, Nat.reduceDiv, Int.reduceToNat, Nat.min_eq_left, IntKind.bits, Int.reducePow, Int.reduceLT, Int.reduceLE, Int.reduceEq, Int.reduceNe, Int.reduceAdd, Int.reduceSub, reduceCtorEq, eq_self, implies_true, exists_const, Option.isNone_some, Option.isNone_none, Option.isSome_some, Option.isSome_none, Option.getD_some, g1, g4]
      intro c hc
      simp (disch := omega) only [dm_t, wZ, ↓reduceIte, Nat.reduceEqDiff, Nat.reduceAdd, Nat.reduceSub, Nat.reduceMul, Nat.reduceLeDiff, Nat.reduceLT, Nat.reduceMod, Nat.reduceDiv, Int.reduceToNat, Nat.min_eq_left, IntKind.bits, Int.reducePow, Int.reduceLT, Int.reduceLE, Int.reduceEq, Int.reduceNe, Int.reduceAdd, Int.reduceSub, reduceCtorEq, eq_self, implies_true, exists_const, Option.isNone_some, Option.isNone_none, Option.isSome_some, Option.isSome_none, Option.getD_some]
      refine storeH_all (vs := rrow l[i]) (hupd_same _ _ _) rfl rfl ?_
      rw [hupd_hupd]
      have g5 : cellsAt (hupd h1 c (.cells (rrow l[i]).toArray 50)) ⟨c, 0, none⟩ 2 = some (rrow l[i]).toArray := cellsAt_all (hupd_same _ _ _) 2 rfl
      simp (disch := omega) only [dm_t, wZ, ↓reduceIte, Nat.reduceEqDiff, Nat.reduceAdd, Nat.reduceSub, Nat.reduceMul, Nat.reduceLeDiff, Nat.reduceLT, Nat.reduceMod, Nat.reduceDiv, Int.reduceToNat, Nat.min_eq_left, IntKind.bits, Int.reducePow, Int.reduceLT, Int.reduceLE, Int.reduceEq, Int.reduceNe, Int.reduceAdd, Int.reduceSub, reduceCtorEq, eq_self, implies_true, exists_const, Option.isNone_some, Option.isNone_none, Option.isSome_some, Option.isSome_none, Option.getD_some, g5]
      have hj2 : J i (hupd h1 c (.cells (rrow l[i]).toArray 50)) := hE _ _ _ hj (Ext.new hc _)
      have henc : l.getD i (0, 0) = l[i] := by simp [hil]
      have hy1 := hy i hil _ hj2
      simp only [henc] at hy1
      refine hy1.k ?_
      rintro (_ | _) h2 hj3
      · simp (disch := omega) only [dm_t, wZ, ↓reduceIte, Nat.reduceEqDiff, Nat.reduceAdd, Nat.reduceSub, Nat.reduceMul, Nat.reduceLeDiff, Nat.reduceLT, Nat.reduceMod, Nat.reduceDiv, Int.reduceToNat, Nat.min_eq_left, IntKind.bits, Int.reducePow, Int.reduceLT, Int.reduceLE, Int.reduceEq, Int.reduceNe, Int.reduceAdd, Int.reduceSub, reduceCtorEq, eq_self, implies_true, exists_const, Option.isNone_some, Option.isNone_none, Option.isSome_some, Option.isSome_none, Option.getD_some]
        exact .inr ⟨i, hil, by simpa using hj3⟩
      · simp (disch := omega) only [dm_t, wZ, ↓reduceIte, Nat.reduceEqDiff, Nat.reduceAdd, Nat.reduceSub, Nat.reduceMul, Nat.reduceLeDiff, Nat.reduceLT, Nat.reduceMod, Nat.reduceDiv, Int.reduceToNat, Nat.min_eq_left, IntKind.bits, Int.reducePow, Int.reduceLT, Int.reduceLE, Int.reduceEq, Int.reduceNe, Int.reduceAdd, Int.reduceSub, reduceCtorEq, eq_self, implies_true, exists_const, Option.isNone_some, Option.isNone_none, Option.isSome_some, Option.isSome_none, Option.getD_some]
        exact ⟨⟨i + 1, by simp, by omega, by simpa using hj3⟩, by simp [m1]; omega⟩
    · obtain rfl : i = l.length := by omega
      simp (disch := omega) only [dm_t, wZ, ↓reduceIte, Nat.reduceEqDiff, Nat.reduceAdd, Nat.reduceSub, Nat.reduceMul, Nat.reduceLeDiff, Nat.reduceLT, Nat.reduceMod, Nat.reduceDiv, Int.reduceToNat, Nat.min_eq_left, IntKind.bits, Int.reducePow, Int.reduceLT, Int.reduceLE, Int.reduceEq, Int.reduceNe, Int.reduceAdd, Int.reduceSub, reduceCtorEq, eq_self, implies_true, exists_const, Option.isNone_some, Option.isNone_none, Option.isSome_some, Option.isSome_none, Option.getD_some]
      exact .inl hj
  exact key.k fun _ _ h => h
theorem goes_ok {vb : Nat} {u lv : Value} {leave : Int} (hv : g vb = some (.cells #[u] 45)) (hu : SlK 2 nos g u (rrows l)) (hl : SlK 2 S g lv (rrows l)) (hlen : l.length ≤ 1000000) (hlv : inI leave) :
    Ok Try.prog 59 #[.func (.func 69) #[] #[.pointer (some ⟨vb, 0, none⟩)], lv, .int .i64 leave] g fun r h' => r = .bool true ∧ Ext g h' := by
  obtain ⟨la, lc, hlvv⟩ := hl.len
  rw [List.length_map] at hlvv
  subst hlvv
  unfold inI at hlv
  refine c59_ok (args := [_, _, _]) (by simp) ?_
  simp (disch := omega) only [dm_t, wZ, ↓reduceIte, Nat.reduceEqDiff, Nat.reduceAdd, Nat.reduceSub, Nat.reduceMul, Nat.reduceLeDiff, Nat.reduceLT, Nat.reduceMod, Nat.reduceDiv, Int.reduceToNat, Nat.min_eq_left, IntKind.bits, Int.reducePow, Int.reduceLT, Int.reduceLE, Int.reduceEq, Int.reduceNe, Int.reduceAdd, Int.reduceSub, reduceCtorEq, eq_self, implies_true, exists_const, Option.isNone_some, Option.isNone_none, Option.isSome_some, Option.isSome_none, Option.getD_some]
  intro b4 h4 b5 h5 b6 h6
  generalize hG : hupd g b4 _ = g1 at h5 h6 ⊢
  obtain ⟨e1, q4⟩ := new_ext hG h4
  clear hG
  generalize hG : hupd g1 b5 _ = g2 at h6 ⊢
  obtain ⟨e2, q5⟩ := new_ext hG h5
  clear hG
  generalize hG : hupd g2 b6 _ = g3
  obtain ⟨e3, q6⟩ := new_ext hG h6
  clear hG
  have n6 := (e1.trans e2).bk h6
  have E3 := e1.trans (e2.trans e3)
  simp (disch := omega) only [dm_t, wZ, ↓reduceIte, Nat.reduceEqDiff, Nat.reduceAdd, Nat.reduceSub, Nat.reduceMul, Nat.reduceLeDiff, Nat.reduceLT, Nat.reduceMod, Nat.reduceDiv, Int.reduceToNat, Nat.min_eq_left, IntKind.bits, Int.reducePow, Int.reduceLT, Int.reduceLE, Int.reduceEq, Int.reduceNe, Int.reduceAdd, Int.reduceSub, reduceCtorEq, eq_self, implies_true, exists_const, Option.isNone_some, Option.isNone_none, Option.isSome_some, Option.isSome_none, Option.getD_some]
  intro b7 h7
  generalize hG : hupd g3 b7 _ = g4
  obtain ⟨e4, q7⟩ := new_ext hG h7
  clear hG
  have n7 := E3.bk h7
  have E4 := E3.trans e4
  have d4 : b4 ≠ b7 := ne_of ((e2.trans e3).at q4) h7
  have d5 : b5 ≠ b7 := ne_of (e3.at q5) h7
  have d6 : b6 ≠ b7 := ne_of q6 h7
  have dv : vb ≠ b7 := ne_of (E3.at hv) h7
  simp (disch := omega) only [dm_t, wZ, ↓reduceIte, Nat.reduceEqDiff, Nat.reduceAdd, Nat.reduceSub, Nat.reduceMul, Nat.reduceLeDiff, Nat.reduceLT, Nat.reduceMod, Nat.reduceDiv, Int.reduceToNat, Nat.min_eq_left, IntKind.bits, Int.reducePow, Int.reduceLT, Int.reduceLE, Int.reduceEq, Int.reduceNe, Int.reduceAdd, Int.reduceSub, reduceCtorEq, eq_self, implies_true, exists_const, Option.isNone_some, Option.isNone_none, Option.isSome_some, Option.isSome_none, Option.getD_some]
  refine storeH_all (vs := [_]) q7 rfl rfl ?_
  generalize hG : hupd g4 b7 _ = g5
  have f5 : Fr (fun y => y = b7) g4 g5 := hG ▸ Fr.upd (S := fun y => y = b7) rfl _
  have q7' : g5 b7 = some (.cells #[.int .i64 ((0 : Nat) : Int)] 3) := hG ▸ hupd_same _ _ _
  clear hG
  replace q4 := (e2.trans (e3.trans e4)).at q4
  replace q5 := (e3.trans e4).at q5
  replace q6 := e4.at q6
  have hu4 : SlK 2 (fun y => y = b7) g4 u (rrows l) := SlK.ext (SlK.old hu fun y hy => by rw [hy]; exact n7) E4
  have hl4 : SlK 2 (fun y => y = b7) g4 (.slice la l.length lc) (rrows l) := SlK.ext (SlK.old hl fun y hy => by rw [hy]; exact n7) E4
  have nW : ∀ y, y = b7 → g y = none := fun y hy => by rw [hy]; exact n7
  simp (disch := omega) only [dm_t, wZ, ↓reduceIte, Nat.reduceEqDiff, Nat.reduceAdd, Nat.reduceSub, Nat.reduceMul, Nat.reduceLeDiff, Nat.reduceLT, Nat.reduceMod, Nat.reduceDiv, Int.reduceToNat, Nat.min_eq_left, IntKind.bits, Int.reducePow, Int.reduceLT, Int.reduceLE, Int.reduceEq, Int.reduceNe, Int.reduceAdd, Int.reduceSub, reduceCtorEq, eq_self, implies_true, exists_const, Option.isNone_some, Option.isNone_none, Option.isSome_some, Option.isSome_none, Option.getD_some]
  refine vc_rng rfl rfl (VR_it (b := vb) (s := u) (l := l) (by omega)) ?_
    (fun i G => Fr (fun y => y = b7) g4 G ∧ G b7 = some (.cells #[.int .i64 (i : Int)] 3))
    (fun G => G b6 = some (.cells #[.bool true] 4) ∧ Ext g G) (fun _ _ => False) ?_ ?_ ?_ ?_ ?_ ?_ ?_ (fun _ _ h => h.elim)
  · rintro h b o hb ⟨h1, h2⟩
    exact ⟨(Ext.new hb o).at h1, h2.ext (Ext.new hb o)⟩
  · rintro i G ⟨z0, z1⟩
    exact ⟨z0 _ _ (E4.at hv) dv, (SlK.fr hu4 z0 fun y hy => hy).nos⟩
  · rintro i h' h'' ⟨z0, z1⟩ e
    exact ⟨z0.trans (e.mono fun _ h => h.elim), e.at z1⟩
  · exact ⟨f5, q7'⟩
  · intro i hi; rfl
  · rintro L i h1 hi ⟨r, hr⟩ ⟨z0, z1⟩
    have hgd : l.getD i (0, 0) = l[i] := by simp [hi]
    rw [hgd]
    simp (disch := omega) only [dm_t, wZ, ↓reduceIte, Nat.reduceEqDiff, Nat.reduceAdd, Nat.reduceSub, Nat.reduceMul, Nat.reduceLeDiff, Nat.reduceLT, Nat.reduceMod, Nat.reduceDiv, Int.reduceToNat, Nat.min_eq_left, IntKind.bits, Int.reducePow, Int.reduceLT, Int.reduceLE, Int.reduceEq, Int.reduceNe, Int.reduceAdd, Int.reduceSub, reduceCtorEq, eq_self, implies_true, exists_const, Option.isNone_some, Option.isNone_none, Option.isSome_some, Option.isSome_none, Option.getD_some, List.zip_cons_cons, List.zip_nil_right, List.cons_append, List.nil_append]
    intro cb hcb
    have hcL : cb ≠ L := fun h => by subst h; rw [hr] at hcb; cases hcb
    simp (disch := omega) only [dm_t, wZ, ↓reduceIte, Nat.reduceEqDiff, Nat.reduceAdd, Nat.reduceSub, Nat.reduceMul, Nat.reduceLeDiff, Nat.reduceLT, Nat.reduceMod, Nat.reduceDiv, Int.reduceToNat, Nat.min_eq_left, IntKind.bits, Int.reducePow, Int.reduceLT, Int.reduceLE, Int.reduceEq, Int.reduceNe, Int.reduceAdd, Int.reduceSub, reduceCtorEq, eq_self, implies_true, exists_const, Option.isNone_some, Option.isNone_none, Option.isSome_some, Option.isSome_none, Option.getD_some]
    refine storeH_all (vs := rrow l[i]) (hupd_same _ _ _) rfl rfl ?_
    rw [hupd_hupd]
    simp (disch := omega) only [dm_t, wZ, ↓reduceIte, Nat.reduceEqDiff, Nat.reduceAdd, Nat.reduceSub, Nat.reduceMul, Nat.reduceLeDiff, Nat.reduceLT, Nat.reduceMod, Nat.reduceDiv, Int.reduceToNat, Nat.min_eq_left, IntKind.bits, Int.reducePow, Int.reduceLT, Int.reduceLE, Int.reduceEq, Int.reduceNe, Int.reduceAdd, Int.reduceSub, reduceCtorEq, eq_self, implies_true, exists_const, Option.isNone_some, Option.isNone_none, Option.isSome_some, Option.isSome_none, Option.getD_some]
    refine ⟨hupd_ne _ _ hcL.symm, ?_⟩
    have e5 := hdel_mono L (Ext.new hcb (.cells (rrow l[i]).toArray 50))
    have q0 : hdel (hupd h1 cb (.cells (rrow l[i]).toArray 50)) L cb = some (.cells (rrow l[i]).toArray 50) := by
      rw [hdel_hupd_ne hcL, hupd_same]
    generalize hdel (hupd h1 cb (.cells (rrow l[i]).toArray 50)) L = G at e5 q0 ⊢
    have w0 : Fr (fun y => y = b7) g4 G := z0.trans (e5.mono fun _ h => h.elim)
    have w1 := e5.at z1
    have c7 : cellAt G ⟨b7, 0, none⟩ = some (.int .i64 (i : Int)) := by rw [cellAt_of w1]; rfl
    have c4 : cellAt G ⟨b4, 0, none⟩ = some (.slice la l.length lc) := by rw [cellAt_of (w0 _ _ q4 d4)]; rfl
    have c5 : ∀ {G'}, Fr (fun y => y = b7) g4 G' → cellAt G' ⟨b5, 0, none⟩ = some (.int .i64 leave) := fun f => by rw [cellAt_of (f _ _ q5 d5)]; rfl
    have xa : cellsAt G ⟨cb, 0, none⟩ 2 = some #[.int .i64 l[i].1, .int .i64 l[i].2] := cellsAt_all q0 2 rfl
    obtain ⟨pb, po, i1, -, -, t1⟩ := rl_at (SlK.fr hl4 w0 fun y hy => hy) hi .i64
    simp (disch := omega) only [dm_t, wZ, ↓reduceIte, Nat.reduceEqDiff, Nat.reduceAdd, Nat.reduceSub, Nat.reduceMul, Nat.reduceLeDiff, Nat.reduceLT, Nat.reduceMod, Nat.reduceDiv, Int.reduceToNat, Nat.min_eq_left, IntKind.bits, Int.reducePow, Int.reduceLT, Int.reduceLE, Int.reduceEq, Int.reduceNe, Int.reduceAdd, Int.reduceSub, reduceCtorEq, eq_self, implies_true, exists_const, Option.isNone_some, Option.isNone_none, Option.isSome_some, Option.isSome_none, Option.getD_some, c7, c4, xa, i1, t1]
    refine raw_neSt2 (fun w => run_eqSt2 (k := .i64) (a1 := l[i].1) (a2 := l[i].2) (b1 := l[i].1) (b2 := l[i].2) 9998 Try.underlying50 (by kernel_rfl) (by decide) (by decide) (by kernel_rfl) (by kernel_rfl) rfl rfl rfl rfl) rfl rfl (by kernel_rfl) ?_
    simp only [beq_self_eq_true, Bool.and_self, Bool.not_true]
    simp (disch := omega) only [dm_t, wZ, ↓reduceIte, Nat.reduceEqDiff, Nat.reduceAdd, Nat.reduceSub, Nat.reduceMul, Nat.reduceLeDiff, Nat.reduceLT, Nat.reduceMod, Nat.reduceDiv, Int.reduceToNat, Nat.min_eq_left, IntKind.bits, Int.reducePow, Int.reduceLT, Int.reduceLE, Int.reduceEq, Int.reduceNe, Int.reduceAdd, Int.reduceSub, reduceCtorEq, eq_self, implies_true, exists_const, Option.isNone_some, Option.isNone_none, Option.isSome_some, Option.isSome_none, Option.getD_some, c7, c4, xa, i1, t1]
    refine storeH_all (vs := [_]) w1 rfl rfl ?_
    generalize hG : hupd G b7 _ = G2
    have f2 : Fr (fun y => y = b7) G G2 := hG ▸ Fr.upd (S := fun y => y = b7) rfl _
    have q2 : G2 b7 = some (.cells #[.int .i64 ((i + 1 : Nat) : Int)] 3) := by rw [← hG, hupd_same]; simp
    clear hG
    have c72 : cellAt G2 ⟨b7, 0, none⟩ = some (.int .i64 ((i + 1 : Nat) : Int)) := by rw [cellAt_of q2]; rfl
    have w2 := w0.trans f2
    by_cases hlv' : ((i + 1 : Nat) : Int) = leave
    · simp (disch := omega) only [dm_t, wZ, ↓reduceIte, Nat.reduceEqDiff, Nat.reduceAdd, Nat.reduceSub, Nat.reduceMul, Nat.reduceLeDiff, Nat.reduceLT, Nat.reduceMod, Nat.reduceDiv, Int.reduceToNat, Nat.min_eq_left, IntKind.bits, Int.reducePow, Int.reduceLT, Int.reduceLE, Int.reduceEq, Int.reduceNe, Int.reduceAdd, Int.reduceSub, reduceCtorEq, eq_self, implies_true, exists_const, Option.isNone_some, Option.isNone_none, Option.isSome_some, Option.isSome_none, Option.getD_some, c72, c5 w2, hlv']
      refine storeH_all (vs := [_]) (w2 _ _ q6 d6) rfl rfl ?_
      generalize hG : hupd G2 b6 _ = G3
      have f3 : Fr (fun y => y = b6) G2 G3 := hG ▸ Fr.upd (S := fun y => y = b6) rfl _
      have q3 : G3 b6 = some (.cells #[.bool true] 4) := hG ▸ hupd_same _ _ _
      clear hG
      simp (disch := omega) only [dm_t, wZ, ↓reduceIte, Nat.reduceEqDiff, Nat.reduceAdd, Nat.reduceSub, Nat.reduceMul, Nat.reduceLeDiff, Nat.reduceLT, Nat.reduceMod, Nat.reduceDiv, Int.reduceToNat, Nat.min_eq_left, IntKind.bits, Int.reducePow, Int.reduceLT, Int.reduceLE, Int.reduceEq, Int.reduceNe, Int.reduceAdd, Int.reduceSub, reduceCtorEq, eq_self, implies_true, exists_const, Option.isNone_some, Option.isNone_none, Option.isSome_some, Option.isSome_none, Option.getD_some]
      exact fun _ => ⟨q3, Ext.step' (Ext.step' E4 w2 nW) f3 fun y hy => by rw [hy]; exact n6⟩
    · simp (disch := omega) only [dm_t, wZ, ↓reduceIte, Nat.reduceEqDiff, Nat.reduceAdd, Nat.reduceSub, Nat.reduceMul, Nat.reduceLeDiff, Nat.reduceLT, Nat.reduceMod, Nat.reduceDiv, Int.reduceToNat, Nat.min_eq_left, IntKind.bits, Int.reducePow, Int.reduceLT, Int.reduceLE, Int.reduceEq, Int.reduceNe, Int.reduceAdd, Int.reduceSub, reduceCtorEq, eq_self, implies_true, exists_const, Option.isNone_some, Option.isNone_none, Option.isSome_some, Option.isSome_none, Option.getD_some, c72, c5 w2, hlv']
      exact fun _ => ⟨w2, q2⟩
  · rintro G ⟨z0, z1⟩
    have c7 : cellAt G ⟨b7, 0, none⟩ = some (.int .i64 (l.length : Int)) := by rw [cellAt_of z1]; rfl
    have c4 : cellAt G ⟨b4, 0, none⟩ = some (.slice la l.length lc) := by rw [cellAt_of (z0 _ _ q4 d4)]; rfl
    simp (disch := omega) only [dm_t, wZ, ↓reduceIte, Nat.reduceEqDiff, Nat.reduceAdd, Nat.reduceSub, Nat.reduceMul, Nat.reduceLeDiff, Nat.reduceLT, Nat.reduceMod, Nat.reduceDiv, Int.reduceToNat, Nat.min_eq_left, IntKind.bits, Int.reducePow, Int.reduceLT, Int.reduceLE, Int.reduceEq, Int.reduceNe, Int.reduceAdd, Int.reduceSub, reduceCtorEq, eq_self, implies_true, exists_const, Option.isNone_some, Option.isNone_none, Option.isSome_some, Option.isSome_none, Option.getD_some, c7, c4]
    refine storeH_all (vs := [_]) (z0 _ _ q6 d6) rfl rfl ?_
    generalize hG : hupd G b6 _ = G2
    have f2 : Fr (fun y => y = b6) G G2 := hG ▸ Fr.upd (S := fun y => y = b6) rfl _
    have q2 : G2 b6 = some (.cells #[.bool true] 4) := by rw [← hG, hupd_same]
    clear hG
    simp (disch := omega) only [dm_t, wZ, ↓reduceIte, Nat.reduceEqDiff, Nat.reduceAdd, Nat.reduceSub, Nat.reduceMul, Nat.reduceLeDiff, Nat.reduceLT, Nat.reduceMod, Nat.reduceDiv, Int.reduceToNat, Nat.min_eq_left, IntKind.bits, Int.reducePow, Int.reduceLT, Int.reduceLE, Int.reduceEq, Int.reduceNe, Int.reduceAdd, Int.reduceSub, reduceCtorEq, eq_self, implies_true, exists_const, Option.isNone_some, Option.isNone_none, Option.isSome_some, Option.isSome_none, Option.getD_some, cellAt_of q2]
    exact Ext.step' (Ext.step' E4 z0 nW) f2 fun y hy => by rw [hy]; exact n6
  · rintro G ⟨q2, E⟩
    simp (disch := omega) only [dm_t, wZ, ↓reduceIte, Nat.reduceEqDiff, Nat.reduceAdd, Nat.reduceSub, Nat.reduceMul, Nat.reduceLeDiff, Nat.reduceLT, Nat.reduceMod, Nat.reduceDiv, Int.reduceToNat, Nat.min_eq_left, IntKind.bits, Int.reducePow, Int.reduceLT, Int.reduceLE, Int.reduceEq, Int.reduceNe, Int.reduceAdd, Int.reduceSub, reduceCtorEq, eq_self, implies_true, exists_const, Option.isNone_some, Option.isNone_none, Option.isSome_some, Option.isSome_none, Option.getD_some, cellAt_of q2]
    exact E
end
end Go.Proofs.Ytmjbgfflbeibnaa.ti
