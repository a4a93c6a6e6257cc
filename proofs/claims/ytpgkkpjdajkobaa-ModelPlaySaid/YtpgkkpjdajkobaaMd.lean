/-
  model: New, Do.
-/
import Derived.Test.YtpgkkpjdajkobaaMc
namespace Go.Proofs.Ytpgkkpjdajkobaa.mo
open Go.Proofs.Ytpgkkpjdajkobaa rr
set_option linter.unusedVariables false
set_option linter.unusedSimpArgs false
theorem New_bad {g : H} {n : Int} (h : n < 1 ∨ 16 < n) (hn : inI n) : Ok Try.prog 9 #[.int .i64 n] g fun v h' => v = .tuple #[.pointer none, .int .i64 2] ∧ g = h' := by
  unfold inI at hn
  refine c9_ok (args := [_]) (by simp) ?_
  by_cases h1 : n < 1
  · simp (disch := omega) only [dm_t, wA, wB, wL, wW, wY, Int.fdiv_eq_ediv_of_nonneg, Int.tdiv_eq_ediv_of_nonneg, Int.tmod_eq_emod_of_nonneg, chk_pos, decT, decF, br_pos, br_neg, wX, ↓reduceIte, Nat.reduceEqDiff, Nat.reduceAdd, Nat.reduceSub, Nat.reduceMul, Nat.reduceLeDiff, Nat.reduceLT, Nat.reduceMod, Nat.reduceDiv, Int.reduceToNat, Nat.min_eq_left, IntKind.bits, Int.reducePow, Int.reduceLT, Int.reduceLE, Int.reduceEq, Int.reduceNe, Int.reduceAdd, Int.reduceSub, and_self, reduceCtorEq, decide_eq_true_eq, decide_eq_false_iff_not, eq_self, implies_true, exists_const, Option.isNone_some, Option.isNone_none, Option.isSome_some, Option.isSome_none, Option.getD_some]
  · have h2 : 16 < n := h.resolve_left h1
    simp (disch := omega) only [dm_t, wA, wB, wL, wW, wY, Int.fdiv_eq_ediv_of_nonneg, Int.tdiv_eq_ediv_of_nonneg, Int.tmod_eq_emod_of_nonneg, chk_pos, decT, decF, br_pos, br_neg, wX, ↓reduceIte, Nat.reduceEqDiff, Nat.reduceAdd, Nat.reduceSub, Nat.reduceMul, Nat.reduceLeDiff, Nat.reduceLT, Nat.reduceMod, Nat.reduceDiv, Int.reduceToNat, Nat.min_eq_left, IntKind.bits, Int.reducePow, Int.reduceLT, Int.reduceLE, Int.reduceEq, Int.reduceNe, Int.reduceAdd, Int.reduceSub, and_self, reduceCtorEq, decide_eq_true_eq, decide_eq_false_iff_not, eq_self, implies_true, exists_const, Option.isNone_some, Option.isNone_none, Option.isSome_some, Option.isSome_none, Option.getD_some]
theorem New_okS {S : Nat → Prop} {g : H} {n : Nat} (h1 : 1 ≤ n) (h2 : n ≤ 16) (hS : ∀ y, S y → g y ≠ none) : Ok Try.prog 9 #[.int .i64 (n : Int)] g fun v h' => ∃ p pv vs, v = .tuple #[.pointer (some ⟨p, 0, none⟩), .int .i64 0] ∧ MX S g h' p pv vs (List.replicate n []) ∧ Ext g h' := by
  refine c9_ok (args := [_]) (by simp) ?_
  simp (disch := omega) only [dm_t, wA, wB, wL, wW, wY, Int.fdiv_eq_ediv_of_nonneg, Int.tdiv_eq_ediv_of_nonneg, Int.tmod_eq_emod_of_nonneg, chk_pos, decT, decF, br_pos, br_neg, wX, ↓reduceIte, Nat.reduceEqDiff, Nat.reduceAdd, Nat.reduceSub, Nat.reduceMul, Nat.reduceLeDiff, Nat.reduceLT, Nat.reduceMod, Nat.reduceDiv, Int.reduceToNat, Nat.min_eq_left, IntKind.bits, Int.reducePow, Int.reduceLT, Int.reduceLE, Int.reduceEq, Int.reduceNe, Int.reduceAdd, Int.reduceSub, and_self, reduceCtorEq, decide_eq_true_eq, decide_eq_false_iff_not, eq_self, implies_true, exists_const, Option.isNone_some, Option.isNone_none, Option.isSome_some, Option.isSome_none, Option.getD_some]
  refine ⟨by omega, ?_⟩
  intro b hb q hq
  have e1 : Ext g _ := Ext.new hb (.cells (Builtin.zeroCells #[Value.slice none 0 0] n) 24)
  have e2 := e1.trans (Ext.new hq (.cells #[.slice (some ⟨b, 0, none⟩) n n] 64))
  have hpar := (omake1 (O := fun y => g y = none ∧ ¬ S y) (h := g) (E := 24) (z := .slice none 0 0) (Nat.le_refl n) ⟨hb, fun h => hS _ h hb⟩).ext (Ext.new hq (.cells #[.slice (some ⟨b, 0, none⟩) n n] 64))
  refine ⟨q, _, List.replicate n (.slice none 0 0), rfl, ⟨hupd_same _ _ _, ⟨e1.bk hq, fun h => hS _ h (e1.bk hq)⟩, by simp, by simp; omega, hpar, ?_, ?_⟩, e2⟩
  · intro i v l hv hl
    rw [List.getElem?_replicate] at hv hl
    split at hv
    · rw [if_pos ‹_›] at hl
      simp only [Option.some.injEq] at hv hl
      subst hv hl
      exact OwL.nil
    · cases hv
  · intro i j v w hv hw hij y hy
    rw [List.getElem?_replicate] at hv
    split at hv
    · simp only [Option.some.injEq] at hv
      subst hv
      exact (no_at hy).elim
    · cases hv
theorem New_ok {g : H} {n : Nat} (h1 : 1 ≤ n) (h2 : n ≤ 16) : Ok Try.prog 9 #[.int .i64 (n : Int)] g fun v h' => ∃ p pv vs, v = .tuple #[.pointer (some ⟨p, 0, none⟩), .int .i64 0] ∧ MX nos g h' p pv vs (List.replicate n []) ∧ Ext g h' := New_okS h1 h2 fun _ h => h.elim
/-- What is done. -/
def doP (ps : List (List rc.D)) (c : callT.D) : List (List rc.D) :=
  if @Eq Int c.1 1 ∧ @Eq Int (tryP ps c).1 0 then ps.set (Int.toNat c.2.1) (ps.getD (Int.toNat c.2.1) [] ++ c.2.2.1) else ps
section
variable {S : Nat → Prop} {h0 g : H} {p : Nat} {pv : Value} {vs : List Value} {ps : List (List rc.D)}
theorem Do2_ok {cs : List Value} {x : callT.D} (X : MX S h0 g p pv vs ps) (E0 : Ext h0 g) (hS : ∀ y, S y → g y ≠ none) (hx : Rep nos callT g cs x) (hl : lims x.2.2.1) (hps : ∀ l ∈ ps, lims l) :
    Ok Try.prog 10 #[.pointer (some ⟨p, 0, none⟩), .agg cs.toArray] g fun v h' => ∃ cs', v = .agg cs'.toArray ∧ YK x g h' cs' (tryP ps x) ∧ (∃ vs', MX S h0 h' p pv vs' (doP ps x) ∧ (∀ y, MF p pv vs' y → MF p pv vs y ∨ g y = none) ∧ (@Ne Int x.1 1 → vs' = vs ∧ Ext g h')) ∧ Fr (MF p pv vs) g h' := by
  obtain ⟨r, rfl, hb, hr⟩ := rep_call.1 hx
  have hb0 := hb.1
  unfold inI at hb0
  refine c10_ok (args := [_, _]) (by simp) ?_
  simp (disch := omega) only [dm_t, wA, wB, wL, wW, wY, Int.fdiv_eq_ediv_of_nonneg, Int.tdiv_eq_ediv_of_nonneg, Int.tmod_eq_emod_of_nonneg, chk_pos, decT, decF, br_pos, br_neg, wX, ↓reduceIte, Nat.reduceEqDiff, Nat.reduceAdd, Nat.reduceSub, Nat.reduceMul, Nat.reduceLeDiff, Nat.reduceLT, Nat.reduceMod, Nat.reduceDiv, Int.reduceToNat, Nat.min_eq_left, IntKind.bits, Int.reducePow, Int.reduceLT, Int.reduceLE, Int.reduceEq, Int.reduceNe, Int.reduceAdd, Int.reduceSub, and_self, reduceCtorEq, decide_eq_true_eq, decide_eq_false_iff_not, eq_self, implies_true, exists_const, Option.isNone_some, Option.isNone_none, Option.isSome_some, Option.isSome_none, Option.getD_some]
  intro b hbn d hd
  generalize hG : hupd g b _ = g1 at hd ⊢
  obtain ⟨e1, qb⟩ := new_ext hG hbn
  clear hG
  generalize hG : hupd g1 d _ = g2
  obtain ⟨e2, qd⟩ := new_ext hG hd
  clear hG
  have E2 := e1.trans e2
  have X2 := X.ext E2
  have hdn := e1.bk hd
  have hbd : b ≠ d := fun h => by subst h; rw [qb] at hd; cases hd
  have k := caC (e2.at qb)
  simp (disch := omega) only [dm_t, wA, wB, wL, wW, wY, Int.fdiv_eq_ediv_of_nonneg, Int.tdiv_eq_ediv_of_nonneg, Int.tmod_eq_emod_of_nonneg, chk_pos, decT, decF, br_pos, br_neg, wX, ↓reduceIte, Nat.reduceEqDiff, Nat.reduceAdd, Nat.reduceSub, Nat.reduceMul, Nat.reduceLeDiff, Nat.reduceLT, Nat.reduceMod, Nat.reduceDiv, Int.reduceToNat, Nat.min_eq_left, IntKind.bits, Int.reducePow, Int.reduceLT, Int.reduceLE, Int.reduceEq, Int.reduceNe, Int.reduceAdd, Int.reduceSub, and_self, reduceCtorEq, decide_eq_true_eq, decide_eq_false_iff_not, eq_self, implies_true, exists_const, Option.isNone_some, Option.isNone_none, Option.isSome_some, Option.isSome_none, Option.getD_some, k.ca]
  refine (Try_ok X2 (hx.ext E2) (by have := hl.1; omega) hps).k ?_
  rintro _ g3 ⟨cs', rfl, ⟨hy, hcs⟩, e3⟩
  have hyr := hy
  obtain ⟨w, rfl, hyb, how⟩ := hy
  obtain ⟨wa, wn, rfl⟩ := how.l.len
  simp (disch := omega) only [dm_t, wA, wB, wL, wW, wY, Int.fdiv_eq_ediv_of_nonneg, Int.tdiv_eq_ediv_of_nonneg, Int.tmod_eq_emod_of_nonneg, chk_pos, decT, decF, br_pos, br_neg, wX, ↓reduceIte, Nat.reduceEqDiff, Nat.reduceAdd, Nat.reduceSub, Nat.reduceMul, Nat.reduceLeDiff, Nat.reduceLT, Nat.reduceMod, Nat.reduceDiv, Int.reduceToNat, Nat.min_eq_left, IntKind.bits, Int.reducePow, Int.reduceLT, Int.reduceLE, Int.reduceEq, Int.reduceNe, Int.reduceAdd, Int.reduceSub, and_self, reduceCtorEq, decide_eq_true_eq, decide_eq_false_iff_not, eq_self, implies_true, exists_const, Option.isNone_some, Option.isNone_none, Option.isSome_some, Option.isSome_none, Option.getD_some]
  intro t ht
  simp (disch := omega) only [dm_t, wA, wB, wL, wW, wY, Int.fdiv_eq_ediv_of_nonneg, Int.tdiv_eq_ediv_of_nonneg, Int.tmod_eq_emod_of_nonneg, chk_pos, decT, decF, br_pos, br_neg, wX, ↓reduceIte, Nat.reduceEqDiff, Nat.reduceAdd, Nat.reduceSub, Nat.reduceMul, Nat.reduceLeDiff, Nat.reduceLT, Nat.reduceMod, Nat.reduceDiv, Int.reduceToNat, Nat.min_eq_left, IntKind.bits, Int.reducePow, Int.reduceLT, Int.reduceLE, Int.reduceEq, Int.reduceNe, Int.reduceAdd, Int.reduceSub, and_self, reduceCtorEq, decide_eq_true_eq, decide_eq_false_iff_not, eq_self, implies_true, exists_const, Option.isNone_some, Option.isNone_none, Option.isSome_some, Option.isSome_none, Option.getD_some]
  refine res3 _ _ (hupd_same _ _ _) rfl rfl ?_
  intro g4 kt qt f4
  have htd : t ≠ d := fun h => by subst h; rw [e3.at qd] at ht; cases ht
  have htb : t ≠ b := fun h => by subst h; rw [e3.at (e2.at qb)] at ht; cases ht
  have e4 : Ext g3 g4 := Ext.step' (Ext.new ht _) f4 fun y hy => by rw [hy]; exact ht
  have E4 := (E2.trans e3).trans e4
  have X4 := X.ext E4
  have k4 := caC (e4.at (e3.at (e2.at qb)))
  have qd4 := e4.at (e3.at qd)
  have y0 : cellAt g4 ⟨t, 0, none⟩ = some (.int .i64 (tryP ps x).1) := by rw [cellAt_of qt]; rfl
  have hnew : ∀ y, MF p pv vs y → y ≠ t ∧ y ≠ d ∧ y ≠ b := fun y hy => ⟨fun h => by subst h; exact (X.ext (E2.trans e3)).there hy ht, fun h => by subst h; exact X.there hy hdn, fun h => by subst h; exact X.there hy hbn⟩
  have Xs : MX (fun y => S y ∨ y = b ∨ y = d ∨ y = t) h0 g4 p pv vs ps := (X.avoid (S' := fun y => S y ∨ y = b ∨ y = d ∨ y = t) (by
    rintro y (h | rfl | rfl | rfl)
    · exact .inl h
    · exact .inr hbn
    · exact .inr hdn
    · exact .inr ((E2.trans e3).bk ht))).ext E4
  have hSs : ∀ y, (S y ∨ y = b ∨ y = d ∨ y = t) → g4 y ≠ none := by
    rintro y (h | rfl | rfl | rfl)
    · intro hn; exact hS y h (E4.bk hn)
    · rw [e4.at (e3.at (e2.at qb))]; simp
    · rw [qd4]; simp
    · rw [qt]; simp
  -- the end
  have fin : ∀ G vs' ps', Fr (MF p pv vs) g4 G → MX (fun y => S y ∨ y = b ∨ y = d ∨ y = t) h0 G p pv vs' ps' → doP ps x = ps' → (∀ y, MF p pv vs' y → MF p pv vs y ∨ g y = none) → (@Ne Int x.1 1 → vs' = vs ∧ Ext g4 G) →
      vc Try.prog c10_s2 (retC [Rv.cn 4 3 36] (okR fun v h' => ∃ cs', v = .agg cs'.toArray ∧ YK x g h' cs' (tryP ps x) ∧ (∃ vs', MX S h0 h' p pv vs' (doP ps x) ∧ (∀ y, MF p pv vs' y → MF p pv vs y ∨ g y = none) ∧ (@Ne Int x.1 1 → vs' = vs ∧ Ext g h')) ∧ Fr (MF p pv vs) g h')) [(4, .pointer (some ⟨d, 0, none⟩)), (5, .pointer (some ⟨t, 0, none⟩))] G := by
    intro G vs' ps' f X' hdo hat hvs
    have qtG := f _ _ qt fun h => (hnew _ h).1 rfl
    have qdG := f _ _ qd4 fun h => (hnew _ h).2.1 rfl
    simp (disch := omega) only [dm_t, wA, wB, wL, wW, wY, Int.fdiv_eq_ediv_of_nonneg, Int.tdiv_eq_ediv_of_nonneg, Int.tmod_eq_emod_of_nonneg, chk_pos, decT, decF, br_pos, br_neg, wX, ↓reduceIte, Nat.reduceEqDiff, Nat.reduceAdd, Nat.reduceSub, Nat.reduceMul, Nat.reduceLeDiff, Nat.reduceLT, Nat.reduceMod, Nat.reduceDiv, Int.reduceToNat, Nat.min_eq_left, IntKind.bits, Int.reducePow, Int.reduceLT, Int.reduceLE, Int.reduceEq, Int.reduceNe, Int.reduceAdd, Int.reduceSub, and_self, reduceCtorEq, decide_eq_true_eq, decide_eq_false_iff_not, eq_self, implies_true, exists_const, Option.isNone_some, Option.isNone_none, Option.isSome_some, Option.isSome_none, Option.getD_some, cellsAt_all qtG 3 rfl]
    refine res3 _ _ qdG rfl rfl ?_
    intro G' kG qG f'
    simp (disch := omega) only [dm_t, wA, wB, wL, wW, wY, Int.fdiv_eq_ediv_of_nonneg, Int.tdiv_eq_ediv_of_nonneg, Int.tmod_eq_emod_of_nonneg, chk_pos, decT, decF, br_pos, br_neg, wX, ↓reduceIte, Nat.reduceEqDiff, Nat.reduceAdd, Nat.reduceSub, Nat.reduceMul, Nat.reduceLeDiff, Nat.reduceLT, Nat.reduceMod, Nat.reduceDiv, Int.reduceToNat, Nat.min_eq_left, IntKind.bits, Int.reducePow, Int.reduceLT, Int.reduceLE, Int.reduceEq, Int.reduceNe, Int.reduceAdd, Int.reduceSub, and_self, reduceCtorEq, decide_eq_true_eq, decide_eq_false_iff_not, eq_self, implies_true, exists_const, Option.isNone_some, Option.isNone_none, Option.isSome_some, Option.isSome_none, Option.getD_some, kG]
    have ff : Fr (fun y => MF p pv vs y ∨ y = d) g3 G' := ((e4.mono fun _ h => h.elim).trans (f.mono fun y hy => .inl hy)).trans (f'.mono fun y hy => .inr hy)
    refine ⟨_, rfl, ⟨(hyr.fr ff ?_).base E2, hcs⟩, ⟨vs', ?_, hat, fun h => ⟨(hvs h).1, Ext.step' (E4.trans (hvs h).2) f' fun y hy => by rw [hy]; exact hdn⟩⟩, ?_⟩
    · rintro y (hy | rfl)
      · exact X2.there hy
      · rw [qd]; simp
    · rw [hdo]
      exact (X'.fr f' fun y hy => .inr (.inr (.inl hy))).avoid fun y hy => .inl (.inl hy)
    · intro y ob hy hn
      exact ff y ob ((E2.trans e3).at hy) (by rintro (h | rfl); exact hn h; rw [hdn] at hy; cases hy)
  have same : ¬ (@Eq Int x.1 1 ∧ @Eq Int (tryP ps x).1 0) → doP ps x = ps := fun h => by rw [doP, if_neg h]
  by_cases h1 : @Eq Int x.1 1
  · by_cases h2 : @Eq Int (tryP ps x).1 0
    · have c0 := k4.c0
      rw [h1] at c0
      rw [h2] at y0
      have htp : tryP ps x = prodP ps x := by rw [tryP, if_pos h1]
      have hin : inP ps x.2.1 := by
        rw [htp] at h2
        unfold prodP at h2
        by_cases hp : inP ps x.2.1
        · exact hp
        · rw [if_neg hp] at h2; cases h2
      obtain ⟨i, hi⟩ : ∃ i : Nat, @Eq Int x.2.1 (i : Int) := ⟨Int.toNat x.2.1, by have := hin.1; omega⟩
      have hil : i < ps.length := by have := hin.2; rw [hi] at this; omega
      have hiv : i < vs.length := by rw [X.len]; exact hil
      have c1 := k4.c1
      rw [hi] at c1
      obtain ⟨b5, o5, i5, h5⟩ := S1.load X4.par.s0 hiv .i64
      obtain ⟨va, vn, hva⟩ := (X4.recAt hil).len
      rw [hva] at h5
      simp (disch := omega) only [dm_t, wA, wB, wL, wW, wY, Int.fdiv_eq_ediv_of_nonneg, Int.tdiv_eq_ediv_of_nonneg, Int.tmod_eq_emod_of_nonneg, chk_pos, decT, decF, br_pos, br_neg, wX, ↓reduceIte, Nat.reduceEqDiff, Nat.reduceAdd, Nat.reduceSub, Nat.reduceMul, Nat.reduceLeDiff, Nat.reduceLT, Nat.reduceMod, Nat.reduceDiv, Int.reduceToNat, Nat.min_eq_left, IntKind.bits, Int.reducePow, Int.reduceLT, Int.reduceLE, Int.reduceEq, Int.reduceNe, Int.reduceAdd, Int.reduceSub, and_self, reduceCtorEq, decide_eq_true_eq, decide_eq_false_iff_not, eq_self, implies_true, exists_const, Option.isNone_some, Option.isNone_none, Option.isSome_some, Option.isSome_none, Option.getD_some, c0, y0, X4.cell, c1, i5, h5, k4.c2]
      obtain ⟨hli, hki⟩ := hps _ (List.getElem_mem hil)
      refine (Copy_ok (hr.ext E4) hl.1 hl.2).k ?_
      rintro w2 g5 ⟨oq, e5⟩
      have Xs5 := Xs.ext e5
      have own5 := Xs5.recAt hil
      rw [hva] at own5
      obtain ⟨r5, hr5⟩ := own5.k
      have k5 := caC (e5.at (e4.at (e3.at (e2.at qb))))
      have c15 := k5.c1
      rw [hi] at c15
      have h55 := cellAt_ext e5 h5
      obtain ⟨w2a, w2n, rfl⟩ := oq.l.len
      have hr5' : RepL (fun y => isAt (.slice va ps[i].length vn) y ∨ (MF p pv vs y ∨ (S y ∨ y = b ∨ y = d ∨ y = t))) rc g5 (.slice w2a x.2.2.1.length w2n) x.2.2.1 := (oq.l.repS (S := fun y => g4 y ≠ none) fun y hy hn => hn hy).mono fun y _ _ hy => by
        rcases hy with hy | hy | hy
        · exact Xs.there (.inr (.inr ⟨vs[i], List.getElem_mem hiv, hva ▸ hy⟩))
        · exact Xs.there hy
        · exact hSs y hy
      simp (disch := omega) only [dm_t, wA, wB, wL, wW, wY, Int.fdiv_eq_ediv_of_nonneg, Int.tdiv_eq_ediv_of_nonneg, Int.tmod_eq_emod_of_nonneg, chk_pos, decT, decF, br_pos, br_neg, wX, ↓reduceIte, Nat.reduceEqDiff, Nat.reduceAdd, Nat.reduceSub, Nat.reduceMul, Nat.reduceLeDiff, Nat.reduceLT, Nat.reduceMod, Nat.reduceDiv, Int.reduceToNat, Nat.min_eq_left, IntKind.bits, Int.reducePow, Int.reduceLT, Int.reduceLE, Int.reduceEq, Int.reduceNe, Int.reduceAdd, Int.reduceSub, and_self, reduceCtorEq, decide_eq_true_eq, decide_eq_false_iff_not, eq_self, implies_true, exists_const, Option.isNone_some, Option.isNone_none, Option.isSome_some, Option.isSome_none, Option.getD_some, c15, Xs5.cell, h55, k5.c2]
      refine OwL.app 3 (by rfl) own5 (fun y hy => ⟨(E0.trans (E4.trans e5)).bk hy, fun hs => hSs y hs (e5.bk hy)⟩) hr5' (by rfl) (by have := hl.1; omega) (by have := hl.1; omega) ?_
      intro v' g6 o6 f6 hat6
      have f6' : Fr (isAt (vs[i])) g5 g6 := by rw [hva]; exact f6.mono fun y hy => hy.2
      have ho6 := f6' _ _ Xs5.obj (by rw [hva]; exact hr5.tyno Xs5.obj (by decide))
      have p6 : cellAt g6 ⟨p, 0, none⟩ = some pv := by rw [cellAt_of ho6]; rfl
      have k6 := caC (f6' _ _ (e5.at (e4.at (e3.at (e2.at qb)))) (by rw [hva]; exact fun h => (own5.own h).2 (.inr (.inl rfl))))
      have c16 := k6.c1
      rw [hi] at c16
      have par6 : O1 (fun y => h0 y = none ∧ ¬ (S y ∨ y = b ∨ y = d ∨ y = t)) g6 24 pv vs := OwK.fr Xs5.par f6' fun y hy _ hpv => hr5.unlike Xs5.par (by decide) (hva ▸ hy) hpv
      obtain ⟨b7, o7, i7, h7⟩ := S1.load par6.s0 hiv .i64
      rw [i5] at i7
      simp only [Option.some.injEq, Value.pointer.injEq, Addr.mk.injEq, and_true] at i7
      obtain ⟨rfl, rfl⟩ := i7
      rw [hva] at h7
      obtain ⟨v6a, v6n, rfl⟩ := o6.len
      obtain ⟨b8, o8, i8, hst⟩ := MX.store (k := i) Xs5 hil (fun y hy => fun hn => hSs y hy (e5.bk hn)) f6' o6 (by rw [hva]; exact hat6) .i64
      rw [i5] at i8
      simp only [Option.some.injEq, Value.pointer.injEq, Addr.mk.injEq, and_true] at i8
      obtain ⟨rfl, rfl⟩ := i8
      simp (disch := omega) only [dm_t, wA, wB, wL, wW, wY, Int.fdiv_eq_ediv_of_nonneg, Int.tdiv_eq_ediv_of_nonneg, Int.tmod_eq_emod_of_nonneg, chk_pos, decT, decF, br_pos, br_neg, wX, ↓reduceIte, Nat.reduceEqDiff, Nat.reduceAdd, Nat.reduceSub, Nat.reduceMul, Nat.reduceLeDiff, Nat.reduceLT, Nat.reduceMod, Nat.reduceDiv, Int.reduceToNat, Nat.min_eq_left, IntKind.bits, Int.reducePow, Int.reduceLT, Int.reduceLE, Int.reduceEq, Int.reduceNe, Int.reduceAdd, Int.reduceSub, and_self, reduceCtorEq, decide_eq_true_eq, decide_eq_false_iff_not, eq_self, implies_true, exists_const, Option.isNone_some, Option.isNone_none, Option.isSome_some, Option.isSome_none, Option.getD_some, c16, p6, h7, k6.c2, i5]
      refine hst _ fun g7 X7 F7 => ?_
      simp (disch := omega) only [dm_t, wV, wB, wL, wW, wU, Int.fdiv_eq_ediv_of_nonneg, Int.tdiv_eq_ediv_of_nonneg, Int.tmod_eq_emod_of_nonneg, chk_pos, decT, decF, br_pos, br_neg, wX, ↓reduceIte, Nat.reduceEqDiff, Nat.reduceAdd, Nat.reduceSub, Nat.reduceMul, Nat.reduceLeDiff, Nat.reduceLT, Nat.reduceMod, Nat.reduceDiv, Int.reduceToNat, Nat.min_eq_left, IntKind.bits, Int.reducePow, Int.reduceLT, Int.reduceLE, Int.reduceEq, Int.reduceNe, Int.reduceAdd, Int.reduceSub, and_self, reduceCtorEq, decide_eq_true_eq, decide_eq_false_iff_not, eq_self, implies_true, exists_const, Option.isNone_some, Option.isNone_none, Option.isSome_some, Option.isSome_none, Option.getD_some]
      have hgd : ps.getD (Int.toNat x.2.1) [] = ps[i] := by rw [hi, Int.toNat_natCast, List.getD_eq_getElem?_getD, List.getElem?_eq_getElem hil]; rfl
      refine fin g7 _ _ ((e5.mono fun _ h => h.elim).trans F7) X7 (by rw [doP, if_pos ⟨h1, h2⟩, hgd, hi, Int.toNat_natCast]) ?_ (fun h => absurd h1 h)
      rintro y (hy | hy | ⟨v, hv, hy⟩)
      · exact .inl (.inl hy)
      · exact .inl (.inr (.inl hy))
      · rcases List.mem_or_eq_of_mem_set hv with hv | rfl
        · exact .inl (.inr (.inr ⟨v, hv, hy⟩))
        · rcases hat6 y hy with h | h
          · exact .inl (.inr (.inr ⟨vs[i], List.getElem_mem hiv, hva ▸ h⟩))
          · exact .inr ((E4.trans e5).bk h)
    · have c0 := k4.c0
      rw [h1] at c0
      simp (disch := omega) only [dm_t, wA, wB, wL, wW, wY, Int.fdiv_eq_ediv_of_nonneg, Int.tdiv_eq_ediv_of_nonneg, Int.tmod_eq_emod_of_nonneg, chk_pos, decT, decF, br_pos, br_neg, wX, ↓reduceIte, Nat.reduceEqDiff, Nat.reduceAdd, Nat.reduceSub, Nat.reduceMul, Nat.reduceLeDiff, Nat.reduceLT, Nat.reduceMod, Nat.reduceDiv, Int.reduceToNat, Nat.min_eq_left, IntKind.bits, Int.reducePow, Int.reduceLT, Int.reduceLE, Int.reduceEq, Int.reduceNe, Int.reduceAdd, Int.reduceSub, and_self, reduceCtorEq, decide_eq_true_eq, decide_eq_false_iff_not, eq_self, implies_true, exists_const, Option.isNone_some, Option.isNone_none, Option.isSome_some, Option.isSome_none, Option.getD_some, c0, y0]
      exact fin g4 vs ps (Fr.refl _ _) Xs (same fun h => h2 h.2) (fun y hy => .inl hy) fun _ => ⟨rfl, Ext.refl _⟩
  · simp (disch := omega) only [dm_t, wA, wB, wL, wW, wY, Int.fdiv_eq_ediv_of_nonneg, Int.tdiv_eq_ediv_of_nonneg, Int.tmod_eq_emod_of_nonneg, chk_pos, decT, decF, br_pos, br_neg, wX, ↓reduceIte, Nat.reduceEqDiff, Nat.reduceAdd, Nat.reduceSub, Nat.reduceMul, Nat.reduceLeDiff, Nat.reduceLT, Nat.reduceMod, Nat.reduceDiv, Int.reduceToNat, Nat.min_eq_left, IntKind.bits, Int.reducePow, Int.reduceLT, Int.reduceLE, Int.reduceEq, Int.reduceNe, Int.reduceAdd, Int.reduceSub, and_self, reduceCtorEq, decide_eq_true_eq, decide_eq_false_iff_not, eq_self, implies_true, exists_const, Option.isNone_some, Option.isNone_none, Option.isSome_some, Option.isSome_none, Option.getD_some, k4.c0]
    exact fin g4 vs ps (Fr.refl _ _) Xs (same fun h => h1 h.1) (fun y hy => .inl hy) fun _ => ⟨rfl, Ext.refl _⟩
theorem Do_ok {cs : List Value} {x : callT.D} (X : MX S h0 g p pv vs ps) (E0 : Ext h0 g) (hS : ∀ y, S y → g y ≠ none) (hx : Rep nos callT g cs x) (hl : lims x.2.2.1) (hps : ∀ l ∈ ps, lims l) :
    Ok Try.prog 10 #[.pointer (some ⟨p, 0, none⟩), .agg cs.toArray] g fun v h' => ∃ cs', v = .agg cs'.toArray ∧ YK x g h' cs' (tryP ps x) ∧ (∃ vs', MX S h0 h' p pv vs' (doP ps x) ∧ (∀ y, MF p pv vs' y → MF p pv vs y ∨ g y = none) ∧ (@Ne Int x.1 1 → vs' = vs)) ∧ Fr (MF p pv vs) g h' :=
  (Do2_ok X E0 hS hx hl hps).mono fun v h' ⟨cs', h1, h2, ⟨vs', h3, h4, h5⟩, h6⟩ => ⟨cs', h1, h2, ⟨vs', h3, h4, fun h => (h5 h).1⟩, h6⟩
end
end Go.Proofs.Ytpgkkpjdajkobaa.mo
