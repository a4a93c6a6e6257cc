/-
  model: the document's Do.
-/
import Derived.Test.YtpgkkpjdajkobaaMu
import Derived.Test.YtpgkkpjdajkobaaMm
namespace Go.Proofs.Ytpgkkpjdajkobaa.mo
open Go.Proofs.Ytpgkkpjdajkobaa rr
set_option linter.unusedVariables false
set_option linter.unusedSimpArgs false
section
variable {S T : Nat → Prop} {g g' : H} {p : Nat} {pv : Value} {vs : List Value} {ps : List (List rc.D)}
/-- A list at a place of the headers, changed: the headers are a slice of their own. -/
theorem RY.set {h' : H} {i : Nat} {qv w : Value} {l : List rc.D} (X : RY S g p pv vs ps) (hi : i < ps.length) (hobj : h' p = some (.cells #[qv] 59)) (hpar : S1 S h' qv (vs.set i w)) (hw : RepL S rc h' w l) (f : Fr T g h') (hT : ∀ y, T y → S y) : RY S h' p qv (vs.set i w) (ps.set i l) := by
  refine ⟨hobj, by simp [X.len], hpar, ?_⟩
  intro j v l' hv hl
  rw [List.getElem?_set] at hv hl
  by_cases hij : i = j
  · rw [if_pos hij, if_pos (by rw [X.len]; exact hi)] at hv
    rw [if_pos hij, if_pos hi] at hl
    simp only [Option.some.injEq] at hv hl
    subst hv hl
    exact hw
  · rw [if_neg hij] at hv hl
    exact (X.lst j v l' hv hl).fr f hT
theorem RDo_ok {cs : List Value} {x : callT.D} (X : RY S g p pv vs ps) (hSp : S p) (hS : ∀ y, S y → g y ≠ none) (hx : Rep nos callT g cs x) (hl : x.2.2.1.length ≤ 1000000) (hk : ∀ r ∈ x.2.2.1, r.2.1.length ≤ 9000 ∧ r.2.2.length ≤ 9000) (hps : ∀ l ∈ ps, lims l) (hn : ps.length ≤ 1000) :
    Ok Try.prog 20 #[.pointer (some ⟨p, 0, none⟩), .agg cs.toArray] g fun v h' => ∃ w, v = .agg (yCs (tryP ps x) w).toArray ∧ yB (tryP ps x) ∧ RepL (fun y => g y ≠ none) rc h' w (tryP ps x).2.2 ∧ (∃ pv' vs', RY S h' p pv' vs' (doP ps x)) ∧ Fr (fun y => y = p) g h' := by
  obtain ⟨r, rfl, hb, hr⟩ := rep_call.1 hx
  have hb0 := hb.1
  unfold inI at hb0
  refine c20_ok (args := [_, _]) (by simp) ?_
  simp (disch := omega) only [dm_t, wA, wB, wL, wW, wY, Int.fdiv_eq_ediv_of_nonneg, Int.tdiv_eq_ediv_of_nonneg, Int.tmod_eq_emod_of_nonneg, chk_pos, decT, decF, br_pos, br_neg, wX, ↓reduceIte, Nat.reduceEqDiff, Nat.reduceAdd, Nat.reduceSub, Nat.reduceMul, Nat.reduceLeDiff, Nat.reduceLT, Nat.reduceMod, Nat.reduceDiv, Int.reduceToNat, Nat.min_eq_left, IntKind.bits, Int.reducePow, Int.reduceLT, Int.reduceLE, Int.reduceEq, Int.reduceNe, Int.reduceAdd, Int.reduceSub, and_self, reduceCtorEq, decide_eq_true_eq, decide_eq_false_iff_not, eq_self, implies_true, exists_const, Option.isNone_some, Option.isNone_none, Option.isSome_some, Option.isSome_none, Option.getD_some]
  intro b hbn d hd
  generalize hG : hupd g b _ = g1 at hd ⊢
  obtain ⟨e1, qb⟩ := new_ext hG hbn
  clear hG
  generalize hG : hupd g1 d _ = g2
  obtain ⟨e2, qd⟩ := new_ext hG hd
  clear hG
  have E2 := e1.trans e2
  have X2 := X.ext E2
  have hdn := e1.bk hd
  have hbd : b ≠ d := fun h => by subst h; rw [qb] at hd; cases hd
  have k := caC (e2.at qb)
  simp (disch := omega) only [dm_t, wA, wB, wL, wW, wY, Int.fdiv_eq_ediv_of_nonneg, Int.tdiv_eq_ediv_of_nonneg, Int.tmod_eq_emod_of_nonneg, chk_pos, decT, decF, br_pos, br_neg, wX, ↓reduceIte, Nat.reduceEqDiff, Nat.reduceAdd, Nat.reduceSub, Nat.reduceMul, Nat.reduceLeDiff, Nat.reduceLT, Nat.reduceMod, Nat.reduceDiv, Int.reduceToNat, Nat.min_eq_left, IntKind.bits, Int.reducePow, Int.reduceLT, Int.reduceLE, Int.reduceEq, Int.reduceNe, Int.reduceAdd, Int.reduceSub, and_self, reduceCtorEq, decide_eq_true_eq, decide_eq_false_iff_not, eq_self, implies_true, exists_const, Option.isNone_some, Option.isNone_none, Option.isSome_some, Option.isSome_none, Option.getD_some, k.ca]
  refine (RTry_ok X2 (hx.ext E2) hl hk hps).k ?_
  rintro _ g3 ⟨w, rfl, hyb, hw, e3⟩
  obtain ⟨wa, wn, rfl⟩ := hw.len
  simp (disch := omega) only [dm_t, wA, wB, wL, wW, wY, Int.fdiv_eq_ediv_of_nonneg, Int.tdiv_eq_ediv_of_nonneg, Int.tmod_eq_emod_of_nonneg, chk_pos, decT, decF, br_pos, br_neg, wX, ↓reduceIte, Nat.reduceEqDiff, Nat.reduceAdd, Nat.reduceSub, Nat.reduceMul, Nat.reduceLeDiff, Nat.reduceLT, Nat.reduceMod, Nat.reduceDiv, Int.reduceToNat, Nat.min_eq_left, IntKind.bits, Int.reducePow, Int.reduceLT, Int.reduceLE, Int.reduceEq, Int.reduceNe, Int.reduceAdd, Int.reduceSub, and_self, reduceCtorEq, decide_eq_true_eq, decide_eq_false_iff_not, eq_self, implies_true, exists_const, Option.isNone_some, Option.isNone_none, Option.isSome_some, Option.isSome_none, Option.getD_some]
  intro t ht
  simp (disch := omega) only [dm_t, wA, wB, wL, wW, wY, Int.fdiv_eq_ediv_of_nonneg, Int.tdiv_eq_ediv_of_nonneg, Int.tmod_eq_emod_of_nonneg, chk_pos, decT, decF, br_pos, br_neg, wX, ↓reduceIte, Nat.reduceEqDiff, Nat.reduceAdd, Nat.reduceSub, Nat.reduceMul, Nat.reduceLeDiff, Nat.reduceLT, Nat.reduceMod, Nat.reduceDiv, Int.reduceToNat, Nat.min_eq_left, IntKind.bits, Int.reducePow, Int.reduceLT, Int.reduceLE, Int.reduceEq, Int.reduceNe, Int.reduceAdd, Int.reduceSub, and_self, reduceCtorEq, decide_eq_true_eq, decide_eq_false_iff_not, eq_self, implies_true, exists_const, Option.isNone_some, Option.isNone_none, Option.isSome_some, Option.isSome_none, Option.getD_some]
  refine res3 _ _ (hupd_same _ _ _) rfl rfl ?_
  intro g4 kt qt f4
  have htd : t ≠ d := fun h => by subst h; rw [e3.at qd] at ht; cases ht
  have e4 : Ext g3 g4 := Ext.step' (Ext.new ht _) f4 fun y hy => by rw [hy]; exact ht
  have E4 := (E2.trans e3).trans e4
  have X4 := X.ext E4
  have k4 := caC (e4.at (e3.at (e2.at qb)))
  have qd4 := e4.at (e3.at qd)
  have y0 : cellAt g4 ⟨t, 0, none⟩ = some (.int .i64 (tryP ps x).1) := by rw [cellAt_of qt]; rfl
  have htn : g t = none := (E2.trans e3).bk ht
  have Xd : RY (fun y => S y ∨ y = d) g4 p pv vs ps := (X.avoid fun y hy => hy.elim .inl fun h => .inr (h ▸ hdn)).ext E4
  have hpt : p ≠ t := fun h => hS p hSp (h ▸ htn)
  have hpd : p ≠ d := fun h => hS p hSp (h ▸ hdn)
  have fin : ∀ G pv' vs' ps', Fr (fun y => y = p) g4 G → RY (fun y => S y ∨ y = d) G p pv' vs' ps' → doP ps x = ps' →
      vc Try.prog c20_s4 (retC [Rv.cn 4 3 36] (okR fun v h' => ∃ w, v = .agg (yCs (tryP ps x) w).toArray ∧ yB (tryP ps x) ∧ RepL (fun y => g y ≠ none) rc h' w (tryP ps x).2.2 ∧ (∃ pv' vs', RY S h' p pv' vs' (doP ps x)) ∧ Fr (fun y => y = p) g h')) [(4, .pointer (some ⟨d, 0, none⟩)), (5, .pointer (some ⟨t, 0, none⟩))] G := by
    intro G pv' vs' ps' f X' hdo
    have qtG := f _ _ qt hpt.symm
    have qdG := f _ _ qd4 hpd.symm
    simp (disch := omega) only [dm_t, wA, wB, wL, wW, wY, Int.fdiv_eq_ediv_of_nonneg, Int.tdiv_eq_ediv_of_nonneg, Int.tmod_eq_emod_of_nonneg, chk_pos, decT, decF, br_pos, br_neg, wX, ↓reduceIte, Nat.reduceEqDiff, Nat.reduceAdd, Nat.reduceSub, Nat.reduceMul, Nat.reduceLeDiff, Nat.reduceLT, Nat.reduceMod, Nat.reduceDiv, Int.reduceToNat, Nat.min_eq_left, IntKind.bits, Int.reducePow, Int.reduceLT, Int.reduceLE, Int.reduceEq, Int.reduceNe, Int.reduceAdd, Int.reduceSub, and_self, reduceCtorEq, decide_eq_true_eq, decide_eq_false_iff_not, eq_self, implies_true, exists_const, Option.isNone_some, Option.isNone_none, Option.isSome_some, Option.isSome_none, Option.getD_some, cellsAt_all qtG 3 rfl]
    refine res3 _ _ qdG rfl rfl ?_
    intro G' kG qG f'
    simp (disch := omega) only [dm_t, wA, wB, wL, wW, wY, Int.fdiv_eq_ediv_of_nonneg, Int.tdiv_eq_ediv_of_nonneg, Int.tmod_eq_emod_of_nonneg, chk_pos, decT, decF, br_pos, br_neg, wX, ↓reduceIte, Nat.reduceEqDiff, Nat.reduceAdd, Nat.reduceSub, Nat.reduceMul, Nat.reduceLeDiff, Nat.reduceLT, Nat.reduceMod, Nat.reduceDiv, Int.reduceToNat, Nat.min_eq_left, IntKind.bits, Int.reducePow, Int.reduceLT, Int.reduceLE, Int.reduceEq, Int.reduceNe, Int.reduceAdd, Int.reduceSub, and_self, reduceCtorEq, decide_eq_true_eq, decide_eq_false_iff_not, eq_self, implies_true, exists_const, Option.isNone_some, Option.isNone_none, Option.isSome_some, Option.isSome_none, Option.getD_some, kG]
    have f04 : Fr (fun y => y = p ∨ y = d) g G' := ((E4.mono fun _ h => h.elim).trans (f.mono fun y hy => .inl hy)).trans (f'.mono fun y hy => .inr hy)
    have f34 : Fr (fun y => y = p ∨ y = d) g3 G' := ((e4.mono fun _ h => h.elim).trans (f.mono fun y hy => .inl hy)).trans (f'.mono fun y hy => .inr hy)
    refine ⟨_, rfl, hyb, ?_, ⟨pv', vs', ?_⟩, ?_⟩
    · refine (RepL.fr hw f34 fun y hy => ?_).mono fun y _ _ hy hn => hy (E2.bk hn)
      rcases hy with rfl | rfl
      · exact fun hn => hS _ hSp (E2.bk hn)
      · rw [qd]; simp
    · rw [hdo]
      exact (X'.fr f' (fun y hy => .inr hy) hpd).mono fun y _ _ h => .inl h
    · intro y ob hy hn
      exact f04 y ob hy (by rintro (h | rfl); exact hn h; rw [hdn] at hy; cases hy)
  have same : ¬ (@Eq Int x.1 1 ∧ @Eq Int (tryP ps x).1 0) → doP ps x = ps := fun h => by rw [doP, if_neg h]
  by_cases h1 : @Eq Int x.1 1
  · by_cases h2 : @Eq Int (tryP ps x).1 0
    · have c0 := k4.c0
      rw [h1] at c0
      rw [h2] at y0
      have htp : tryP ps x = prodP ps x := by rw [tryP, if_pos h1]
      have hin : inP ps x.2.1 := by
        rw [htp] at h2
        unfold prodP at h2
        by_cases hp : inP ps x.2.1
        · exact hp
        · rw [if_neg hp] at h2; cases h2
      obtain ⟨i, hi⟩ : ∃ i : Nat, @Eq Int x.2.1 (i : Int) := ⟨Int.toNat x.2.1, by have := hin.1; omega⟩
      have hil : i < ps.length := by have := hin.2; rw [hi] at this; omega
      have hiv : i < vs.length := by rw [X.len]; exact hil
      have c1 := k4.c1
      rw [hi] at c1
      obtain ⟨pa, pn, hpv⟩ := X.slen
      have pc := Xd.cell
      have hall := X.all
      have hlen := X.len
      rw [hpv] at pc
      simp (disch := omega) only [dm_t, wA, wB, wL, wW, wY, Int.fdiv_eq_ediv_of_nonneg, Int.tdiv_eq_ediv_of_nonneg, Int.tmod_eq_emod_of_nonneg, chk_pos, decT, decF, br_pos, br_neg, wX, ↓reduceIte, Nat.reduceEqDiff, Nat.reduceAdd, Nat.reduceSub, Nat.reduceMul, Nat.reduceLeDiff, Nat.reduceLT, Nat.reduceMod, Nat.reduceDiv, Int.reduceToNat, Nat.min_eq_left, IntKind.bits, Int.reducePow, Int.reduceLT, Int.reduceLE, Int.reduceEq, Int.reduceNe, Int.reduceAdd, Int.reduceSub, and_self, reduceCtorEq, decide_eq_true_eq, decide_eq_false_iff_not, eq_self, implies_true, exists_const, Option.isNone_some, Option.isNone_none, Option.isSome_some, Option.isSome_none, Option.getD_some, c0, y0, pc]
      refine app1 (O := fun y => g4 y = none) (xs := []) OwK.nil (fun _ h => h) (hpv ▸ Xd.par) hall (by rw [List.length_nil]; omega) (by rw [List.length_nil]; omega) ?_
      intro w5 g5 o5 f5
      rw [List.nil_append] at o5
      have e5 : Ext g4 g5 := Ext.step (Ext.refl _) f5
      obtain ⟨wa5, wn5, rfl⟩ := S1.len (OwK.s0 o5)
      obtain ⟨b5, od5, i5, a5, h5, -⟩ := O1.put o5 hiv .i64
      have n5 : g4 b5 = none := o5.own a5
      have there5 : g5 b5 ≠ none := o5.there a5
      have Xd5 : RY (fun y => (S y ∨ y = d) ∨ y = b5) g5 p pv vs ps := (Xd.avoid fun y hy => hy.elim .inl fun h => .inr (h ▸ n5)).ext e5
      have r5 := Xd5.at hil
      obtain ⟨va, vn, hva⟩ := r5.len
      rw [hva] at h5 r5
      obtain ⟨hli, hki⟩ := hps _ (List.getElem_mem hil)
      have k5 := caC (e5.at (e4.at (e3.at (e2.at qb))))
      have c15 := k5.c1
      rw [hi] at c15
      simp (disch := omega) only [dm_t, wA, wB, wL, wW, wY, Int.fdiv_eq_ediv_of_nonneg, Int.tdiv_eq_ediv_of_nonneg, Int.tmod_eq_emod_of_nonneg, chk_pos, decT, decF, br_pos, br_neg, wX, ↓reduceIte, Nat.reduceEqDiff, Nat.reduceAdd, Nat.reduceSub, Nat.reduceMul, Nat.reduceLeDiff, Nat.reduceLT, Nat.reduceMod, Nat.reduceDiv, Int.reduceToNat, Nat.min_eq_left, IntKind.bits, Int.reducePow, Int.reduceLT, Int.reduceLE, Int.reduceEq, Int.reduceNe, Int.reduceAdd, Int.reduceSub, and_self, reduceCtorEq, decide_eq_true_eq, decide_eq_false_iff_not, eq_self, implies_true, exists_const, Option.isNone_some, Option.isNone_none, Option.isSome_some, Option.isSome_none, Option.getD_some, c15, i5, h5, k5.c2]
      refine OwL.app (S := fun y => (S y ∨ y = d) ∨ y = b5) (O := fun y => g5 y = none) (xs := []) 3 sz_rc OwL.nil (fun _ h => h) (RepL.mono r5 fun y _ _ h => h.elim (fun h => (no_at h).elim) id) (by rfl) (by rw [List.length_nil]; omega) (by rw [List.length_nil]; omega) ?_
      intro v6 g6 o6 f6 hat6
      rw [List.nil_append] at o6
      have e6 : Ext g5 g6 := Ext.step (Ext.refl _) f6
      have cx : ∀ {G}, Ext g4 G → cellAt G ⟨b, 1, none⟩ = some (.int .i64 (i : Int)) ∧ cellAt G ⟨b, 2, none⟩ = some r := fun e => by
        have h := caC (e.at (e4.at (e3.at (e2.at qb))))
        have h1 := h.c1
        rw [hi] at h1
        exact ⟨h1, h.c2⟩
      obtain ⟨d1, d2⟩ := cx (e5.trans e6)
      simp (disch := omega) only [dm_t, wA, wB, wL, wW, wY, Int.fdiv_eq_ediv_of_nonneg, Int.tdiv_eq_ediv_of_nonneg, Int.tmod_eq_emod_of_nonneg, chk_pos, decT, decF, br_pos, br_neg, wX, ↓reduceIte, Nat.reduceEqDiff, Nat.reduceAdd, Nat.reduceSub, Nat.reduceMul, Nat.reduceLeDiff, Nat.reduceLT, Nat.reduceMod, Nat.reduceDiv, Int.reduceToNat, Nat.min_eq_left, IntKind.bits, Int.reducePow, Int.reduceLT, Int.reduceLE, Int.reduceEq, Int.reduceNe, Int.reduceAdd, Int.reduceSub, and_self, reduceCtorEq, decide_eq_true_eq, decide_eq_false_iff_not, eq_self, implies_true, exists_const, Option.isNone_some, Option.isNone_none, Option.isSome_some, Option.isSome_none, Option.getD_some, d1, d2, i5, cellAt_ext e6 h5]
      refine (DCopy_ok (hr.ext (E4.trans (e5.trans e6))) hl fun y hy => by have := hk y hy; omega).k ?_
      rintro _ g7 ⟨oq, e7⟩
      obtain ⟨za, zn, rfl⟩ := oq.l.len
      obtain ⟨v6a, v6n, rfl⟩ := o6.len
      obtain ⟨d1, d2⟩ := cx ((e5.trans e6).trans e7)
      simp (disch := omega) only [dm_t, wA, wB, wL, wW, wY, Int.fdiv_eq_ediv_of_nonneg, Int.tdiv_eq_ediv_of_nonneg, Int.tmod_eq_emod_of_nonneg, chk_pos, decT, decF, br_pos, br_neg, wX, ↓reduceIte, Nat.reduceEqDiff, Nat.reduceAdd, Nat.reduceSub, Nat.reduceMul, Nat.reduceLeDiff, Nat.reduceLT, Nat.reduceMod, Nat.reduceDiv, Int.reduceToNat, Nat.min_eq_left, IntKind.bits, Int.reducePow, Int.reduceLT, Int.reduceLE, Int.reduceEq, Int.reduceNe, Int.reduceAdd, Int.reduceSub, and_self, reduceCtorEq, decide_eq_true_eq, decide_eq_false_iff_not, eq_self, implies_true, exists_const, Option.isNone_some, Option.isNone_none, Option.isSome_some, Option.isSome_none, Option.getD_some, d1, d2, i5, cellAt_ext (e6.trans e7) h5]
      have o67 := o6.ext e7
      have hSd : ∀ y, (S y ∨ y = d) → g4 y ≠ none := by
        rintro y (hy | rfl)
        · exact fun hn => hS y hy (E4.bk hn)
        · rw [qd4]; simp
      have hz : RepL (fun y => isAt (.slice v6a ps[i].length v6n) y ∨ ((S y ∨ y = d) ∨ y = b5)) rc g7 (.slice za x.2.2.1.length zn) x.2.2.1 := (oq.l.repS fun y hy hn => hn hy).mono fun y _ _ hy => by
        rcases hy with hy | hy | rfl
        · exact o6.there hy
        · exact fun hn => hSd y hy ((e5.trans e6).bk hn)
        · exact fun hn => there5 (e6.bk hn)
      refine OwL.app 3 sz_rc o67 (fun y hy => (e6.trans e7).bk hy) hz (by rfl) (by omega) (by omega) ?_
      intro v8 g8 o8 f8 hat8
      have f8' : Ext g5 g8 := Ext.step (e6.trans e7) f8
      have E8 : Ext g4 g8 := e5.trans f8'
      obtain ⟨v8a, v8n, rfl⟩ := o8.len
      have o58 : O1 (fun y => g4 y = none) g8 24 (.slice wa5 vs.length wn5) vs := OwK.ext o5 f8'
      obtain ⟨b9, od9, i9, h9, -, st9⟩ := O1.put o58 hiv .i64
      rw [i5] at i9
      simp only [Option.some.injEq, Value.pointer.injEq, Addr.mk.injEq, and_true] at i9
      obtain ⟨rfl, rfl⟩ := i9
      obtain ⟨d1, d2⟩ := cx E8
      simp (disch := omega) only [dm_t, wA, wB, wL, wW, wY, Int.fdiv_eq_ediv_of_nonneg, Int.tdiv_eq_ediv_of_nonneg, Int.tmod_eq_emod_of_nonneg, chk_pos, decT, decF, br_pos, br_neg, wX, ↓reduceIte, Nat.reduceEqDiff, Nat.reduceAdd, Nat.reduceSub, Nat.reduceMul, Nat.reduceLeDiff, Nat.reduceLT, Nat.reduceMod, Nat.reduceDiv, Int.reduceToNat, Nat.min_eq_left, IntKind.bits, Int.reducePow, Int.reduceLT, Int.reduceLE, Int.reduceEq, Int.reduceNe, Int.reduceAdd, Int.reduceSub, and_self, reduceCtorEq, decide_eq_true_eq, decide_eq_false_iff_not, eq_self, implies_true, exists_const, Option.isNone_some, Option.isNone_none, Option.isSome_some, Option.isSome_none, Option.getD_some, d1, d2, i5, cellAt_ext f8' h5]
      refine st9 _ _ rfl fun g9 o9 f9 => ?_
      have hb5 : g4 b5 = none := o58.own h9
      have E9 : Ext g4 g9 := Ext.step' E8 f9 fun y hy => by rw [hy]; exact hb5
      have Xd9 := Xd.ext E9
      simp (disch := omega) only [dm_t, wA, wB, wL, wW, wY, Int.fdiv_eq_ediv_of_nonneg, Int.tdiv_eq_ediv_of_nonneg, Int.tmod_eq_emod_of_nonneg, chk_pos, decT, decF, br_pos, br_neg, wX, ↓reduceIte, Nat.reduceEqDiff, Nat.reduceAdd, Nat.reduceSub, Nat.reduceMul, Nat.reduceLeDiff, Nat.reduceLT, Nat.reduceMod, Nat.reduceDiv, Int.reduceToNat, Nat.min_eq_left, IntKind.bits, Int.reducePow, Int.reduceLT, Int.reduceLE, Int.reduceEq, Int.reduceNe, Int.reduceAdd, Int.reduceSub, and_self, reduceCtorEq, decide_eq_true_eq, decide_eq_false_iff_not, eq_self, implies_true, exists_const, Option.isNone_some, Option.isNone_none, Option.isSome_some, Option.isSome_none, Option.getD_some]
      refine storeH_all (vs := [_]) Xd9.obj rfl rfl ?_
      generalize hG : hupd g9 p _ = g10
      have f10 : Fr (fun y => y = p) g9 g10 := hG ▸ Fr.upd (S := fun y => y = p) rfl _
      have q10 : g10 p = some (.cells #[.slice wa5 vs.length wn5] 59) := hG ▸ hupd_same _ _ _
      clear hG
      simp (disch := omega) only [dm_t, wV, wB, wL, wW, wU, Int.fdiv_eq_ediv_of_nonneg, Int.tdiv_eq_ediv_of_nonneg, Int.tmod_eq_emod_of_nonneg, chk_pos, decT, decF, br_pos, br_neg, wX, ↓reduceIte, Nat.reduceEqDiff, Nat.reduceAdd, Nat.reduceSub, Nat.reduceMul, Nat.reduceLeDiff, Nat.reduceLT, Nat.reduceMod, Nat.reduceDiv, Int.reduceToNat, Nat.min_eq_left, IntKind.bits, Int.reducePow, Int.reduceLT, Int.reduceLE, Int.reduceEq, Int.reduceNe, Int.reduceAdd, Int.reduceSub, and_self, reduceCtorEq, decide_eq_true_eq, decide_eq_false_iff_not, eq_self, implies_true, exists_const, Option.isNone_some, Option.isNone_none, Option.isSome_some, Option.isSome_none, Option.getD_some]
      have hgd : ps.getD (Int.toNat x.2.1) [] = ps[i] := by rw [hi, Int.toNat_natCast, List.getD_eq_getElem?_getD, List.getElem?_eq_getElem hil]; rfl
      have hp9 : g9 p ≠ none := by rw [Xd9.obj]; simp
      have hS9 : ∀ y, g4 y = none → ¬ (S y ∨ y = d) := fun y hn hs => hSd y hs hn
      refine fin g10 (.slice wa5 vs.length wn5) (vs.set i (.slice v8a (ps[i] ++ x.2.2.1).length v8n)) _ (((E9.mono fun _ h => h.elim)).trans f10) ?_ (by rw [doP, if_pos ⟨h1, h2⟩, hgd, hi, Int.toNat_natCast])
      refine RY.set Xd9 hil q10 ?_ ?_ f10 fun y hy => .inl (hy ▸ hSp)
      · exact SlK.fr (OwK.sl o9 fun y hy => hS9 y hy) f10 fun y hy => .inl (hy ▸ hSp)
      · have r8 : RepL (fun y => (S y ∨ y = d) ∨ y = b5) rc g8 (.slice v8a (ps[i] ++ x.2.2.1).length v8n) (ps[i] ++ x.2.2.1) := o8.repS fun y hy hs => by
          rcases hs with hs | rfl
          · exact hSd y hs (e5.bk hy)
          · exact there5 hy
        exact RepL.fr ((RepL.fr r8 f9 fun y hy => .inr hy).mono fun y _ _ h => .inl h) f10 fun y hy => .inl (hy ▸ hSp)
    · have c0 := k4.c0
      rw [h1] at c0
      simp (disch := omega) only [dm_t, wA, wB, wL, wW, wY, Int.fdiv_eq_ediv_of_nonneg, Int.tdiv_eq_ediv_of_nonneg, Int.tmod_eq_emod_of_nonneg, chk_pos, decT, decF, br_pos, br_neg, wX, ↓reduceIte, Nat.reduceEqDiff, Nat.reduceAdd, Nat.reduceSub, Nat.reduceMul, Nat.reduceLeDiff, Nat.reduceLT, Nat.reduceMod, Nat.reduceDiv, Int.reduceToNat, Nat.min_eq_left, IntKind.bits, Int.reducePow, Int.reduceLT, Int.reduceLE, Int.reduceEq, Int.reduceNe, Int.reduceAdd, Int.reduceSub, and_self, reduceCtorEq, decide_eq_true_eq, decide_eq_false_iff_not, eq_self, implies_true, exists_const, Option.isNone_some, Option.isNone_none, Option.isSome_some, Option.isSome_none, Option.getD_some, c0, y0]
      exact fin g4 pv vs ps (Fr.refl _ _) Xd (same fun h => h2 h.2)
  · simp (disch := omega) only [dm_t, wA, wB, wL, wW, wY, Int.fdiv_eq_ediv_of_nonneg, Int.tdiv_eq_ediv_of_nonneg, Int.tmod_eq_emod_of_nonneg, chk_pos, decT, decF, br_pos, br_neg, wX, ↓reduceIte, Nat.reduceEqDiff, Nat.reduceAdd, Nat.reduceSub, Nat.reduceMul, Nat.reduceLeDiff, Nat.reduceLT, Nat.reduceMod, Nat.reduceDiv, Int.reduceToNat, Nat.min_eq_left, IntKind.bits, Int.reducePow, Int.reduceLT, Int.reduceLE, Int.reduceEq, Int.reduceNe, Int.reduceAdd, Int.reduceSub, and_self, reduceCtorEq, decide_eq_true_eq, decide_eq_false_iff_not, eq_self, implies_true, exists_const, Option.isNone_some, Option.isNone_none, Option.isSome_some, Option.isSome_none, Option.getD_some, k4.c0]
    exact fin g4 pv vs ps (Fr.refl _ _) Xd (same fun h => h1 h.1)
end
end Go.Proofs.Ytpgkkpjdajkobaa.mo
