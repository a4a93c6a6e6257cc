/-
  times: indices put aside.
-/
import Derived.Test.YtmjbgfflbeibnaaUd
import Derived.Test.YtmjbgfflbeibnaaUe
namespace Go.Proofs.Ytmjbgfflbeibnaa.ti
open Go.Proofs.Ytmjbgfflbeibnaa wi
set_option linter.unusedVariables false
set_option linter.unusedSimpArgs false
section
variable {S T A A' : Nat → Prop} {h g g' g0 : H} {p q r o : Nat} {b e b2 e2 : Int} {v v2 w lv ov wv : Value} {l l2 : List Ri}
/-- The document's index, at any place. -/
structure DV (S : Nat → Prop) (g : H) (q o : Nat) (b e : Int) (v : Value) (l : List Ri) : Prop where
  c0 : cellAt g ⟨q, o, none⟩ = some (.int .i64 b)
  c1 : cellAt g ⟨q, o + 1, none⟩ = some (.int .i64 e)
  c2 : cellAt g ⟨q, o + 2, none⟩ = some v
  lst : SlK 2 S g v (rrows l)
  len : l.length ≤ 1000000
theorem DV.ext (X : DV S g q o b e v l) (f : Ext g g') : DV S g' q o b e v l := ⟨cellAt_ext f X.c0, cellAt_ext f X.c1, cellAt_ext f X.c2, SlK.ext X.lst f, X.len⟩
theorem DV.slen (X : DV S g q o b e v l) : ∃ a c, v = .slice a l.length c := by
  obtain ⟨a, c, h⟩ := SlK.len X.lst
  exact ⟨a, c, by rw [h]; simp⟩
/-- An index and the document's, the same. -/
theorem as2_ok (X : XI S g p b e v l) (Y : DV T g q o b e v2 l) : Ok Try.prog 11 #[.pointer (some ⟨p, 0, none⟩), .pointer (some ⟨q, o, none⟩)] g fun u h' => u = .bool true ∧ Ext g h' := by
  have hl := X.wf.len
  refine c11_ok (args := [_, _]) (by simp) ?_
  simp (disch := omega) only [dm_t, wZ, ↓reduceIte, Nat.reduceEqDiff, Nat.reduceAdd, Nat.reduceSub, Nat.reduceMul, Nat.reduceLeDiff, Nat.reduceLT, Nat.reduceMod, Nat.reduceDiv, Int.reduceToNat, Nat.min_eq_left, IntKind.bits, Int.reducePow, Int.reduceLT, Int.reduceLE, Int.reduceEq, Int.reduceNe, Int.reduceAdd, Int.reduceSub, reduceCtorEq, eq_self, implies_true, exists_const, Option.isNone_some, Option.isNone_none, Option.isSome_some, Option.isSome_none, Option.getD_some, Y.c0, Y.c1, Y.c2]
  refine (Base_ok X).k ?_
  rintro _ _ ⟨rfl, rfl⟩
  simp (disch := omega) only [dm_t, wZ, ↓reduceIte, Nat.reduceEqDiff, Nat.reduceAdd, Nat.reduceSub, Nat.reduceMul, Nat.reduceLeDiff, Nat.reduceLT, Nat.reduceMod, Nat.reduceDiv, Int.reduceToNat, Nat.min_eq_left, IntKind.bits, Int.reducePow, Int.reduceLT, Int.reduceLE, Int.reduceEq, Int.reduceNe, Int.reduceAdd, Int.reduceSub, reduceCtorEq, eq_self, implies_true, exists_const, Option.isNone_some, Option.isNone_none, Option.isSome_some, Option.isSome_none, Option.getD_some, Y.c0, Y.c1, Y.c2]
  refine (End_ok X).k ?_
  rintro _ _ ⟨rfl, rfl⟩
  simp (disch := omega) only [dm_t, wZ, ↓reduceIte, Nat.reduceEqDiff, Nat.reduceAdd, Nat.reduceSub, Nat.reduceMul, Nat.reduceLeDiff, Nat.reduceLT, Nat.reduceMod, Nat.reduceDiv, Int.reduceToNat, Nat.min_eq_left, IntKind.bits, Int.reducePow, Int.reduceLT, Int.reduceLE, Int.reduceEq, Int.reduceNe, Int.reduceAdd, Int.reduceSub, reduceCtorEq, eq_self, implies_true, exists_const, Option.isNone_some, Option.isNone_none, Option.isSome_some, Option.isSome_none, Option.getD_some, Y.c0, Y.c1, Y.c2]
  refine (Rises_ok X).k ?_
  rintro u g2 ⟨ou, e2⟩
  have Y2 := Y.ext e2
  simp (disch := omega) only [dm_t, wZ, ↓reduceIte, Nat.reduceEqDiff, Nat.reduceAdd, Nat.reduceSub, Nat.reduceMul, Nat.reduceLeDiff, Nat.reduceLT, Nat.reduceMod, Nat.reduceDiv, Int.reduceToNat, Nat.min_eq_left, IntKind.bits, Int.reducePow, Int.reduceLT, Int.reduceLE, Int.reduceEq, Int.reduceNe, Int.reduceAdd, Int.reduceSub, reduceCtorEq, eq_self, implies_true, exists_const, Option.isNone_some, Option.isNone_none, Option.isSome_some, Option.isSome_none, Option.getD_some, Y2.c0, Y2.c1, Y2.c2]
  refine (rises_ok ou.s0 Y2.lst (by omega)).k ?_
  rintro _ _ ⟨rfl, rfl⟩
  simp (disch := omega) only [dm_t, wZ, ↓reduceIte, Nat.reduceEqDiff, Nat.reduceAdd, Nat.reduceSub, Nat.reduceMul, Nat.reduceLeDiff, Nat.reduceLT, Nat.reduceMod, Nat.reduceDiv, Int.reduceToNat, Nat.min_eq_left, IntKind.bits, Int.reducePow, Int.reduceLT, Int.reduceLE, Int.reduceEq, Int.reduceNe, Int.reduceAdd, Int.reduceSub, reduceCtorEq, eq_self, implies_true, exists_const, Option.isNone_some, Option.isNone_none, Option.isSome_some, Option.isSome_none, Option.getD_some]
  exact e2
theorem DSame2_ok (X : DV S g q o b e v l) (Y : DX T g r b2 e2 v2 l2) : Ok Try.prog 26 #[.pointer (some ⟨q, o, none⟩), .pointer (some ⟨r, 0, none⟩)] g fun w h' => w = .bool (decide (b = b2 ∧ e = e2 ∧ l = l2)) ∧ g = h' := by
  obtain ⟨a, c, rfl⟩ := X.slen
  obtain ⟨a2, c2, rfl⟩ := Y.slen
  have hl := X.len
  refine c26_ok (args := [_, _]) (by simp) ?_
  by_cases hb : b = b2
  · by_cases he : e = e2
    · by_cases hlm : l.length = l2.length
      · simp (disch := omega) only [dm_t, wZ, ↓reduceIte, Nat.reduceEqDiff, Nat.reduceAdd, Nat.reduceSub, Nat.reduceMul, Nat.reduceLeDiff, Nat.reduceLT, Nat.reduceMod, Nat.reduceDiv, Int.reduceToNat, Nat.min_eq_left, IntKind.bits, Int.reducePow, Int.reduceLT, Int.reduceLE, Int.reduceEq, Int.reduceNe, Int.reduceAdd, Int.reduceSub, reduceCtorEq, eq_self, implies_true, exists_const, Option.isNone_some, Option.isNone_none, Option.isSome_some, Option.isSome_none, Option.getD_some, X.c0, X.c1, X.c2, Y.c0, Y.c1, Y.c2, hb, he]
        refine vc_loop1 (fun vi h' => h' = g ∧ ∃ i : Nat, vi = .int .i64 (i : Int) ∧ i ≤ l.length ∧ l.take i = l2.take i) (fun vi _ => l.length - m1 vi) ?_ ?_
        · simp (disch := omega) only [dm_t, wZ, ↓reduceIte, Nat.reduceEqDiff, Nat.reduceAdd, Nat.reduceSub, Nat.reduceMul, Nat.reduceLeDiff, Nat.reduceLT, Nat.reduceMod, Nat.reduceDiv, Int.reduceToNat, Nat.min_eq_left, IntKind.bits, Int.reducePow, Int.reduceLT, Int.reduceLE, Int.reduceEq, Int.reduceNe, Int.reduceAdd, Int.reduceSub, reduceCtorEq, eq_self, implies_true, exists_const, Option.isNone_some, Option.isNone_none, Option.isSome_some, Option.isSome_none, Option.getD_some]
          exact ⟨0, rfl, by omega, by simp⟩
        rintro _ _ ⟨rfl, i, rfl, hi, heq⟩
        by_cases hil : i < l.length
        · have him : i < l2.length := by omega
          obtain ⟨b1, o1, i1, -, -, t1⟩ := rl_at X.lst hil .i64
          obtain ⟨b3, o3, i3, -, -, t3⟩ := rl_at Y.lst him .i64
          simp (disch := omega) only [dm_t, wZ, ↓reduceIte, Nat.reduceEqDiff, Nat.reduceAdd, Nat.reduceSub, Nat.reduceMul, Nat.reduceLeDiff, Nat.reduceLT, Nat.reduceMod, Nat.reduceDiv, Int.reduceToNat, Nat.min_eq_left, IntKind.bits, Int.reducePow, Int.reduceLT, Int.reduceLE, Int.reduceEq, Int.reduceNe, Int.reduceAdd, Int.reduceSub, reduceCtorEq, eq_self, implies_true, exists_const, Option.isNone_some, Option.isNone_none, Option.isSome_some, Option.isSome_none, Option.getD_some, X.c2, Y.c2, i1, t1, i3, t3]
          refine raw_neSt2 (fun w => run_eqSt2 (k := .i64) (a1 := l[i].1) (a2 := l[i].2) (b1 := l2[i].1) (b2 := l2[i].2) 9998 Try.underlying50 (by kernel_rfl) (by decide) (by decide) (by kernel_rfl) (by kernel_rfl) rfl rfl rfl rfl) rfl rfl (by kernel_rfl) ?_
          have hx : (l[i].1 == l2[i].1 && l[i].2 == l2[i].2) = decide (l[i] = l2[i]) := by
            rw [Bool.eq_iff_iff]
            simp [Prod.ext_iff]
          rw [hx]
          by_cases hq : l[i] = l2[i]
          · simp (disch := omega) only [dm_t, wZ, ↓reduceIte, Nat.reduceEqDiff, Nat.reduceAdd, Nat.reduceSub, Nat.reduceMul, Nat.reduceLeDiff, Nat.reduceLT, Nat.reduceMod, Nat.reduceDiv, Int.reduceToNat, Nat.min_eq_left, IntKind.bits, Int.reducePow, Int.reduceLT, Int.reduceLE, Int.reduceEq, Int.reduceNe, Int.reduceAdd, Int.reduceSub, reduceCtorEq, eq_self, implies_true, exists_const, Option.isNone_some, Option.isNone_none, Option.isSome_some, Option.isSome_none, Option.getD_some, hq, X.c2, Y.c2, i1, t1, i3, t3]
            refine ⟨⟨i + 1, by simp, by omega, ?_⟩, by simp [m1]; omega⟩
            rw [List.take_succ_eq_append_getElem hil, List.take_succ_eq_append_getElem him, heq, hq]
          · simp (disch := omega) only [dm_t, wZ, ↓reduceIte, Nat.reduceEqDiff, Nat.reduceAdd, Nat.reduceSub, Nat.reduceMul, Nat.reduceLeDiff, Nat.reduceLT, Nat.reduceMod, Nat.reduceDiv, Int.reduceToNat, Nat.min_eq_left, IntKind.bits, Int.reducePow, Int.reduceLT, Int.reduceLE, Int.reduceEq, Int.reduceNe, Int.reduceAdd, Int.reduceSub, reduceCtorEq, eq_self, implies_true, exists_const, Option.isNone_some, Option.isNone_none, Option.isSome_some, Option.isSome_none, Option.getD_some, hq, X.c2, Y.c2, i1, t1, i3, t3]
            have : ¬ l = l2 := fun h => hq (by subst h; rfl)
            simp [this]
        · obtain rfl : i = l.length := by omega
          rw [List.take_length, List.take_of_length_le (by omega)] at heq
          simp (disch := omega) only [dm_t, wZ, ↓reduceIte, Nat.reduceEqDiff, Nat.reduceAdd, Nat.reduceSub, Nat.reduceMul, Nat.reduceLeDiff, Nat.reduceLT, Nat.reduceMod, Nat.reduceDiv, Int.reduceToNat, Nat.min_eq_left, IntKind.bits, Int.reducePow, Int.reduceLT, Int.reduceLE, Int.reduceEq, Int.reduceNe, Int.reduceAdd, Int.reduceSub, reduceCtorEq, eq_self, implies_true, exists_const, Option.isNone_some, Option.isNone_none, Option.isSome_some, Option.isSome_none, Option.getD_some, X.c2, hb, he, heq]
      · simp (disch := omega) only [dm_t, wZ, ↓reduceIte, Nat.reduceEqDiff, Nat.reduceAdd, Nat.reduceSub, Nat.reduceMul, Nat.reduceLeDiff, Nat.reduceLT, Nat.reduceMod, Nat.reduceDiv, Int.reduceToNat, Nat.min_eq_left, IntKind.bits, Int.reducePow, Int.reduceLT, Int.reduceLE, Int.reduceEq, Int.reduceNe, Int.reduceAdd, Int.reduceSub, reduceCtorEq, eq_self, implies_true, exists_const, Option.isNone_some, Option.isNone_none, Option.isSome_some, Option.isSome_none, Option.getD_some, X.c0, X.c1, X.c2, Y.c0, Y.c1, Y.c2, hb, he]
        have : ¬ l = l2 := fun h0 => hlm (by rw [h0])
        simp [this]
    · simp (disch := omega) only [dm_t, wZ, ↓reduceIte, Nat.reduceEqDiff, Nat.reduceAdd, Nat.reduceSub, Nat.reduceMul, Nat.reduceLeDiff, Nat.reduceLT, Nat.reduceMod, Nat.reduceDiv, Int.reduceToNat, Nat.min_eq_left, IntKind.bits, Int.reducePow, Int.reduceLT, Int.reduceLE, Int.reduceEq, Int.reduceNe, Int.reduceAdd, Int.reduceSub, reduceCtorEq, eq_self, implies_true, exists_const, Option.isNone_some, Option.isNone_none, Option.isSome_some, Option.isSome_none, Option.getD_some, X.c0, X.c1, X.c2, Y.c0, Y.c1, Y.c2, hb, he]
      simp [he]
  · simp (disch := omega) only [dm_t, wZ, ↓reduceIte, Nat.reduceEqDiff, Nat.reduceAdd, Nat.reduceSub, Nat.reduceMul, Nat.reduceLeDiff, Nat.reduceLT, Nat.reduceMod, Nat.reduceDiv, Int.reduceToNat, Nat.min_eq_left, IntKind.bits, Int.reducePow, Int.reduceLT, Int.reduceLE, Int.reduceEq, Int.reduceNe, Int.reduceAdd, Int.reduceSub, reduceCtorEq, eq_self, implies_true, exists_const, Option.isNone_some, Option.isNone_none, Option.isSome_some, Option.isSome_none, Option.getD_some, X.c0, X.c1, X.c2, Y.c0, Y.c1, Y.c2, hb]
    simp [hb]
/-- What was put aside: the object, its index, the document's rises. -/
abbrev St := Nat × Int × Int × Value × Value × List Ri
def SA (A : Nat → Prop) (ov wv : Value) (y : Nat) : Prop := A y ∨ isAt ov y ∨ isAt wv y
structure OB (h G : H) (A : Nat → Prop) (ov wv : Value) (ps : List Value) (ws : List (List Value)) : Prop where
  old : O1 (fun y => h y = none ∧ ¬ A y) G 24 ov ps
  was : OwK 3 (fun y => h y = none ∧ ¬ A y) G 59 wv ws
structure SK (G : H) (A : Nat → Prop) (ov wv : Value) (s : St) : Prop where
  X : XI (SA A ov wv) G s.1 s.2.1 s.2.2.1 s.2.2.2.1 s.2.2.2.2.2
  n : ¬ SA A ov wv s.1
  u : SlK 2 (SA A ov wv) G s.2.2.2.2.1 (rrows s.2.2.2.2.2)
theorem OB.ext {ps ws} (B : OB h g A ov wv ps ws) (e : Ext g g') : OB h g' A ov wv ps ws := ⟨OwK.ext B.old e, OwK.ext B.was e⟩
theorem OB.fr {ps ws} (B : OB h g A ov wv ps ws) (f : Fr A g g') : OB h g' A ov wv ps ws := ⟨OwK.fr B.old f fun y hy ho _ => ho.2 hy, OwK.fr B.was f fun y hy ho _ => ho.2 hy⟩
theorem OB.to {ps ws} (B : OB h g A ov wv ps ws) (hA : ∀ y, A' y → A y ∨ g y = none) : OB h g A' ov wv ps ws := ⟨OwK.mono B.old fun y o hy ho => ⟨ho.1, fun ha => (hA y ha).elim ho.2 fun hn => by rw [hn] at hy; cases hy⟩, OwK.mono B.was fun y o hy ho => ⟨ho.1, fun ha => (hA y ha).elim ho.2 fun hn => by rw [hn] at hy; cases hy⟩⟩
theorem SK.fr {s : St} (K : SK g A ov wv s) (f : Fr T g g') (hT : ∀ y, T y → SA A ov wv y) : SK g' A ov wv s := ⟨K.X.fr f hT fun h => K.n (hT _ h), K.n, SlK.fr K.u f hT⟩
theorem SK.ext {s : St} (K : SK g A ov wv s) (e : Ext g g') : SK g' A ov wv s := K.fr e fun _ h => h.elim
theorem XI.mv {S' : Nat → Prop} (X : XI S g p b e v l) (f : Fr T g g') (hT : ∀ y, T y → S y) (np : ¬ T p) (hS : ∀ y, S' y → S y ∨ g y = none) : XI S' g' p b e v l :=
  ((X.avoid (T := fun y => S y ∨ S' y) fun y hy => hy.elim .inl fun h => hS y h).fr f (fun y hy => .inl (hT y hy)) np).mono fun _ _ _ h => .inr h
theorem slk_mv {S' : Nat → Prop} {rows : List (List Value)} (X : SlK 2 S g v rows) (f : Fr T g g') (hT : ∀ y, T y → S y) (hS : ∀ y, S' y → S y ∨ g y = none) : SlK 2 S' g' v rows := by
  have h1 : SlK 2 (fun y => S y ∨ S' y) g v rows := SlK.mono X fun x o hx h => h.elim id fun h => (hS x h).elim id fun hn => by rw [hn] at hx; cases hx
  exact SlK.mono (SlK.fr h1 f fun y hy => .inl (hT y hy)) fun _ _ _ h => .inr h
theorem SK.mv {s : St} {ov' wv' : Value} (K : SK g A ov wv s) (f : Fr T g g') (hT : ∀ y, T y → SA A ov wv y) (hA : ∀ y, SA A' ov' wv' y → SA A ov wv y ∨ g y = none) : SK g' A' ov' wv' s :=
  ⟨K.X.mv f hT (fun h => K.n (hT _ h)) hA, fun hn => (hA _ hn).elim K.n fun h => (by rw [K.X.obj] at h; cases h), slk_mv K.u f hT hA⟩
theorem PQ.mv {S' : Nat → Prop} {v2 : Value} (P : PQ S g p q b e v v2 l) (f : Fr T g g') (hT : ∀ y, T y → S y) (np : ¬ T p) (nq : ¬ T q) (hS : ∀ y, S' y → S y ∨ g y = none) (sp : S' p) (sq : S' q) (th : ∀ y, S' y → g' y ≠ none) : PQ S' g' p q b e v v2 l :=
  ⟨P.X.mv f hT np hS, ⟨f _ _ P.Y.obj nq, slk_mv P.Y.lst f hT hS, P.Y.len⟩, P.ne, sp, sq, th⟩
/-- The two that go on. -/
abbrev A2 (p q : Nat) (y : Nat) : Prop := y = p ∨ y = q
abbrev ptrs (sts : List St) : List Value := sts.map fun s => .pointer (some ⟨s.1, 0, none⟩)
abbrev wrow (s : St) : List Value := [.int .i64 s.2.1, .int .i64 s.2.2.1, s.2.2.2.2.1]
/-- What stands in a script's midst. -/
structure TS (h G : H) (p q : Nat) (b e : Int) (v v2 : Value) (l : List Ri) (ov wv : Value) (sts : List St) : Prop where
  P : PQ (SA (A2 p q) ov wv) G p q b e v v2 l
  B : OB h G (A2 p q) ov wv (ptrs sts) (sts.map wrow)
  K : ∀ s ∈ sts, SK G (A2 p q) ov wv s
  hp : h p = none
  hq : h q = none
  E : Ext h G
theorem TS.new {v2 : Value} {sts : List St} (X : TS h g p q b e v v2 l ov wv sts) {y : Nat} (hy : SA (A2 p q) ov wv y) : h y = none := by
  rcases hy with (rfl | rfl) | hy | hy
  · exact X.hp
  · exact X.hq
  · exact (X.B.old.own hy).1
  · exact (X.B.was.own hy).1
theorem TS.ext {v2 : Value} {sts : List St} (X : TS h g p q b e v v2 l ov wv sts) (e' : Ext g g') : TS h g' p q b e v v2 l ov wv sts :=
  ⟨X.P.ext e', X.B.ext e', fun s hs => (X.K s hs).ext e', X.hp, X.hq, X.E.trans e'⟩
/-- After a call on both. -/
theorem TS.fr {v2 : Value} {sts : List St} (X : TS h g p q b e v v2 l ov wv sts) {b' e' : Int} {v' v2' : Value} {l' : List Ri} (f : Fr (fun y => y = p ∨ y = q) g g') (P : PQ (SA (A2 p q) ov wv) g' p q b' e' v' v2' l') : TS h g' p q b' e' v' v2' l' ov wv sts :=
  ⟨P, X.B.fr f, fun s hs => (X.K s hs).fr f fun y hy => .inl hy, X.hp, X.hq, Ext.step' X.E f fun y hy => hy.elim (fun h => h ▸ X.hp) fun h => h ▸ X.hq⟩
/-- One is put aside: the pointer. -/
theorem TS.old {v2 : Value} {sts : List St} {ov' : Value} {x : Value} (X : TS h g p q b e v v2 l ov wv sts) (o : OwK 1 (fun y => h y = none ∧ ¬ A2 p q y) g' 24 ov' (one (ptrs sts) ++ [[x]])) (f : Fr (fun y => (h y = none ∧ ¬ A2 p q y) ∧ isAt ov y) g g') (hat : ∀ y, isAt ov' y → isAt ov y ∨ g y = none) :
    PQ (SA (A2 p q) ov' wv) g' p q b e v v2 l ∧ OwK 3 (fun y => h y = none ∧ ¬ A2 p q y) g' 59 wv (sts.map wrow) ∧ (∀ s ∈ sts, SK g' (A2 p q) ov' wv s) ∧ Ext h g' := by
  have hT : ∀ y, ((h y = none ∧ ¬ A2 p q y) ∧ isAt ov y) → SA (A2 p q) ov wv y := fun y hy => .inr (.inl hy.2)
  have hS : ∀ y, SA (A2 p q) ov' wv y → SA (A2 p q) ov wv y ∨ g y = none := fun y hy => by
    rcases hy with hy | hy | hy
    · exact .inl (.inl hy)
    · exact (hat y hy).imp (fun h => .inr (.inl h)) id
    · exact .inl (.inr (.inr hy))
  have hw : OwK 3 (fun y => h y = none ∧ ¬ A2 p q y) g' 59 wv (sts.map wrow) := OwK.fr X.B.was f fun y hy ho hat' => by
    obtain ⟨c, fr, hc⟩ := X.B.old.ty hy.2
    exact OwK.tyno X.B.was hc (by decide) hat'
  refine ⟨X.P.mv f hT (fun h => h.1.2 (.inl rfl)) (fun h => h.1.2 (.inr rfl)) hS (.inl (.inl rfl)) (.inl (.inr rfl)) fun y hy => ?_, hw, fun s hs => (X.K s hs).mv f hT hS, Ext.step' X.E f fun y hy => hy.1.1⟩
  rcases hy with hy | hy | hy
  · have : g y ≠ none := X.P.th y (.inl hy)
    cases hc : g y with
    | none => exact absurd hc this
    | some o => rw [f y o hc fun h => h.1.2 hy]; simp
  · exact o.there hy
  · exact hw.there hy
/-- One is put aside: the document's; then the one is at rest, and another goes on. -/
theorem TS.was {v2 : Value} {sts : List St} {wv' : Value} (P : PQ (SA (A2 p q) ov wv) g p q b e v v2 l) (O : OwK 1 (fun y => h y = none ∧ ¬ A2 p q y) g 24 ov (one (ptrs (sts ++ [(p, b, e, v, v2, l)])))) (W : OwK 3 (fun y => h y = none ∧ ¬ A2 p q y) g 59 wv (sts.map wrow)) (K : ∀ s ∈ sts, SK g (A2 p q) ov wv s) (hp : h p = none) (hq : h q = none)
    (o : OwK 3 (fun y => h y = none ∧ ¬ A2 p q y) g' 59 wv' (sts.map wrow ++ [wrow (p, b, e, v, v2, l)])) (f : Fr (fun y => (h y = none ∧ ¬ A2 p q y) ∧ isAt wv y) g g') (hat : ∀ y, isAt wv' y → isAt wv y ∨ g y = none) (E : Ext h g) :
    OB h g' (fun y => y = q) ov wv' (ptrs (sts ++ [(p, b, e, v, v2, l)])) ((sts ++ [(p, b, e, v, v2, l)]).map wrow) ∧ (∀ s ∈ sts ++ [(p, b, e, v, v2, l)], SK g' (fun y => y = q) ov wv' s) ∧ DX (SA (fun y => y = q) ov wv') g' q b e v2 l ∧ Ext h g' := by
  have hT : ∀ y, ((h y = none ∧ ¬ A2 p q y) ∧ isAt wv y) → SA (A2 p q) ov wv y := fun y hy => .inr (.inr hy.2)
  have hS : ∀ y, SA (fun y => y = q) ov wv' y → SA (A2 p q) ov wv y ∨ g y = none := fun y hy => by
    rcases hy with hy | hy | hy
    · exact .inl (.inl (.inr hy))
    · exact .inl (.inr (.inl hy))
    · exact (hat y hy).imp (fun h => .inr (.inr h)) id
  have hw : OwK 1 (fun y => h y = none ∧ ¬ A2 p q y) g' 24 ov (one (ptrs (sts ++ [(p, b, e, v, v2, l)]))) := OwK.fr O f fun y hy ho hat' => by
    obtain ⟨c, fr, hc⟩ := W.ty hy.2
    exact OwK.tyno O hc (by decide) hat'
  have up : ∀ y, (h y = none ∧ ¬ A2 p q y) → (h y = none ∧ ¬ y = q) := fun y hy => ⟨hy.1, fun h => hy.2 (.inr h)⟩
  refine ⟨⟨OwK.mono hw fun y _ _ hy => up y hy, by rw [List.map_append]; exact OwK.mono o fun y _ _ hy => up y hy⟩, fun s hs => ?_, ⟨f _ _ P.Y.obj fun h => h.1.2 (.inr rfl), slk_mv P.Y.lst f hT hS, P.Y.len⟩, Ext.step' E f fun y hy => hy.1.1⟩
  rcases List.mem_append.1 hs with hs | hs
  · exact (K s hs).mv f hT hS
  · rw [List.mem_singleton] at hs
    subst hs
    refine ⟨P.X.mv f hT (fun h => h.1.2 (.inl rfl)) hS, fun hn => ?_, slk_mv P.Y.lst f hT hS⟩
    rcases hn with hn | hn | hn
    · exact P.ne hn
    · exact (O.own hn).2 (.inl rfl)
    · exact (o.own hn).2 (.inl rfl)
/-- Another goes on. -/
theorem TS.next {v2 : Value} {sts : List St} {p' : Nat} {v' : Value} (B : OB h g (fun y => y = q) ov wv (ptrs sts) (sts.map wrow)) (K : ∀ s ∈ sts, SK g (fun y => y = q) ov wv s) (Y : DX (SA (fun y => y = q) ov wv) g q b e v2 l) (E : Ext h g) (hq : h q = none) (e' : Ext g g') (hp : g p' = none) (X : XI (fun y => g y ≠ none ∨ y = p') g' p' b e v' l) : TS h g' p' q b e v' v2 l ov wv sts := by
  have hS : ∀ y, SA (A2 p' q) ov wv y → SA (fun y => y = q) ov wv y ∨ g y = none := fun y hy => by
    rcases hy with (rfl | hy) | hy | hy
    · exact .inr hp
    · exact .inl (.inl hy)
    · exact .inl (.inr (.inl hy))
    · exact .inl (.inr (.inr hy))
  have th : ∀ y, SA (A2 p' q) ov wv y → g' y ≠ none ∧ (g y ≠ none ∨ y = p') := fun y hy => by
    rcases hy with (rfl | rfl) | hy | hy
    · exact ⟨by rw [X.obj]; simp, .inr rfl⟩
    · exact ⟨by rw [e'.at Y.obj]; simp, .inl (by rw [Y.obj]; simp)⟩
    · exact ⟨(OwK.ext B.old e').there hy, .inl (B.old.there hy)⟩
    · exact ⟨(OwK.ext B.was e').there hy, .inl (B.was.there hy)⟩
  refine ⟨⟨X.mono fun y o hy h => (th y h).2, (Y.avoid hS).ext e', fun h => (by rw [h, Y.obj] at hp; cases hp), .inl (.inl rfl), .inl (.inr rfl), fun y hy => (th y hy).1⟩, (B.to fun y hy => ?_).ext e', fun s hs => (K s hs).mv (T := fun _ => False) e' (fun _ h => h.elim) hS, E.bk hp, hq, E.trans e'⟩
  rcases hy with rfl | rfl
  · exact .inr hp
  · exact .inl rfl
end
end Go.Proofs.Ytmjbgfflbeibnaa.ti
