/-
  times: TimesPlays, a round.
-/
import Derived.Test.YtmjbgfflbeibnaaUg
namespace Go.Proofs.Ytmjbgfflbeibnaa.ti
open Go.Proofs.Ytmjbgfflbeibnaa wi
set_option linter.unusedVariables false
set_option linter.unusedSimpArgs false
section
variable {h G g g' g0 : H} {p q o i sc : Nat} {b e b2 e2 : Int} {v v2 w lv ov wv : Value} {l l2 : List Ri} {sts : List St} {script : List askT.D} {sa : Option Addr} {Q : Post}
/-- What follows a round. -/
def After (Q : Post) (h : H) (q i sc : Nat) (script : List askT.D) (sa : Option Addr) : Prop := ∀ G' p' b' e' v' v2' l' ov' wv' (sts' : List St), sts'.length ≤ i + 1 → TS h G' p' q b' e' v' v2' l' ov' wv' sts' → vc Try.prog c6_s20 Q [(1, .slice sa script.length sc), (6, .pointer (some ⟨p', 0, none⟩)), (8, .pointer (some ⟨q, 0, none⟩)), (9, ov'), (10, wv'), (11, .int .i64 (i : Int))] G'
theorem tp_s18 {p' : Nat} {v' : Value} (s : SC h sa sc script) (B : OB h g (fun y => y = q) ov wv (ptrs (sts ++ [(p, b, e, v, v2, l)])) ((sts ++ [(p, b, e, v, v2, l)]).map wrow)) (K : ∀ s ∈ sts ++ [(p, b, e, v, v2, l)], SK g (fun y => y = q) ov wv s) (Y : DX (SA (fun y => y = q) ov wv) g q b e v2 l) (E : Ext h g) (hq : h q = none) (e' : Ext g g') (hp : g p' = none) (X : XI (fun y => g y ≠ none ∨ y = p') g' p' b e v' l) (hl : sts.length ≤ i) (hi : i < script.length) (hQ : After Q h q i sc script sa) :
    vc Try.prog c6_s18 (seqQ Try.prog [1, 6, 8, 9, 10, 11] c6_s19 (blockQ 3 (seqQ Try.prog [1, 6, 8, 9, 10, 11] c6_s20 Q))) [(1, .slice sa script.length sc), (6, .pointer (some ⟨p', 0, none⟩)), (8, .pointer (some ⟨q, 0, none⟩)), (9, ov), (10, wv), (11, .int .i64 (i : Int))] g' := by
  have hn := s.n
  have X' := TS.next B K Y E hq e' hp X
  have k19 := tp_s19 (Q := Q) s X' hi fun G' b' e' v' v2' l' T => hQ _ _ _ _ _ _ _ _ _ _ (by simp; omega) T
  have hK := X'.K (p, b, e, v, v2, l) (by simp)
  obtain ⟨oa, oc, hov⟩ := S1.len X'.B.old.s0
  have hol : (ptrs (sts ++ [(p, b, e, v, v2, l)])).length = sts.length + 1 := by simp
  rw [hol] at hov
  subst hov
  obtain ⟨b1, o1, i1, t1⟩ := S1.load X'.B.old.s0 (i := sts.length) (by rw [hol]; omega) .i64
  have hg : (ptrs (sts ++ [(p, b, e, v, v2, l)]))[sts.length]'(by rw [hol]; omega) = .pointer (some ⟨p, 0, none⟩) := by simp
  rw [hg] at t1
  have hsl : ((sts.length + 1 : Nat) : Int) - 1 = (sts.length : Int) := by omega
  simp (disch := omega) only [dm_t, wZ, ↓reduceIte, Nat.reduceEqDiff, Nat.reduceAdd, Nat.reduceSub, Nat.reduceMul, Nat.reduceLeDiff, Nat.reduceLT, Nat.reduceMod, Nat.reduceDiv, Int.reduceToNat, Nat.min_eq_left, IntKind.bits, Int.reducePow, Int.reduceLT, Int.reduceLE, Int.reduceEq, Int.reduceNe, Int.reduceAdd, Int.reduceSub, reduceCtorEq, eq_self, implies_true, exists_const, Option.isNone_some, Option.isNone_none, Option.isSome_some, Option.isSome_none, Option.getD_some, hsl, i1, t1]
  refine (Same_ok X hK.X).k ?_
  rintro _ _ ⟨rfl, rfl⟩
  rw [decide_eq_true (⟨rfl, rfl, rfl⟩ : b = b ∧ e = e ∧ l = l)]
  simp (disch := omega) only [dm_t, wZ, ↓reduceIte, Nat.reduceEqDiff, Nat.reduceAdd, Nat.reduceSub, Nat.reduceMul, Nat.reduceLeDiff, Nat.reduceLT, Nat.reduceMod, Nat.reduceDiv, Int.reduceToNat, Nat.min_eq_left, IntKind.bits, Int.reducePow, Int.reduceLT, Int.reduceLE, Int.reduceEq, Int.reduceNe, Int.reduceAdd, Int.reduceSub, reduceCtorEq, eq_self, implies_true, exists_const, Option.isNone_some, Option.isNone_none, Option.isSome_some, Option.isSome_none, Option.getD_some, k19]
theorem tp_s13 (s : SC h sa sc script) (X : TS h G p q b e v v2 l ov wv sts) (hl : sts.length ≤ i) (hi : i < script.length) (hQ : After Q h q i sc script sa) :
    vc Try.prog c6_s13 Q [(1, .slice sa script.length sc), (6, .pointer (some ⟨p, 0, none⟩)), (8, .pointer (some ⟨q, 0, none⟩)), (9, ov), (10, wv), (11, .int .i64 (i : Int))] G := by
  have hn := s.n
  obtain ⟨pb, po, a, n, i1, -, t0h, -, b1, b2, b4, -⟩ := s.at (Ext.refl h) hi
  have t0 := cellAt_ext X.E t0h
  generalize hkk : script[i].1 = kk at *
  by_cases h78 : kk = 7 ∨ kk = 8
  · have push : ∀ {tt : Bool}, vc Try.prog c6_t4 (seqQ Try.prog [1, 6, 8, 9, 10, 11] c6_s19 (blockQ 3 (seqQ Try.prog [1, 6, 8, 9, 10, 11] c6_s20 Q))) [(1, .slice sa script.length sc), (6, .pointer (some ⟨p, 0, none⟩)), (8, .pointer (some ⟨q, 0, none⟩)), (9, ov), (10, wv), (11, .int .i64 (i : Int)), (84, .bool tt)] G := by
      intro tt
      have hX := X
      obtain ⟨oa, oc, hov⟩ := S1.len X.B.old.s0
      obtain ⟨wa, wc, hwv⟩ := SlK.len X.B.was.s0
      have hpl : (one (ptrs sts)).length = sts.length := by simp [one]
      have hwl : (sts.map wrow).length = sts.length := by simp
      have hpl' : (ptrs sts).length = sts.length := by simp
      rw [hpl'] at hov
      rw [hwl] at hwv
      subst hov hwv
      simp (disch := omega) only [dm_t, wZ, ↓reduceIte, Nat.reduceEqDiff, Nat.reduceAdd, Nat.reduceSub, Nat.reduceMul, Nat.reduceLeDiff, Nat.reduceLT, Nat.reduceMod, Nat.reduceDiv, Int.reduceToNat, Nat.min_eq_left, IntKind.bits, Int.reducePow, Int.reduceLT, Int.reduceLE, Int.reduceEq, Int.reduceNe, Int.reduceAdd, Int.reduceSub, reduceCtorEq, eq_self, implies_true, exists_const, Option.isNone_some, Option.isNone_none, Option.isSome_some, Option.isSome_none, Option.getD_some]
      refine pushk (k := 1) (V := fun _ => _) (bytes := 8) (z := #[.pointer none]) (row := [.pointer (some ⟨p, 0, none⟩)]) X.B.old (fun y hy => ⟨X.E.bk hy, fun h => h.elim (fun h => by rw [h, X.P.X.obj] at hy; cases hy) fun h => by rw [h, X.P.Y.obj] at hy; cases hy⟩) rfl rfl rfl (by rw [hpl]; omega) (by rw [hpl]; omega) ?_
      intro _ ov' G1 _ o1 f1 hat1
      obtain ⟨P1, W1, K1, E1⟩ := X.old o1 f1 hat1
      have o1' : OwK 1 (fun y => h y = none ∧ ¬ A2 p q y) G1 24 ov' (one (ptrs (sts ++ [(p, b, e, v, v2, l)]))) := by simpa [one] using o1
      obtain ⟨a2, c2, hv2⟩ := P1.Y.slen
      have hya : cellsAt G1 ⟨q, 0, none⟩ 3 = some #[.int .i64 b, .int .i64 e, v2] := cellsAt_all P1.Y.obj 3 rfl
      obtain ⟨oa', oc', hov'⟩ := SlK.len o1.s0
      subst hov'
      subst hv2
      simp (disch := omega) only [dm_t, wZ, ↓reduceIte, Nat.reduceEqDiff, Nat.reduceAdd, Nat.reduceSub, Nat.reduceMul, Nat.reduceLeDiff, Nat.reduceLT, Nat.reduceMod, Nat.reduceDiv, Int.reduceToNat, Nat.min_eq_left, IntKind.bits, Int.reducePow, Int.reduceLT, Int.reduceLE, Int.reduceEq, Int.reduceNe, Int.reduceAdd, Int.reduceSub, reduceCtorEq, eq_self, implies_true, exists_const, Option.isNone_some, Option.isNone_none, Option.isSome_some, Option.isSome_none, Option.getD_some, hya]
      refine pushk (k := 3) (V := fun _ => _) (bytes := 40) (z := #[.int .i64 0, .int .i64 0, .slice none 0 0]) (row := wrow (p, b, e, v, .slice a2 l.length c2, l)) W1 (fun y hy => ⟨E1.bk hy, fun h => h.elim (fun h => by rw [h, P1.X.obj] at hy; cases hy) fun h => by rw [h, P1.Y.obj] at hy; cases hy⟩) rfl rfl rfl (by rw [hwl]; omega) (by rw [hwl]; omega) ?_
      intro _ wv' G2 _ o2 f2 hat2
      obtain ⟨B2, K2, Y2, E2⟩ := TS.was P1 o1' W1 K1 X.hp X.hq o2 f2 hat2 E1
      obtain ⟨wa', wc', hwv'⟩ := SlK.len o2.s0
      subst hwv'
      have XK : XI _ G2 p b e v l := (K2 (p, b, e, v, .slice a2 l.length c2, l) (by simp)).X
      have t02 := cellAt_ext E2 t0h
      by_cases h7 : kk = 7
      · simp (disch := omega) only [dm_t, wZ, ↓reduceIte, Nat.reduceEqDiff, Nat.reduceAdd, Nat.reduceSub, Nat.reduceMul, Nat.reduceLeDiff, Nat.reduceLT, Nat.reduceMod, Nat.reduceDiv, Int.reduceToNat, Nat.min_eq_left, IntKind.bits, Int.reducePow, Int.reduceLT, Int.reduceLE, Int.reduceEq, Int.reduceNe, Int.reduceAdd, Int.reduceSub, reduceCtorEq, eq_self, implies_true, exists_const, Option.isNone_some, Option.isNone_none, Option.isSome_some, Option.isSome_none, Option.getD_some, i1, t02, h7]
        refine (Copy_ok XK).k ?_
        rintro _ g3 ⟨p', v', rfl, hp', X3, e3⟩
        have k18 := tp_s18 (Q := Q) s B2 K2 Y2 E2 X.hq e3 hp' X3 hl hi hQ
        simp (disch := omega) only [dm_t, wZ, ↓reduceIte, Nat.reduceEqDiff, Nat.reduceAdd, Nat.reduceSub, Nat.reduceMul, Nat.reduceLeDiff, Nat.reduceLT, Nat.reduceMod, Nat.reduceDiv, Int.reduceToNat, Nat.min_eq_left, IntKind.bits, Int.reducePow, Int.reduceLT, Int.reduceLE, Int.reduceEq, Int.reduceNe, Int.reduceAdd, Int.reduceSub, reduceCtorEq, eq_self, implies_true, exists_const, Option.isNone_some, Option.isNone_none, Option.isSome_some, Option.isSome_none, Option.getD_some, k18]
      · simp (disch := omega) only [dm_t, wZ, ↓reduceIte, Nat.reduceEqDiff, Nat.reduceAdd, Nat.reduceSub, Nat.reduceMul, Nat.reduceLeDiff, Nat.reduceLT, Nat.reduceMod, Nat.reduceDiv, Int.reduceToNat, Nat.min_eq_left, IntKind.bits, Int.reducePow, Int.reduceLT, Int.reduceLE, Int.reduceEq, Int.reduceNe, Int.reduceAdd, Int.reduceSub, reduceCtorEq, eq_self, implies_true, exists_const, Option.isNone_some, Option.isNone_none, Option.isSome_some, Option.isSome_none, Option.getD_some, i1, t02, h7]
        refine (Bytes_ok XK).k ?_
        rintro u g3 ⟨ou, e3⟩
        have hwf := XK.wf
        have hbl := bytes_len b e l
        have hll := hwf.len
        have hoo := open_back hwf
        have hob := back_base (e := e) (l := l) hwf.i.1
        have hoe := back_end (b := b) (l := l) hwf.i.2
        have hoc := back_cnt (b := b) (e := e) hwf.len
        have hol := back_lst hwf
        simp (disch := omega) only [dm_t, wZ, ↓reduceIte, Nat.reduceEqDiff, Nat.reduceAdd, Nat.reduceSub, Nat.reduceMul, Nat.reduceLeDiff, Nat.reduceLT, Nat.reduceMod, Nat.reduceDiv, Int.reduceToNat, Nat.min_eq_left, IntKind.bits, Int.reducePow, Int.reduceLT, Int.reduceLE, Int.reduceEq, Int.reduceNe, Int.reduceAdd, Int.reduceSub, reduceCtorEq, eq_self, implies_true, exists_const, Option.isNone_some, Option.isNone_none, Option.isSome_some, Option.isSome_none, Option.getD_some]
        refine (Open_ok (OwK.s0 ou) (by omega)).k ?_
        rintro _ g4 ⟨⟨pv, rfl, hpv⟩, e4⟩
        rw [hoo] at hpv ⊢
        rw [if_pos rfl, hob, hoe, hoc, hol] at hpv
        obtain ⟨p', v', rfl, hp', X4⟩ := hpv
        have k18 := tp_s18 (Q := Q) s (B2.ext e3) (fun s hs => (K2 s hs).ext e3) (Y2.ext e3) (E2.trans e3) X.hq e4 hp' X4 hl hi hQ
        simp (disch := omega) only [dm_t, wZ, ↓reduceIte, Nat.reduceEqDiff, Nat.reduceAdd, Nat.reduceSub, Nat.reduceMul, Nat.reduceLeDiff, Nat.reduceLT, Nat.reduceMod, Nat.reduceDiv, Int.reduceToNat, Nat.min_eq_left, IntKind.bits, Int.reducePow, Int.reduceLT, Int.reduceLE, Int.reduceEq, Int.reduceNe, Int.reduceAdd, Int.reduceSub, reduceCtorEq, eq_self, implies_true, exists_const, Option.isNone_some, Option.isNone_none, Option.isSome_some, Option.isSome_none, Option.getD_some]
        refine (num_ok _ _).k ?_
        rintro _ _ ⟨rfl, rfl⟩
        simp (disch := omega) only [dm_t, wZ, ↓reduceIte, Nat.reduceEqDiff, Nat.reduceAdd, Nat.reduceSub, Nat.reduceMul, Nat.reduceLeDiff, Nat.reduceLT, Nat.reduceMod, Nat.reduceDiv, Int.reduceToNat, Nat.min_eq_left, IntKind.bits, Int.reducePow, Int.reduceLT, Int.reduceLE, Int.reduceEq, Int.reduceNe, Int.reduceAdd, Int.reduceSub, reduceCtorEq, eq_self, implies_true, exists_const, Option.isNone_some, Option.isNone_none, Option.isSome_some, Option.isSome_none, Option.getD_some, k18]
    rcases h78 with rfl | rfl
    · have k := @push true
      simp (disch := omega) only [dm_t, wZ, ↓reduceIte, Nat.reduceEqDiff, Nat.reduceAdd, Nat.reduceSub, Nat.reduceMul, Nat.reduceLeDiff, Nat.reduceLT, Nat.reduceMod, Nat.reduceDiv, Int.reduceToNat, Nat.min_eq_left, IntKind.bits, Int.reducePow, Int.reduceLT, Int.reduceLE, Int.reduceEq, Int.reduceNe, Int.reduceAdd, Int.reduceSub, reduceCtorEq, eq_self, implies_true, exists_const, Option.isNone_some, Option.isNone_none, Option.isSome_some, Option.isSome_none, Option.getD_some, i1, t0, k]
    · have k := @push true
      simp (disch := omega) only [dm_t, wZ, ↓reduceIte, Nat.reduceEqDiff, Nat.reduceAdd, Nat.reduceSub, Nat.reduceMul, Nat.reduceLeDiff, Nat.reduceLT, Nat.reduceMod, Nat.reduceDiv, Int.reduceToNat, Nat.min_eq_left, IntKind.bits, Int.reducePow, Int.reduceLT, Int.reduceLE, Int.reduceEq, Int.reduceNe, Int.reduceAdd, Int.reduceSub, reduceCtorEq, eq_self, implies_true, exists_const, Option.isNone_some, Option.isNone_none, Option.isSome_some, Option.isSome_none, Option.getD_some, i1, t0, k]
  · have k19 := tp_s19 (Q := Q) s X hi fun G' b' e' v' v2' l' T => hQ _ _ _ _ _ _ _ _ _ _ (by omega) T
    have h7 : ¬ kk = 7 := fun h => h78 (.inl h)
    have h8 : ¬ kk = 8 := fun h => h78 (.inr h)
    simp (disch := omega) only [dm_t, wZ, ↓reduceIte, Nat.reduceEqDiff, Nat.reduceAdd, Nat.reduceSub, Nat.reduceMul, Nat.reduceLeDiff, Nat.reduceLT, Nat.reduceMod, Nat.reduceDiv, Int.reduceToNat, Nat.min_eq_left, IntKind.bits, Int.reducePow, Int.reduceLT, Int.reduceLE, Int.reduceEq, Int.reduceNe, Int.reduceAdd, Int.reduceSub, reduceCtorEq, eq_self, implies_true, exists_const, Option.isNone_some, Option.isNone_none, Option.isSome_some, Option.isSome_none, Option.getD_some, i1, t0, h7, h8, k19]
end
end Go.Proofs.Ytmjbgfflbeibnaa.ti
