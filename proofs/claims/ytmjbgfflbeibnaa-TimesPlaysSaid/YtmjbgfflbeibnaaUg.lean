/-
  times: TimesPlays, a round.
-/
import Derived.Test.YtmjbgfflbeibnaaUf
namespace Go.Proofs.Ytmjbgfflbeibnaa.ti
open Go.Proofs.Ytmjbgfflbeibnaa wi
set_option linter.unusedVariables false
set_option linter.unusedSimpArgs false
abbrev tI : Ty := .int .i64
abbrev askT : Ty := .pair tI (.pair tI (.pair (.sl rc) tI))
theorem rep_ask {S : Nat → Prop} {h : H} {cs : List Value} {x : askT.D} (r : Rep S askT h cs x) : ∃ a n, cs = [.int .i64 x.1, .int .i64 x.2.1, .slice a x.2.2.1.length n, .int .i64 x.2.2.2] ∧ inI x.1 ∧ inI x.2.1 ∧ inI x.2.2.2 ∧ RepL S rc h (.slice a x.2.2.1.length n) x.2.2.1 := by
  obtain ⟨c1, d1, rfl, ⟨rfl, b1⟩, c2, d2, rfl, ⟨rfl, b2⟩, c3, d3, rfl, r3, rfl, b4⟩ := r
  obtain ⟨v, _, rfl, _⟩ := id r3
  obtain ⟨a, n, rfl⟩ := RepL.len r3
  exact ⟨a, n, rfl, b1, b2, b4, r3⟩
/-- What is asked of a script. -/
structure SC (h : H) (sa : Option Addr) (sc : Nat) (script : List askT.D) : Prop where
  r : RepL nos askT h (.slice sa script.length sc) script
  n : script.length ≤ 40
  l : ∀ x ∈ script, x.2.2.1.length ≤ 100
  k : ∀ x ∈ script, ∀ y ∈ x.2.2.1, y.2.1.length ≤ 140737488355328 ∧ y.2.2.length ≤ 140737488355328
section
variable {h G g g' g0 : H} {p q o i sc : Nat} {b e b2 e2 : Int} {v v2 w lv ov wv : Value} {l l2 : List Ri} {sts : List St} {script : List askT.D} {sa : Option Addr} {Q : Post}
theorem SC.at (s : SC h sa sc script) (E : Ext h g) (hi : i < script.length) : ∃ pb po a n, idxV1 4 (.slice sa script.length sc) (.int .i64 (i : Int)) = some (.pointer (some ⟨pb, po, none⟩)) ∧ cellsAt g ⟨pb, po, none⟩ 4 = some #[.int .i64 script[i].1, .int .i64 script[i].2.1, .slice a script[i].2.2.1.length n, .int .i64 script[i].2.2.2] ∧ cellAt g ⟨pb, po, none⟩ = some (.int .i64 script[i].1) ∧ cellAt g ⟨pb, po + 2, none⟩ = some (.slice a script[i].2.2.1.length n) ∧
    inI script[i].1 ∧ inI script[i].2.1 ∧ inI script[i].2.2.2 ∧ RepL (fun y => h y = none) rc g (.slice a script[i].2.2.1.length n) script[i].2.2.1 := by
  obtain ⟨pb, po, row, i1, t1, hc, r1⟩ := (s.r.fresh.ext E).load hi .i64 4 rfl
  obtain ⟨a, n, rfl, b1, b2, b4, r4⟩ := rep_ask r1
  exact ⟨pb, po, a, n, i1, t1, hc 0 (by omega), hc 2 (by omega), b1, b2, b4, r4⟩
theorem tp_s19 (s : SC h sa sc script) (X : TS h G p q b e v v2 l ov wv sts) (hi : i < script.length) (hQ : ∀ G' b' e' v' v2' l', TS h G' p q b' e' v' v2' l' ov wv sts → vc Try.prog c6_s20 Q [(1, .slice sa script.length sc), (6, .pointer (some ⟨p, 0, none⟩)), (8, .pointer (some ⟨q, 0, none⟩)), (9, ov), (10, wv), (11, .int .i64 (i : Int))] G') :
    vc Try.prog c6_s19 (blockQ 3 (seqQ Try.prog [1, 6, 8, 9, 10, 11] c6_s20 Q)) [(1, .slice sa script.length sc), (6, .pointer (some ⟨p, 0, none⟩)), (8, .pointer (some ⟨q, 0, none⟩)), (9, ov), (10, wv), (11, .int .i64 (i : Int))] G := by
  have hn := s.n
  obtain ⟨pb, po, a, n, i1, t1, -, -, b1, b2, b4, r4⟩ := s.at X.E hi
  simp (disch := omega) only [dm_t, wZ, ↓reduceIte, Nat.reduceEqDiff, Nat.reduceAdd, Nat.reduceSub, Nat.reduceMul, Nat.reduceLeDiff, Nat.reduceLT, Nat.reduceMod, Nat.reduceDiv, Int.reduceToNat, Nat.min_eq_left, IntKind.bits, Int.reducePow, Int.reduceLT, Int.reduceLE, Int.reduceEq, Int.reduceNe, Int.reduceAdd, Int.reduceSub, reduceCtorEq, eq_self, implies_true, exists_const, Option.isNone_some, Option.isNone_none, Option.isSome_some, Option.isSome_none, Option.getD_some, i1, t1]
  refine (ask_ok X.P rfl (r4.mono fun y _ _ hy => X.new hy) (s.l _ (List.getElem_mem hi)) b2 b4 (s.k _ (List.getElem_mem hi))).k ?_
  rintro _ g2 ⟨rfl, ⟨b', e', v', v2', l', P2⟩, f2⟩
  have X2 := X.fr f2 P2
  obtain ⟨pb', po', a', n', i1', t1', -⟩ := s.at X2.E hi
  have t12 : cellsAt g2 ⟨pb, po, none⟩ 4 = some #[.int .i64 script[i].1, .int .i64 script[i].2.1, .slice a script[i].2.2.1.length n, .int .i64 script[i].2.2.2] := by
    obtain ⟨pb2, po2, row, j1, u1, -, -⟩ := s.r.load hi .i64 4 rfl
    have e1 := X.E
    rw [i1] at j1
    simp only [Option.some.injEq, Value.pointer.injEq, Addr.mk.injEq, and_true] at j1
    obtain ⟨rfl, rfl⟩ := j1
    have u2 := cellsAt_ext X.E u1
    rw [t1] at u2
    rw [cellsAt_ext X2.E u1, u2]
  simp (disch := omega) only [dm_t, wZ, ↓reduceIte, Nat.reduceEqDiff, Nat.reduceAdd, Nat.reduceSub, Nat.reduceMul, Nat.reduceLeDiff, Nat.reduceLT, Nat.reduceMod, Nat.reduceDiv, Int.reduceToNat, Nat.min_eq_left, IntKind.bits, Int.reducePow, Int.reduceLT, Int.reduceLE, Int.reduceEq, Int.reduceNe, Int.reduceAdd, Int.reduceSub, reduceCtorEq, eq_self, implies_true, exists_const, Option.isNone_some, Option.isNone_none, Option.isSome_some, Option.isSome_none, Option.getD_some, i1, t12]
  refine (as_ok X2.P.X X2.P.Y).k ?_
  rintro _ g3 ⟨rfl, e3⟩
  have X3 := X2.ext e3
  have hb3 := X3.P.bd
  have t13 := cellsAt_ext e3 t12
  simp (disch := omega) only [dm_t, wZ, ↓reduceIte, Nat.reduceEqDiff, Nat.reduceAdd, Nat.reduceSub, Nat.reduceMul, Nat.reduceLeDiff, Nat.reduceLT, Nat.reduceMod, Nat.reduceDiv, Int.reduceToNat, Nat.min_eq_left, IntKind.bits, Int.reducePow, Int.reduceLT, Int.reduceLE, Int.reduceEq, Int.reduceNe, Int.reduceAdd, Int.reduceSub, reduceCtorEq, eq_self, implies_true, exists_const, Option.isNone_some, Option.isNone_none, Option.isSome_some, Option.isSome_none, Option.getD_some, i1, t13]
  refine (Bytes_ok X3.P.X).k ?_
  rintro u4 g4 ⟨o4, e4⟩
  have X4 := X3.ext e4
  have t14 := cellsAt_ext e4 t13
  have fin : ∀ G', Ext g4 G' → vc Try.prog c6_s20 Q [(1, .slice sa script.length sc), (6, .pointer (some ⟨p, 0, none⟩)), (8, .pointer (some ⟨q, 0, none⟩)), (9, ov), (10, wv), (11, .int .i64 (i : Int))] G' := fun G' e => hQ _ _ _ _ _ _ (X4.ext e)
  have hu4 := OwK.s0 o4
  simp (disch := omega) only [dm_t, wZ, ↓reduceIte, Nat.reduceEqDiff, Nat.reduceAdd, Nat.reduceSub, Nat.reduceMul, Nat.reduceLeDiff, Nat.reduceLT, Nat.reduceMod, Nat.reduceDiv, Int.reduceToNat, Nat.min_eq_left, IntKind.bits, Int.reducePow, Int.reduceLT, Int.reduceLE, Int.reduceEq, Int.reduceNe, Int.reduceAdd, Int.reduceSub, reduceCtorEq, eq_self, implies_true, exists_const, Option.isNone_some, Option.isNone_none, Option.isSome_some, Option.isSome_none, Option.getD_some, i1, t14]
  refine ⟨?_, ?_⟩
  · refine cvbs_of hu4 ?_
    simp (disch := omega) only [dm_t, wZ, ↓reduceIte, Nat.reduceEqDiff, Nat.reduceAdd, Nat.reduceSub, Nat.reduceMul, Nat.reduceLeDiff, Nat.reduceLT, Nat.reduceMod, Nat.reduceDiv, Int.reduceToNat, Nat.min_eq_left, IntKind.bits, Int.reducePow, Int.reduceLT, Int.reduceLE, Int.reduceEq, Int.reduceNe, Int.reduceAdd, Int.reduceSub, reduceCtorEq, eq_self, implies_true, exists_const, Option.isNone_some, Option.isNone_none, Option.isSome_some, Option.isSome_none, Option.getD_some, i1, t14]
    refine (DBytes_ok X4.P.Y (by omega)).k ?_
    rintro u5 g5 ⟨o5, e5⟩
    have t15 := cellsAt_ext e5 t14
    simp (disch := omega) only [dm_t, wZ, ↓reduceIte, Nat.reduceEqDiff, Nat.reduceAdd, Nat.reduceSub, Nat.reduceMul, Nat.reduceLeDiff, Nat.reduceLT, Nat.reduceMod, Nat.reduceDiv, Int.reduceToNat, Nat.min_eq_left, IntKind.bits, Int.reducePow, Int.reduceLT, Int.reduceLE, Int.reduceEq, Int.reduceNe, Int.reduceAdd, Int.reduceSub, reduceCtorEq, eq_self, implies_true, exists_const, Option.isNone_some, Option.isNone_none, Option.isSome_some, Option.isSome_none, Option.getD_some, i1, t15]
    refine cvbs_of (OwK.s0 o5) ?_
    have k := fin _ e5
    simp (disch := omega) only [dm_t, wZ, ↓reduceIte, Nat.reduceEqDiff, Nat.reduceAdd, Nat.reduceSub, Nat.reduceMul, Nat.reduceLeDiff, Nat.reduceLT, Nat.reduceMod, Nat.reduceDiv, Int.reduceToNat, Nat.min_eq_left, IntKind.bits, Int.reducePow, Int.reduceLT, Int.reduceLE, Int.reduceEq, Int.reduceNe, Int.reduceAdd, Int.reduceSub, reduceCtorEq, eq_self, implies_true, exists_const, Option.isNone_some, Option.isNone_none, Option.isSome_some, Option.isSome_none, Option.getD_some, i1, t15, toList_mk, k]
  · refine (DBytes_ok X4.P.Y (by omega)).k ?_
    rintro u5 g5 ⟨o5, e5⟩
    have t15 := cellsAt_ext e5 t14
    have k := fin _ e5
    have hu5 := SlK.ext hu4 e5
    simp (disch := omega) only [dm_t, wZ, ↓reduceIte, Nat.reduceEqDiff, Nat.reduceAdd, Nat.reduceSub, Nat.reduceMul, Nat.reduceLeDiff, Nat.reduceLT, Nat.reduceMod, Nat.reduceDiv, Int.reduceToNat, Nat.min_eq_left, IntKind.bits, Int.reducePow, Int.reduceLT, Int.reduceLE, Int.reduceEq, Int.reduceNe, Int.reduceAdd, Int.reduceSub, reduceCtorEq, eq_self, implies_true, exists_const, Option.isNone_some, Option.isNone_none, Option.isSome_some, Option.isSome_none, Option.getD_some, i1, t15]
    refine ⟨?_, ?_⟩
    · refine cvbs_of hu5 ?_
      simp (disch := omega) only [dm_t, wZ, ↓reduceIte, Nat.reduceEqDiff, Nat.reduceAdd, Nat.reduceSub, Nat.reduceMul, Nat.reduceLeDiff, Nat.reduceLT, Nat.reduceMod, Nat.reduceDiv, Int.reduceToNat, Nat.min_eq_left, IntKind.bits, Int.reducePow, Int.reduceLT, Int.reduceLE, Int.reduceEq, Int.reduceNe, Int.reduceAdd, Int.reduceSub, reduceCtorEq, eq_self, implies_true, exists_const, Option.isNone_some, Option.isNone_none, Option.isSome_some, Option.isSome_none, Option.getD_some, i1, t15, toList_mk]
      refine cvbs_of (OwK.s0 o5) ?_
      simp (disch := omega) only [dm_t, wZ, ↓reduceIte, Nat.reduceEqDiff, Nat.reduceAdd, Nat.reduceSub, Nat.reduceMul, Nat.reduceLeDiff, Nat.reduceLT, Nat.reduceMod, Nat.reduceDiv, Int.reduceToNat, Nat.min_eq_left, IntKind.bits, Int.reducePow, Int.reduceLT, Int.reduceLE, Int.reduceEq, Int.reduceNe, Int.reduceAdd, Int.reduceSub, reduceCtorEq, eq_self, implies_true, exists_const, Option.isNone_some, Option.isNone_none, Option.isSome_some, Option.isSome_none, Option.getD_some, i1, t15, toList_mk, k]
    · refine cvbs_of (OwK.s0 o5) ?_
      simp (disch := omega) only [dm_t, wZ, ↓reduceIte, Nat.reduceEqDiff, Nat.reduceAdd, Nat.reduceSub, Nat.reduceMul, Nat.reduceLeDiff, Nat.reduceLT, Nat.reduceMod, Nat.reduceDiv, Int.reduceToNat, Nat.min_eq_left, IntKind.bits, Int.reducePow, Int.reduceLT, Int.reduceLE, Int.reduceEq, Int.reduceNe, Int.reduceAdd, Int.reduceSub, reduceCtorEq, eq_self, implies_true, exists_const, Option.isNone_some, Option.isNone_none, Option.isSome_some, Option.isSome_none, Option.getD_some, i1, t15, toList_mk]
      refine cvbs_of hu5 ?_
      simp (disch := omega) only [dm_t, wZ, ↓reduceIte, Nat.reduceEqDiff, Nat.reduceAdd, Nat.reduceSub, Nat.reduceMul, Nat.reduceLeDiff, Nat.reduceLT, Nat.reduceMod, Nat.reduceDiv, Int.reduceToNat, Nat.min_eq_left, IntKind.bits, Int.reducePow, Int.reduceLT, Int.reduceLE, Int.reduceEq, Int.reduceNe, Int.reduceAdd, Int.reduceSub, reduceCtorEq, eq_self, implies_true, exists_const, Option.isNone_some, Option.isNone_none, Option.isSome_some, Option.isSome_none, Option.getD_some, i1, t15, toList_mk, k]
end
end Go.Proofs.Ytmjbgfflbeibnaa.ti
