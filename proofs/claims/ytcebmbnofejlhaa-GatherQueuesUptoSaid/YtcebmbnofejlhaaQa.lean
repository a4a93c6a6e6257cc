/-
  gather: a ring of calls; New, Len, Bound, at, Peek.
-/
import Derived.Test.YtcebmbnofejlhaaGa
import Derived.Test.YtcebmbnofejlhaaK22
import Derived.Test.YtcebmbnofejlhaaKE
namespace Go.Proofs.Ytcebmbnofejlhaa.gq
open Go.Proofs.Ytcebmbnofejlhaa rr ga
set_option linter.unusedVariables false
set_option linter.unusedSimpArgs false
abbrev tI : Ty := .int .i64
abbrev callT : Ty := .pair tI (.pair tI (.pair (.sl rc) (.pair tI tI)))
def inI (n : Int) : Prop := -9223372036854775808 ≤ n ∧ n ≤ 9223372036854775807
abbrev cCs (x : callT.D) (r : Value) : List Value := [.int .i64 x.1, .int .i64 x.2.1, r, .int .i64 x.2.2.2.1, .int .i64 x.2.2.2.2]
def cB (x : callT.D) : Prop := inI x.1 ∧ inI x.2.1 ∧ inI x.2.2.2.1 ∧ inI x.2.2.2.2
theorem rep_call {S : Nat → Prop} {h : H} {cs : List Value} {x : callT.D} : Rep S callT h cs x ↔ ∃ r, cs = cCs x r ∧ cB x ∧ RepL S rc h r x.2.2.1 := by
  constructor
  · rintro ⟨c1, d1, rfl, ⟨rfl, b1⟩, c2, d2, rfl, ⟨rfl, b2⟩, c3, d3, rfl, r3, c4, d4, rfl, ⟨rfl, b4⟩, rfl, b5⟩
    obtain ⟨r, _, rfl, _⟩ := id r3
    exact ⟨r, rfl, ⟨b1, b2, b4, b5⟩, r3⟩
  · rintro ⟨r, rfl, ⟨b1, b2, b4, b5⟩, r3⟩
    exact ⟨[_], _, rfl, ⟨rfl, b1⟩, [_], _, rfl, ⟨rfl, b2⟩, [_], _, rfl, r3, [_], [_], rfl, ⟨rfl, b4⟩, rfl, b5⟩
abbrev zrow : List Value := [.int .i64 0, .int .i64 0, .slice none 0 0, .int .i64 0, .int .i64 0]
/-- A ring's object: h0 the heap ahead of it; S: more blocks that its calls' data is none of. -/
structure RO (S : Nat → Prop) (h0 g : H) (p : Nat) (lv : Value) (B first : Nat) (cs : List callT.D) (rows : List (List Value)) : Prop where
  obj : g p = some (.cells #[lv, .int .i64 (first : Int), .int .i64 (cs.length : Int)] 89)
  new : h0 p = none
  own : OwK 5 (fun y => h0 y = none ∧ y ≠ p) g 64 lv rows
  len : rows.length = B
  b : 0 < B ∧ B ≤ 256 ∧ first < B ∧ cs.length ≤ B
  rep : ∀ (j : Nat) x r, cs[j]? = some x → rows[(first + j) % B]? = some r → Rep (fun y => y = p ∨ isAt lv y ∨ S y) callT g r x
/-- What a ring's calls write. -/
def RF (p : Nat) (lv : Value) : Nat → Prop := fun y => y = p ∨ isAt lv y
section
variable {S T : Nat → Prop} {h0 g g' : H} {p : Nat} {lv : Value} {B first : Nat} {cs : List callT.D} {rows : List (List Value)}
theorem RO.ext (X : RO S h0 g p lv B first cs rows) (e : Ext g g') : RO S h0 g' p lv B first cs rows :=
  ⟨e.at X.obj, X.new, OwK.ext X.own e, X.len, X.b, fun j x r hx hr => (X.rep j x r hx hr).ext e⟩
theorem RO.slen (X : RO S h0 g p lv B first cs rows) : ∃ b c, lv = .slice (some ⟨b, 0, none⟩) B c ∨ ∃ a c, lv = .slice a B c := by
  obtain ⟨a, c, h⟩ := SlK.len X.own.s0
  exact ⟨0, 0, .inr ⟨a, c, by rw [h, X.len]⟩⟩
/-- The slice has a block. -/
theorem RO.sl (X : RO S h0 g p lv B first cs rows) : ∃ a c, lv = .slice (some a) B c := by
  have hb := X.b
  obtain ⟨_, ⟨rfl, hr⟩ | ⟨b, o, cp, c, fr, rfl, _⟩⟩ := X.own
  · have := X.len
    rw [hr] at this
    simp at this; omega
  · exact ⟨_, _, by rw [X.len]⟩
theorem RO.own' (X : RO S h0 g p lv B first cs rows) {y : Nat} (hy : RF p lv y) : h0 y = none := hy.elim (fun h => h ▸ X.new) fun h => (X.own.own h).1
theorem RO.there (X : RO S h0 g p lv B first cs rows) {y : Nat} (hy : RF p lv y) : g y ≠ none := hy.elim (fun h => by rw [h, X.obj]; simp) fun h => X.own.there h
theorem RO.c0 (X : RO S h0 g p lv B first cs rows) : cellAt g ⟨p, 0, none⟩ = some lv := by rw [cellAt_of X.obj]; rfl
theorem RO.c1 (X : RO S h0 g p lv B first cs rows) : cellAt g ⟨p, 1, none⟩ = some (.int .i64 (first : Int)) := by rw [cellAt_of X.obj]; rfl
theorem RO.c2 (X : RO S h0 g p lv B first cs rows) : cellAt g ⟨p, 2, none⟩ = some (.int .i64 (cs.length : Int)) := by rw [cellAt_of X.obj]; rfl
theorem none_ok (X : RO S h0 g p lv B first cs rows) : Ok Try.prog 44 #[.pointer (some ⟨p, 0, none⟩)] g fun v h' => v = .bool false ∧ g = h' := by
  obtain ⟨a, c, rfl⟩ := X.sl
  refine c44_ok (args := [_]) (by simp) ?_
  simp (disch := omega) only [dm_t, wA, wB, wL, wW, wY, Int.fdiv_eq_ediv_of_nonneg, Int.tdiv_eq_ediv_of_nonneg, Int.tmod_eq_emod_of_nonneg, chk_pos, decT, decF, br_pos, br_neg, wX, ↓reduceIte, Nat.reduceEqDiff, Nat.reduceAdd, Nat.reduceSub, Nat.reduceMul, Nat.reduceLeDiff, Nat.reduceLT, Nat.reduceMod, Nat.reduceDiv, Int.reduceToNat, Nat.min_eq_left, IntKind.bits, Int.reducePow, Int.reduceLT, Int.reduceLE, Int.reduceEq, Int.reduceNe, Int.reduceAdd, Int.reduceSub, and_self, reduceCtorEq, decide_eq_true_eq, decide_eq_false_iff_not, eq_self, implies_true, exists_const, Option.isNone_some, Option.isNone_none, Option.isSome_some, Option.isSome_none, Option.getD_some, X.c0]
theorem none_nil (g : H) : Ok Try.prog 44 #[.pointer none] g fun v h' => v = .bool true ∧ g = h' := by
  refine c44_ok (args := [_]) (by simp) ?_
  simp (disch := omega) only [dm_t, wA, wB, wL, wW, wY, Int.fdiv_eq_ediv_of_nonneg, Int.tdiv_eq_ediv_of_nonneg, Int.tmod_eq_emod_of_nonneg, chk_pos, decT, decF, br_pos, br_neg, wX, ↓reduceIte, Nat.reduceEqDiff, Nat.reduceAdd, Nat.reduceSub, Nat.reduceMul, Nat.reduceLeDiff, Nat.reduceLT, Nat.reduceMod, Nat.reduceDiv, Int.reduceToNat, Nat.min_eq_left, IntKind.bits, Int.reducePow, Int.reduceLT, Int.reduceLE, Int.reduceEq, Int.reduceNe, Int.reduceAdd, Int.reduceSub, and_self, reduceCtorEq, decide_eq_true_eq, decide_eq_false_iff_not, eq_self, implies_true, exists_const, Option.isNone_some, Option.isNone_none, Option.isSome_some, Option.isSome_none, Option.getD_some]
theorem Len_ok (X : RO S h0 g p lv B first cs rows) : Ok Try.prog 33 #[.pointer (some ⟨p, 0, none⟩)] g fun v h' => v = .int .i64 (cs.length : Int) ∧ g = h' := by
  refine c33_ok (args := [_]) (by simp) ?_
  simp (disch := omega) only [dm_t, wA, wB, wL, wW, wY, Int.fdiv_eq_ediv_of_nonneg, Int.tdiv_eq_ediv_of_nonneg, Int.tmod_eq_emod_of_nonneg, chk_pos, decT, decF, br_pos, br_neg, wX, ↓reduceIte, Nat.reduceEqDiff, Nat.reduceAdd, Nat.reduceSub, Nat.reduceMul, Nat.reduceLeDiff, Nat.reduceLT, Nat.reduceMod, Nat.reduceDiv, Int.reduceToNat, Nat.min_eq_left, IntKind.bits, Int.reducePow, Int.reduceLT, Int.reduceLE, Int.reduceEq, Int.reduceNe, Int.reduceAdd, Int.reduceSub, and_self, reduceCtorEq, decide_eq_true_eq, decide_eq_false_iff_not, eq_self, implies_true, exists_const, Option.isNone_some, Option.isNone_none, Option.isSome_some, Option.isSome_none, Option.getD_some]
  refine (none_ok X).k ?_
  rintro _ _ ⟨rfl, rfl⟩
  simp (disch := omega) only [dm_t, wA, wB, wL, wW, wY, Int.fdiv_eq_ediv_of_nonneg, Int.tdiv_eq_ediv_of_nonneg, Int.tmod_eq_emod_of_nonneg, chk_pos, decT, decF, br_pos, br_neg, wX, ↓reduceIte, Nat.reduceEqDiff, Nat.reduceAdd, Nat.reduceSub, Nat.reduceMul, Nat.reduceLeDiff, Nat.reduceLT, Nat.reduceMod, Nat.reduceDiv, Int.reduceToNat, Nat.min_eq_left, IntKind.bits, Int.reducePow, Int.reduceLT, Int.reduceLE, Int.reduceEq, Int.reduceNe, Int.reduceAdd, Int.reduceSub, and_self, reduceCtorEq, decide_eq_true_eq, decide_eq_false_iff_not, eq_self, implies_true, exists_const, Option.isNone_some, Option.isNone_none, Option.isSome_some, Option.isSome_none, Option.getD_some, X.c2]
theorem Bound_ok (X : RO S h0 g p lv B first cs rows) : Ok Try.prog 51 #[.pointer (some ⟨p, 0, none⟩)] g fun v h' => v = .int .i64 (B : Int) ∧ g = h' := by
  obtain ⟨a, c, rfl⟩ := X.sl
  refine c51_ok (args := [_]) (by simp) ?_
  simp (disch := omega) only [dm_t, wA, wB, wL, wW, wY, Int.fdiv_eq_ediv_of_nonneg, Int.tdiv_eq_ediv_of_nonneg, Int.tmod_eq_emod_of_nonneg, chk_pos, decT, decF, br_pos, br_neg, wX, ↓reduceIte, Nat.reduceEqDiff, Nat.reduceAdd, Nat.reduceSub, Nat.reduceMul, Nat.reduceLeDiff, Nat.reduceLT, Nat.reduceMod, Nat.reduceDiv, Int.reduceToNat, Nat.min_eq_left, IntKind.bits, Int.reducePow, Int.reduceLT, Int.reduceLE, Int.reduceEq, Int.reduceNe, Int.reduceAdd, Int.reduceSub, and_self, reduceCtorEq, decide_eq_true_eq, decide_eq_false_iff_not, eq_self, implies_true, exists_const, Option.isNone_some, Option.isNone_none, Option.isSome_some, Option.isSome_none, Option.getD_some]
  refine (none_ok X).k ?_
  rintro _ _ ⟨rfl, rfl⟩
  simp (disch := omega) only [dm_t, wA, wB, wL, wW, wY, Int.fdiv_eq_ediv_of_nonneg, Int.tdiv_eq_ediv_of_nonneg, Int.tmod_eq_emod_of_nonneg, chk_pos, decT, decF, br_pos, br_neg, wX, ↓reduceIte, Nat.reduceEqDiff, Nat.reduceAdd, Nat.reduceSub, Nat.reduceMul, Nat.reduceLeDiff, Nat.reduceLT, Nat.reduceMod, Nat.reduceDiv, Int.reduceToNat, Nat.min_eq_left, IntKind.bits, Int.reducePow, Int.reduceLT, Int.reduceLE, Int.reduceEq, Int.reduceNe, Int.reduceAdd, Int.reduceSub, and_self, reduceCtorEq, decide_eq_true_eq, decide_eq_false_iff_not, eq_self, implies_true, exists_const, Option.isNone_some, Option.isNone_none, Option.isSome_some, Option.isSome_none, Option.getD_some, X.c0]
theorem Bound_nil (g : H) : Ok Try.prog 51 #[.pointer none] g fun v h' => v = .int .i64 0 ∧ g = h' := by
  refine c51_ok (args := [_]) (by simp) ?_
  simp (disch := omega) only [dm_t, wA, wB, wL, wW, wY, Int.fdiv_eq_ediv_of_nonneg, Int.tdiv_eq_ediv_of_nonneg, Int.tmod_eq_emod_of_nonneg, chk_pos, decT, decF, br_pos, br_neg, wX, ↓reduceIte, Nat.reduceEqDiff, Nat.reduceAdd, Nat.reduceSub, Nat.reduceMul, Nat.reduceLeDiff, Nat.reduceLT, Nat.reduceMod, Nat.reduceDiv, Int.reduceToNat, Nat.min_eq_left, IntKind.bits, Int.reducePow, Int.reduceLT, Int.reduceLE, Int.reduceEq, Int.reduceNe, Int.reduceAdd, Int.reduceSub, and_self, reduceCtorEq, decide_eq_true_eq, decide_eq_false_iff_not, eq_self, implies_true, exists_const, Option.isNone_some, Option.isNone_none, Option.isSome_some, Option.isSome_none, Option.getD_some]
  refine (none_nil g).k ?_
  rintro _ _ ⟨rfl, rfl⟩
  simp (disch := omega) only [dm_t, wA, wB, wL, wW, wY, Int.fdiv_eq_ediv_of_nonneg, Int.tdiv_eq_ediv_of_nonneg, Int.tmod_eq_emod_of_nonneg, chk_pos, decT, decF, br_pos, br_neg, wX, ↓reduceIte, Nat.reduceEqDiff, Nat.reduceAdd, Nat.reduceSub, Nat.reduceMul, Nat.reduceLeDiff, Nat.reduceLT, Nat.reduceMod, Nat.reduceDiv, Int.reduceToNat, Nat.min_eq_left, IntKind.bits, Int.reducePow, Int.reduceLT, Int.reduceLE, Int.reduceEq, Int.reduceNe, Int.reduceAdd, Int.reduceSub, and_self, reduceCtorEq, decide_eq_true_eq, decide_eq_false_iff_not, eq_self, implies_true, exists_const, Option.isNone_some, Option.isNone_none, Option.isSome_some, Option.isSome_none, Option.getD_some]
theorem at_ok (X : RO S h0 g p lv B first cs rows) (i : Nat) (hi : i ≤ 256) : Ok Try.prog 45 #[.pointer (some ⟨p, 0, none⟩), .int .i64 (i : Int)] g fun v h' => v = .int .i64 ((first + i) % B : Nat) ∧ g = h' := by
  obtain ⟨a, c, rfl⟩ := X.sl
  have hb := X.b
  refine c45_ok (args := [_, _]) (by simp) ?_
  have hm : ((i : Int) + (first : Int)) % (B : Int) = (((first + i) % B : Nat) : Int) := by
    rw [Int.natCast_emod, Int.natCast_add, Int.add_comm]
  simp (disch := omega) only [dm_t, wA, wB, wL, wW, wY, Int.fdiv_eq_ediv_of_nonneg, Int.tdiv_eq_ediv_of_nonneg, Int.tmod_eq_emod_of_nonneg, chk_pos, decT, decF, br_pos, br_neg, wX, ↓reduceIte, Nat.reduceEqDiff, Nat.reduceAdd, Nat.reduceSub, Nat.reduceMul, Nat.reduceLeDiff, Nat.reduceLT, Nat.reduceMod, Nat.reduceDiv, Int.reduceToNat, Nat.min_eq_left, IntKind.bits, Int.reducePow, Int.reduceLT, Int.reduceLE, Int.reduceEq, Int.reduceNe, Int.reduceAdd, Int.reduceSub, and_self, reduceCtorEq, decide_eq_true_eq, decide_eq_false_iff_not, eq_self, implies_true, exists_const, Option.isNone_some, Option.isNone_none, Option.isSome_some, Option.isSome_none, Option.getD_some, X.c1, X.c0, hm]
theorem New_ok {g : H} : Ok Try.prog 29 #[.int .i64 256] g fun v h' => ∃ p lv rows, v = .tuple #[.pointer (some ⟨p, 0, none⟩), .int .i64 0] ∧ (∀ S, RO S g h' p lv 256 0 [] rows) ∧ Ext g h' := by
  refine c29_ok (args := [_]) (by simp) ?_
  simp (disch := omega) only [dm_t, wA, wB, wL, wW, wY, Int.fdiv_eq_ediv_of_nonneg, Int.tdiv_eq_ediv_of_nonneg, Int.tmod_eq_emod_of_nonneg, chk_pos, decT, decF, br_pos, br_neg, wX, ↓reduceIte, Nat.reduceEqDiff, Nat.reduceAdd, Nat.reduceSub, Nat.reduceMul, Nat.reduceLeDiff, Nat.reduceLT, Nat.reduceMod, Nat.reduceDiv, Int.reduceToNat, Nat.min_eq_left, IntKind.bits, Int.reducePow, Int.reduceLT, Int.reduceLE, Int.reduceEq, Int.reduceNe, Int.reduceAdd, Int.reduceSub, and_self, reduceCtorEq, decide_eq_true_eq, decide_eq_false_iff_not, eq_self, implies_true, exists_const, Option.isNone_some, Option.isNone_none, Option.isSome_some, Option.isSome_none, Option.getD_some]
  refine ⟨by first | omega | decide | simp, ?_⟩
  intro b hb q hq
  have e1 : Ext g _ := Ext.new hb (.cells (Builtin.zeroCells #[.int .i64 0, .int .i64 0, .slice none 0 0, .int .i64 0, .int .i64 0] 256) 64)
  have e2 := e1.trans (Ext.new hq (.cells #[.slice (some ⟨b, 0, none⟩) 256 256, .int .i64 0, .int .i64 0] 89))
  have hbq : b ≠ q := fun h => by subst h; rw [hupd_same] at hq; cases hq
  have hown : OwK 5 (fun y => g y = none ∧ y ≠ q) _ 64 (.slice (some ⟨b, 0, none⟩) 256 256) (List.replicate 256 zrow) := (omakek (h := g) (z := zrow) (k := 5) (n := 256) (m := 256) rfl (by omega) (Nat.le_refl _) ⟨hb, hbq⟩).ext (Ext.new hq (.cells #[.slice (some ⟨b, 0, none⟩) 256 256, .int .i64 0, .int .i64 0] 89))
  exact ⟨q, _, List.replicate 256 zrow, rfl, fun S => ⟨hupd_same _ _ _, e1.bk hq, hown, List.length_replicate, ⟨by omega, by omega, by omega, Nat.zero_le _⟩, fun j x r hx => by simp at hx⟩, e2⟩
theorem Peek_ok (X : RO S h0 g p lv B first cs rows) {i : Nat} (hi : i < cs.length) : Ok Try.prog 36 #[.pointer (some ⟨p, 0, none⟩), .int .i64 (i : Int)] g fun v h' => ∃ row, v = .tuple #[.agg row.toArray, .int .i64 0] ∧ Rep (fun y => y = p ∨ isAt lv y ∨ S y) callT g row cs[i] ∧ Ext g h' := by
  obtain ⟨a, c, rfl⟩ := X.sl
  have hb := X.b
  refine c36_ok (args := [_, _]) (by simp) ?_
  simp (disch := omega) only [dm_t, wA, wB, wL, wW, wY, Int.fdiv_eq_ediv_of_nonneg, Int.tdiv_eq_ediv_of_nonneg, Int.tmod_eq_emod_of_nonneg, chk_pos, decT, decF, br_pos, br_neg, wX, ↓reduceIte, Nat.reduceEqDiff, Nat.reduceAdd, Nat.reduceSub, Nat.reduceMul, Nat.reduceLeDiff, Nat.reduceLT, Nat.reduceMod, Nat.reduceDiv, Int.reduceToNat, Nat.min_eq_left, IntKind.bits, Int.reducePow, Int.reduceLT, Int.reduceLE, Int.reduceEq, Int.reduceNe, Int.reduceAdd, Int.reduceSub, and_self, reduceCtorEq, decide_eq_true_eq, decide_eq_false_iff_not, eq_self, implies_true, exists_const, Option.isNone_some, Option.isNone_none, Option.isSome_some, Option.isSome_none, Option.getD_some]
  intro rb hrb
  generalize hG : hupd g rb _ = g1
  obtain ⟨e1, qr⟩ := new_ext hG hrb
  clear hG
  simp (disch := omega) only [dm_t, wA, wB, wL, wW, wY, Int.fdiv_eq_ediv_of_nonneg, Int.tdiv_eq_ediv_of_nonneg, Int.tmod_eq_emod_of_nonneg, chk_pos, decT, decF, br_pos, br_neg, wX, ↓reduceIte, Nat.reduceEqDiff, Nat.reduceAdd, Nat.reduceSub, Nat.reduceMul, Nat.reduceLeDiff, Nat.reduceLT, Nat.reduceMod, Nat.reduceDiv, Int.reduceToNat, Nat.min_eq_left, IntKind.bits, Int.reducePow, Int.reduceLT, Int.reduceLE, Int.reduceEq, Int.reduceNe, Int.reduceAdd, Int.reduceSub, and_self, reduceCtorEq, decide_eq_true_eq, decide_eq_false_iff_not, eq_self, implies_true, exists_const, Option.isNone_some, Option.isNone_none, Option.isSome_some, Option.isSome_none, Option.getD_some]
  intro nb hnb
  generalize hG : hupd g1 nb _ = g2
  obtain ⟨e2, qn⟩ := new_ext hG hnb
  clear hG
  have X2 := (X.ext e1).ext e2
  have qr2 := e2.at qr
  refine (none_ok X2).k ?_
  rintro _ _ ⟨rfl, rfl⟩
  have hml : (first + i) % B < rows.length := by rw [X.len]; exact Nat.mod_lt _ hb.1
  obtain ⟨b1, o1, i1, hrl, hc1, t1⟩ := SlK.row X2.own.s0 hml .i64
  have hrep := X.rep i cs[i] rows[(first + i) % B] (by simp [hi]) (by simp [hml])
  obtain ⟨r, hrow, hcb, hrr⟩ := rep_call.1 hrep
  rw [hrow] at t1
  obtain ⟨ra, rn, rfl⟩ := hrr.len
  simp (disch := omega) only [dm_t, wA, wB, wL, wW, wY, Int.fdiv_eq_ediv_of_nonneg, Int.tdiv_eq_ediv_of_nonneg, Int.tmod_eq_emod_of_nonneg, chk_pos, decT, decF, br_pos, br_neg, wX, ↓reduceIte, Nat.reduceEqDiff, Nat.reduceAdd, Nat.reduceSub, Nat.reduceMul, Nat.reduceLeDiff, Nat.reduceLT, Nat.reduceMod, Nat.reduceDiv, Int.reduceToNat, Nat.min_eq_left, IntKind.bits, Int.reducePow, Int.reduceLT, Int.reduceLE, Int.reduceEq, Int.reduceNe, Int.reduceAdd, Int.reduceSub, and_self, reduceCtorEq, decide_eq_true_eq, decide_eq_false_iff_not, eq_self, implies_true, exists_const, Option.isNone_some, Option.isNone_none, Option.isSome_some, Option.isSome_none, Option.getD_some, X2.c2, X2.c0]
  refine (at_ok X2 i (by omega)).k ?_
  rintro _ _ ⟨rfl, rfl⟩
  simp (disch := omega) only [dm_t, wA, wB, wL, wW, wY, Int.fdiv_eq_ediv_of_nonneg, Int.tdiv_eq_ediv_of_nonneg, Int.tmod_eq_emod_of_nonneg, chk_pos, decT, decF, br_pos, br_neg, wX, ↓reduceIte, Nat.reduceEqDiff, Nat.reduceAdd, Nat.reduceSub, Nat.reduceMul, Nat.reduceLeDiff, Nat.reduceLT, Nat.reduceMod, Nat.reduceDiv, Int.reduceToNat, Nat.min_eq_left, IntKind.bits, Int.reducePow, Int.reduceLT, Int.reduceLE, Int.reduceEq, Int.reduceNe, Int.reduceAdd, Int.reduceSub, and_self, reduceCtorEq, decide_eq_true_eq, decide_eq_false_iff_not, eq_self, implies_true, exists_const, Option.isNone_some, Option.isNone_none, Option.isSome_some, Option.isSome_none, Option.getD_some, X2.c0, i1, t1]
  refine storeH_all (vs := [_, _, _, _, _]) qr2 rfl rfl ?_
  generalize hG : hupd g2 rb _ = g3
  have f3 : Fr (fun y => y = rb) g2 g3 := hG ▸ Fr.upd (S := fun y => y = rb) rfl _
  have q3 : g3 rb = some (.cells (cCs cs[i] (.slice ra cs[i].2.2.1.length rn)).toArray 64) := hG ▸ hupd_same _ _ _
  clear hG
  have E2 : Ext g g2 := e1.trans e2
  have E3 : Ext g g3 := Ext.step' E2 f3 fun y hy => by rw [hy]; exact hrb
  simp (disch := omega) only [dm_t, wA, wB, wL, wW, wY, Int.fdiv_eq_ediv_of_nonneg, Int.tdiv_eq_ediv_of_nonneg, Int.tmod_eq_emod_of_nonneg, chk_pos, decT, decF, br_pos, br_neg, wX, ↓reduceIte, Nat.reduceEqDiff, Nat.reduceAdd, Nat.reduceSub, Nat.reduceMul, Nat.reduceLeDiff, Nat.reduceLT, Nat.reduceMod, Nat.reduceDiv, Int.reduceToNat, Nat.min_eq_left, IntKind.bits, Int.reducePow, Int.reduceLT, Int.reduceLE, Int.reduceEq, Int.reduceNe, Int.reduceAdd, Int.reduceSub, and_self, reduceCtorEq, decide_eq_true_eq, decide_eq_false_iff_not, eq_self, implies_true, exists_const, Option.isNone_some, Option.isNone_none, Option.isSome_some, Option.isSome_none, Option.getD_some, cellsAt_all q3 5 rfl]
  exact ⟨cCs cs[i] (.slice ra cs[i].2.2.1.length rn), rfl, rep_call.2 ⟨_, rfl, hcb, hrr⟩, E3⟩
end
end Go.Proofs.Ytcebmbnofejlhaa.gq
