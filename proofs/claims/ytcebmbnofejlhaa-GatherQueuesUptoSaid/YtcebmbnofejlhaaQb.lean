/-
  gather: a ring of calls; Put, Drop.
-/
import Derived.Test.YtcebmbnofejlhaaQa
namespace Go.Proofs.Ytcebmbnofejlhaa.gq
open Go.Proofs.Ytcebmbnofejlhaa rr ga
set_option linter.unusedVariables false
set_option linter.unusedSimpArgs false
theorem mod_ne {f j k B : Nat} (hj : j < k) (hk : k < j + B) : (f + j) % B ≠ (f + k) % B := by
  intro h
  have h1 := Nat.div_add_mod (f + j) B
  have h2 := Nat.div_add_mod (f + k) B
  rw [h] at h1
  have h3 : B * ((f + k) / B) = B * ((f + j) / B) + (k - j) := by omega
  have h4 : (f + j) / B < (f + k) / B := by
    refine Nat.lt_of_not_le fun hle => ?_
    have := Nat.mul_le_mul_left B hle
    omega
  have h5 := Nat.mul_le_mul_left B (Nat.succ_le_of_lt h4)
  rw [Nat.mul_succ] at h5
  omega
section
variable {S T : Nat → Prop} {h0 g g' : H} {p : Nat} {lv w : Value} {B first : Nat} {cs xs : List callT.D} {rows : List (List Value)}
theorem RO.fr (X : RO S h0 g p lv B first cs rows) (f : Fr T g g') (hT : ∀ y, T y → S y) (h1 : ∀ y, T y → ¬ RF p lv y) : RO S h0 g' p lv B first cs rows :=
  ⟨f _ _ X.obj fun h => h1 p h (.inl rfl), X.new, OwK.fr X.own f fun y hy _ hl => h1 y hy (.inr hl), X.len, X.b, fun j x r hx hr => (X.rep j x r hx hr).fr f fun y hy => .inr (.inr (hT y hy))⟩
theorem RO.avoid (X : RO S h0 g p lv B first cs rows) (hS : ∀ y, T y → S y ∨ g y = none) : RO T h0 g p lv B first cs rows :=
  ⟨X.obj, X.new, X.own, X.len, X.b, fun j x r hx hr => (X.rep j x r hx hr).mono fun y o hy h => h.imp id fun h => h.imp id fun h => (hS y h).elim id fun hn => by rw [hn] at hy; cases hy⟩
/-- A row of the ring's own, written. -/
theorem RO.row (X : RO S h0 g p lv B first cs rows) {m : Nat} (hm : m < B) (kk : IntKind) : ∃ b o, idxV1 5 lv (.int kk (m : Int)) = some (.pointer (some ⟨b, o, none⟩)) ∧ isAt lv b ∧ b ≠ p ∧ cellsAt g ⟨b, o, none⟩ 5 = some (rows[m]'(by rw [X.len]; exact hm)).toArray ∧
    ∀ (new : List Value) (K : H → Prop), new.length = 5 → new.all isCell = true → (∀ g', OwK 5 (fun y => h0 y = none ∧ y ≠ p) g' 64 lv (rows.set m new) → Fr (fun y => y = b) g g' → K g') → storeH g ⟨b, o, none⟩ new K := by
  have hml : m < rows.length := by rw [X.len]; exact hm
  obtain ⟨b, o, h1, h2, h3, h4⟩ := OwK.put X.own hml kk
  obtain ⟨b', o', q1, q2, q3, q4⟩ := SlK.row X.own.s0 hml kk
  rw [h1] at q1
  simp only [Option.some.injEq, Value.pointer.injEq, Addr.mk.injEq, and_true] at q1
  obtain ⟨rfl, rfl⟩ := q1
  refine ⟨b, o, h1, h3, h2.2, q4, fun new K hn hc hK => ?_⟩
  refine h4 0 new K (by omega) hc fun g' o' f' => hK g' ?_ f'
  have e : (rows[m]).take 0 ++ new ++ (rows[m]).drop (0 + new.length) = new := by
    rw [List.take_zero, List.nil_append, List.drop_eq_nil_of_le (by omega), List.append_nil]
  rwa [e] at o'
/-- One call more. -/
theorem RO.put {b' : Nat} {row : List Value} {x : callT.D} {g2 : H} (X : RO S h0 g p lv B first cs rows) (hn : cs.length < B) (hx : Rep (fun y => y = p ∨ isAt lv y ∨ S y) callT g row x) (f : Fr (RF p lv) g g') (ho : g' p = some (.cells #[lv, .int .i64 (first : Int), .int .i64 ((cs.length : Int) + 1)] 89))
    (hw : OwK 5 (fun y => h0 y = none ∧ y ≠ p) g' 64 lv (rows.set ((first + cs.length) % B) row)) : RO S h0 g' p lv B first (cs ++ [x]) (rows.set ((first + cs.length) % B) row) := by
  have hb := X.b
  refine ⟨by rw [ho]; simp, X.new, hw, by simp [X.len], ⟨hb.1, hb.2.1, hb.2.2.1, by simp; omega⟩, fun j y r hy hr => ?_⟩
  have hm : (first + cs.length) % B < rows.length := by rw [X.len]; exact Nat.mod_lt _ hb.1
  rw [List.getElem?_set] at hr
  by_cases hj : j < cs.length
  · rw [List.getElem?_append_left hj] at hy
    rw [if_neg (fun h => mod_ne hj (by omega) h.symm)] at hr
    exact (X.rep j y r hy hr).fr f fun z hz => hz.elim .inl fun h => .inr (.inl h)
  · rw [List.getElem?_append_right (by omega)] at hy
    have hjc : j = cs.length := by
      have := (List.getElem?_eq_some_iff.1 hy).1
      simp at this; omega
    subst hjc
    rw [Nat.sub_self, List.getElem?_cons_zero, Option.some.injEq] at hy
    rw [if_pos rfl, if_pos hm, Option.some.injEq] at hr
    subst hy hr
    exact hx.fr f fun z hz => hz.elim .inl fun h => .inr (.inl h)
theorem Put_ok (X : RO S h0 g p lv B first cs rows) (E : Ext h0 g) (hw : RepL (fun y => y = p ∨ isAt lv y ∨ S y) callT g w xs) (h1 : xs.length ≤ B - cs.length) : Ok Try.prog 30 #[.pointer (some ⟨p, 0, none⟩), w] g fun u h' => u = .int .i64 0 ∧ (∃ rows', RO S h0 h' p lv B first (cs ++ xs) rows') ∧ Fr (RF p lv) g h' := by
  obtain ⟨wa, wc, rfl⟩ := hw.len
  have hb := X.b
  have hlv := X.sl
  obtain ⟨la, lc, hlv⟩ := hlv
  refine c30_ok (args := [_, _]) (by simp) ?_
  simp (disch := omega) only [dm_t, wA, wB, wL, wW, wY, Int.fdiv_eq_ediv_of_nonneg, Int.tdiv_eq_ediv_of_nonneg, Int.tmod_eq_emod_of_nonneg, chk_pos, decT, decF, br_pos, br_neg, wX, ↓reduceIte, Nat.reduceEqDiff, Nat.reduceAdd, Nat.reduceSub, Nat.reduceMul, Nat.reduceLeDiff, Nat.reduceLT, Nat.reduceMod, Nat.reduceDiv, Int.reduceToNat, Nat.min_eq_left, IntKind.bits, Int.reducePow, Int.reduceLT, Int.reduceLE, Int.reduceEq, Int.reduceNe, Int.reduceAdd, Int.reduceSub, and_self, reduceCtorEq, decide_eq_true_eq, decide_eq_false_iff_not, eq_self, implies_true, exists_const, Option.isNone_some, Option.isNone_none, Option.isSome_some, Option.isSome_none, Option.getD_some]
  refine (none_ok X).k ?_
  rintro _ _ ⟨rfl, rfl⟩
  have c0 : ∀ {G cs rows}, RO S h0 G p lv B first cs rows → cellAt G ⟨p, 0, none⟩ = some (.slice (some la) B lc) := fun Y => by rw [Y.c0, hlv]
  · simp (disch := omega) only [dm_t, wA, wB, wL, wW, wY, Int.fdiv_eq_ediv_of_nonneg, Int.tdiv_eq_ediv_of_nonneg, Int.tmod_eq_emod_of_nonneg, chk_pos, decT, decF, br_pos, br_neg, wX, ↓reduceIte, Nat.reduceEqDiff, Nat.reduceAdd, Nat.reduceSub, Nat.reduceMul, Nat.reduceLeDiff, Nat.reduceLT, Nat.reduceMod, Nat.reduceDiv, Int.reduceToNat, Nat.min_eq_left, IntKind.bits, Int.reducePow, Int.reduceLT, Int.reduceLE, Int.reduceEq, Int.reduceNe, Int.reduceAdd, Int.reduceSub, and_self, reduceCtorEq, decide_eq_true_eq, decide_eq_false_iff_not, eq_self, implies_true, exists_const, Option.isNone_some, Option.isNone_none, Option.isSome_some, Option.isSome_none, Option.getD_some, c0 X, X.c2]
    refine vc_loop1 (fun vi G => ∃ (i : Nat) (rows' : List (List Value)), vi = .int .i64 (i : Int) ∧ i ≤ xs.length ∧ RO S h0 G p lv B first (cs ++ xs.take i) rows' ∧ Fr (RF p lv) g G) (fun vi _ => xs.length - m1 vi) ?_ ?_
    · simp (disch := omega) only [dm_t, wA, wB, wL, wW, wY, Int.fdiv_eq_ediv_of_nonneg, Int.tdiv_eq_ediv_of_nonneg, Int.tmod_eq_emod_of_nonneg, chk_pos, decT, decF, br_pos, br_neg, wX, ↓reduceIte, Nat.reduceEqDiff, Nat.reduceAdd, Nat.reduceSub, Nat.reduceMul, Nat.reduceLeDiff, Nat.reduceLT, Nat.reduceMod, Nat.reduceDiv, Int.reduceToNat, Nat.min_eq_left, IntKind.bits, Int.reducePow, Int.reduceLT, Int.reduceLE, Int.reduceEq, Int.reduceNe, Int.reduceAdd, Int.reduceSub, and_self, reduceCtorEq, decide_eq_true_eq, decide_eq_false_iff_not, eq_self, implies_true, exists_const, Option.isNone_some, Option.isNone_none, Option.isSome_some, Option.isSome_none, Option.getD_some]
      exact ⟨0, rows, rfl, by omega, by simpa using X, Fr.refl _ _⟩
    rintro _ G ⟨i, rows', rfl, hi, XG, F⟩
    by_cases hil : i < xs.length
    · have hwG := hw.fr F fun y hy => hy.elim .inl fun h => .inr (.inl h)
      obtain ⟨b1, o1, row, i1, t1, -, r1⟩ := hwG.load hil .i64 5 rfl
      obtain ⟨r, hrow, hcb, hrr⟩ := rep_call.1 r1
      obtain ⟨ra, rn, rfl⟩ := hrr.len
      have hsplit : cs ++ xs.take (i + 1) = (cs ++ xs.take i) ++ [xs[i]] := by rw [List.take_succ_eq_append_getElem hil, List.append_assoc]
      have hlt : (cs ++ xs.take i).length = cs.length + i := by rw [List.length_append, List.length_take]; omega
      subst hrow
      simp (disch := omega) only [dm_t, wA, wB, wL, wW, wY, Int.fdiv_eq_ediv_of_nonneg, Int.tdiv_eq_ediv_of_nonneg, Int.tmod_eq_emod_of_nonneg, chk_pos, decT, decF, br_pos, br_neg, wX, ↓reduceIte, Nat.reduceEqDiff, Nat.reduceAdd, Nat.reduceSub, Nat.reduceMul, Nat.reduceLeDiff, Nat.reduceLT, Nat.reduceMod, Nat.reduceDiv, Int.reduceToNat, Nat.min_eq_left, IntKind.bits, Int.reducePow, Int.reduceLT, Int.reduceLE, Int.reduceEq, Int.reduceNe, Int.reduceAdd, Int.reduceSub, and_self, reduceCtorEq, decide_eq_true_eq, decide_eq_false_iff_not, eq_self, implies_true, exists_const, Option.isNone_some, Option.isNone_none, Option.isSome_some, Option.isSome_none, Option.getD_some, i1, t1]
      intro xb hxb
      refine storeH_all (vs := [_, _, _, _, _]) (hupd_same _ _ _) rfl rfl ?_
      rw [hupd_hupd]
      generalize hG : hupd G xb _ = G1
      obtain ⟨e1, qx⟩ := new_ext hG hxb
      clear hG
      have X1 := XG.ext e1
      have xa := cellsAt_all qx 5 rfl
      have hx1 := r1.ext e1
      generalize hcc : cs ++ xs.take i = cc at *
      have hml : (first + cc.length) % B < B := Nat.mod_lt _ hb.1
      obtain ⟨b2, o2, i2, a2, n2, -, st⟩ := X1.row hml .i64
      rw [hlv] at i2
      simp (disch := omega) only [dm_t, wA, wB, wL, wW, wY, Int.fdiv_eq_ediv_of_nonneg, Int.tdiv_eq_ediv_of_nonneg, Int.tmod_eq_emod_of_nonneg, chk_pos, decT, decF, br_pos, br_neg, wX, ↓reduceIte, Nat.reduceEqDiff, Nat.reduceAdd, Nat.reduceSub, Nat.reduceMul, Nat.reduceLeDiff, Nat.reduceLT, Nat.reduceMod, Nat.reduceDiv, Int.reduceToNat, Nat.min_eq_left, IntKind.bits, Int.reducePow, Int.reduceLT, Int.reduceLE, Int.reduceEq, Int.reduceNe, Int.reduceAdd, Int.reduceSub, and_self, reduceCtorEq, decide_eq_true_eq, decide_eq_false_iff_not, eq_self, implies_true, exists_const, Option.isNone_some, Option.isNone_none, Option.isSome_some, Option.isSome_none, Option.getD_some, c0 X1, X1.c2, xa]
      refine (at_ok X1 cc.length (by omega)).k ?_
      rintro _ _ ⟨rfl, rfl⟩
      simp (disch := omega) only [dm_t, wA, wB, wL, wW, wY, Int.fdiv_eq_ediv_of_nonneg, Int.tdiv_eq_ediv_of_nonneg, Int.tmod_eq_emod_of_nonneg, chk_pos, decT, decF, br_pos, br_neg, wX, ↓reduceIte, Nat.reduceEqDiff, Nat.reduceAdd, Nat.reduceSub, Nat.reduceMul, Nat.reduceLeDiff, Nat.reduceLT, Nat.reduceMod, Nat.reduceDiv, Int.reduceToNat, Nat.min_eq_left, IntKind.bits, Int.reducePow, Int.reduceLT, Int.reduceLE, Int.reduceEq, Int.reduceNe, Int.reduceAdd, Int.reduceSub, and_self, reduceCtorEq, decide_eq_true_eq, decide_eq_false_iff_not, eq_self, implies_true, exists_const, Option.isNone_some, Option.isNone_none, Option.isSome_some, Option.isSome_none, Option.getD_some, c0 X1, X1.c2, xa, i2]
      refine st (cCs xs[i] (.slice ra xs[i].2.2.1.length rn)) _ rfl rfl fun G2 o2' f2 => ?_
      have obj2 := f2 _ _ X1.obj fun h => n2 h.symm
      have d2 : cellAt G2 ⟨p, 2, none⟩ = some (.int .i64 (cc.length : Int)) := by rw [cellAt_of obj2]; rfl
      simp (disch := omega) only [dm_t, wA, wB, wL, wW, wY, Int.fdiv_eq_ediv_of_nonneg, Int.tdiv_eq_ediv_of_nonneg, Int.tmod_eq_emod_of_nonneg, chk_pos, decT, decF, br_pos, br_neg, wX, ↓reduceIte, Nat.reduceEqDiff, Nat.reduceAdd, Nat.reduceSub, Nat.reduceMul, Nat.reduceLeDiff, Nat.reduceLT, Nat.reduceMod, Nat.reduceDiv, Int.reduceToNat, Nat.min_eq_left, IntKind.bits, Int.reducePow, Int.reduceLT, Int.reduceLE, Int.reduceEq, Int.reduceNe, Int.reduceAdd, Int.reduceSub, and_self, reduceCtorEq, decide_eq_true_eq, decide_eq_false_iff_not, eq_self, implies_true, exists_const, Option.isNone_some, Option.isNone_none, Option.isSome_some, Option.isSome_none, Option.getD_some, d2]
      rw [storeH_0 obj2]
      refine ⟨by simp, rfl, ?_⟩
      generalize hG : hupd G2 p _ = G3
      have f3 : Fr (fun y => y = p) G2 G3 := hG ▸ Fr.upd (S := fun y => y = p) rfl _
      have q3 : G3 p = some (.cells #[lv, .int .i64 (first : Int), .int .i64 ((cc.length : Int) + 1)] 89) := by rw [← hG, hupd_same]; rfl
      clear hG
      have F3 : Fr (RF p lv) G1 G3 := (f2.mono fun y hy => .inr (hy ▸ a2)).trans (f3.mono fun y hy => .inl hy)
      have X3 := RO.put (b' := b2) (g2 := G2) X1 (by omega) hx1 F3 q3 (OwK.fr o2' f3 fun y hy ho _ => ho.2 hy)
      rw [← hsplit] at X3
      simp (disch := omega) only [dm_t, wA, wB, wL, wW, wY, Int.fdiv_eq_ediv_of_nonneg, Int.tdiv_eq_ediv_of_nonneg, Int.tmod_eq_emod_of_nonneg, chk_pos, decT, decF, br_pos, br_neg, wX, ↓reduceIte, Nat.reduceEqDiff, Nat.reduceAdd, Nat.reduceSub, Nat.reduceMul, Nat.reduceLeDiff, Nat.reduceLT, Nat.reduceMod, Nat.reduceDiv, Int.reduceToNat, Nat.min_eq_left, IntKind.bits, Int.reducePow, Int.reduceLT, Int.reduceLE, Int.reduceEq, Int.reduceNe, Int.reduceAdd, Int.reduceSub, and_self, reduceCtorEq, decide_eq_true_eq, decide_eq_false_iff_not, eq_self, implies_true, exists_const, Option.isNone_some, Option.isNone_none, Option.isSome_some, Option.isSome_none, Option.getD_some]
      exact ⟨⟨i + 1, _, by simp, by omega, X3, F.trans ((e1.mono fun _ h => h.elim).trans F3)⟩, by simp [m1]; omega⟩
    · obtain rfl : i = xs.length := by omega
      rw [List.take_length] at XG
      simp (disch := omega) only [dm_t, wA, wB, wL, wW, wY, Int.fdiv_eq_ediv_of_nonneg, Int.tdiv_eq_ediv_of_nonneg, Int.tmod_eq_emod_of_nonneg, chk_pos, decT, decF, br_pos, br_neg, wX, ↓reduceIte, Nat.reduceEqDiff, Nat.reduceAdd, Nat.reduceSub, Nat.reduceMul, Nat.reduceLeDiff, Nat.reduceLT, Nat.reduceMod, Nat.reduceDiv, Int.reduceToNat, Nat.min_eq_left, IntKind.bits, Int.reducePow, Int.reduceLT, Int.reduceLE, Int.reduceEq, Int.reduceNe, Int.reduceAdd, Int.reduceSub, and_self, reduceCtorEq, decide_eq_true_eq, decide_eq_false_iff_not, eq_self, implies_true, exists_const, Option.isNone_some, Option.isNone_none, Option.isSome_some, Option.isSome_none, Option.getD_some]
      exact ⟨⟨_, XG⟩, F⟩
/-- The first call, taken out. -/
theorem RO.drop1 {x : callT.D} (X : RO S h0 g p lv B first (x :: cs) rows) (f : Fr (RF p lv) g g') (ho : g' p = some (.cells #[lv, .int .i64 ((first + 1) % B : Nat), .int .i64 (cs.length : Int)] 89))
    (hw : OwK 5 (fun y => h0 y = none ∧ y ≠ p) g' 64 lv (rows.set first zrow)) : RO S h0 g' p lv B ((first + 1) % B) cs (rows.set first zrow) := by
  have hb := X.b
  simp only [List.length_cons] at hb
  refine ⟨ho, X.new, hw, by simp [X.len], ⟨hb.1, hb.2.1, Nat.mod_lt _ hb.1, by omega⟩, fun j y r hy hr => ?_⟩
  have hjl := (List.getElem?_eq_some_iff.1 hy).1
  have hm : ((first + 1) % B + j) % B = (first + (j + 1)) % B := by rw [Nat.mod_add_mod]; congr 1; omega
  rw [hm, List.getElem?_set] at hr
  have hf : first = (first + 0) % B := by rw [Nat.add_zero, Nat.mod_eq_of_lt hb.2.2.1]
  rw [if_neg (fun h => mod_ne (f := first) (j := 0) (k := j + 1) (B := B) (by omega) (by omega) (by rw [← hf]; exact h))] at hr
  exact (X.rep (j + 1) y r (by simpa using hy) hr).fr f fun z hz => hz.elim .inl fun h => .inr (.inl h)
theorem Drop_ok (X : RO S h0 g p lv B first cs rows) (E : Ext h0 g) {n : Nat} (hn : n ≤ cs.length) : Ok Try.prog 47 #[.pointer (some ⟨p, 0, none⟩), .int .i64 (n : Int)] g fun u h' => ∃ v, u = .tuple #[v, .int .i64 0] ∧ OwL (fun y => y = p ∨ isAt lv y ∨ S y) callT (fun y => g y = none) h' 64 v (cs.take n) ∧ (∃ rows', RO S h0 h' p lv B ((first + n) % B) (cs.drop n) rows') ∧ Fr (RF p lv) g h' := by
  have hb := X.b
  obtain ⟨la, lc, hlv⟩ := X.sl
  refine c47_ok (args := [_, _]) (by simp) ?_
  simp (disch := omega) only [dm_t, wA, wB, wL, wW, wY, Int.fdiv_eq_ediv_of_nonneg, Int.tdiv_eq_ediv_of_nonneg, Int.tmod_eq_emod_of_nonneg, chk_pos, decT, decF, br_pos, br_neg, wX, ↓reduceIte, Nat.reduceEqDiff, Nat.reduceAdd, Nat.reduceSub, Nat.reduceMul, Nat.reduceLeDiff, Nat.reduceLT, Nat.reduceMod, Nat.reduceDiv, Int.reduceToNat, Nat.min_eq_left, IntKind.bits, Int.reducePow, Int.reduceLT, Int.reduceLE, Int.reduceEq, Int.reduceNe, Int.reduceAdd, Int.reduceSub, and_self, reduceCtorEq, decide_eq_true_eq, decide_eq_false_iff_not, eq_self, implies_true, exists_const, Option.isNone_some, Option.isNone_none, Option.isSome_some, Option.isSome_none, Option.getD_some]
  refine (none_ok X).k ?_
  rintro _ _ ⟨rfl, rfl⟩
  have c0 : ∀ {S : Nat → Prop} {G first cs rows}, RO S h0 G p lv B first cs rows → cellAt G ⟨p, 0, none⟩ = some (.slice (some la) B lc) := fun Y => by rw [Y.c0, hlv]
  simp (disch := omega) only [dm_t, wA, wB, wL, wW, wY, Int.fdiv_eq_ediv_of_nonneg, Int.tdiv_eq_ediv_of_nonneg, Int.tmod_eq_emod_of_nonneg, chk_pos, decT, decF, br_pos, br_neg, wX, ↓reduceIte, Nat.reduceEqDiff, Nat.reduceAdd, Nat.reduceSub, Nat.reduceMul, Nat.reduceLeDiff, Nat.reduceLT, Nat.reduceMod, Nat.reduceDiv, Int.reduceToNat, Nat.min_eq_left, IntKind.bits, Int.reducePow, Int.reduceLT, Int.reduceLE, Int.reduceEq, Int.reduceNe, Int.reduceAdd, Int.reduceSub, and_self, reduceCtorEq, decide_eq_true_eq, decide_eq_false_iff_not, eq_self, implies_true, exists_const, Option.isNone_some, Option.isNone_none, Option.isSome_some, Option.isSome_none, Option.getD_some, X.c2]
  intro nb hnb
  generalize hG : hupd g nb _ = g1
  obtain ⟨e1, qn⟩ := new_ext hG hnb
  clear hG
  have nRF : ∀ y, RF p lv y → y ≠ nb := fun y hy hh => X.there hy (hh ▸ hnb)
  have X1 : RO (fun y => S y ∨ g y = none) h0 g1 p lv B first cs rows := (X.avoid fun y hy => hy).ext e1
  simp (disch := omega) only [dm_t, wA, wB, wL, wW, wY, Int.fdiv_eq_ediv_of_nonneg, Int.tdiv_eq_ediv_of_nonneg, Int.tmod_eq_emod_of_nonneg, chk_pos, decT, decF, br_pos, br_neg, wX, ↓reduceIte, Nat.reduceEqDiff, Nat.reduceAdd, Nat.reduceSub, Nat.reduceMul, Nat.reduceLeDiff, Nat.reduceLT, Nat.reduceMod, Nat.reduceDiv, Int.reduceToNat, Nat.min_eq_left, IntKind.bits, Int.reducePow, Int.reduceLT, Int.reduceLE, Int.reduceEq, Int.reduceNe, Int.reduceAdd, Int.reduceSub, and_self, reduceCtorEq, decide_eq_true_eq, decide_eq_false_iff_not, eq_self, implies_true, exists_const, Option.isNone_some, Option.isNone_none, Option.isSome_some, Option.isSome_none, Option.getD_some]
  refine vc_loop2 (fun vo vi G => ∃ (i : Nat) (rows' : List (List Value)), vi = .int .i64 (i : Int) ∧ i ≤ n ∧ RO (fun y => S y ∨ g y = none) h0 G p lv B ((first + i) % B) (cs.drop i) rows' ∧ OwL (fun y => y = p ∨ isAt lv y ∨ S y) callT (fun y => g1 y = none) G 64 vo (cs.take i) ∧ Fr (fun y => RF p lv y) g1 G) (fun _ vi _ => n - m1 vi) ?_ ?_
  · simp (disch := omega) only [dm_t, wA, wB, wL, wW, wY, Int.fdiv_eq_ediv_of_nonneg, Int.tdiv_eq_ediv_of_nonneg, Int.tmod_eq_emod_of_nonneg, chk_pos, decT, decF, br_pos, br_neg, wX, ↓reduceIte, Nat.reduceEqDiff, Nat.reduceAdd, Nat.reduceSub, Nat.reduceMul, Nat.reduceLeDiff, Nat.reduceLT, Nat.reduceMod, Nat.reduceDiv, Int.reduceToNat, Nat.min_eq_left, IntKind.bits, Int.reducePow, Int.reduceLT, Int.reduceLE, Int.reduceEq, Int.reduceNe, Int.reduceAdd, Int.reduceSub, and_self, reduceCtorEq, decide_eq_true_eq, decide_eq_false_iff_not, eq_self, implies_true, exists_const, Option.isNone_some, Option.isNone_none, Option.isSome_some, Option.isSome_none, Option.getD_some]
    refine ⟨0, rows, rfl, by omega, ?_, OwL.nil, Fr.refl _ _⟩
    rw [Nat.add_zero, Nat.mod_eq_of_lt hb.2.2.1, List.drop_zero]
    exact X1
  rintro vo _ G ⟨i, rows', rfl, hi, XG, ow, F⟩
  have hlt : (cs.take i).length = i := by rw [List.length_take]; omega
  obtain ⟨va, vn, hvo⟩ := ow.len
  rw [hlt] at hvo
  subst hvo
  by_cases hil : i < n
  · have hcl : i < cs.length := by omega
    have hsplit : cs.take (i + 1) = cs.take i ++ [cs[i]] := List.take_succ_eq_append_getElem hcl
    have hd : cs.drop i = cs[i] :: cs.drop (i + 1) := List.drop_eq_getElem_cons hcl
    rw [hd] at XG
    generalize hfi : (first + i) % B = fi at *
    have hfb := XG.b
    obtain ⟨b2, o2, i2, a2, n2, t2, st⟩ := XG.row hfb.2.2.1 .i64
    have hrowl : fi < rows'.length := by rw [XG.len]; exact hfb.2.2.1
    have hrep := XG.rep 0 cs[i] rows'[fi] rfl (by rw [Nat.add_zero, Nat.mod_eq_of_lt hfb.2.2.1]; exact List.getElem?_eq_getElem hrowl)
    obtain ⟨r, hrow, hcb, hrr⟩ := rep_call.1 hrep
    obtain ⟨ra, rn, rfl⟩ := hrr.len
    rw [hrow] at t2 hrep
    rw [hlv] at i2
    have back : ∀ {G2 : H}, Fr (fun y => RF p lv y) g1 G2 → (∀ y, RF p lv y → G2 y ≠ none) → ∀ y, G2 y = none → g1 y = none := fun f ht y hy => by
      have hnr : ¬ RF p lv y := fun h => ht y h hy
      cases hc : g1 y with
      | none => rfl
      | some o => rw [f y o hc hnr] at hy; cases hy
    simp (disch := omega) only [dm_t, wA, wB, wL, wW, wY, Int.fdiv_eq_ediv_of_nonneg, Int.tdiv_eq_ediv_of_nonneg, Int.tmod_eq_emod_of_nonneg, chk_pos, decT, decF, br_pos, br_neg, wX, ↓reduceIte, Nat.reduceEqDiff, Nat.reduceAdd, Nat.reduceSub, Nat.reduceMul, Nat.reduceLeDiff, Nat.reduceLT, Nat.reduceMod, Nat.reduceDiv, Int.reduceToNat, Nat.min_eq_left, IntKind.bits, Int.reducePow, Int.reduceLT, Int.reduceLE, Int.reduceEq, Int.reduceNe, Int.reduceAdd, Int.reduceSub, and_self, reduceCtorEq, decide_eq_true_eq, decide_eq_false_iff_not, eq_self, implies_true, exists_const, Option.isNone_some, Option.isNone_none, Option.isSome_some, Option.isSome_none, Option.getD_some, c0 XG, XG.c1, i2, t2]
    intro lb hlb
    have el := Ext.new hlb (.cells (cCs cs[i] (.slice ra cs[i].2.2.1.length rn)).toArray 64)
    have XL := XG.ext el
    simp (disch := omega) only [dm_t, wA, wB, wL, wW, wY, Int.fdiv_eq_ediv_of_nonneg, Int.tdiv_eq_ediv_of_nonneg, Int.tmod_eq_emod_of_nonneg, chk_pos, decT, decF, br_pos, br_neg, wX, ↓reduceIte, Nat.reduceEqDiff, Nat.reduceAdd, Nat.reduceSub, Nat.reduceMul, Nat.reduceLeDiff, Nat.reduceLT, Nat.reduceMod, Nat.reduceDiv, Int.reduceToNat, Nat.min_eq_left, IntKind.bits, Int.reducePow, Int.reduceLT, Int.reduceLE, Int.reduceEq, Int.reduceNe, Int.reduceAdd, Int.reduceSub, and_self, reduceCtorEq, decide_eq_true_eq, decide_eq_false_iff_not, eq_self, implies_true, exists_const, Option.isNone_some, Option.isNone_none, Option.isSome_some, Option.isSome_none, Option.getD_some, c0 XL, XL.c1, i2, cellsAt_ext el t2]
    refine OwL.push2 (V := fun _ => _) (bytes := 56) (z := #[.int .i64 0, .int .i64 0, .slice none 0 0, .int .i64 0, .int .i64 0]) (t := callT) (x := cs[i]) 5 rfl ow (back F fun y hy => XG.there hy) ?_ (by rfl) (by rw [hlt]; omega) (by rw [hlt]; omega) ?_ lb hlb
    · exact hrep.mono fun y _ _ hy => hy.elim (fun h => .inr (.inr (.inr (e1.bk (ow.own h))))) fun h => h.imp id fun h => h.imp id .inl
    intro _ vo2 G2 hb2 ow2 f2 hat
    have hO : ∀ y, (g1 y = none ∧ isAt (.slice va i vn) y) → ¬ RF p lv y := fun y hy h => X.there h (e1.bk hy.1)
    have X2 := XG.fr f2 (fun y hy => .inr (e1.bk hy.1)) hO
    have qn2 : G2 nb = some _ := f2 _ _ (F _ _ qn fun h => nRF _ h rfl) fun h => by have h9 := h.1; rw [qn] at h9; cases h9
    obtain ⟨v2a, v2n, rfl⟩ := ow2.len
    obtain ⟨b3, o3, i3, a3, n3, t3, st3⟩ := X2.row hfb.2.2.1 .i64
    rw [hlv] at i3
    simp (disch := omega) only [dm_t, wA, wB, wL, wW, wY, Int.fdiv_eq_ediv_of_nonneg, Int.tdiv_eq_ediv_of_nonneg, Int.tmod_eq_emod_of_nonneg, chk_pos, decT, decF, br_pos, br_neg, wX, ↓reduceIte, Nat.reduceEqDiff, Nat.reduceAdd, Nat.reduceSub, Nat.reduceMul, Nat.reduceLeDiff, Nat.reduceLT, Nat.reduceMod, Nat.reduceDiv, Int.reduceToNat, Nat.min_eq_left, IntKind.bits, Int.reducePow, Int.reduceLT, Int.reduceLE, Int.reduceEq, Int.reduceNe, Int.reduceAdd, Int.reduceSub, and_self, reduceCtorEq, decide_eq_true_eq, decide_eq_false_iff_not, eq_self, implies_true, exists_const, Option.isNone_some, Option.isNone_none, Option.isSome_some, Option.isSome_none, Option.getD_some, c0 X2, X2.c1, cellsAt_all qn2 5 rfl, i3]
    refine st3 zrow _ rfl rfl fun G3 o3' f3 => ?_
    have obj3 := f3 _ _ X2.obj fun h => n3 h.symm
    have hlen : (cs[i] :: cs.drop (i + 1)).length = cs.length - i := by rw [← hd, List.length_drop]
    have d1 : cellAt G3 ⟨p, 1, none⟩ = some (.int .i64 (fi : Int)) := by rw [cellAt_of obj3]; rfl
    have d0 : cellAt G3 ⟨p, 0, none⟩ = some (.slice (some la) B lc) := by rw [cellAt_of obj3, ← hlv]; rfl
    have hmod : ((1 : Int) + (fi : Int)) % (B : Int) = (((fi + 1) % B : Nat) : Int) := by rw [Int.natCast_emod, Int.natCast_add, Int.add_comm]; rfl
    have key : Ok Try.prog 45 #[.pointer (some ⟨p, 0, none⟩), .int .i64 1] G3 fun v h' => v = .int .i64 ((fi + 1) % B : Nat) ∧ G3 = h' := by
      refine c45_ok (args := [_, _]) (by simp) ?_
      simp (disch := omega) only [dm_t, wA, wB, wL, wW, wY, Int.fdiv_eq_ediv_of_nonneg, Int.tdiv_eq_ediv_of_nonneg, Int.tmod_eq_emod_of_nonneg, chk_pos, decT, decF, br_pos, br_neg, wX, ↓reduceIte, Nat.reduceEqDiff, Nat.reduceAdd, Nat.reduceSub, Nat.reduceMul, Nat.reduceLeDiff, Nat.reduceLT, Nat.reduceMod, Nat.reduceDiv, Int.reduceToNat, Nat.min_eq_left, IntKind.bits, Int.reducePow, Int.reduceLT, Int.reduceLE, Int.reduceEq, Int.reduceNe, Int.reduceAdd, Int.reduceSub, and_self, reduceCtorEq, decide_eq_true_eq, decide_eq_false_iff_not, eq_self, implies_true, exists_const, Option.isNone_some, Option.isNone_none, Option.isSome_some, Option.isSome_none, Option.getD_some, d1, d0, hmod]
    simp (disch := omega) only [dm_t, wA, wB, wL, wW, wY, Int.fdiv_eq_ediv_of_nonneg, Int.tdiv_eq_ediv_of_nonneg, Int.tmod_eq_emod_of_nonneg, chk_pos, decT, decF, br_pos, br_neg, wX, ↓reduceIte, Nat.reduceEqDiff, Nat.reduceAdd, Nat.reduceSub, Nat.reduceMul, Nat.reduceLeDiff, Nat.reduceLT, Nat.reduceMod, Nat.reduceDiv, Int.reduceToNat, Nat.min_eq_left, IntKind.bits, Int.reducePow, Int.reduceLT, Int.reduceLE, Int.reduceEq, Int.reduceNe, Int.reduceAdd, Int.reduceSub, and_self, reduceCtorEq, decide_eq_true_eq, decide_eq_false_iff_not, eq_self, implies_true, exists_const, Option.isNone_some, Option.isNone_none, Option.isSome_some, Option.isSome_none, Option.getD_some]
    refine key.k ?_
    rintro _ _ ⟨rfl, rfl⟩
    simp (disch := omega) only [dm_t, wA, wB, wL, wW, wY, Int.fdiv_eq_ediv_of_nonneg, Int.tdiv_eq_ediv_of_nonneg, Int.tmod_eq_emod_of_nonneg, chk_pos, decT, decF, br_pos, br_neg, wX, ↓reduceIte, Nat.reduceEqDiff, Nat.reduceAdd, Nat.reduceSub, Nat.reduceMul, Nat.reduceLeDiff, Nat.reduceLT, Nat.reduceMod, Nat.reduceDiv, Int.reduceToNat, Nat.min_eq_left, IntKind.bits, Int.reducePow, Int.reduceLT, Int.reduceLE, Int.reduceEq, Int.reduceNe, Int.reduceAdd, Int.reduceSub, and_self, reduceCtorEq, decide_eq_true_eq, decide_eq_false_iff_not, eq_self, implies_true, exists_const, Option.isNone_some, Option.isNone_none, Option.isSome_some, Option.isSome_none, Option.getD_some]
    rw [storeH_0 obj3]
    refine ⟨by simp, rfl, ?_⟩
    generalize hG : hupd G3 p _ = G4
    have f4 : Fr (fun y => y = p) G3 G4 := hG ▸ Fr.upd (S := fun y => y = p) rfl _
    have q4 : G4 p = some (.cells #[lv, .int .i64 ((fi + 1) % B : Nat), .int .i64 ((cs[i] :: cs.drop (i + 1)).length : Int)] 89) := by rw [← hG, hupd_same]; rfl
    clear hG
    have e2 : cellAt G4 ⟨p, 2, none⟩ = some (.int .i64 ((cs[i] :: cs.drop (i + 1)).length : Int)) := by rw [cellAt_of q4]; rfl
    simp (disch := omega) only [dm_t, wA, wB, wL, wW, wY, Int.fdiv_eq_ediv_of_nonneg, Int.tdiv_eq_ediv_of_nonneg, Int.tmod_eq_emod_of_nonneg, chk_pos, decT, decF, br_pos, br_neg, wX, ↓reduceIte, Nat.reduceEqDiff, Nat.reduceAdd, Nat.reduceSub, Nat.reduceMul, Nat.reduceLeDiff, Nat.reduceLT, Nat.reduceMod, Nat.reduceDiv, Int.reduceToNat, Nat.min_eq_left, IntKind.bits, Int.reducePow, Int.reduceLT, Int.reduceLE, Int.reduceEq, Int.reduceNe, Int.reduceAdd, Int.reduceSub, and_self, reduceCtorEq, decide_eq_true_eq, decide_eq_false_iff_not, eq_self, implies_true, exists_const, Option.isNone_some, Option.isNone_none, Option.isSome_some, Option.isSome_none, Option.getD_some, e2]
    rw [storeH_0 q4]
    refine ⟨by simp, rfl, ?_⟩
    generalize hG : hupd G4 p _ = G5
    have f5 : Fr (fun y => y = p) G4 G5 := hG ▸ Fr.upd (S := fun y => y = p) rfl _
    have q5 : G5 p = some (.cells #[lv, .int .i64 ((fi + 1) % B : Nat), .int .i64 ((cs.drop (i + 1)).length : Int)] 89) := by
      rw [← hG, hupd_same]
      have : ((cs[i] :: cs.drop (i + 1)).length : Int) - 1 = ((cs.drop (i + 1)).length : Int) := by rw [List.length_cons]; omega
      rw [← this]; rfl
    clear hG
    have F45 : Fr (fun y => y = p) G3 G5 := f4.trans f5
    have F25 : Fr (RF p lv) G2 G5 := (f3.mono fun y hy => .inr (hy ▸ a3)).trans (F45.mono fun y hy => .inl hy)
    have own5 := OwK.fr o3' F45 fun y hy ho _ => ho.2 hy
    have X5 := X2.drop1 F25 q5 own5
    have hfin : (fi + 1) % B = (first + (i + 1)) % B := by rw [← hfi, Nat.mod_add_mod]; congr 1
    rw [hfin] at X5
    have hnR : ∀ y, RF p lv y → ¬ g1 y = none := fun y hy hn => X.there hy (e1.bk hn)
    have ow5 : OwL (fun y => y = p ∨ isAt lv y ∨ S y) callT (fun y => g1 y = none) G5 64 _ _ := ow2.fr F25 (fun y hy => hy.elim .inl fun h => .inr (.inl h)) fun y hy ho => absurd ho (hnR y hy)
    rw [← hsplit] at ow5
    simp (disch := omega) only [dm_t, wA, wB, wL, wW, wY, Int.fdiv_eq_ediv_of_nonneg, Int.tdiv_eq_ediv_of_nonneg, Int.tmod_eq_emod_of_nonneg, chk_pos, decT, decF, br_pos, br_neg, wX, ↓reduceIte, Nat.reduceEqDiff, Nat.reduceAdd, Nat.reduceSub, Nat.reduceMul, Nat.reduceLeDiff, Nat.reduceLT, Nat.reduceMod, Nat.reduceDiv, Int.reduceToNat, Nat.min_eq_left, IntKind.bits, Int.reducePow, Int.reduceLT, Int.reduceLE, Int.reduceEq, Int.reduceNe, Int.reduceAdd, Int.reduceSub, and_self, reduceCtorEq, decide_eq_true_eq, decide_eq_false_iff_not, eq_self, implies_true, exists_const, Option.isNone_some, Option.isNone_none, Option.isSome_some, Option.isSome_none, Option.getD_some]
    refine ⟨⟨i + 1, _, by simp, by omega, X5, by simpa using ow5, ?_⟩, by simp [m1]; omega⟩
    intro y o hy hn
    have y1 := F y o hy hn
    have y2 := f2 y o y1 fun h => by have h9 := h.1; rw [hy] at h9; cases h9
    exact F25 y o y2 hn
  · obtain rfl : i = n := by omega
    simp (disch := omega) only [dm_t, wA, wB, wL, wW, wY, Int.fdiv_eq_ediv_of_nonneg, Int.tdiv_eq_ediv_of_nonneg, Int.tmod_eq_emod_of_nonneg, chk_pos, decT, decF, br_pos, br_neg, wX, ↓reduceIte, Nat.reduceEqDiff, Nat.reduceAdd, Nat.reduceSub, Nat.reduceMul, Nat.reduceLeDiff, Nat.reduceLT, Nat.reduceMod, Nat.reduceDiv, Int.reduceToNat, Nat.min_eq_left, IntKind.bits, Int.reducePow, Int.reduceLT, Int.reduceLE, Int.reduceEq, Int.reduceNe, Int.reduceAdd, Int.reduceSub, and_self, reduceCtorEq, decide_eq_true_eq, decide_eq_false_iff_not, eq_self, implies_true, exists_const, Option.isNone_some, Option.isNone_none, Option.isSome_some, Option.isSome_none, Option.getD_some]
    refine ⟨_, rfl, ow.mono fun y _ _ h => e1.bk h, ⟨_, XG.avoid fun y hy => .inl (.inl hy)⟩, ?_⟩
    exact (e1.mono fun _ h => h.elim).trans F
end
end Go.Proofs.Ytcebmbnofejlhaa.gq
