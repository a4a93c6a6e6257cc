/-
  history: Of, Ops, Check.
-/
import Derived.Test.YtmolhemoiplpfaaH8
namespace Go.Proofs.Ytmolhemoiplpfaa.hi
open Go.Proofs.Ytmolhemoiplpfaa
set_option linter.unusedVariables false
set_option linter.unusedSimpArgs false
/-! ### The plain side -/
def ofG (s : Hs) : List evT.D → Nat → Hs × Nat × Int
  | [], n => (s, n, 0)
  | x :: t, n => if turnE s x = 0 then ofG (putS s x) t (n + 1) else (s, n, turnE s x)
theorem ofG_ok {s s' : Hs} {l : List evT.D} {n m : Nat} : ofG s l n = (s', m, 0) → s'.evs = s.evs ++ l ∧ m = n + l.length := by
  induction l generalizing s n with
  | nil => intro h; simp only [ofG, Prod.mk.injEq] at h; obtain ⟨rfl, rfl, _⟩ := h; simp
  | cons x t ih =>
    intro h
    rw [ofG] at h
    by_cases hT : turnE s x = 0
    · rw [if_pos hT] at h
      obtain ⟨h1, h2⟩ := ih h
      rw [h1, h2]
      simp [putS]; omega
    · rw [if_neg hT] at h
      simp only [Prod.mk.injEq] at h
      exact absurd h.2.2 hT
theorem opsS_lim {s : Hs} {x : evT.D} (hs : ∀ o ∈ s.ops, limO o) (hx : limE x) : ∀ o ∈ opsS s x, limO o := by
  intro o ho
  unfold opsS at ho
  split at ho
  · rcases List.mem_append.1 ho with ho | ho
    · exact hs o ho
    · simp only [List.mem_singleton] at ho
      subst ho
      exact ⟨hx.1, limN⟩
  · split at ho
    · split at ho
      · rename_i o' ho'
        rcases List.mem_or_eq_of_mem_set ho with ho | rfl
        · exact hs o ho
        · exact ⟨(hs o' (List.mem_of_getElem? ho')).1, hx.2⟩
      · exact hs o ho
    · exact hs o ho
theorem ofG_lim {s : Hs} {l : List evT.D} {n : Nat} (hs : ∀ o ∈ s.ops, limO o) (hl : ∀ x ∈ l, limE x) : ∀ o ∈ (ofG s l n).1.ops, limO o := by
  induction l generalizing s n with
  | nil => exact hs
  | cons x t ih =>
    rw [ofG]
    split
    · exact ih (opsS_lim hs (hl x (by simp))) fun y hy => hl y (by simp [hy])
    · exact hs
/-- What Of tells. -/
def OfR (h : H) (l : List evT.D) (v : Value) (h' : H) : Prop :=
  Ext h h' ∧ (((ofG Hs.new l 0).2.2 = 0 ∧ ∃ p ve vo, v = .tuple #[.pointer (some ⟨p, 0, none⟩), .int .i64 (l.length : Int), .int .i64 0] ∧ HX h h' p ve vo (ofG Hs.new l 0).1) ∨
    ((ofG Hs.new l 0).2.2 ≠ 0 ∧ v = .tuple #[.pointer none, .int .i64 ((ofG Hs.new l 0).2.1 : Int), .int .i64 (ofG Hs.new l 0).2.2]))
theorem Of_ok {S : Nat → Prop} {h : H} {sv : Value} {l : List evT.D} (hs : RepL S evT h sv l) (hn : l.length ≤ 60000) (hl : ∀ x ∈ l, limE x) : Ok Try.prog 12 #[sv] h (OfR h l) := by
  refine c12_ok (args := [_]) (by simp) ?_
  obtain ⟨sa, sn, rfl⟩ := hs.len
  simp (disch := omega) only [dm_t, wA, wB, wL, wW, wY, Int.fdiv_eq_ediv_of_nonneg, Int.tdiv_eq_ediv_of_nonneg, Int.tmod_eq_emod_of_nonneg, chk_pos, decT, decF, br_pos, br_neg, wX, ↓reduceIte, Nat.reduceEqDiff, Nat.reduceAdd, Nat.reduceSub, Nat.reduceMul, Nat.reduceLeDiff, Nat.reduceLT, Nat.reduceMod, Nat.reduceDiv, Int.reduceToNat, Nat.min_eq_left, IntKind.bits, Int.reducePow, Int.reduceLT, Int.reduceLE, Int.reduceEq, Int.reduceNe, Int.reduceAdd, Int.reduceSub, and_self, reduceCtorEq, decide_eq_true_eq, decide_eq_false_iff_not, eq_self, implies_true, exists_const, Option.isNone_some, Option.isNone_none, Option.isSome_some, Option.isSome_none, Option.getD_some]
  refine (New_ok h).k ?_
  rintro _ h1 ⟨p, rfl, hp, X1, e1⟩
  simp (disch := omega) only [dm_t, wA, wB, wL, wW, wY, Int.fdiv_eq_ediv_of_nonneg, Int.tdiv_eq_ediv_of_nonneg, Int.tmod_eq_emod_of_nonneg, chk_pos, decT, decF, br_pos, br_neg, wX, ↓reduceIte, Nat.reduceEqDiff, Nat.reduceAdd, Nat.reduceSub, Nat.reduceMul, Nat.reduceLeDiff, Nat.reduceLT, Nat.reduceMod, Nat.reduceDiv, Int.reduceToNat, Nat.min_eq_left, IntKind.bits, Int.reducePow, Int.reduceLT, Int.reduceLE, Int.reduceEq, Int.reduceNe, Int.reduceAdd, Int.reduceSub, and_self, reduceCtorEq, decide_eq_true_eq, decide_eq_false_iff_not, eq_self, implies_true, exists_const, Option.isNone_some, Option.isNone_none, Option.isSome_some, Option.isSome_none, Option.getD_some]
  refine vc_loop3 (fun va vw vi g => ∃ (i : Nat) (s : Hs) (ve vo : Value), va = .int .i64 (l.length : Int) ∧ vw = .int .i64 0 ∧ vi = .int .i64 (i : Int) ∧ i ≤ l.length ∧ HX h g p ve vo s ∧ ofG s (l.drop i) i = ofG Hs.new l 0 ∧ Ext h g) (fun _ _ vi _ => l.length - m1 vi) ?_ ?_
  · simp (disch := omega) only [dm_t, wA, wB, wL, wW, wY, Int.fdiv_eq_ediv_of_nonneg, Int.tdiv_eq_ediv_of_nonneg, Int.tmod_eq_emod_of_nonneg, chk_pos, decT, decF, br_pos, br_neg, wX, ↓reduceIte, Nat.reduceEqDiff, Nat.reduceAdd, Nat.reduceSub, Nat.reduceMul, Nat.reduceLeDiff, Nat.reduceLT, Nat.reduceMod, Nat.reduceDiv, Int.reduceToNat, Nat.min_eq_left, IntKind.bits, Int.reducePow, Int.reduceLT, Int.reduceLE, Int.reduceEq, Int.reduceNe, Int.reduceAdd, Int.reduceSub, and_self, reduceCtorEq, decide_eq_true_eq, decide_eq_false_iff_not, eq_self, implies_true, exists_const, Option.isNone_some, Option.isNone_none, Option.isSome_some, Option.isSome_none, Option.getD_some]
    exact ⟨0, Hs.new, _, _, rfl, by omega, X1, by simp, e1⟩
  rintro _ _ _ g ⟨i, s, ve, vo, rfl, rfl, rfl, hi, X, hof, e⟩
  by_cases hil : i < l.length
  · rw [List.drop_eq_getElem_cons hil, ofG] at hof
    have hki := hl l[i] (List.getElem_mem hil)
    simp (disch := omega) only [dm_t, wA, wB, wL, wW, wY, Int.fdiv_eq_ediv_of_nonneg, Int.tdiv_eq_ediv_of_nonneg, Int.tmod_eq_emod_of_nonneg, chk_pos, decT, decF, br_pos, br_neg, wX, ↓reduceIte, Nat.reduceEqDiff, Nat.reduceAdd, Nat.reduceSub, Nat.reduceMul, Nat.reduceLeDiff, Nat.reduceLT, Nat.reduceMod, Nat.reduceDiv, Int.reduceToNat, Nat.min_eq_left, IntKind.bits, Int.reducePow, Int.reduceLT, Int.reduceLE, Int.reduceEq, Int.reduceNe, Int.reduceAdd, Int.reduceSub, and_self, reduceCtorEq, decide_eq_true_eq, decide_eq_false_iff_not, eq_self, implies_true, exists_const, Option.isNone_some, Option.isNone_none, Option.isSome_some, Option.isSome_none, Option.getD_some]
    refine (hs.ext e).at (by rfl) i rfl hil ?_
    intro pb po cs g1 g2 g3
    simp (disch := omega) only [dm_t, wA, wB, wL, wW, wY, Int.fdiv_eq_ediv_of_nonneg, Int.tdiv_eq_ediv_of_nonneg, Int.tmod_eq_emod_of_nonneg, chk_pos, decT, decF, br_pos, br_neg, wX, ↓reduceIte, Nat.reduceEqDiff, Nat.reduceAdd, Nat.reduceSub, Nat.reduceMul, Nat.reduceLeDiff, Nat.reduceLT, Nat.reduceMod, Nat.reduceDiv, Int.reduceToNat, Nat.min_eq_left, IntKind.bits, Int.reducePow, Int.reduceLT, Int.reduceLE, Int.reduceEq, Int.reduceNe, Int.reduceAdd, Int.reduceSub, and_self, reduceCtorEq, decide_eq_true_eq, decide_eq_false_iff_not, eq_self, implies_true, exists_const, Option.isNone_some, Option.isNone_none, Option.isSome_some, Option.isSome_none, Option.getD_some, g1]
    intro c hc
    simp (disch := omega) only [dm_t, wA, wB, wL, wW, wY, Int.fdiv_eq_ediv_of_nonneg, Int.tdiv_eq_ediv_of_nonneg, Int.tmod_eq_emod_of_nonneg, chk_pos, decT, decF, br_pos, br_neg, wX, ↓reduceIte, Nat.reduceEqDiff, Nat.reduceAdd, Nat.reduceSub, Nat.reduceMul, Nat.reduceLeDiff, Nat.reduceLT, Nat.reduceMod, Nat.reduceDiv, Int.reduceToNat, Nat.min_eq_left, IntKind.bits, Int.reducePow, Int.reduceLT, Int.reduceLE, Int.reduceEq, Int.reduceNe, Int.reduceAdd, Int.reduceSub, and_self, reduceCtorEq, decide_eq_true_eq, decide_eq_false_iff_not, eq_self, implies_true, exists_const, Option.isNone_some, Option.isNone_none, Option.isSome_some, Option.isSome_none, Option.getD_some]
    refine stn_new g3.len (by rfl) g3.cells ?_
    generalize hG : hupd _ c _ = G1
    obtain ⟨e', qc⟩ := new_ext hG hc
    clear hG
    have kc : cellsAt G1 ⟨c, 0, none⟩ 10 = some cs.toArray := cellsAt_all qc 10 g3.len
    simp (disch := omega) only [dm_t, wA, wB, wL, wW, wY, Int.fdiv_eq_ediv_of_nonneg, Int.tdiv_eq_ediv_of_nonneg, Int.tmod_eq_emod_of_nonneg, chk_pos, decT, decF, br_pos, br_neg, wX, ↓reduceIte, Nat.reduceEqDiff, Nat.reduceAdd, Nat.reduceSub, Nat.reduceMul, Nat.reduceLeDiff, Nat.reduceLT, Nat.reduceMod, Nat.reduceDiv, Int.reduceToNat, Nat.min_eq_left, IntKind.bits, Int.reducePow, Int.reduceLT, Int.reduceLE, Int.reduceEq, Int.reduceNe, Int.reduceAdd, Int.reduceSub, and_self, reduceCtorEq, decide_eq_true_eq, decide_eq_false_iff_not, eq_self, implies_true, exists_const, Option.isNone_some, Option.isNone_none, Option.isSome_some, Option.isSome_none, Option.getD_some, kc]
    refine (put_ok (X.ext e') (e.trans e') (g3.ext e') hki.1 hki.2).k ?_
    rintro _ G2 ⟨rfl, ⟨ve2, vo2, X2⟩, f2⟩
    have E2 : Ext h G2 := Ext.step' (e.trans e') f2 fun y hy => (X.ext e').own hy
    by_cases hT : turnE s l[i] = 0
    · rw [if_pos hT] at hof X2
      rw [hT]
      simp (disch := omega) only [dm_t, wA, wB, wL, wW, wY, Int.fdiv_eq_ediv_of_nonneg, Int.tdiv_eq_ediv_of_nonneg, Int.tmod_eq_emod_of_nonneg, chk_pos, decT, decF, br_pos, br_neg, wX, ↓reduceIte, Nat.reduceEqDiff, Nat.reduceAdd, Nat.reduceSub, Nat.reduceMul, Nat.reduceLeDiff, Nat.reduceLT, Nat.reduceMod, Nat.reduceDiv, Int.reduceToNat, Nat.min_eq_left, IntKind.bits, Int.reducePow, Int.reduceLT, Int.reduceLE, Int.reduceEq, Int.reduceNe, Int.reduceAdd, Int.reduceSub, and_self, reduceCtorEq, decide_eq_true_eq, decide_eq_false_iff_not, eq_self, implies_true, exists_const, Option.isNone_some, Option.isNone_none, Option.isSome_some, Option.isSome_none, Option.getD_some]
      exact ⟨⟨i + 1, putS s l[i], ve2, vo2, by simp, by omega, X2, hof, E2⟩, by simp [m1]; omega⟩
    · rw [if_neg hT] at hof
      simp (disch := omega) only [dm_t, wA, wB, wL, wW, wY, Int.fdiv_eq_ediv_of_nonneg, Int.tdiv_eq_ediv_of_nonneg, Int.tmod_eq_emod_of_nonneg, chk_pos, decT, decF, br_pos, br_neg, wX, ↓reduceIte, Nat.reduceEqDiff, Nat.reduceAdd, Nat.reduceSub, Nat.reduceMul, Nat.reduceLeDiff, Nat.reduceLT, Nat.reduceMod, Nat.reduceDiv, Int.reduceToNat, Nat.min_eq_left, IntKind.bits, Int.reducePow, Int.reduceLT, Int.reduceLE, Int.reduceEq, Int.reduceNe, Int.reduceAdd, Int.reduceSub, and_self, reduceCtorEq, decide_eq_true_eq, decide_eq_false_iff_not, eq_self, implies_true, exists_const, Option.isNone_some, Option.isNone_none, Option.isSome_some, Option.isSome_none, Option.getD_some]
      refine ⟨E2, .inr ⟨by rw [← hof]; exact hT, by rw [← hof]⟩⟩
  · obtain rfl : i = l.length := by omega
    rw [List.drop_eq_nil_of_le (by omega), ofG] at hof
    simp (disch := omega) only [dm_t, wA, wB, wL, wW, wY, Int.fdiv_eq_ediv_of_nonneg, Int.tdiv_eq_ediv_of_nonneg, Int.tmod_eq_emod_of_nonneg, chk_pos, decT, decF, br_pos, br_neg, wX, ↓reduceIte, Nat.reduceEqDiff, Nat.reduceAdd, Nat.reduceSub, Nat.reduceMul, Nat.reduceLeDiff, Nat.reduceLT, Nat.reduceMod, Nat.reduceDiv, Int.reduceToNat, Nat.min_eq_left, IntKind.bits, Int.reducePow, Int.reduceLT, Int.reduceLE, Int.reduceEq, Int.reduceNe, Int.reduceAdd, Int.reduceSub, and_self, reduceCtorEq, decide_eq_true_eq, decide_eq_false_iff_not, eq_self, implies_true, exists_const, Option.isNone_some, Option.isNone_none, Option.isSome_some, Option.isSome_none, Option.getD_some]
    exact ⟨e, .inl ⟨by rw [← hof], p, ve, vo, rfl, by rw [← hof]; exact X⟩⟩
/-- What Ops tells. -/
def OpsR (h : H) (l : List evT.D) (v : Value) (h' : H) : Prop :=
  Ext h h' ∧ (((ofG Hs.new l 0).2.2 = 0 ∧ ∃ vo, v = .tuple #[vo, .int .i64 0] ∧ OwL (fun y => h y ≠ none) opT (fun y => h y = none) h' 43 vo (ofG Hs.new l 0).1.ops) ∨
    ((ofG Hs.new l 0).2.2 ≠ 0 ∧ v = .tuple #[.slice none 0 0, .int .i64 (ofG Hs.new l 0).2.2]))
theorem ofG_len {l : List evT.D} (h : (ofG Hs.new l 0).2.2 = 0) : (ofG Hs.new l 0).1.evs = l ∧ (ofG Hs.new l 0).2.1 = l.length := by
  have := ofG_ok (s := Hs.new) (l := l) (n := 0) (s' := (ofG Hs.new l 0).1) (m := (ofG Hs.new l 0).2.1) (by rw [← h])
  simpa [Hs.new] using this
theorem OpsF_ok {S : Nat → Prop} {h : H} {sv : Value} {l : List evT.D} (hs : RepL S evT h sv l) (hn : l.length ≤ 60000) (hl : ∀ x ∈ l, limE x) : Ok Try.prog 9 #[sv] h (OpsR h l) := by
  refine c9_ok (args := [_]) (by simp) ?_
  obtain ⟨sa, sn, rfl⟩ := hs.len
  simp (disch := omega) only [dm_t, wA, wB, wL, wW, wY, Int.fdiv_eq_ediv_of_nonneg, Int.tdiv_eq_ediv_of_nonneg, Int.tmod_eq_emod_of_nonneg, chk_pos, decT, decF, br_pos, br_neg, wX, ↓reduceIte, Nat.reduceEqDiff, Nat.reduceAdd, Nat.reduceSub, Nat.reduceMul, Nat.reduceLeDiff, Nat.reduceLT, Nat.reduceMod, Nat.reduceDiv, Int.reduceToNat, Nat.min_eq_left, IntKind.bits, Int.reducePow, Int.reduceLT, Int.reduceLE, Int.reduceEq, Int.reduceNe, Int.reduceAdd, Int.reduceSub, and_self, reduceCtorEq, decide_eq_true_eq, decide_eq_false_iff_not, eq_self, implies_true, exists_const, Option.isNone_some, Option.isNone_none, Option.isSome_some, Option.isSome_none, Option.getD_some]
  refine (Of_ok hs hn hl).k ?_
  rintro v h1 ⟨e1, hv⟩
  rcases hv with ⟨h0, p, ve, vo, rfl, X⟩ | ⟨h0, rfl⟩
  · simp (disch := omega) only [dm_t, wA, wB, wL, wW, wY, Int.fdiv_eq_ediv_of_nonneg, Int.tdiv_eq_ediv_of_nonneg, Int.tmod_eq_emod_of_nonneg, chk_pos, decT, decF, br_pos, br_neg, wX, ↓reduceIte, Nat.reduceEqDiff, Nat.reduceAdd, Nat.reduceSub, Nat.reduceMul, Nat.reduceLeDiff, Nat.reduceLT, Nat.reduceMod, Nat.reduceDiv, Int.reduceToNat, Nat.min_eq_left, IntKind.bits, Int.reducePow, Int.reduceLT, Int.reduceLE, Int.reduceEq, Int.reduceNe, Int.reduceAdd, Int.reduceSub, and_self, reduceCtorEq, decide_eq_true_eq, decide_eq_false_iff_not, eq_self, implies_true, exists_const, Option.isNone_some, Option.isNone_none, Option.isSome_some, Option.isSome_none, Option.getD_some]
    have hevs := (ofG_len h0).1
    have hle := X.le
    rw [hevs] at hle
    refine (Ops_ok X (by omega) (ofG_lim (by simp [Hs.new]) hl)).k ?_
    rintro w h2 ⟨o2, e2⟩
    simp (disch := omega) only [dm_t, wA, wB, wL, wW, wY, Int.fdiv_eq_ediv_of_nonneg, Int.tdiv_eq_ediv_of_nonneg, Int.tmod_eq_emod_of_nonneg, chk_pos, decT, decF, br_pos, br_neg, wX, ↓reduceIte, Nat.reduceEqDiff, Nat.reduceAdd, Nat.reduceSub, Nat.reduceMul, Nat.reduceLeDiff, Nat.reduceLT, Nat.reduceMod, Nat.reduceDiv, Int.reduceToNat, Nat.min_eq_left, IntKind.bits, Int.reducePow, Int.reduceLT, Int.reduceLE, Int.reduceEq, Int.reduceNe, Int.reduceAdd, Int.reduceSub, and_self, reduceCtorEq, decide_eq_true_eq, decide_eq_false_iff_not, eq_self, implies_true, exists_const, Option.isNone_some, Option.isNone_none, Option.isSome_some, Option.isSome_none, Option.getD_some]
    exact ⟨e1.trans e2, .inl ⟨h0, w, rfl, (o2.mono fun y _ _ hy => e1.bk hy).subS fun y hy hn => hy (e1.bk hn)⟩⟩
  · simp (disch := omega) only [dm_t, wA, wB, wL, wW, wY, Int.fdiv_eq_ediv_of_nonneg, Int.tdiv_eq_ediv_of_nonneg, Int.tmod_eq_emod_of_nonneg, chk_pos, decT, decF, br_pos, br_neg, wX, ↓reduceIte, Nat.reduceEqDiff, Nat.reduceAdd, Nat.reduceSub, Nat.reduceMul, Nat.reduceLeDiff, Nat.reduceLT, Nat.reduceMod, Nat.reduceDiv, Int.reduceToNat, Nat.min_eq_left, IntKind.bits, Int.reducePow, Int.reduceLT, Int.reduceLE, Int.reduceEq, Int.reduceNe, Int.reduceAdd, Int.reduceSub, and_self, reduceCtorEq, decide_eq_true_eq, decide_eq_false_iff_not, eq_self, implies_true, exists_const, Option.isNone_some, Option.isNone_none, Option.isSome_some, Option.isSome_none, Option.getD_some]
    exact ⟨e1, .inr ⟨h0, rfl⟩⟩
theorem Check_ok {S : Nat → Prop} {h : H} {sv : Value} {l : List evT.D} (hs : RepL S evT h sv l) (hn : l.length ≤ 60000) (hl : ∀ x ∈ l, limE x) : Ok Try.prog 10 #[sv] h fun v h' => v = .tuple #[.int .i64 ((ofG Hs.new l 0).2.1 : Int), .int .i64 (ofG Hs.new l 0).2.2] ∧ Ext h h' := by
  refine c10_ok (args := [_]) (by simp) ?_
  obtain ⟨sa, sn, rfl⟩ := hs.len
  simp (disch := omega) only [dm_t, wA, wB, wL, wW, wY, Int.fdiv_eq_ediv_of_nonneg, Int.tdiv_eq_ediv_of_nonneg, Int.tmod_eq_emod_of_nonneg, chk_pos, decT, decF, br_pos, br_neg, wX, ↓reduceIte, Nat.reduceEqDiff, Nat.reduceAdd, Nat.reduceSub, Nat.reduceMul, Nat.reduceLeDiff, Nat.reduceLT, Nat.reduceMod, Nat.reduceDiv, Int.reduceToNat, Nat.min_eq_left, IntKind.bits, Int.reducePow, Int.reduceLT, Int.reduceLE, Int.reduceEq, Int.reduceNe, Int.reduceAdd, Int.reduceSub, and_self, reduceCtorEq, decide_eq_true_eq, decide_eq_false_iff_not, eq_self, implies_true, exists_const, Option.isNone_some, Option.isNone_none, Option.isSome_some, Option.isSome_none, Option.getD_some]
  refine (Of_ok hs hn hl).k ?_
  rintro v h1 ⟨e1, hv⟩
  rcases hv with ⟨h0, p, ve, vo, rfl, X⟩ | ⟨h0, rfl⟩
  · simp (disch := omega) only [dm_t, wA, wB, wL, wW, wY, Int.fdiv_eq_ediv_of_nonneg, Int.tdiv_eq_ediv_of_nonneg, Int.tmod_eq_emod_of_nonneg, chk_pos, decT, decF, br_pos, br_neg, wX, ↓reduceIte, Nat.reduceEqDiff, Nat.reduceAdd, Nat.reduceSub, Nat.reduceMul, Nat.reduceLeDiff, Nat.reduceLT, Nat.reduceMod, Nat.reduceDiv, Int.reduceToNat, Nat.min_eq_left, IntKind.bits, Int.reducePow, Int.reduceLT, Int.reduceLE, Int.reduceEq, Int.reduceNe, Int.reduceAdd, Int.reduceSub, and_self, reduceCtorEq, decide_eq_true_eq, decide_eq_false_iff_not, eq_self, implies_true, exists_const, Option.isNone_some, Option.isNone_none, Option.isSome_some, Option.isSome_none, Option.getD_some]
    exact ⟨by rw [h0, (ofG_len h0).2], e1⟩
  · simp (disch := omega) only [dm_t, wA, wB, wL, wW, wY, Int.fdiv_eq_ediv_of_nonneg, Int.tdiv_eq_ediv_of_nonneg, Int.tmod_eq_emod_of_nonneg, chk_pos, decT, decF, br_pos, br_neg, wX, ↓reduceIte, Nat.reduceEqDiff, Nat.reduceAdd, Nat.reduceSub, Nat.reduceMul, Nat.reduceLeDiff, Nat.reduceLT, Nat.reduceMod, Nat.reduceDiv, Int.reduceToNat, Nat.min_eq_left, IntKind.bits, Int.reducePow, Int.reduceLT, Int.reduceLE, Int.reduceEq, Int.reduceNe, Int.reduceAdd, Int.reduceSub, and_self, reduceCtorEq, decide_eq_true_eq, decide_eq_false_iff_not, eq_self, implies_true, exists_const, Option.isNone_some, Option.isNone_none, Option.isSome_some, Option.isSome_none, Option.getD_some]
    exact e1
end Go.Proofs.Ytmolhemoiplpfaa.hi
