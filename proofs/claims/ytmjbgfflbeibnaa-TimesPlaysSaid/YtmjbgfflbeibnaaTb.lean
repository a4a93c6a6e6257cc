/-
  times: the object of an index; New, Base, End, top, first, Find, Until.
-/
import Derived.Test.YtmjbgfflbeibnaaTa
import Derived.Test.YtmjbgfflbeibnaaKE
namespace Go.Proofs.Ytmjbgfflbeibnaa.ti
open Go.Proofs.Ytmjbgfflbeibnaa
set_option linter.unusedVariables false
set_option linter.unusedSimpArgs false
abbrev Ri := Int × Int
abbrev rrow (r : Ri) : List Value := [.int .i64 r.1, .int .i64 r.2]
abbrev rrows (l : List Ri) : List (List Value) := l.map rrow
def inI (n : Int) : Prop := -9223372036854775808 ≤ n ∧ n ≤ 9223372036854775807
/-- What an index is. -/
structure WF (b e : Int) (l : List Ri) : Prop where
  b0 : 0 ≤ b ∧ b ≤ 9007199254740992
  be : b ≤ e ∧ e ≤ 9007199254740993
  len : l.length ≤ 65536
  nil : l = [] ↔ e = b
  rng : ∀ r ∈ l, 0 ≤ r.2 ∧ r.2 ≤ 9007199254740992 ∧ b ≤ r.1 ∧ r.1 < e
  srt : l.Pairwise fun r s => r.1 < s.1 ∧ r.2 < s.2
  fst : ∀ r, l[0]? = some r → r.1 = b
structure XI (S : Nat → Prop) (g : H) (p : Nat) (b e : Int) (v : Value) (l : List Ri) : Prop where
  obj : g p = some (.cells #[.int .i64 b, .int .i64 e, v, .bool true] 72)
  lst : SlK 2 S g v (rrows l)
  wf : WF b e l
section
variable {S T : Nat → Prop} {g g' : H} {p : Nat} {b e : Int} {v : Value} {l : List Ri}
theorem XI.fr (X : XI S g p b e v l) (f : Fr T g g') (hT : ∀ y, T y → S y) (hp : ¬ T p) : XI S g' p b e v l := ⟨f _ _ X.obj hp, SlK.fr X.lst f hT, X.wf⟩
theorem XI.ext (X : XI S g p b e v l) (f : Ext g g') : XI S g' p b e v l := X.fr f (fun _ h => h.elim) fun h => h
theorem XI.mono (X : XI S g p b e v l) (hS : ∀ x o, g x = some o → T x → S x) : XI T g p b e v l := ⟨X.obj, SlK.mono X.lst hS, X.wf⟩
theorem XI.avoid (X : XI S g p b e v l) (hS : ∀ y, T y → S y ∨ g y = none) : XI T g p b e v l := X.mono fun x o hx hT => (hS x hT).elim id fun hn => by rw [hn] at hx; cases hx
theorem XI.slen (X : XI S g p b e v l) : ∃ a c, v = .slice a l.length c := by
  obtain ⟨a, c, h⟩ := SlK.len X.lst
  exact ⟨a, c, by rw [h]; simp⟩
theorem XI.c0 (X : XI S g p b e v l) : cellAt g ⟨p, 0, none⟩ = some (.int .i64 b) := by rw [cellAt_of X.obj]; rfl
theorem XI.c1 (X : XI S g p b e v l) : cellAt g ⟨p, 1, none⟩ = some (.int .i64 e) := by rw [cellAt_of X.obj]; rfl
theorem XI.c2 (X : XI S g p b e v l) : cellAt g ⟨p, 2, none⟩ = some v := by rw [cellAt_of X.obj]; rfl
theorem XI.c3 (X : XI S g p b e v l) : cellAt g ⟨p, 3, none⟩ = some (.bool true) := by rw [cellAt_of X.obj]; rfl
/-- A rise, by its place. -/
theorem rl_at {v : Value} (h : SlK 2 S g v (rrows l)) {i : Nat} (hi : i < l.length) (kk : IntKind) : ∃ b o, idxV1 2 v (.int kk (i : Int)) = some (.pointer (some ⟨b, o, none⟩)) ∧ cellAt g ⟨b, o, none⟩ = some (.int .i64 l[i].1) ∧ cellAt g ⟨b, o + 1, none⟩ = some (.int .i64 l[i].2) ∧ cellsAt g ⟨b, o, none⟩ 2 = some #[.int .i64 l[i].1, .int .i64 l[i].2] := by
  obtain ⟨b, o, h1, h2, h3, h4⟩ := SlK.row h (i := i) (by simpa using hi) kk
  have hr : (rrows l)[i]'(by simpa using hi) = rrow l[i] := by simp
  have a0 := h3 0 (by omega)
  have a1 := h3 1 (by omega)
  rw [hr] at a0 a1 h4
  exact ⟨b, o, h1, a0, a1, h4⟩
theorem none_ok (X : XI S g p b e v l) : Ok Try.prog 39 #[.pointer (some ⟨p, 0, none⟩)] g fun v h' => v = .bool false ∧ g = h' := by
  refine c39_ok (args := [_]) (by simp) ?_
  simp (disch := omega) only [dm_t, wZ, ↓reduceIte, Nat.reduceEqDiff, Nat.reduceAdd, Nat.reduceSub, Nat.reduceMul, Nat.reduceLeDiff, Nat.reduceLT, Nat.reduceMod, Nat.reduceDiv, Int.reduceToNat, Nat.min_eq_left, IntKind.bits, Int.reducePow, Int.reduceLT, Int.reduceLE, Int.reduceEq, Int.reduceNe, Int.reduceAdd, Int.reduceSub, reduceCtorEq, eq_self, implies_true, exists_const, Option.isNone_some, Option.isNone_none, Option.isSome_some, Option.isSome_none, Option.getD_some, X.c3]
def topP (l : List Ri) : Int := match l.getLast? with | none => -1 | some r => r.2
theorem topP_last (h : 0 < l.length) : topP l = (l[l.length - 1]'(by omega)).2 := by
  unfold topP
  rw [List.getLast?_eq_getElem?, List.getElem?_eq_getElem (by omega)]
theorem top_ok (X : XI S g p b e v l) : Ok Try.prog 34 #[.pointer (some ⟨p, 0, none⟩)] g fun v h' => v = .int .i64 (topP l) ∧ g = h' := by
  obtain ⟨a, c, rfl⟩ := X.slen
  have hl := X.wf.len
  refine c34_ok (args := [_]) (by simp) ?_
  by_cases h0 : l.length = 0
  · have : l = [] := List.length_eq_zero_iff.1 h0
    subst this
    simp (disch := omega) only [dm_t, wZ, ↓reduceIte, Nat.reduceEqDiff, Nat.reduceAdd, Nat.reduceSub, Nat.reduceMul, Nat.reduceLeDiff, Nat.reduceLT, Nat.reduceMod, Nat.reduceDiv, Int.reduceToNat, Nat.min_eq_left, IntKind.bits, Int.reducePow, Int.reduceLT, Int.reduceLE, Int.reduceEq, Int.reduceNe, Int.reduceAdd, Int.reduceSub, reduceCtorEq, eq_self, implies_true, exists_const, Option.isNone_some, Option.isNone_none, Option.isSome_some, Option.isSome_none, Option.getD_some, X.c2]
    rfl
  · obtain ⟨pb, po, i1, -, t1, -⟩ := rl_at X.lst (i := l.length - 1) (by omega) .i64
    have hi : ((l.length - 1 : Nat) : Int) = (l.length : Int) - 1 := by omega
    rw [hi] at i1
    simp (disch := omega) only [dm_t, wZ, ↓reduceIte, Nat.reduceEqDiff, Nat.reduceAdd, Nat.reduceSub, Nat.reduceMul, Nat.reduceLeDiff, Nat.reduceLT, Nat.reduceMod, Nat.reduceDiv, Int.reduceToNat, Nat.min_eq_left, IntKind.bits, Int.reducePow, Int.reduceLT, Int.reduceLE, Int.reduceEq, Int.reduceNe, Int.reduceAdd, Int.reduceSub, reduceCtorEq, eq_self, implies_true, exists_const, Option.isNone_some, Option.isNone_none, Option.isSome_some, Option.isSome_none, Option.getD_some, X.c2, i1, t1]
    rw [topP_last (by omega)]
theorem New_bad {g : H} {n : Int} (h : n < 0 ∨ 9007199254740992 < n) : Ok Try.prog 14 #[.int .i64 n] g fun v h' => v = .tuple #[.pointer none, .int .i64 2] ∧ g = h' := by
  refine c14_ok (args := [_]) (by simp) ?_
  by_cases h1 : n < 0
  · simp (disch := omega) only [dm_t, wZ, ↓reduceIte, Nat.reduceEqDiff, Nat.reduceAdd, Nat.reduceSub, Nat.reduceMul, Nat.reduceLeDiff, Nat.reduceLT, Nat.reduceMod, Nat.reduceDiv, Int.reduceToNat, Nat.min_eq_left, IntKind.bits, Int.reducePow, Int.reduceLT, Int.reduceLE, Int.reduceEq, Int.reduceNe, Int.reduceAdd, Int.reduceSub, reduceCtorEq, eq_self, implies_true, exists_const, Option.isNone_some, Option.isNone_none, Option.isSome_some, Option.isSome_none, Option.getD_some]
  · have h2 : 9007199254740992 < n := h.resolve_left h1
    simp (disch := omega) only [dm_t, wZ, ↓reduceIte, Nat.reduceEqDiff, Nat.reduceAdd, Nat.reduceSub, Nat.reduceMul, Nat.reduceLeDiff, Nat.reduceLT, Nat.reduceMod, Nat.reduceDiv, Int.reduceToNat, Nat.min_eq_left, IntKind.bits, Int.reducePow, Int.reduceLT, Int.reduceLE, Int.reduceEq, Int.reduceNe, Int.reduceAdd, Int.reduceSub, reduceCtorEq, eq_self, implies_true, exists_const, Option.isNone_some, Option.isNone_none, Option.isSome_some, Option.isSome_none, Option.getD_some]
theorem wf0 {n : Int} (h1 : 0 ≤ n) (h2 : n ≤ 9007199254740992) : WF n n [] := ⟨⟨h1, h2⟩, ⟨by omega, by omega⟩, by simp, by simp, fun r h => by simp at h, List.Pairwise.nil, fun r h => by simp at h⟩
theorem New_ok {g : H} {n : Int} (h1 : 0 ≤ n) (h2 : n ≤ 9007199254740992) : Ok Try.prog 14 #[.int .i64 n] g fun v h' => ∃ p, v = .tuple #[.pointer (some ⟨p, 0, none⟩), .int .i64 0] ∧ g p = none ∧ (∀ S : Nat → Prop, XI S h' p n n (.slice none 0 0) []) ∧ Ext g h' := by
  refine c14_ok (args := [_]) (by simp) ?_
  simp (disch := omega) only [dm_t, wZ, ↓reduceIte, Nat.reduceEqDiff, Nat.reduceAdd, Nat.reduceSub, Nat.reduceMul, Nat.reduceLeDiff, Nat.reduceLT, Nat.reduceMod, Nat.reduceDiv, Int.reduceToNat, Nat.min_eq_left, IntKind.bits, Int.reducePow, Int.reduceLT, Int.reduceLE, Int.reduceEq, Int.reduceNe, Int.reduceAdd, Int.reduceSub, reduceCtorEq, eq_self, implies_true, exists_const, Option.isNone_some, Option.isNone_none, Option.isSome_some, Option.isSome_none, Option.getD_some]
  intro p hp
  exact ⟨p, rfl, hp, fun S => ⟨hupd_same _ _ _, ⟨fun r h => by simp at h, .inl ⟨none, rfl, rfl⟩⟩, wf0 h1 h2⟩, Ext.new hp _⟩
theorem Base_ok (X : XI S g p b e v l) : Ok Try.prog 37 #[.pointer (some ⟨p, 0, none⟩)] g fun v h' => v = .int .i64 b ∧ g = h' := by
  refine c37_ok (args := [_]) (by simp) ?_
  simp (disch := omega) only [dm_t, wZ, ↓reduceIte, Nat.reduceEqDiff, Nat.reduceAdd, Nat.reduceSub, Nat.reduceMul, Nat.reduceLeDiff, Nat.reduceLT, Nat.reduceMod, Nat.reduceDiv, Int.reduceToNat, Nat.min_eq_left, IntKind.bits, Int.reducePow, Int.reduceLT, Int.reduceLE, Int.reduceEq, Int.reduceNe, Int.reduceAdd, Int.reduceSub, reduceCtorEq, eq_self, implies_true, exists_const, Option.isNone_some, Option.isNone_none, Option.isSome_some, Option.isSome_none, Option.getD_some]
  refine (none_ok X).k ?_
  rintro _ _ ⟨rfl, rfl⟩
  simp (disch := omega) only [dm_t, wZ, ↓reduceIte, Nat.reduceEqDiff, Nat.reduceAdd, Nat.reduceSub, Nat.reduceMul, Nat.reduceLeDiff, Nat.reduceLT, Nat.reduceMod, Nat.reduceDiv, Int.reduceToNat, Nat.min_eq_left, IntKind.bits, Int.reducePow, Int.reduceLT, Int.reduceLE, Int.reduceEq, Int.reduceNe, Int.reduceAdd, Int.reduceSub, reduceCtorEq, eq_self, implies_true, exists_const, Option.isNone_some, Option.isNone_none, Option.isSome_some, Option.isSome_none, Option.getD_some, X.c0]
theorem End_ok (X : XI S g p b e v l) : Ok Try.prog 29 #[.pointer (some ⟨p, 0, none⟩)] g fun v h' => v = .int .i64 e ∧ g = h' := by
  refine c29_ok (args := [_]) (by simp) ?_
  simp (disch := omega) only [dm_t, wZ, ↓reduceIte, Nat.reduceEqDiff, Nat.reduceAdd, Nat.reduceSub, Nat.reduceMul, Nat.reduceLeDiff, Nat.reduceLT, Nat.reduceMod, Nat.reduceDiv, Int.reduceToNat, Nat.min_eq_left, IntKind.bits, Int.reducePow, Int.reduceLT, Int.reduceLE, Int.reduceEq, Int.reduceNe, Int.reduceAdd, Int.reduceSub, reduceCtorEq, eq_self, implies_true, exists_const, Option.isNone_some, Option.isNone_none, Option.isSome_some, Option.isSome_none, Option.getD_some]
  refine (none_ok X).k ?_
  rintro _ _ ⟨rfl, rfl⟩
  simp (disch := omega) only [dm_t, wZ, ↓reduceIte, Nat.reduceEqDiff, Nat.reduceAdd, Nat.reduceSub, Nat.reduceMul, Nat.reduceLeDiff, Nat.reduceLT, Nat.reduceMod, Nat.reduceDiv, Int.reduceToNat, Nat.min_eq_left, IntKind.bits, Int.reducePow, Int.reduceLT, Int.reduceLE, Int.reduceEq, Int.reduceNe, Int.reduceAdd, Int.reduceSub, reduceCtorEq, eq_self, implies_true, exists_const, Option.isNone_some, Option.isNone_none, Option.isSome_some, Option.isSome_none, Option.getD_some, X.c1]
/-- The place from which on something holds. -/
def IsFirst (P : Ri → Bool) (l : List Ri) (k : Nat) : Prop := k ≤ l.length ∧ (∀ (i : Nat) (h : i < l.length), i < k → P l[i] = false) ∧ ∀ (i : Nat) (h : i < l.length), k ≤ i → P l[i] = true
theorem first_ok {F : FuncId} {cap : Array Value} {P : Ri → Bool} (X : XI S g p b e v l) (hc : callable Try.prog F = true) (hf : ∀ (G : H) (r : Ri), r ∈ l → Ext g G → Ok Try.prog F (#[.agg (rrow r).toArray] ++ cap) G fun v h' => v = .bool (P r) ∧ Ext G h') (hm : ∀ (i j : Nat) (hi : i < l.length) (hj : j < l.length), i ≤ j → P l[i] = true → P l[j] = true) :
    Ok Try.prog 47 #[.pointer (some ⟨p, 0, none⟩), .func (.func F) #[] cap] g fun v h' => ∃ k, v = .int .i64 (k : Nat) ∧ IsFirst P l k ∧ Ext g h' := by
  obtain ⟨a, c, rfl⟩ := X.slen
  have hl := X.wf.len
  refine c47_ok (args := [_, _]) (by simp) ?_
  simp (disch := omega) only [dm_t, wZ, ↓reduceIte, Nat.reduceEqDiff, Nat.reduceAdd, Nat.reduceSub, Nat.reduceMul, Nat.reduceLeDiff, Nat.reduceLT, Nat.reduceMod, Nat.reduceDiv, Int.reduceToNat, Nat.min_eq_left, IntKind.bits, Int.reducePow, Int.reduceLT, Int.reduceLE, Int.reduceEq, Int.reduceNe, Int.reduceAdd, Int.reduceSub, reduceCtorEq, eq_self, implies_true, exists_const, Option.isNone_some, Option.isNone_none, Option.isSome_some, Option.isSome_none, Option.getD_some]
  refine (none_ok X).k ?_
  rintro _ _ ⟨rfl, rfl⟩
  simp (disch := omega) only [dm_t, wZ, ↓reduceIte, Nat.reduceEqDiff, Nat.reduceAdd, Nat.reduceSub, Nat.reduceMul, Nat.reduceLeDiff, Nat.reduceLT, Nat.reduceMod, Nat.reduceDiv, Int.reduceToNat, Nat.min_eq_left, IntKind.bits, Int.reducePow, Int.reduceLT, Int.reduceLE, Int.reduceEq, Int.reduceNe, Int.reduceAdd, Int.reduceSub, reduceCtorEq, eq_self, implies_true, exists_const, Option.isNone_some, Option.isNone_none, Option.isSome_some, Option.isSome_none, Option.getD_some, X.c2]
  refine vc_loop2 (fun vl vh G => ∃ lo hi : Nat, vl = .int .i64 (lo : Int) ∧ vh = .int .i64 (hi : Int) ∧ lo ≤ hi ∧ hi ≤ l.length ∧ (∀ (i : Nat) (h : i < l.length), i < lo → P l[i] = false) ∧ (∀ (i : Nat) (h : i < l.length), hi ≤ i → P l[i] = true) ∧ Ext g G) (fun vl vh _ => m1 vh - m1 vl) ?_ ?_
  · simp (disch := omega) only [dm_t, wZ, ↓reduceIte, Nat.reduceEqDiff, Nat.reduceAdd, Nat.reduceSub, Nat.reduceMul, Nat.reduceLeDiff, Nat.reduceLT, Nat.reduceMod, Nat.reduceDiv, Int.reduceToNat, Nat.min_eq_left, IntKind.bits, Int.reducePow, Int.reduceLT, Int.reduceLE, Int.reduceEq, Int.reduceNe, Int.reduceAdd, Int.reduceSub, reduceCtorEq, eq_self, implies_true, exists_const, Option.isNone_some, Option.isNone_none, Option.isSome_some, Option.isSome_none, Option.getD_some]
    exact ⟨0, l.length, rfl, rfl, by omega, by omega, fun i _ h => by omega, fun i h1 h2 => by omega, Ext.refl _⟩
  rintro _ _ G ⟨lo, hi, rfl, rfl, hlh, hhl, hA, hB, E⟩
  have XG := X.ext E
  by_cases heq : lo = hi
  · subst heq
    simp (disch := omega) only [dm_t, wZ, ↓reduceIte, Nat.reduceEqDiff, Nat.reduceAdd, Nat.reduceSub, Nat.reduceMul, Nat.reduceLeDiff, Nat.reduceLT, Nat.reduceMod, Nat.reduceDiv, Int.reduceToNat, Nat.min_eq_left, IntKind.bits, Int.reducePow, Int.reduceLT, Int.reduceLE, Int.reduceEq, Int.reduceNe, Int.reduceAdd, Int.reduceSub, reduceCtorEq, eq_self, implies_true, exists_const, Option.isNone_some, Option.isNone_none, Option.isSome_some, Option.isSome_none, Option.getD_some]
    exact ⟨lo, rfl, ⟨hhl, hA, hB⟩, E⟩
  · have hml : (lo + hi) / 2 < l.length := by omega
    obtain ⟨pb, po, i1, -, -, t1⟩ := rl_at XG.lst hml .i64
    have hmid : ((lo : Int) + (hi : Int)) / 2 = (((lo + hi) / 2 : Nat) : Int) := by omega
    simp (disch := omega) only [dm_t, wZ, ↓reduceIte, Nat.reduceEqDiff, Nat.reduceAdd, Nat.reduceSub, Nat.reduceMul, Nat.reduceLeDiff, Nat.reduceLT, Nat.reduceMod, Nat.reduceDiv, Int.reduceToNat, Nat.min_eq_left, IntKind.bits, Int.reducePow, Int.reduceLT, Int.reduceLE, Int.reduceEq, Int.reduceNe, Int.reduceAdd, Int.reduceSub, reduceCtorEq, eq_self, implies_true, exists_const, Option.isNone_some, Option.isNone_none, Option.isSome_some, Option.isSome_none, Option.getD_some, hmid, XG.c2, i1, t1]
    refine ⟨hc, (hf G l[(lo + hi) / 2] (List.getElem_mem hml) E).k ?_⟩
    rintro _ G2 ⟨rfl, e2⟩
    by_cases hP : P l[(lo + hi) / 2] = true
    · simp (disch := omega) only [dm_t, wZ, ↓reduceIte, Nat.reduceEqDiff, Nat.reduceAdd, Nat.reduceSub, Nat.reduceMul, Nat.reduceLeDiff, Nat.reduceLT, Nat.reduceMod, Nat.reduceDiv, Int.reduceToNat, Nat.min_eq_left, IntKind.bits, Int.reducePow, Int.reduceLT, Int.reduceLE, Int.reduceEq, Int.reduceNe, Int.reduceAdd, Int.reduceSub, reduceCtorEq, eq_self, implies_true, exists_const, Option.isNone_some, Option.isNone_none, Option.isSome_some, Option.isSome_none, Option.getD_some, hP]
      exact ⟨⟨lo, (lo + hi) / 2, rfl, rfl, by omega, by omega, hA, fun i h h2 => hm _ _ hml h h2 hP, E.trans e2⟩, by simp [m1]; omega⟩
    · have hPf : P l[(lo + hi) / 2] = false := by simpa using hP
      simp (disch := omega) only [dm_t, wZ, ↓reduceIte, Nat.reduceEqDiff, Nat.reduceAdd, Nat.reduceSub, Nat.reduceMul, Nat.reduceLeDiff, Nat.reduceLT, Nat.reduceMod, Nat.reduceDiv, Int.reduceToNat, Nat.min_eq_left, IntKind.bits, Int.reducePow, Int.reduceLT, Int.reduceLE, Int.reduceEq, Int.reduceNe, Int.reduceAdd, Int.reduceSub, reduceCtorEq, eq_self, implies_true, exists_const, Option.isNone_some, Option.isNone_none, Option.isSome_some, Option.isSome_none, Option.getD_some, hPf]
      refine ⟨⟨(lo + hi) / 2 + 1, hi, by simp, rfl, by omega, by omega, fun i h h2 => ?_, hB, E.trans e2⟩, by simp [m1]; omega⟩
      cases hc : P l[i] with
      | false => rfl
      | true =>
        have := hm i _ h hml (by omega) hc
        rw [hPf] at this; cases this
/-- The closures. -/
theorem Find1_ok {G : H} {tb : Nat} {n : Int} (r : Ri) (hq : G tb = some (.cells #[.int .i64 n] 2)) : Ok Try.prog 50 #[.agg (rrow r).toArray, .pointer (some ⟨tb, 0, none⟩)] G fun v h' => v = .bool (decide (n ≤ r.2)) ∧ Ext G h' := by
  refine c50_ok (args := [_, _]) (by simp) ?_
  simp (disch := omega) only [dm_t, wZ, ↓reduceIte, Nat.reduceEqDiff, Nat.reduceAdd, Nat.reduceSub, Nat.reduceMul, Nat.reduceLeDiff, Nat.reduceLT, Nat.reduceMod, Nat.reduceDiv, Int.reduceToNat, Nat.min_eq_left, IntKind.bits, Int.reducePow, Int.reduceLT, Int.reduceLE, Int.reduceEq, Int.reduceNe, Int.reduceAdd, Int.reduceSub, reduceCtorEq, eq_self, implies_true, exists_const, Option.isNone_some, Option.isNone_none, Option.isSome_some, Option.isSome_none, Option.getD_some]
  intro b hb
  have e := Ext.new hb (.cells #[.int .i64 r.1, .int .i64 r.2] 50)
  by_cases h : n ≤ r.2
  · simp (disch := omega) only [dm_t, wZ, ↓reduceIte, Nat.reduceEqDiff, Nat.reduceAdd, Nat.reduceSub, Nat.reduceMul, Nat.reduceLeDiff, Nat.reduceLT, Nat.reduceMod, Nat.reduceDiv, Int.reduceToNat, Nat.min_eq_left, IntKind.bits, Int.reducePow, Int.reduceLT, Int.reduceLE, Int.reduceEq, Int.reduceNe, Int.reduceAdd, Int.reduceSub, reduceCtorEq, eq_self, implies_true, exists_const, Option.isNone_some, Option.isNone_none, Option.isSome_some, Option.isSome_none, Option.getD_some, cellAt_of (hupd_same _ _ _), cellAt_of (e.at hq)]
    exact e
  · simp (disch := omega) only [dm_t, wZ, ↓reduceIte, Nat.reduceEqDiff, Nat.reduceAdd, Nat.reduceSub, Nat.reduceMul, Nat.reduceLeDiff, Nat.reduceLT, Nat.reduceMod, Nat.reduceDiv, Int.reduceToNat, Nat.min_eq_left, IntKind.bits, Int.reducePow, Int.reduceLT, Int.reduceLE, Int.reduceEq, Int.reduceNe, Int.reduceAdd, Int.reduceSub, reduceCtorEq, eq_self, implies_true, exists_const, Option.isNone_some, Option.isNone_none, Option.isSome_some, Option.isSome_none, Option.getD_some, cellAt_of (hupd_same _ _ _), cellAt_of (e.at hq)]
    exact e
theorem Cut1_ok {G : H} {tb : Nat} {n : Int} (r : Ri) (hq : G tb = some (.cells #[.int .i64 n] 2)) : Ok Try.prog 48 #[.agg (rrow r).toArray, .pointer (some ⟨tb, 0, none⟩)] G fun v h' => v = .bool (decide (n ≤ r.1)) ∧ Ext G h' := by
  refine c48_ok (args := [_, _]) (by simp) ?_
  simp (disch := omega) only [dm_t, wZ, ↓reduceIte, Nat.reduceEqDiff, Nat.reduceAdd, Nat.reduceSub, Nat.reduceMul, Nat.reduceLeDiff, Nat.reduceLT, Nat.reduceMod, Nat.reduceDiv, Int.reduceToNat, Nat.min_eq_left, IntKind.bits, Int.reducePow, Int.reduceLT, Int.reduceLE, Int.reduceEq, Int.reduceNe, Int.reduceAdd, Int.reduceSub, reduceCtorEq, eq_self, implies_true, exists_const, Option.isNone_some, Option.isNone_none, Option.isSome_some, Option.isSome_none, Option.getD_some]
  intro b hb
  have e := Ext.new hb (.cells #[.int .i64 r.1, .int .i64 r.2] 50)
  by_cases h : n ≤ r.1
  · simp (disch := omega) only [dm_t, wZ, ↓reduceIte, Nat.reduceEqDiff, Nat.reduceAdd, Nat.reduceSub, Nat.reduceMul, Nat.reduceLeDiff, Nat.reduceLT, Nat.reduceMod, Nat.reduceDiv, Int.reduceToNat, Nat.min_eq_left, IntKind.bits, Int.reducePow, Int.reduceLT, Int.reduceLE, Int.reduceEq, Int.reduceNe, Int.reduceAdd, Int.reduceSub, reduceCtorEq, eq_self, implies_true, exists_const, Option.isNone_some, Option.isNone_none, Option.isSome_some, Option.isSome_none, Option.getD_some, cellAt_of (hupd_same _ _ _), cellAt_of (e.at hq)]
    exact e
  · simp (disch := omega) only [dm_t, wZ, ↓reduceIte, Nat.reduceEqDiff, Nat.reduceAdd, Nat.reduceSub, Nat.reduceMul, Nat.reduceLeDiff, Nat.reduceLT, Nat.reduceMod, Nat.reduceDiv, Int.reduceToNat, Nat.min_eq_left, IntKind.bits, Int.reducePow, Int.reduceLT, Int.reduceLE, Int.reduceEq, Int.reduceNe, Int.reduceAdd, Int.reduceSub, reduceCtorEq, eq_self, implies_true, exists_const, Option.isNone_some, Option.isNone_none, Option.isSome_some, Option.isSome_none, Option.getD_some, cellAt_of (hupd_same _ _ _), cellAt_of (e.at hq)]
    exact e
theorem Until1_ok {G : H} {tb : Nat} {n : Int} (r : Ri) (hq : G tb = some (.cells #[.int .i64 n] 2)) : Ok Try.prog 51 #[.agg (rrow r).toArray, .pointer (some ⟨tb, 0, none⟩)] G fun v h' => v = .bool (decide (n < r.1)) ∧ Ext G h' := by
  refine c51_ok (args := [_, _]) (by simp) ?_
  simp (disch := omega) only [dm_t, wZ, ↓reduceIte, Nat.reduceEqDiff, Nat.reduceAdd, Nat.reduceSub, Nat.reduceMul, Nat.reduceLeDiff, Nat.reduceLT, Nat.reduceMod, Nat.reduceDiv, Int.reduceToNat, Nat.min_eq_left, IntKind.bits, Int.reducePow, Int.reduceLT, Int.reduceLE, Int.reduceEq, Int.reduceNe, Int.reduceAdd, Int.reduceSub, reduceCtorEq, eq_self, implies_true, exists_const, Option.isNone_some, Option.isNone_none, Option.isSome_some, Option.isSome_none, Option.getD_some]
  intro b hb
  have e := Ext.new hb (.cells #[.int .i64 r.1, .int .i64 r.2] 50)
  by_cases h : n < r.1
  · simp (disch := omega) only [dm_t, wZ, ↓reduceIte, Nat.reduceEqDiff, Nat.reduceAdd, Nat.reduceSub, Nat.reduceMul, Nat.reduceLeDiff, Nat.reduceLT, Nat.reduceMod, Nat.reduceDiv, Int.reduceToNat, Nat.min_eq_left, IntKind.bits, Int.reducePow, Int.reduceLT, Int.reduceLE, Int.reduceEq, Int.reduceNe, Int.reduceAdd, Int.reduceSub, reduceCtorEq, eq_self, implies_true, exists_const, Option.isNone_some, Option.isNone_none, Option.isSome_some, Option.isSome_none, Option.getD_some, cellAt_of (hupd_same _ _ _), cellAt_of (e.at hq)]
    exact e
  · simp (disch := omega) only [dm_t, wZ, ↓reduceIte, Nat.reduceEqDiff, Nat.reduceAdd, Nat.reduceSub, Nat.reduceMul, Nat.reduceLeDiff, Nat.reduceLT, Nat.reduceMod, Nat.reduceDiv, Int.reduceToNat, Nat.min_eq_left, IntKind.bits, Int.reducePow, Int.reduceLT, Int.reduceLE, Int.reduceEq, Int.reduceNe, Int.reduceAdd, Int.reduceSub, reduceCtorEq, eq_self, implies_true, exists_const, Option.isNone_some, Option.isNone_none, Option.isSome_some, Option.isSome_none, Option.getD_some, cellAt_of (hupd_same _ _ _), cellAt_of (e.at hq)]
    exact e
theorem Join1_ok {G : H} {tb : Nat} {n : Int} (r : Ri) (hq : G tb = some (.cells #[.int .i64 n] 2)) : Ok Try.prog 52 #[.agg (rrow r).toArray, .pointer (some ⟨tb, 0, none⟩)] G fun v h' => v = .bool (decide (n < r.2)) ∧ Ext G h' := by
  refine c52_ok (args := [_, _]) (by simp) ?_
  simp (disch := omega) only [dm_t, wZ, ↓reduceIte, Nat.reduceEqDiff, Nat.reduceAdd, Nat.reduceSub, Nat.reduceMul, Nat.reduceLeDiff, Nat.reduceLT, Nat.reduceMod, Nat.reduceDiv, Int.reduceToNat, Nat.min_eq_left, IntKind.bits, Int.reducePow, Int.reduceLT, Int.reduceLE, Int.reduceEq, Int.reduceNe, Int.reduceAdd, Int.reduceSub, reduceCtorEq, eq_self, implies_true, exists_const, Option.isNone_some, Option.isNone_none, Option.isSome_some, Option.isSome_none, Option.getD_some]
  intro b hb
  have e := Ext.new hb (.cells #[.int .i64 r.1, .int .i64 r.2] 50)
  by_cases h : n < r.2
  · simp (disch := omega) only [dm_t, wZ, ↓reduceIte, Nat.reduceEqDiff, Nat.reduceAdd, Nat.reduceSub, Nat.reduceMul, Nat.reduceLeDiff, Nat.reduceLT, Nat.reduceMod, Nat.reduceDiv, Int.reduceToNat, Nat.min_eq_left, IntKind.bits, Int.reducePow, Int.reduceLT, Int.reduceLE, Int.reduceEq, Int.reduceNe, Int.reduceAdd, Int.reduceSub, reduceCtorEq, eq_self, implies_true, exists_const, Option.isNone_some, Option.isNone_none, Option.isSome_some, Option.isSome_none, Option.getD_some, cellAt_of (hupd_same _ _ _), cellAt_of (e.at hq)]
    exact e
  · simp (disch := omega) only [dm_t, wZ, ↓reduceIte, Nat.reduceEqDiff, Nat.reduceAdd, Nat.reduceSub, Nat.reduceMul, Nat.reduceLeDiff, Nat.reduceLT, Nat.reduceMod, Nat.reduceDiv, Int.reduceToNat, Nat.min_eq_left, IntKind.bits, Int.reducePow, Int.reduceLT, Int.reduceLE, Int.reduceEq, Int.reduceNe, Int.reduceAdd, Int.reduceSub, reduceCtorEq, eq_self, implies_true, exists_const, Option.isNone_some, Option.isNone_none, Option.isSome_some, Option.isSome_none, Option.getD_some, cellAt_of (hupd_same _ _ _), cellAt_of (e.at hq)]
    exact e
theorem srt2 (h : WF b e l) {i j : Nat} (hi : i < l.length) (hj : j < l.length) (hij : i ≤ j) : l[i].1 ≤ l[j].1 ∧ l[i].2 ≤ l[j].2 := by
  by_cases he : i = j
  · subst he; exact ⟨Int.le_refl _, Int.le_refl _⟩
  · have := List.pairwise_iff_getElem.1 h.srt i j hi hj (by omega)
    omega
/-- What Find tells. -/
def findP (l : List Ri) (t : Int) : Int × Bool := match l.find? (fun r => decide (t ≤ r.2)) with | none => (0, false) | some r => (r.1, true)
def untilP (l : List Ri) (o : Int) : Int × Bool := match (l.filter fun r => decide (r.1 ≤ o)).getLast? with | none => (0, false) | some r => (r.2, true)
theorem find_first {P : Ri → Bool} {k : Nat} (h : IsFirst P l k) : l.find? P = l[k]? := by
  obtain ⟨h1, h2, h3⟩ := h
  by_cases hk : k < l.length
  · rw [List.getElem?_eq_getElem hk]
    exact List.find?_eq_some_iff_getElem.2 ⟨h3 k hk (Nat.le_refl _), k, hk, rfl, fun j hj => by rw [h2 j (by omega) hj]; rfl⟩
  · rw [List.getElem?_eq_none (by omega)]
    refine List.find?_eq_none.2 fun r hr => ?_
    obtain ⟨i, hi, rfl⟩ := List.getElem_of_mem hr
    rw [h2 i hi (by omega)]; simp
theorem take_first {P : Ri → Bool} {k : Nat} (h : IsFirst P l k) : l.filter (fun r => !P r) = l.take k := by
  obtain ⟨h1, h2, h3⟩ := h
  have e := List.take_append_drop k l
  conv => lhs; rw [← e]
  rw [List.filter_append]
  have f1 : (l.take k).filter (fun r => !P r) = l.take k := List.filter_eq_self.2 fun r hr => by
    obtain ⟨i, hi, rfl⟩ := List.getElem_of_mem hr
    rw [List.length_take] at hi
    rw [List.getElem_take, h2 i (by omega) (by omega)]; rfl
  have f2 : (l.drop k).filter (fun r => !P r) = [] := List.filter_eq_nil_iff.2 fun r hr => by
    obtain ⟨i, hi, rfl⟩ := List.getElem_of_mem hr
    rw [List.length_drop] at hi
    rw [List.getElem_drop, h3 (k + i) (by omega) (by omega)]; simp
  rw [f1, f2, List.append_nil]
theorem Find_ok (X : XI S g p b e v l) (t : Int) : Ok Try.prog 21 #[.pointer (some ⟨p, 0, none⟩), .int .i64 t] g fun v h' => v = .tuple #[.int .i64 (findP l t).1, .bool (findP l t).2] ∧ Ext g h' := by
  refine c21_ok (args := [_, _]) (by simp) ?_
  simp (disch := omega) only [dm_t, wZ, ↓reduceIte, Nat.reduceEqDiff, Nat.reduceAdd, Nat.reduceSub, Nat.reduceMul, Nat.reduceLeDiff, Nat.reduceLT, Nat.reduceMod, Nat.reduceDiv, Int.reduceToNat, Nat.min_eq_left, IntKind.bits, Int.reducePow, Int.reduceLT, Int.reduceLE, Int.reduceEq, Int.reduceNe, Int.reduceAdd, Int.reduceSub, reduceCtorEq, eq_self, implies_true, exists_const, Option.isNone_some, Option.isNone_none, Option.isSome_some, Option.isSome_none, Option.getD_some]
  intro tb htb
  generalize hG : hupd g tb _ = g1
  obtain ⟨e1, qt⟩ := new_ext hG htb
  clear hG
  simp (disch := omega) only [dm_t, wZ, ↓reduceIte, Nat.reduceEqDiff, Nat.reduceAdd, Nat.reduceSub, Nat.reduceMul, Nat.reduceLeDiff, Nat.reduceLT, Nat.reduceMod, Nat.reduceDiv, Int.reduceToNat, Nat.min_eq_left, IntKind.bits, Int.reducePow, Int.reduceLT, Int.reduceLE, Int.reduceEq, Int.reduceNe, Int.reduceAdd, Int.reduceSub, reduceCtorEq, eq_self, implies_true, exists_const, Option.isNone_some, Option.isNone_none, Option.isSome_some, Option.isSome_none, Option.getD_some]
  refine (first_ok (cap := #[.pointer (some ⟨tb, 0, none⟩)]) (X.ext e1) (by rfl) (fun G r _ E => Find1_ok r (E.at qt)) fun i j hi hj hij h => ?_).k ?_
  · have := srt2 X.wf hi hj hij
    simp only [decide_eq_true_eq] at h ⊢
    omega
  rintro _ g2 ⟨k, rfl, hk, e2⟩
  have X2 := (X.ext e1).ext e2
  have hF := find_first hk
  simp (disch := omega) only [dm_t, wZ, ↓reduceIte, Nat.reduceEqDiff, Nat.reduceAdd, Nat.reduceSub, Nat.reduceMul, Nat.reduceLeDiff, Nat.reduceLT, Nat.reduceMod, Nat.reduceDiv, Int.reduceToNat, Nat.min_eq_left, IntKind.bits, Int.reducePow, Int.reduceLT, Int.reduceLE, Int.reduceEq, Int.reduceNe, Int.reduceAdd, Int.reduceSub, reduceCtorEq, eq_self, implies_true, exists_const, Option.isNone_some, Option.isNone_none, Option.isSome_some, Option.isSome_none, Option.getD_some]
  refine (none_ok X2).k ?_
  rintro _ _ ⟨rfl, rfl⟩
  obtain ⟨a, c, rfl⟩ := X.slen
  by_cases hkl : k = l.length
  · have hp : findP l t = (0, false) := by rw [findP, hF, hkl, List.getElem?_eq_none (Nat.le_refl _)]
    rw [hp, hkl]
    simp (disch := omega) only [dm_t, wZ, ↓reduceIte, Nat.reduceEqDiff, Nat.reduceAdd, Nat.reduceSub, Nat.reduceMul, Nat.reduceLeDiff, Nat.reduceLT, Nat.reduceMod, Nat.reduceDiv, Int.reduceToNat, Nat.min_eq_left, IntKind.bits, Int.reducePow, Int.reduceLT, Int.reduceLE, Int.reduceEq, Int.reduceNe, Int.reduceAdd, Int.reduceSub, reduceCtorEq, eq_self, implies_true, exists_const, Option.isNone_some, Option.isNone_none, Option.isSome_some, Option.isSome_none, Option.getD_some, X2.c2]
    exact e1.trans e2
  · have hkl' : k < l.length := by have := hk.1; omega
    have hp : findP l t = (l[k].1, true) := by rw [findP, hF, List.getElem?_eq_getElem hkl']
    obtain ⟨pb, po, i1, t1, -, -⟩ := rl_at X2.lst hkl' .i64
    rw [hp]
    simp (disch := omega) only [dm_t, wZ, ↓reduceIte, Nat.reduceEqDiff, Nat.reduceAdd, Nat.reduceSub, Nat.reduceMul, Nat.reduceLeDiff, Nat.reduceLT, Nat.reduceMod, Nat.reduceDiv, Int.reduceToNat, Nat.min_eq_left, IntKind.bits, Int.reducePow, Int.reduceLT, Int.reduceLE, Int.reduceEq, Int.reduceNe, Int.reduceAdd, Int.reduceSub, reduceCtorEq, eq_self, implies_true, exists_const, Option.isNone_some, Option.isNone_none, Option.isSome_some, Option.isSome_none, Option.getD_some, X2.c2, i1, t1]
    exact e1.trans e2
theorem Until_ok (X : XI S g p b e v l) (o : Int) : Ok Try.prog 22 #[.pointer (some ⟨p, 0, none⟩), .int .i64 o] g fun v h' => v = .tuple #[.int .i64 (untilP l o).1, .bool (untilP l o).2] ∧ Ext g h' := by
  refine c22_ok (args := [_, _]) (by simp) ?_
  simp (disch := omega) only [dm_t, wZ, ↓reduceIte, Nat.reduceEqDiff, Nat.reduceAdd, Nat.reduceSub, Nat.reduceMul, Nat.reduceLeDiff, Nat.reduceLT, Nat.reduceMod, Nat.reduceDiv, Int.reduceToNat, Nat.min_eq_left, IntKind.bits, Int.reducePow, Int.reduceLT, Int.reduceLE, Int.reduceEq, Int.reduceNe, Int.reduceAdd, Int.reduceSub, reduceCtorEq, eq_self, implies_true, exists_const, Option.isNone_some, Option.isNone_none, Option.isSome_some, Option.isSome_none, Option.getD_some]
  intro tb htb
  generalize hG : hupd g tb _ = g1
  obtain ⟨e1, qt⟩ := new_ext hG htb
  clear hG
  simp (disch := omega) only [dm_t, wZ, ↓reduceIte, Nat.reduceEqDiff, Nat.reduceAdd, Nat.reduceSub, Nat.reduceMul, Nat.reduceLeDiff, Nat.reduceLT, Nat.reduceMod, Nat.reduceDiv, Int.reduceToNat, Nat.min_eq_left, IntKind.bits, Int.reducePow, Int.reduceLT, Int.reduceLE, Int.reduceEq, Int.reduceNe, Int.reduceAdd, Int.reduceSub, reduceCtorEq, eq_self, implies_true, exists_const, Option.isNone_some, Option.isNone_none, Option.isSome_some, Option.isSome_none, Option.getD_some]
  refine (first_ok (cap := #[.pointer (some ⟨tb, 0, none⟩)]) (X.ext e1) (by rfl) (fun G r _ E => Until1_ok r (E.at qt)) fun i j hi hj hij h => ?_).k ?_
  · have := srt2 X.wf hi hj hij
    simp only [decide_eq_true_eq] at h ⊢
    omega
  rintro _ g2 ⟨k, rfl, hk, e2⟩
  have X2 := (X.ext e1).ext e2
  have hF : l.filter (fun r => decide (r.1 ≤ o)) = l.take k := by
    rw [← take_first hk]
    congr 1
    funext r
    by_cases h : r.1 ≤ o
    · simp [h, show ¬ o < r.1 by omega]
    · simp [h, show o < r.1 by omega]
  obtain ⟨a, c, rfl⟩ := X.slen
  have hl := X.wf.len
  by_cases hk0 : k = 0
  · have hp : untilP l o = (0, false) := by rw [untilP, hF, hk0]; rfl
    rw [hp, hk0]
    simp (disch := omega) only [dm_t, wZ, ↓reduceIte, Nat.reduceEqDiff, Nat.reduceAdd, Nat.reduceSub, Nat.reduceMul, Nat.reduceLeDiff, Nat.reduceLT, Nat.reduceMod, Nat.reduceDiv, Int.reduceToNat, Nat.min_eq_left, IntKind.bits, Int.reducePow, Int.reduceLT, Int.reduceLE, Int.reduceEq, Int.reduceNe, Int.reduceAdd, Int.reduceSub, reduceCtorEq, eq_self, implies_true, exists_const, Option.isNone_some, Option.isNone_none, Option.isSome_some, Option.isSome_none, Option.getD_some]
    exact e1.trans e2
  · have hkl := hk.1
    have hp : untilP l o = ((l[k - 1]'(by omega)).2, true) := by
      rw [untilP, hF, List.getLast?_eq_getElem?, List.length_take, Nat.min_eq_left hkl, List.getElem?_take, if_pos (by omega), List.getElem?_eq_getElem (by omega)]
    obtain ⟨pb, po, i1, -, t1, -⟩ := rl_at X2.lst (i := k - 1) (by omega) .i64
    have hi : ((k - 1 : Nat) : Int) = (k : Int) - 1 := by omega
    rw [hi] at i1
    rw [hp]
    simp (disch := omega) only [dm_t, wZ, ↓reduceIte, Nat.reduceEqDiff, Nat.reduceAdd, Nat.reduceSub, Nat.reduceMul, Nat.reduceLeDiff, Nat.reduceLT, Nat.reduceMod, Nat.reduceDiv, Int.reduceToNat, Nat.min_eq_left, IntKind.bits, Int.reducePow, Int.reduceLT, Int.reduceLE, Int.reduceEq, Int.reduceNe, Int.reduceAdd, Int.reduceSub, reduceCtorEq, eq_self, implies_true, exists_const, Option.isNone_some, Option.isNone_none, Option.isSome_some, Option.isSome_none, Option.getD_some, X2.c2, i1, t1]
    exact e1.trans e2
end
end Go.Proofs.Ytmjbgfflbeibnaa.ti
