/-
  times: Open.
-/
import Derived.Test.YtmjbgfflbeibnaaTg
namespace Go.Proofs.Ytmjbgfflbeibnaa.ti
open Go.Proofs.Ytmjbgfflbeibnaa wi
set_option linter.unusedVariables false
set_option linter.unusedSimpArgs false
/-! ### The plain side -/
def oBase (bs : List UInt8) : Int := sgn64 (num ((bs.drop 0).take 8))
def oEnd (bs : List UInt8) : Int := sgn64 (num ((bs.drop 8).take 8))
def oCnt (bs : List UInt8) : Nat := num ((bs.drop 16).take 4)
def oRise (bs : List UInt8) (i : Nat) : Ri := (sgn64 (num ((bs.drop (20 + 16 * i)).take 8)), sgn64 (num ((bs.drop (28 + 16 * i)).take 8)))
def oLst (bs : List UInt8) (n : Nat) : List Ri := (List.range n).map (oRise bs)
theorem oLst_succ (bs : List UInt8) (n : Nat) : oLst bs (n + 1) = oLst bs n ++ [oRise bs n] := by simp [oLst, List.range_succ]
theorem oLst_len (bs : List UInt8) (n : Nat) : (oLst bs n).length = n := by simp [oLst]
open Classical in
noncomputable def openE (bs : List UInt8) : Int :=
  if bs.length < 20 then 111 else if oCnt bs ≤ 65536 ∧ bs.length - 20 < 16 * oCnt bs then 111 else if 65536 < oCnt bs ∨ bs.length - 20 ≠ 16 * oCnt bs then 220
  else if WF (oBase bs) (oEnd bs) (oLst bs (oCnt bs)) then 0 else 220
/-- What stands of rises that were read so far. -/
structure PG (b e : Int) (l : List Ri) : Prop where
  rng : ∀ r ∈ l, 0 ≤ r.2 ∧ r.2 ≤ 9007199254740992 ∧ r.1 < e
  srt : l.Pairwise fun r s => r.1 < s.1 ∧ r.2 < s.2
  fst : ∀ r, l[0]? = some r → r.1 = b
structure Chk (b e : Int) (l : List Ri) (r : Ri) : Prop where
  t1 : topP l < r.2
  t2 : r.2 ≤ 9007199254740992
  o1 : r.1 < e
  o2 : l = [] → r.1 = b
  o3 : ∀ (h : 0 < l.length), (l[l.length - 1]'(by omega)).1 < r.1
section
variable {b e : Int} {l : List Ri}
theorem pgs (h : l.Pairwise fun r s => r.1 < s.1 ∧ r.2 < s.2) {i j : Nat} (hi : i < l.length) (hj : j < l.length) (hij : i ≤ j) : l[i].1 ≤ l[j].1 ∧ l[i].2 ≤ l[j].2 := by
  by_cases he : i = j
  · subst he; exact ⟨Int.le_refl _, Int.le_refl _⟩
  · have := List.pairwise_iff_getElem.1 h i j hi hj (by omega)
    omega
theorem pg_chk {r : Ri} (h : PG b e (l ++ [r])) : Chk b e l r := by
  have hr := h.rng r (by simp)
  have hp := (List.pairwise_append.1 h.srt).2.2
  refine ⟨?_, hr.2.1, hr.2.2, fun hn => ?_, fun h0 => (hp _ (List.getElem_mem _) r (by simp)).1⟩
  · by_cases h0 : 0 < l.length
    · rw [topP_last h0]
      exact (hp _ (List.getElem_mem _) r (by simp)).2
    · have : l = [] := List.length_eq_zero_iff.1 (by omega)
      subst this
      show (-1 : Int) < r.2
      omega
  · subst hn
    exact h.fst r rfl
theorem pg_snoc {r : Ri} (h : PG b e l) (c : Chk b e l r) : PG b e (l ++ [r]) := by
  have ht : ∀ s ∈ l, s.1 < r.1 ∧ s.2 < r.2 := fun s hs => by
    obtain ⟨i, hi, rfl⟩ := List.getElem_of_mem hs
    have h1 := c.t1
    rw [topP_last (by omega)] at h1
    have h2 := c.o3 (by omega)
    have := pgs h.srt hi (j := l.length - 1) (by omega) (by omega)
    omega
  refine ⟨fun s hs => ?_, List.pairwise_append.2 ⟨h.srt, List.pairwise_singleton _ _, fun s hs t htt => ?_⟩, fun s hs => ?_⟩
  · rcases List.mem_append.1 hs with hs | hs
    · exact h.rng s hs
    · rw [List.mem_singleton] at hs
      subst hs
      refine ⟨?_, c.t2, c.o1⟩
      have h1 := c.t1
      by_cases h0 : 0 < l.length
      · rw [topP_last h0] at h1
        have := h.rng _ (List.getElem_mem (l := l) (n := l.length - 1) (by omega))
        omega
      · have : l = [] := List.length_eq_zero_iff.1 (by omega)
        subst this
        have h2 : (-1 : Int) < s.2 := h1
        omega
  · rw [List.mem_singleton] at htt
    subst htt
    exact ht s hs
  · cases l with
    | nil =>
      simp only [List.nil_append, List.getElem?_cons_zero, Option.some.injEq] at hs
      subst hs
      exact c.o2 rfl
    | cons x t => exact h.fst s hs
theorem pg_pre {a : List Ri} (h : PG b e (l ++ a)) : PG b e l :=
  ⟨fun r hr => h.rng r (List.mem_append_left _ hr), (List.pairwise_append.1 h.srt).1, fun r hr => h.fst r (by rw [List.getElem?_append_left (List.getElem?_eq_some_iff.1 hr).1]; exact hr)⟩
theorem WF.pg (h : WF b e l) : PG b e l := ⟨fun r hr => by have := h.rng r hr; omega, h.srt, h.fst⟩
theorem wf_pg (h : PG b e l) (h1 : 0 ≤ b ∧ b ≤ 9007199254740992) (h2 : b ≤ e ∧ e ≤ 9007199254740993) (h3 : l.length ≤ 65536) (h4 : l = [] ↔ e = b) : WF b e l := by
  refine ⟨h1, h2, h3, h4, fun r hr => ?_, h.srt, h.fst⟩
  obtain ⟨i, hi, rfl⟩ := List.getElem_of_mem hr
  have h5 := h.rng _ (List.getElem_mem hi)
  have h6 := h.fst l[0] (List.getElem?_eq_getElem (by omega))
  have := pgs h.srt (i := 0) (j := i) (by omega) hi (by omega)
  omega
theorem oLst_split (bs : List UInt8) {i n : Nat} (h : i ≤ n) : ∃ a, oLst bs n = oLst bs i ++ a := by
  refine ⟨(oLst bs n).drop i, ?_⟩
  have := List.take_append_drop i (oLst bs n)
  have h2 : (oLst bs n).take i = oLst bs i := by simp only [oLst, ← List.map_take, List.take_range, Nat.min_eq_left h]
  rw [h2] at this
  exact this.symm
theorem no_wf {bs : List UInt8} {i n : Nat} (hi : i < n) (h : ¬ Chk b e (oLst bs i) (oRise bs i)) : ¬ WF b e (oLst bs n) := by
  intro hw
  obtain ⟨a, ha⟩ := oLst_split bs (show i + 1 ≤ n by omega)
  have h1 := hw.pg
  rw [ha] at h1
  have h2 := pg_pre h1
  rw [oLst_succ] at h2
  exact h (pg_chk h2)
/-- The greatest time so far, of an index that is being read. -/
theorem topO_ok {S : Nat → Prop} {g : H} {p : Nat} {v : Value} (ho : g p = some (.cells #[.int .i64 b, .int .i64 e, v, .bool true] 72)) (hs : SlK 2 S g v (rrows l)) (hl : l.length ≤ 65536) : Ok Try.prog 34 #[.pointer (some ⟨p, 0, none⟩)] g fun v h' => v = .int .i64 (topP l) ∧ g = h' := by
  obtain ⟨a, c, hv⟩ := SlK.len hs
  rw [List.length_map] at hv
  subst hv
  have c2 : cellAt g ⟨p, 2, none⟩ = some (.slice a l.length c) := by rw [cellAt_of ho]; rfl
  refine c34_ok (args := [_]) (by simp) ?_
  by_cases h0 : l.length = 0
  · have : l = [] := List.length_eq_zero_iff.1 h0
    subst this
    simp (disch := omega) only [dm_t, wZ, ↓reduceIte, Nat.reduceEqDiff, Nat.reduceAdd, Nat.reduceSub, Nat.reduceMul, Nat.reduceLeDiff, Nat.reduceLT, Nat.reduceMod, Nat.reduceDiv, Int.reduceToNat, Nat.min_eq_left, IntKind.bits, Int.reducePow, Int.reduceLT, Int.reduceLE, Int.reduceEq, Int.reduceNe, Int.reduceAdd, Int.reduceSub, reduceCtorEq, eq_self, implies_true, exists_const, Option.isNone_some, Option.isNone_none, Option.isSome_some, Option.isSome_none, Option.getD_some, c2]
    rfl
  · obtain ⟨pb, po, i1, -, t1, -⟩ := rl_at hs (i := l.length - 1) (by omega) .i64
    have hi : ((l.length - 1 : Nat) : Int) = (l.length : Int) - 1 := by omega
    rw [hi] at i1
    simp (disch := omega) only [dm_t, wZ, ↓reduceIte, Nat.reduceEqDiff, Nat.reduceAdd, Nat.reduceSub, Nat.reduceMul, Nat.reduceLeDiff, Nat.reduceLT, Nat.reduceMod, Nat.reduceDiv, Int.reduceToNat, Nat.min_eq_left, IntKind.bits, Int.reducePow, Int.reduceLT, Int.reduceLE, Int.reduceEq, Int.reduceNe, Int.reduceAdd, Int.reduceSub, reduceCtorEq, eq_self, implies_true, exists_const, Option.isNone_some, Option.isNone_none, Option.isSome_some, Option.isSome_none, Option.getD_some, c2, i1, t1]
    rw [topP_last (by omega)]
end
end Go.Proofs.Ytmjbgfflbeibnaa.ti
