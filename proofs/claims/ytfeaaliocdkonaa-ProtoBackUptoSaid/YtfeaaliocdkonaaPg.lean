/-
  proto: is a reply one that may be? The program's answer.
-/
import Derived.Test.YtfeaaliocdkonaaPe
namespace Go.Proofs.Ytfeaaliocdkonaa.pr
open Go.Proofs.Ytfeaaliocdkonaa rr wi
set_option linter.unusedVariables false
set_option linter.unusedSimpArgs false
def mk (m : Int) : Bool := decide (0 ≤ m) && decide (m ≤ 9007199254740993)
/-- What is asked of a reply ahead of its kind. -/
def okA1 (x : ansT.D) : Bool := carryP x.2.2.2.2.1 && ((decide ((0 : Int) ≤ x.2.2.1) && decide (@LE.le Int _ x.2.2.1 65535)) && ((decide ((0 : Int) ≤ x.2.2.2.1) && decide (@LE.le Int _ x.2.2.2.1 9007199254740993)) && decide (x.2.2.2.2.2.length ≤ 16)))
def okA2 (x : ansT.D) : Bool := okA1 x && x.2.2.2.2.2.all mk
def okA3 (x : ansT.D) : Bool := okA2 x && (decide (x.2.2.1 = 0) || decide (x.2.2.2.1 = 0))
def okA4 (x : ansT.D) : Bool := okA3 x && (((decide (x.1 = 2) && decide (x.2.2.1 = 0)) || decide (x.2.2.2.2.1.length = 0)) && ((decide (x.1 = 3) && decide (x.2.2.1 = 0)) || decide (x.2.2.2.2.2.length = 0)))
def okA (x : ansT.D) : Bool := okA4 x && (decide (x.1 = 1) || (decide (x.1 = 2) || (decide (x.1 = 3) && decide (x.2.2.2.1 = 0))))
/-- May the reply be? 0, 2, 8. -/
def ckA (x : ansT.D) : Int := if okA x = true then (if x.1 = 2 ∧ 1048576 < 27 + szR x.2.2.2.2.1 then 8 else 0) else 2
theorem okA_carry {x : ansT.D} (h : okA x = true) : carryP x.2.2.2.2.1 = true := by
  simp only [okA, okA4, okA3, okA2, okA1, Bool.and_eq_true] at h
  exact h.1.1.1.1.1
/-- What the walk keeps. -/
structure AK (h G2 : H) (rb : Nat) (kind number err off : Int) (recs : List rc.D) (marks : List Int) (n0 : Nat) (sa ma : Option Addr) (sc mc : Nat) : Prop where
  c0 : cellAt G2 ⟨rb, 0, none⟩ = some (.int .i64 kind)
  c2 : cellAt G2 ⟨rb, 2, none⟩ = some (.int .i64 err)
  c3 : cellAt G2 ⟨rb, 3, none⟩ = some (.int .i64 off)
  c4 : cellAt G2 ⟨rb, 4, none⟩ = some (.slice sa recs.length sc)
  c5 : cellAt G2 ⟨rb, 5, none⟩ = some (.slice ma marks.length mc)
  E : Ext h G2
  hm : RepL nos (.int .i64) G2 (.slice ma marks.length mc) marks
  hn0 : carryP recs = true → n0 = 4 + szR recs
  hn1 : n0 ≤ 4473860
  hml : marks.length ≤ 4611686018427387904
abbrev QA (h : H) (x : ansT.D) : Post := retQ [2] (okR fun v h' => v = Value.int IntKind.i64 (ckA x) ∧ Ext h h')
section
variable {h G2 : H} {rb n0 sc mc : Nat} {kind number err off : Int} {recs : List rc.D} {marks : List Int} {sa ma : Option Addr}
theorem T18 (K : AK h G2 rb kind number err off recs marks n0 sa ma sc mc) (o : Bool) (n : Nat) (ho : o = okA (kind, number, err, off, recs, marks)) (hn : o = true → n = (if kind = 2 then n0 else 0)) : vc Try.prog c30_s18 (QA h (kind, number, err, off, recs, marks)) [(3, .int .i64 (n : Int)), (4, .bool o)] G2 := by
  obtain ⟨c0, c2, c3, c4, c5, E, hm, hn0, hn1, hml⟩ := K
  cases o with
  | false =>
    skip
    simp (disch := omega) only [dm_t, wS, simprocAttr, IntKind.bits]
    exact ⟨by rw [ckA, if_neg (by rw [← ho]; simp)], E⟩
  | true =>
    replace hn := hn rfl
    have hc := okA_carry ho.symm
    replace hn0 := hn0 hc
    by_cases k2 : kind = 2
    · rw [if_pos k2] at hn
      by_cases k8 : 1048576 < 27 + szR recs
      · skip
        simp (disch := omega) only [dm_t, wS, simprocAttr, IntKind.bits]
        exact ⟨by rw [ckA, if_pos ho.symm, if_pos ⟨k2, k8⟩], E⟩
      · skip
        simp (disch := omega) only [dm_t, wS, simprocAttr, IntKind.bits]
        exact ⟨by rw [ckA, if_pos ho.symm, if_neg fun h => k8 h.2], E⟩
    · rw [if_neg k2] at hn
      skip
      simp (disch := omega) only [dm_t, wS, simprocAttr, IntKind.bits]
      exact ⟨by rw [ckA, if_pos ho.symm, if_neg fun h => k2 h.1], E⟩
theorem T11 (K : AK h G2 rb kind number err off recs marks n0 sa ma sc mc) (o : Bool) (ho : o = okA4 (kind, number, err, off, recs, marks)) : vc Try.prog c30_s11 (QA h (kind, number, err, off, recs, marks)) [(1, .pointer (some ⟨rb, 0, none⟩)), (3, .int .i64 (n0 : Int)), (4, .bool o)] G2 := by
  obtain ⟨c0, c2, c3, c4, c5, -, -, -, -, -⟩ := id K
  by_cases k1 : kind = 1
  · have t := T18 K o 0 (by rw [okA, ← ho, decide_eq_true k1]; simp) (fun _ => by rw [if_neg (by omega)])
    revert t
    simp (disch := omega) only [dm_t, wS, simprocAttr, IntKind.bits, c0, c3]
    exact id
  by_cases k2 : kind = 2
  · have t := T18 K o n0 (by rw [okA, ← ho, decide_eq_true k2]; simp) (fun _ => by rw [if_pos k2])
    revert t
    simp (disch := omega) only [dm_t, wS, simprocAttr, IntKind.bits, c0, c3]
    exact id
  by_cases k3 : kind = 3
  · cases o with
    | false =>
      have t := T18 K false 0 (by rw [okA, ← ho]; rfl) (fun _ => by rw [if_neg k2])
      revert t
      simp (disch := omega) only [dm_t, wS, simprocAttr, IntKind.bits, c0, c3]
      exact id
    | true =>
      by_cases z : off = 0
      · have t := T18 K true 0 (by rw [okA, ← ho, decide_eq_true k3, decide_eq_true z]; simp) (fun _ => by rw [if_neg k2])
        revert t
        simp (disch := omega) only [dm_t, wS, simprocAttr, IntKind.bits, c0, c3]
        exact id
      · have t := T18 K false 0 (by rw [okA, ← ho, decide_eq_false k1, decide_eq_false k2, decide_eq_true k3, decide_eq_false z]; simp) (fun _ => by rw [if_neg k2])
        revert t
        simp (disch := omega) only [dm_t, wS, simprocAttr, IntKind.bits, c0, c3]
        exact id
  · have t := T18 K false n0 (by rw [okA, ← ho, decide_eq_false k1, decide_eq_false k2, decide_eq_false k3]; simp) (fun h => by cases h)
    revert t
    simp (disch := omega) only [dm_t, wS, simprocAttr, IntKind.bits, c0, c3]
    exact id
theorem T9b (K : AK h G2 rb kind number err off recs marks n0 sa ma sc mc) (k2 : kind = 2) (o : Bool) (ho : o = okA3 (kind, number, err, off, recs, marks)) : vc Try.prog c30_s9 (QA h (kind, number, err, off, recs, marks)) [(1, .pointer (some ⟨rb, 0, none⟩)), (3, .int .i64 (n0 : Int)), (4, .bool o)] G2 := by
  obtain ⟨c0, c2, c3, c4, c5, -, -, -, -, -⟩ := id K
  have k3 : ¬ kind = 3 := by omega
  by_cases e0 : err = 0
  · cases o with
    | false =>
      have t := T11 K false (by rw [okA4, ← ho]; rfl)
      revert t
      simp (disch := omega) only [dm_t, wS, simprocAttr, IntKind.bits, c0, c2, c4, c5]
      exact id
    | true =>
      by_cases l2 : marks.length = 0
      · have t := T11 K true (by rw [okA4, ← ho, decide_eq_true k2, decide_eq_false k3, decide_eq_true e0, decide_eq_true l2]; simp)
        revert t
        simp (disch := omega) only [dm_t, wS, simprocAttr, IntKind.bits, c0, c2, c4, c5]
        exact id
      · have t := T11 K false (by rw [okA4, ← ho, decide_eq_true k2, decide_eq_false k3, decide_eq_true e0, decide_eq_false l2]; simp)
        revert t
        simp (disch := omega) only [dm_t, wS, simprocAttr, IntKind.bits, c0, c2, c4, c5]
        exact id
  · cases o with
    | false =>
      have t := T11 K false (by rw [okA4, ← ho]; rfl)
      revert t
      simp (disch := omega) only [dm_t, wS, simprocAttr, IntKind.bits, c0, c2, c4, c5]
      exact id
    | true =>
      by_cases l1 : recs.length = 0
      · by_cases l2 : marks.length = 0
        · have t := T11 K true (by rw [okA4, ← ho, decide_eq_true k2, decide_eq_false k3, decide_eq_false e0, decide_eq_true l1, decide_eq_true l2]; simp)
          revert t
          simp (disch := omega) only [dm_t, wS, simprocAttr, IntKind.bits, c0, c2, c4, c5]
          exact id
        · have t := T11 K false (by rw [okA4, ← ho, decide_eq_true k2, decide_eq_false k3, decide_eq_false e0, decide_eq_true l1, decide_eq_false l2]; simp)
          revert t
          simp (disch := omega) only [dm_t, wS, simprocAttr, IntKind.bits, c0, c2, c4, c5]
          exact id
      · have t := T11 K false (by rw [okA4, ← ho, decide_eq_true k2, decide_eq_false k3, decide_eq_false e0, decide_eq_false l1]; simp)
        revert t
        simp (disch := omega) only [dm_t, wS, simprocAttr, IntKind.bits, c0, c2, c4, c5]
        exact id
theorem T9c (K : AK h G2 rb kind number err off recs marks n0 sa ma sc mc) (k2 : ¬ kind = 2) (k3 : kind = 3) (o : Bool) (ho : o = okA3 (kind, number, err, off, recs, marks)) : vc Try.prog c30_s9 (QA h (kind, number, err, off, recs, marks)) [(1, .pointer (some ⟨rb, 0, none⟩)), (3, .int .i64 (n0 : Int)), (4, .bool o)] G2 := by
  obtain ⟨c0, c2, c3, c4, c5, -, -, -, -, -⟩ := id K
  by_cases e0 : err = 0
  · cases o with
    | false =>
      have t := T11 K false (by rw [okA4, ← ho]; rfl)
      revert t
      simp (disch := omega) only [dm_t, wS, simprocAttr, IntKind.bits, c0, c2, c4, c5]
      exact id
    | true =>
      by_cases l1 : recs.length = 0
      · have t := T11 K true (by rw [okA4, ← ho, decide_eq_false k2, decide_eq_true k3, decide_eq_true e0, decide_eq_true l1]; simp)
        revert t
        simp (disch := omega) only [dm_t, wS, simprocAttr, IntKind.bits, c0, c2, c4, c5]
        exact id
      · have t := T11 K false (by rw [okA4, ← ho, decide_eq_false k2, decide_eq_true k3, decide_eq_true e0, decide_eq_false l1]; simp)
        revert t
        simp (disch := omega) only [dm_t, wS, simprocAttr, IntKind.bits, c0, c2, c4, c5]
        exact id
  · cases o with
    | false =>
      have t := T11 K false (by rw [okA4, ← ho]; rfl)
      revert t
      simp (disch := omega) only [dm_t, wS, simprocAttr, IntKind.bits, c0, c2, c4, c5]
      exact id
    | true =>
      by_cases l1 : recs.length = 0
      · by_cases l2 : marks.length = 0
        · have t := T11 K true (by rw [okA4, ← ho, decide_eq_false k2, decide_eq_true k3, decide_eq_false e0, decide_eq_true l1, decide_eq_true l2]; simp)
          revert t
          simp (disch := omega) only [dm_t, wS, simprocAttr, IntKind.bits, c0, c2, c4, c5]
          exact id
        · have t := T11 K false (by rw [okA4, ← ho, decide_eq_false k2, decide_eq_true k3, decide_eq_false e0, decide_eq_true l1, decide_eq_false l2]; simp)
          revert t
          simp (disch := omega) only [dm_t, wS, simprocAttr, IntKind.bits, c0, c2, c4, c5]
          exact id
      · have t := T11 K false (by rw [okA4, ← ho, decide_eq_false k2, decide_eq_true k3, decide_eq_false e0, decide_eq_false l1]; simp)
        revert t
        simp (disch := omega) only [dm_t, wS, simprocAttr, IntKind.bits, c0, c2, c4, c5]
        exact id
theorem T9d (K : AK h G2 rb kind number err off recs marks n0 sa ma sc mc) (k2 : ¬ kind = 2) (k3 : ¬ kind = 3) (o : Bool) (ho : o = okA3 (kind, number, err, off, recs, marks)) : vc Try.prog c30_s9 (QA h (kind, number, err, off, recs, marks)) [(1, .pointer (some ⟨rb, 0, none⟩)), (3, .int .i64 (n0 : Int)), (4, .bool o)] G2 := by
  obtain ⟨c0, c2, c3, c4, c5, -, -, -, -, -⟩ := id K
  cases o with
  | false =>
    have t := T11 K false (by rw [okA4, ← ho]; rfl)
    revert t
    simp (disch := omega) only [dm_t, wS, simprocAttr, IntKind.bits, c0, c2, c4, c5]
    exact id
  | true =>
    by_cases l1 : recs.length = 0
    · by_cases l2 : marks.length = 0
      · have t := T11 K true (by rw [okA4, ← ho, decide_eq_false k2, decide_eq_false k3, decide_eq_true l1, decide_eq_true l2]; simp)
        revert t
        simp (disch := omega) only [dm_t, wS, simprocAttr, IntKind.bits, c0, c2, c4, c5]
        exact id
      · have t := T11 K false (by rw [okA4, ← ho, decide_eq_false k2, decide_eq_false k3, decide_eq_true l1, decide_eq_false l2]; simp)
        revert t
        simp (disch := omega) only [dm_t, wS, simprocAttr, IntKind.bits, c0, c2, c4, c5]
        exact id
    · have t := T11 K false (by rw [okA4, ← ho, decide_eq_false k2, decide_eq_false k3, decide_eq_false l1]; simp)
      revert t
      simp (disch := omega) only [dm_t, wS, simprocAttr, IntKind.bits, c0, c2, c4, c5]
      exact id
theorem T9 (K : AK h G2 rb kind number err off recs marks n0 sa ma sc mc) (o : Bool) (ho : o = okA3 (kind, number, err, off, recs, marks)) : vc Try.prog c30_s9 (QA h (kind, number, err, off, recs, marks)) [(1, .pointer (some ⟨rb, 0, none⟩)), (3, .int .i64 (n0 : Int)), (4, .bool o)] G2 := by
  by_cases k2 : kind = 2
  · exact T9b K k2 o ho
  by_cases k3 : kind = 3
  · exact T9c K k2 k3 o ho
  · exact T9d K k2 k3 o ho
theorem T8 (K : AK h G2 rb kind number err off recs marks n0 sa ma sc mc) (o : Bool) (ho : o = okA2 (kind, number, err, off, recs, marks)) : vc Try.prog c30_s8 (QA h (kind, number, err, off, recs, marks)) [(1, .pointer (some ⟨rb, 0, none⟩)), (3, .int .i64 (n0 : Int)), (4, .bool o)] G2 := by
  obtain ⟨c0, c2, c3, c4, c5, -, -, -, -, -⟩ := id K
  by_cases e0 : err = 0
  · have t := T9 K o (by rw [okA3, ← ho, decide_eq_true e0]; simp)
    revert t
    simp (disch := omega) only [dm_t, wS, simprocAttr, IntKind.bits, c2, c3, c0]
    exact id
  · cases o with
    | false =>
      have t := T9 K false (by rw [okA3, ← ho]; rfl)
      revert t
      simp (disch := omega) only [dm_t, wS, simprocAttr, IntKind.bits, c2, c3]
      exact id
    | true =>
      by_cases z : off = 0
      · have t := T9 K true (by rw [okA3, ← ho, decide_eq_true z]; simp)
        revert t
        simp (disch := omega) only [dm_t, wS, simprocAttr, IntKind.bits, c2, c3]
        exact id
      · have t := T9 K false (by rw [okA3, ← ho, decide_eq_false z, decide_eq_false e0]; simp)
        revert t
        simp (disch := omega) only [dm_t, wS, simprocAttr, IntKind.bits, c2, c3]
        exact id
theorem T2 (K : AK h G2 rb kind number err off recs marks n0 sa ma sc mc) (o : Bool) (ho : o = okA1 (kind, number, err, off, recs, marks)) : vc Try.prog c30_s2 (QA h (kind, number, err, off, recs, marks)) [(1, .pointer (some ⟨rb, 0, none⟩)), (3, .int .i64 (n0 : Int)), (4, .bool o)] G2 := by
  obtain ⟨c0, c2, c3, c4, c5, -, hm, -, -, hml2⟩ := id K
  have hmi := (repI hm).1
  have hml := SlK.cap hmi
  rw [one_len, List.length_map] at hml
  simp (disch := omega) only [dm_t, wS, simprocAttr, IntKind.bits, c5]
  refine vc_loop2 (fun vo vi h' => h' = G2 ∧ ∃ i : Nat, vi = .int .i64 (i : Int) ∧ i ≤ marks.length ∧ vo = .bool (o && (marks.take i).all mk)) (fun _ vi _ => marks.length - m1 vi) ?_ ?_
  · simp (disch := omega) only [dm_t, wS, simprocAttr, IntKind.bits]
    exact ⟨0, rfl, by omega, by simp⟩
  rintro _ _ g ⟨rfl, i, rfl, hi, rfl⟩
  by_cases hil : i < marks.length
  · obtain ⟨pb, po, i1, t1⟩ := S1.load hmi (i := i) (by simpa using hil) .i64
    rw [List.getElem_map] at t1
    have hsp : marks.take (i + 1) = marks.take i ++ [marks[i]] := by simp
    have hall : (o && (marks.take (i + 1)).all mk) = ((o && (marks.take i).all mk) && mk marks[i]) := by rw [hsp, List.all_append, Bool.and_assoc]; simp
    have hb1 : ∀ (b : Bool), b = (o && (marks.take (i + 1)).all mk) → (Value.bool b = .bool (o && (marks.take (i + 1)).all mk)) := fun b h => by rw [h]
    have i1' := i1
    cases hb : (o && (marks.take i).all mk) with
    | false =>
      rw [hb, Bool.false_and] at hall
      simp (disch := omega) only [dm_t, wS, simprocAttr, IntKind.bits, i1, t1]
      exact ⟨⟨i + 1, by simp, by omega, by rw [hall]⟩, by simp [m1]; omega⟩
    | true =>
      rw [hb, Bool.true_and] at hall
      simp (disch := omega) only [dm_t, wS, simprocAttr, IntKind.bits, i1, t1]
      refine (in_ok _ _ _).k ?_
      rintro _ _ ⟨rfl, rfl⟩
      simp (disch := omega) only [dm_t, wS, simprocAttr, IntKind.bits]
      exact ⟨⟨i + 1, by simp, by omega, by rw [hall]; rfl⟩, by simp [m1]; omega⟩
  · obtain rfl : i = marks.length := by omega
    rw [List.take_length]
    have t := T8 K (o && marks.all mk) (by rw [okA2, ← ho])
    revert t
    simp (disch := omega) only [dm_t, wS, simprocAttr, IntKind.bits, c2]
    exact id
end
theorem CkA_i {S : Nat → Prop} {h : H} {w mw : Value} {recs : List rc.D} {marks : List Int} (kind number err off : Int) (b1 : inI kind) (b3 : inI err) (b4 : inI off) (hr : RepL S rc h w recs) (hm : RepL S (.int .i64) h mw marks) (hml : marks.length ≤ 4611686018427387904) :
    Ok Try.prog 30 #[.agg (aCs (kind, number, err, off, recs, marks) w mw).toArray] h fun v h' => v = .int .i64 (ckA (kind, number, err, off, recs, marks)) ∧ Ext h h' := by
  obtain ⟨sa, sc, rfl⟩ := hr.len
  obtain ⟨ma, mc, rfl⟩ := hm.len
  simp only [aCs]
  refine c30_ok (args := [_]) (by simp) ?_
  simp (disch := omega) only [dm_t, wS, simprocAttr, IntKind.bits]
  intro rb hrb; generalize hG : hupd h rb _ = G; obtain ⟨E, q⟩ := new_ext hG hrb; clear hG
  have c0 : cellAt G ⟨rb, 0, none⟩ = some (.int .i64 kind) := by rw [cellAt_of q]; rfl
  have c2 : cellAt G ⟨rb, 2, none⟩ = some (.int .i64 err) := by rw [cellAt_of q]; rfl
  have c3 : cellAt G ⟨rb, 3, none⟩ = some (.int .i64 off) := by rw [cellAt_of q]; rfl
  have c4 : cellAt G ⟨rb, 4, none⟩ = some (.slice sa recs.length sc) := by rw [cellAt_of q]; rfl
  have c5 : cellAt G ⟨rb, 5, none⟩ = some (.slice ma marks.length mc) := by rw [cellAt_of q]; rfl
  simp (disch := omega) only [dm_t, wS, simprocAttr, IntKind.bits, c4]
  refine (carry_ok (hr.ext E)).k ?_
  rintro _ G2 ⟨rfl, e2⟩
  replace c0 := cellAt_ext e2 c0
  replace c2 := cellAt_ext e2 c2
  replace c3 := cellAt_ext e2 c3
  replace c4 := cellAt_ext e2 c4
  replace c5 := cellAt_ext e2 c5
  replace E := E.trans e2
  replace hm := (hm.ext E)
  clear e2 q hrb
  have hsz : carryP recs = true → szR recs ≤ 4473856 := fun hc => by
    have := szR_le (carry_t hc).2
    have := (carry_t hc).1
    omega
  generalize hn0 : (if carryP recs = true then 4 + szR recs else 0 : Nat) = n0
  have K : AK h G2 rb kind number err off recs marks n0 sa ma sc mc := ⟨c0, c2, c3, c4, c5, E, RepL.mono hm fun _ _ _ h => h.elim, fun hc => by rw [← hn0, if_pos hc], by
    rw [← hn0]
    split
    · have := hsz (by assumption); omega
    · omega, hml⟩
  cases hc : carryP recs with
  | false =>
    have t := T2 K false (by simp [okA1, hc])
    revert t
    simp (disch := omega) only [dm_t, wS, simprocAttr, IntKind.bits, c5, c2, c3]
    exact id
  | true =>
    simp (disch := omega) only [dm_t, wS, simprocAttr, IntKind.bits, c2]
    refine (in_ok _ _ _).k ?_
    rintro _ _ ⟨rfl, rfl⟩
    by_cases u : 0 ≤ err ∧ err ≤ 65535
    · obtain ⟨u1, u2⟩ := u
      simp (disch := omega) only [dm_t, wS, simprocAttr, IntKind.bits, Bool.and_self, c3]
      refine (in_ok _ _ _).k ?_
      rintro _ _ ⟨rfl, rfl⟩
      by_cases u' : 0 ≤ off ∧ off ≤ 9007199254740993
      · obtain ⟨u3, u4⟩ := u'
        by_cases u5 : marks.length ≤ 16
        · have t := T2 K true (by simp [okA1, hc, u1, u2, u3, u4, u5])
          revert t
          simp (disch := omega) only [dm_t, wS, simprocAttr, IntKind.bits, Bool.and_self, c5]
          exact id
        · have t := T2 K false (by simp [okA1, hc, u5])
          revert t
          simp (disch := omega) only [dm_t, wS, simprocAttr, IntKind.bits, Bool.and_self, c5]
          exact id
      · have hu : (decide (0 ≤ off) && decide (off ≤ 9007199254740993)) = false := by
          rw [Bool.eq_false_iff, ne_eq, Bool.and_eq_true, decide_eq_true_eq, decide_eq_true_eq]; exact u'
        have t := T2 K false (by simp only [okA1, hu]; simp)
        revert t
        rw [hu]
        simp (disch := omega) only [dm_t, wS, simprocAttr, IntKind.bits, Bool.and_self, c5]
        exact id
    · have hu : (decide (0 ≤ err) && decide (err ≤ 65535)) = false := by
        rw [Bool.eq_false_iff, ne_eq, Bool.and_eq_true, decide_eq_true_eq, decide_eq_true_eq]; exact u
      have t := T2 K false (by simp only [okA1, hu]; simp)
      revert t
      rw [hu]
      simp (disch := omega) only [dm_t, wS, simprocAttr, IntKind.bits, Bool.and_self, c5]
      exact id
theorem CkA_ok {S : Nat → Prop} {h : H} {cs : List Value} {x : ansT.D} (hx : Rep S ansT h cs x) (hml : x.2.2.2.2.2.length ≤ 4611686018427387904) : Ok Try.prog 30 #[.agg cs.toArray] h fun v h' => v = .int .i64 (ckA x) ∧ Ext h h' := by
  obtain ⟨w, mw, rfl, ⟨b1, b2, b3, b4⟩, hr, hm⟩ := rep_ans.1 hx
  exact CkA_i x.1 x.2.1 x.2.2.1 x.2.2.2.1 b1 b3 b4 hr hm hml
end Go.Proofs.Ytfeaaliocdkonaa.pr
