/-
  proto: is a request, a reply one that may be? The program's answer, the document's.
-/
import Derived.Test.YtfeaaliocdkonaaPd
namespace Go.Proofs.Ytfeaaliocdkonaa.pr
open Go.Proofs.Ytfeaaliocdkonaa rr wi
set_option linter.unusedVariables false
set_option linter.unusedSimpArgs false
def okQ (x : reqT.D) : Bool :=
  if x.1 = 1 then carryP x.2.2.2.1 && (decide (x.2.2.2.2.1 = 0) && decide (x.2.2.2.2.2 = 0))
  else if x.1 = 2 then decide (x.2.2.2.1.length = 0) && ((decide ((0 : Int) ≤ x.2.2.2.2.1) && decide (@LE.le Int _ x.2.2.2.2.1 9007199254740992)) && (decide ((0 : Int) ≤ x.2.2.2.2.2) && decide (@LE.le Int _ x.2.2.2.2.2 9007199254740992)))
  else if x.1 = 3 then decide (x.2.2.2.1.length = 0) && (decide (x.2.2.2.2.1 = 0) && (decide (x.2.2.2.2.2 = 0) && decide (x.2.2.1 = 0)))
  else false
/-- May the request be? 0, 2, 8. -/
def ckQ (x : reqT.D) : Int :=
  if okQ x = true ∧ (0 : Int) ≤ x.2.2.1 ∧ @LE.le Int _ x.2.2.1 65535 then (if x.1 = 1 ∧ 1048576 < 19 + szR x.2.2.2.1 then 8 else 0) else 2
theorem CkQ_ok {S : Nat → Prop} {h : H} {cs : List Value} {x : reqT.D} (hx : Rep S reqT h cs x) : Ok Try.prog 15 #[.agg cs.toArray] h fun v h' => v = .int .i64 (ckQ x) ∧ Ext h h' := by
  obtain ⟨w, rfl, hb, hr⟩ := rep_req.1 hx
  obtain ⟨sa, sc, rfl⟩ := hr.len
  obtain ⟨kind, number, part, recs, off, most⟩ := x
  obtain ⟨b1, b2, b3, b4, b5⟩ := hb
  simp only [qCs] at *
  refine c15_ok (args := [_]) (by simp) ?_
  simp (disch := omega) only [dm_t, wS, simprocAttr, IntKind.bits]
  (intro rb hrb; generalize hG : hupd h rb _ = G; obtain ⟨E, q⟩ := new_ext hG hrb; clear hG)
  have c0 : cellAt G ⟨rb, 0, none⟩ = some (.int .i64 kind) := by rw [cellAt_of q]; rfl
  have c2 : cellAt G ⟨rb, 2, none⟩ = some (.int .i64 part) := by rw [cellAt_of q]; rfl
  have c3 : cellAt G ⟨rb, 3, none⟩ = some (.slice sa recs.length sc) := by rw [cellAt_of q]; rfl
  have c4 : cellAt G ⟨rb, 4, none⟩ = some (.int .i64 off) := by rw [cellAt_of q]; rfl
  have c5 : cellAt G ⟨rb, 5, none⟩ = some (.int .i64 most) := by rw [cellAt_of q]; rfl
  simp (disch := omega) only [dm_t, wS, simprocAttr, IntKind.bits, c3]
  refine (carry_ok (hr.ext E)).k ?_
  rintro _ G2 ⟨rfl, e2⟩
  replace c0 := cellAt_ext e2 c0
  replace c2 := cellAt_ext e2 c2
  replace c3 := cellAt_ext e2 c3
  replace c4 := cellAt_ext e2 c4
  replace c5 := cellAt_ext e2 c5
  replace E := E.trans e2
  clear e2 q hrb
  have hsz : carryP recs = true → szR recs ≤ 4473856 := fun hc => by
    have := szR_le (carry_t hc).2
    have := (carry_t hc).1
    omega
  have tail : ∀ (o : Bool) (n : Int), o = okQ (kind, number, part, recs, off, most) → n = (if kind = 1 then 15 + ((if carryP recs = true then 4 + szR recs else 0 : Nat) : Int) else 15) → vc Try.prog c15_s5 (seqQ Try.prog [] c15_s6 (retQ [2] (okR fun v h' => v = Value.int IntKind.i64 (ckQ (kind, number, part, recs, off, most)) ∧ Ext h h'))) [(1, .pointer (some ⟨rb, 0, none⟩)), (4, .bool o), (5, .int .i64 n)] G2 := by
    intro o n ho hn
    cases o with
    | false =>
      simp (disch := omega) only [dm_t, wS, simprocAttr, IntKind.bits]
      exact ⟨by rw [ckQ, if_neg (by rw [← ho]; simp)], E⟩
    | true =>
      simp (disch := omega) only [dm_t, wS, simprocAttr, IntKind.bits, c2]
      refine (in_ok _ _ _).k ?_
      rintro _ _ ⟨rfl, rfl⟩
      by_cases p1 : 0 ≤ part
      · by_cases p2 : part ≤ 65535
        · by_cases k1 : kind = 1
          · have hcr : carryP recs = true := by
              cases hcr : carryP recs with
              | true => rfl
              | false => simp [okQ, k1, hcr] at ho
            have := hsz hcr
            rw [if_pos k1, if_pos hcr] at hn
            by_cases k8 : 1048576 < 19 + szR recs
            · simp (disch := omega) only [dm_t, wS, simprocAttr, IntKind.bits, Bool.and_self]
              exact ⟨by rw [ckQ, if_pos ⟨ho.symm, p1, p2⟩, if_pos ⟨k1, k8⟩], E⟩
            · simp (disch := omega) only [dm_t, wS, simprocAttr, IntKind.bits, Bool.and_self]
              exact ⟨by rw [ckQ, if_pos ⟨ho.symm, p1, p2⟩, if_neg fun h => k8 h.2], E⟩
          · rw [if_neg k1] at hn
            simp (disch := omega) only [dm_t, wS, simprocAttr, IntKind.bits, Bool.and_self]
            exact ⟨by rw [ckQ, if_pos ⟨ho.symm, p1, p2⟩, if_neg fun h => k1 h.1], E⟩
        · simp (disch := omega) only [dm_t, wS, simprocAttr, IntKind.bits, Bool.and_false]
          exact ⟨by rw [ckQ, if_neg fun h => p2 h.2.2], E⟩
      · simp (disch := omega) only [dm_t, wS, simprocAttr, IntKind.bits, Bool.false_and]
        exact ⟨by rw [ckQ, if_neg fun h => p1 h.2.1], E⟩
  by_cases k1 : kind = 1
  · cases hc : carryP recs with
    | true =>
      have := hsz hc
      by_cases k2 : off = 0
      · by_cases k3 : most = 0
        · have t := tail true (15 + ((4 + szR recs : Nat) : Int)) (by simp [okQ, k1, k2, k3, hc]) (by simp [k1, k2, k3, hc])
          revert t
          simp (disch := omega) only [dm_t, wS, simprocAttr, IntKind.bits, c0, c3, c4, c5]
          exact id
        · have t := tail false (15 + ((4 + szR recs : Nat) : Int)) (by simp [okQ, k1, k2, k3, hc]) (by simp [k1, k2, k3, hc])
          revert t
          simp (disch := omega) only [dm_t, wS, simprocAttr, IntKind.bits, c0, c3, c4, c5]
          exact id
      · have t := tail false (15 + ((4 + szR recs : Nat) : Int)) (by simp [okQ, k1, k2, hc]) (by simp [k1, k2, hc])
        revert t
        simp (disch := omega) only [dm_t, wS, simprocAttr, IntKind.bits, c0, c3, c4, c5]
        exact id
    | false =>
      have t := tail false (15 + ((0 : Nat) : Int)) (by simp [okQ, k1, hc]) (by simp [k1, hc])
      revert t
      simp (disch := omega) only [dm_t, wS, simprocAttr, IntKind.bits, c0, c3, c4, c5, Bool.false_eq_true]
      exact id
  have hn : (15 : Int) = (if kind = 1 then 15 + ((if carryP recs = true then 4 + szR recs else 0 : Nat) : Int) else 15) := (if_neg k1).symm
  by_cases k2 : kind = 2
  · by_cases l0 : recs.length = 0
    · simp (disch := omega) only [dm_t, wS, simprocAttr, IntKind.bits, c0, c3, c4, c5]
      refine (in_ok _ _ _).k ?_
      rintro _ _ ⟨rfl, rfl⟩
      by_cases u1 : 0 ≤ off
      · by_cases u2 : off ≤ 9007199254740992
        · simp (disch := omega) only [dm_t, wS, simprocAttr, IntKind.bits, Bool.and_self, c4, c5]
          refine (in_ok _ _ _).k ?_
          rintro _ _ ⟨rfl, rfl⟩
          by_cases u3 : 0 ≤ most
          · by_cases u4 : most ≤ 9007199254740992
            · have t := tail true 15 (by simp [okQ, k2, l0, u1, u2, u3, u4]) hn
              revert t
              simp (disch := omega) only [dm_t, wS, simprocAttr, IntKind.bits, c0, c3, c4, c5, Bool.and_self]
              exact id
            · have t := tail false 15 (by simp [okQ, k2, l0, u1, u2, u3, u4]) hn
              revert t
              simp (disch := omega) only [dm_t, wS, simprocAttr, IntKind.bits, c0, c3, c4, c5, Bool.and_false]
              exact id
          · have t := tail false 15 (by simp [okQ, k2, l0, u1, u2, u3]) hn
            revert t
            simp (disch := omega) only [dm_t, wS, simprocAttr, IntKind.bits, c0, c3, c4, c5, Bool.false_and]
            exact id
        · have t := tail false 15 (by simp [okQ, k2, l0, u1, u2]) hn
          revert t
          simp (disch := omega) only [dm_t, wS, simprocAttr, IntKind.bits, c0, c3, c4, c5, Bool.and_false]
          exact id
      · have t := tail false 15 (by simp [okQ, k2, l0, u1]) hn
        revert t
        simp (disch := omega) only [dm_t, wS, simprocAttr, IntKind.bits, c0, c3, c4, c5, Bool.false_and]
        exact id
    · have t := tail false 15 (by simp [okQ, k2, l0]) hn
      revert t
      simp (disch := omega) only [dm_t, wS, simprocAttr, IntKind.bits, c0, c3, c4, c5]
      exact id
  by_cases k3 : kind = 3
  · by_cases l0 : recs.length = 0
    · by_cases z1 : off = 0
      · by_cases z2 : most = 0
        · by_cases z3 : part = 0
          · have t := tail true 15 (by simp [okQ, k3, l0, z1, z2, z3]) hn
            revert t
            simp (disch := omega) only [dm_t, wS, simprocAttr, IntKind.bits, c0, c3, c4, c5, c2]
            exact id
          · have t := tail false 15 (by simp [okQ, k3, l0, z1, z2, z3]) hn
            revert t
            simp (disch := omega) only [dm_t, wS, simprocAttr, IntKind.bits, c0, c3, c4, c5, c2]
            exact id
        · have t := tail false 15 (by simp [okQ, k3, l0, z1, z2]) hn
          revert t
          simp (disch := omega) only [dm_t, wS, simprocAttr, IntKind.bits, c0, c3, c4, c5, c2]
          exact id
      · have t := tail false 15 (by simp [okQ, k3, l0, z1]) hn
        revert t
        simp (disch := omega) only [dm_t, wS, simprocAttr, IntKind.bits, c0, c3, c4, c5, c2]
        exact id
    · have t := tail false 15 (by simp [okQ, k3, l0]) hn
      revert t
      simp (disch := omega) only [dm_t, wS, simprocAttr, IntKind.bits, c0, c3, c4, c5, c2]
      exact id
  · have t := tail false 15 (by simp [okQ, k1, k2, k3]) hn
    revert t
    simp (disch := omega) only [dm_t, wS, simprocAttr, IntKind.bits, c0, c3, c4, c5, c2]
    exact id
end Go.Proofs.Ytfeaaliocdkonaa.pr
