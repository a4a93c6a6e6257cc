/-
  proto: is a request one that may be? The document's answer.
-/
import Derived.Test.YtfeaaliocdkonaaPe
namespace Go.Proofs.Ytfeaaliocdkonaa.pr
open Go.Proofs.Ytfeaaliocdkonaa rr wi
set_option linter.unusedVariables false
set_option linter.unusedSimpArgs false
theorem DCkQ_i {S : Nat → Prop} {h : H} {w : Value} {recs : List rc.D} (kind number part off most : Int) (b1 : inI kind) (b3 : inI part) (b4 : inI off) (b5 : inI most) (hr : RepL S rc h w recs) :
    Ok Try.prog 13 #[.agg (qCs (kind, number, part, recs, off, most) w).toArray] h fun v h' => v = .int .i64 (ckQ (kind, number, part, recs, off, most)) ∧ Ext h h' := by
  obtain ⟨sa, sc, rfl⟩ := hr.len
  simp only [qCs]
  refine c13_ok (args := [_]) (by simp) ?_
  simp (disch := omega) only [dm_t, wS, simprocAttr, IntKind.bits]
  intro rb hrb; generalize hG : hupd h rb _ = G; obtain ⟨E, q⟩ := new_ext hG hrb; clear hG
  have c0 : cellAt G ⟨rb, 0, none⟩ = some (.int .i64 kind) := by rw [cellAt_of q]; rfl
  have c2 : cellAt G ⟨rb, 2, none⟩ = some (.int .i64 part) := by rw [cellAt_of q]; rfl
  have c3 : cellAt G ⟨rb, 3, none⟩ = some (.slice sa recs.length sc) := by rw [cellAt_of q]; rfl
  have c4 : cellAt G ⟨rb, 4, none⟩ = some (.int .i64 off) := by rw [cellAt_of q]; rfl
  have c5 : cellAt G ⟨rb, 5, none⟩ = some (.int .i64 most) := by rw [cellAt_of q]; rfl
  have tail : ∀ (G2 : H) (n : Int), Ext G G2 → okQ (kind, number, part, recs, off, most) = true → ((1048576 < n) ↔ (kind = 1 ∧ 1048576 < 19 + szR recs)) → vc Try.prog c13_s5 (retQ [2] (okR fun v h' => v = Value.int IntKind.i64 (ckQ (kind, number, part, recs, off, most)) ∧ Ext h h')) [(1, .pointer (some ⟨rb, 0, none⟩)), (3, .int .i64 n)] G2 := by
    intro G2 n e2 ho hn
    have c2 := cellAt_ext e2 c2
    replace E := E.trans e2
    by_cases p1 : 0 ≤ part
    · by_cases p2 : part ≤ 65535
      · by_cases k8 : 1048576 < n
        · simp (disch := omega) only [dm_t, wS, simprocAttr, IntKind.bits, c2]
          exact ⟨by rw [ckQ, if_pos ⟨ho, p1, p2⟩, if_pos (hn.1 k8)], E⟩
        · simp (disch := omega) only [dm_t, wS, simprocAttr, IntKind.bits, c2]
          exact ⟨by rw [ckQ, if_pos ⟨ho, p1, p2⟩, if_neg fun h => k8 (hn.2 h)], E⟩
      · simp (disch := omega) only [dm_t, wS, simprocAttr, IntKind.bits, c2]
        exact ⟨by rw [ckQ, if_neg fun h => p2 h.2.2], E⟩
    · simp (disch := omega) only [dm_t, wS, simprocAttr, IntKind.bits, c2]
      exact ⟨by rw [ckQ, if_neg fun h => p1 h.2.1], E⟩
  have no : okQ (kind, number, part, recs, off, most) = false → ckQ (kind, number, part, recs, off, most) = 2 := fun h => by rw [ckQ, if_neg (by rw [h]; simp)]
  by_cases k1 : kind = 1
  · by_cases k2 : off = 0
    · by_cases k3 : most = 0
      · simp (disch := omega) only [dm_t, wS, simprocAttr, IntKind.bits, c0, c3, c4, c5]
        refine (dcarry_ok (hr.ext E)).k ?_
        rintro _ G2 ⟨rfl, e2⟩
        cases hc : carryP recs with
        | true =>
          have hc2 := carry_t hc
          have hz := szR_le hc2.2
          simp (disch := omega) only [dm_t, wS, simprocAttr, IntKind.bits, cellAt_ext e2 c3]
          refine (size_ok ((hr.ext E).ext e2) hc2.2 hc2.1).k ?_
          rintro _ _ ⟨rfl, rfl⟩
          have t := tail G2 (15 + ((4 + szR recs : Nat) : Int)) e2 (by simp [okQ, k1, k2, k3, hc]) ⟨fun h => ⟨k1, by omega⟩, fun h => by omega⟩
          revert t
          simp (disch := omega) only [dm_t, wS, simprocAttr, IntKind.bits]
          exact id
        | false =>
          simp (disch := omega) only [dm_t, wS, simprocAttr, IntKind.bits]
          exact ⟨by rw [no (by simp [okQ, k1, hc])], E.trans e2⟩
      · simp (disch := omega) only [dm_t, wS, simprocAttr, IntKind.bits, c0, c3, c4, c5, c2]
        exact ⟨by rw [no (by simp [okQ, k1, k2, k3])], E⟩
    · simp (disch := omega) only [dm_t, wS, simprocAttr, IntKind.bits, c0, c3, c4, c5, c2]
      exact ⟨by rw [no (by simp [okQ, k1, k2])], E⟩
  by_cases k2 : kind = 2
  · by_cases l0 : recs.length = 0
    · by_cases u1 : 0 ≤ off
      · by_cases u2 : off ≤ 9007199254740992
        · by_cases u3 : 0 ≤ most
          · by_cases u4 : most ≤ 9007199254740992
            · have t := tail G (31) (Ext.refl _) (by simp [okQ, k2, l0, u1, u2, u3, u4]) ⟨fun h => by omega, fun h => absurd h.1 k1⟩
              revert t
              simp (disch := omega) only [dm_t, wS, simprocAttr, IntKind.bits, c0, c3, c4, c5]
              exact id
            · simp (disch := omega) only [dm_t, wS, simprocAttr, IntKind.bits, c0, c3, c4, c5, c2]
              exact ⟨by rw [no (by simp [okQ, k2, l0, u1, u2, u3, u4])], E⟩
          · simp (disch := omega) only [dm_t, wS, simprocAttr, IntKind.bits, c0, c3, c4, c5, c2]
            exact ⟨by rw [no (by simp [okQ, k2, l0, u1, u2, u3])], E⟩
        · simp (disch := omega) only [dm_t, wS, simprocAttr, IntKind.bits, c0, c3, c4, c5, c2]
          exact ⟨by rw [no (by simp [okQ, k2, l0, u1, u2])], E⟩
      · simp (disch := omega) only [dm_t, wS, simprocAttr, IntKind.bits, c0, c3, c4, c5, c2]
        exact ⟨by rw [no (by simp [okQ, k2, l0, u1])], E⟩
    · simp (disch := omega) only [dm_t, wS, simprocAttr, IntKind.bits, c0, c3, c4, c5, c2]
      exact ⟨by rw [no (by simp [okQ, k2, l0])], E⟩
  by_cases k3 : kind = 3
  · by_cases l0 : recs.length = 0
    · by_cases z1 : off = 0
      · by_cases z2 : most = 0
        · by_cases z3 : part = 0
          · have t := tail G (15) (Ext.refl _) (by simp [okQ, k3, l0, z1, z2, z3]) ⟨fun h => by omega, fun h => absurd h.1 k1⟩
            revert t
            simp (disch := omega) only [dm_t, wS, simprocAttr, IntKind.bits, c0, c3, c4, c5, c2]
            exact id
          · simp (disch := omega) only [dm_t, wS, simprocAttr, IntKind.bits, c0, c3, c4, c5, c2]
            exact ⟨by rw [no (by simp [okQ, k3, l0, z1, z2, z3])], E⟩
        · simp (disch := omega) only [dm_t, wS, simprocAttr, IntKind.bits, c0, c3, c4, c5, c2]
          exact ⟨by rw [no (by simp [okQ, k3, l0, z1, z2])], E⟩
      · simp (disch := omega) only [dm_t, wS, simprocAttr, IntKind.bits, c0, c3, c4, c5, c2]
        exact ⟨by rw [no (by simp [okQ, k3, l0, z1])], E⟩
    · simp (disch := omega) only [dm_t, wS, simprocAttr, IntKind.bits, c0, c3, c4, c5, c2]
      exact ⟨by rw [no (by simp [okQ, k3, l0])], E⟩
  · simp (disch := omega) only [dm_t, wS, simprocAttr, IntKind.bits, c0, c3, c4, c5, c2]
    exact ⟨by rw [no (by simp [okQ, k1, k2, k3])], E⟩
theorem DCkQ_ok {S : Nat → Prop} {h : H} {cs : List Value} {x : reqT.D} (hx : Rep S reqT h cs x) : Ok Try.prog 13 #[.agg cs.toArray] h fun v h' => v = .int .i64 (ckQ x) ∧ Ext h h' := by
  obtain ⟨w, rfl, ⟨b1, b2, b3, b4, b5⟩, hr⟩ := rep_req.1 hx
  exact DCkQ_i x.1 x.2.1 x.2.2.1 x.2.2.2.2.1 x.2.2.2.2.2 b1 b3 b4 b5 hr
end Go.Proofs.Ytfeaaliocdkonaa.pr
