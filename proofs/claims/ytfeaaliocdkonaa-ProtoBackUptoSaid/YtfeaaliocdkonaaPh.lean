/-
  proto: is a reply one that may be? The document's answer.
-/
import Derived.Test.YtfeaaliocdkonaaPg
import Derived.Test.YtfeaaliocdkonaaPf
namespace Go.Proofs.Ytfeaaliocdkonaa.pr
open Go.Proofs.Ytfeaaliocdkonaa rr wi
set_option linter.unusedVariables false
set_option linter.unusedSimpArgs false
theorem noA {x : ansT.D} (h : okA x = false) : ckA x = 2 := by rw [ckA, if_neg (by rw [h]; simp)]
theorem noA4 {x : ansT.D} (h : okA4 x = false) : ckA x = 2 := noA (by rw [okA, h]; rfl)
theorem noA3 {x : ansT.D} (h : okA3 x = false) : ckA x = 2 := noA4 (by rw [okA4, h]; rfl)
theorem noA2 {x : ansT.D} (h : okA2 x = false) : ckA x = 2 := noA3 (by rw [okA3, h]; rfl)
theorem noA1 {x : ansT.D} (h : okA1 x = false) : ckA x = 2 := noA2 (by rw [okA2, h]; rfl)
structure BK (h G2 : H) (rb : Nat) (kind number err off : Int) (recs : List rc.D) (marks : List Int) (sa ma : Option Addr) (sc mc : Nat) : Prop where
  c0 : cellAt G2 ⟨rb, 0, none⟩ = some (.int .i64 kind)
  c2 : cellAt G2 ⟨rb, 2, none⟩ = some (.int .i64 err)
  c3 : cellAt G2 ⟨rb, 3, none⟩ = some (.int .i64 off)
  c4 : cellAt G2 ⟨rb, 4, none⟩ = some (.slice sa recs.length sc)
  c5 : cellAt G2 ⟨rb, 5, none⟩ = some (.slice ma marks.length mc)
  E : Ext h G2
  hr : RepL nos rc G2 (.slice sa recs.length sc) recs
  hm : RepL nos (.int .i64) G2 (.slice ma marks.length mc) marks
  hk : (1 : Int) ≤ kind ∧ kind ≤ 3
  o1 : okA1 (kind, number, err, off, recs, marks) = true
abbrev QD (h : H) (x : ansT.D) : Post := retQ [2] (okR fun v h' => v = Value.int .i64 (ckA x) ∧ Ext h h')
section
variable {h G2 : H} {rb sc mc : Nat} {kind number err off : Int} {recs : List rc.D} {marks : List Int} {sa ma : Option Addr}
theorem D7 (K : BK h G2 rb kind number err off recs marks sa ma sc mc) (ho : okA (kind, number, err, off, recs, marks) = true) : vc Try.prog c29_s7 (QD h (kind, number, err, off, recs, marks)) [(1, .pointer (some ⟨rb, 0, none⟩))] G2 := by
  obtain ⟨c0, c2, c3, c4, c5, E, hr, hm, hk, o1⟩ := id K
  have hc : recs.length ≤ 1024 ∧ recs.all may = true := carry_t (okA_carry ho)
  have hz := szR_le hc.2
  simp (disch := omega) only [dm_t, wS, simprocAttr, IntKind.bits, c4]
  refine (size_ok hr hc.2 hc.1).k ?_
  rintro _ G3 ⟨rfl, hGG⟩; subst hGG
  by_cases k8 : 1048576 < 27 + szR recs
  · by_cases k2 : kind = 2
    · simp (disch := omega) only [dm_t, wS, simprocAttr, IntKind.bits, c0]
      exact ⟨by rw [ckA, if_pos ho, if_pos ⟨k2, k8⟩], E⟩
    · simp (disch := omega) only [dm_t, wS, simprocAttr, IntKind.bits, c0]
      exact ⟨by rw [ckA, if_pos ho, if_neg fun h => k2 h.1], E⟩
  · simp (disch := omega) only [dm_t, wS, simprocAttr, IntKind.bits, c0]
    exact ⟨by rw [ckA, if_pos ho, if_neg fun h => k8 h.2], E⟩
theorem D6 (K : BK h G2 rb kind number err off recs marks sa ma sc mc) (ho : okA3 (kind, number, err, off, recs, marks) = true) (h4 : err ≠ 0 → recs.length = 0 ∧ marks.length = 0) : vc Try.prog c29_s6 (QD h (kind, number, err, off, recs, marks)) [(1, .pointer (some ⟨rb, 0, none⟩))] G2 := by
  obtain ⟨c0, c2, c3, c4, c5, E, hr, hm, hk, o1⟩ := id K
  have e2 : kind = 2 → err ≠ 0 → recs.length = 0 := fun _ h => (h4 h).1
  have w2 : kind = 2 → ((decide (err = 0)) || decide (recs.length = 0)) = true := fun _ => by
    by_cases h : err = 0
    · simp [h]
    · simp [(h4 h).1]
  have w3 : ((decide (err = 0)) || decide (marks.length = 0)) = true := by
    by_cases h : err = 0
    · simp [h]
    · simp [(h4 h).2]
  have w2' : ((decide (err = 0)) || decide (recs.length = 0)) = true := by
    by_cases h : err = 0
    · simp [h]
    · simp [(h4 h).1]
  by_cases k2 : kind = 2
  · have k3 : ¬ kind = 3 := by omega
    by_cases l2 : marks.length = 0
    · have t := D7 K (by rw [okA, okA4, ho, decide_eq_true k2, decide_eq_false k3, decide_eq_true l2, Bool.true_and (decide (err = 0)), w2 k2]; simp)
      revert t
      simp (disch := omega) only [dm_t, wS, simprocAttr, IntKind.bits, c0, c2, c3, c4, c5]
      exact id
    · simp (disch := omega) only [dm_t, wS, simprocAttr, IntKind.bits, c0, c2, c3, c4, c5]
      exact ⟨by rw [noA4 (by rw [okA4, decide_eq_false k3, decide_eq_false l2]; simp)], E⟩
  by_cases k3 : kind = 3
  · by_cases l1 : recs.length = 0
    · by_cases z : off = 0
      · have t := D7 K (by rw [okA, okA4, ho, decide_eq_false k2, decide_eq_true k3, decide_eq_true l1, decide_eq_true z, Bool.true_and (decide (err = 0)), w3]; simp)
        revert t
        simp (disch := omega) only [dm_t, wS, simprocAttr, IntKind.bits, c0, c2, c3, c4, c5]
        exact id
      · simp (disch := omega) only [dm_t, wS, simprocAttr, IntKind.bits, c0, c2, c3, c4, c5]
        exact ⟨by rw [noA (by rw [okA, decide_eq_false k2, decide_eq_false z, decide_eq_false (show ¬ kind = 1 by omega)]; simp)], E⟩
    · simp (disch := omega) only [dm_t, wS, simprocAttr, IntKind.bits, c0, c2, c3, c4, c5]
      exact ⟨by rw [noA4 (by rw [okA4, decide_eq_false k2, decide_eq_false l1]; simp)], E⟩
  · by_cases l1 : recs.length = 0
    · by_cases l2 : marks.length = 0
      · have t := D7 K (by rw [okA, okA4, ho, decide_eq_true (show kind = 1 by omega), decide_eq_true l1, decide_eq_true l2]; simp)
        revert t
        simp (disch := omega) only [dm_t, wS, simprocAttr, IntKind.bits, c0, c2, c3, c4, c5]
        exact id
      · simp (disch := omega) only [dm_t, wS, simprocAttr, IntKind.bits, c0, c2, c3, c4, c5]
        exact ⟨by rw [noA4 (by rw [okA4, decide_eq_false k3, decide_eq_false l2]; simp)], E⟩
    · simp (disch := omega) only [dm_t, wS, simprocAttr, IntKind.bits, c0, c2, c3, c4, c5]
      exact ⟨by rw [noA4 (by rw [okA4, decide_eq_false k2, decide_eq_false l1]; simp)], E⟩
theorem D5 (K : BK h G2 rb kind number err off recs marks sa ma sc mc) (ho : okA2 (kind, number, err, off, recs, marks) = true) : vc Try.prog c29_s5 (QD h (kind, number, err, off, recs, marks)) [(1, .pointer (some ⟨rb, 0, none⟩))] G2 := by
  obtain ⟨c0, c2, c3, c4, c5, E, hr, hm, hk, o1⟩ := id K
  by_cases e0 : err = 0
  · have t := D6 K (by rw [okA3, ho, decide_eq_true e0]; simp) (fun h => absurd e0 h)
    revert t
    simp (disch := omega) only [dm_t, wS, simprocAttr, IntKind.bits, c0, c2, c3, c4, c5]
    exact id
  by_cases z : off = 0
  · by_cases l1 : recs.length = 0
    · by_cases l2 : marks.length = 0
      · have t := D6 K (by rw [okA3, ho, decide_eq_true z]; simp) (fun _ => ⟨l1, l2⟩)
        revert t
        simp (disch := omega) only [dm_t, wS, simprocAttr, IntKind.bits, c0, c2, c3, c4, c5]
        exact id
      · simp (disch := omega) only [dm_t, wS, simprocAttr, IntKind.bits, c0, c2, c3, c4, c5]
        exact ⟨by rw [noA4 (by rw [okA4, decide_eq_false e0, decide_eq_false l2]; simp)], E⟩
    · simp (disch := omega) only [dm_t, wS, simprocAttr, IntKind.bits, c0, c2, c3, c4, c5]
      exact ⟨by rw [noA4 (by rw [okA4, decide_eq_false e0, decide_eq_false l1]; simp)], E⟩
  · simp (disch := omega) only [dm_t, wS, simprocAttr, IntKind.bits, c0, c2, c3, c4, c5]
    exact ⟨by rw [noA3 (by rw [okA3, decide_eq_false e0, decide_eq_false z]; simp)], E⟩
theorem D1 (K : BK h G2 rb kind number err off recs marks sa ma sc mc) (hml : marks.length ≤ 16) : vc Try.prog c29_s1 (QD h (kind, number, err, off, recs, marks)) [(1, .pointer (some ⟨rb, 0, none⟩))] G2 := by
  obtain ⟨c0, c2, c3, c4, c5, E, hr, hm, hk, o1⟩ := id K
  have hmi := (repI hm).1
  have hmc := SlK.cap hmi
  rw [one_len, List.length_map] at hmc
  simp (disch := omega) only [dm_t, wS, simprocAttr, IntKind.bits]
  refine vc_loop1 (fun vi h' => h' = G2 ∧ ∃ i : Nat, vi = .int .i64 (i : Int) ∧ i ≤ marks.length ∧ (marks.take i).all mk = true) (fun vi _ => marks.length - m1 vi) ?_ ?_
  · simp (disch := omega) only [dm_t, wS, simprocAttr, IntKind.bits]
    exact ⟨0, rfl, by omega, rfl⟩
  rintro _ g ⟨rfl, i, rfl, hi, hal⟩
  by_cases hil : i < marks.length
  · obtain ⟨pb, po, i1, t1⟩ := S1.load hmi (i := i) (by simpa using hil) .i64
    rw [List.getElem_map] at t1
    have hsp : marks.take (i + 1) = marks.take i ++ [marks[i]] := by simp
    have hno : ¬ mk marks[i] = true → okA2 (kind, number, err, off, recs, marks) = false := fun hn => by
      have : marks.all mk = false := by
        rw [Bool.eq_false_iff]; intro ha
        exact hn (List.all_eq_true.1 ha _ (List.getElem_mem hil))
      rw [okA2, this, Bool.and_false]
    have hyes : mk marks[i] = true → (marks.take (i + 1)).all mk = true := fun hn => by
      rw [hsp, List.all_append, hal]; simp [hn]
    generalize marks[i] = m at t1 hno hyes
    by_cases m1' : 0 ≤ m
    · by_cases m2 : m ≤ 9007199254740993
      · simp (disch := omega) only [dm_t, wS, simprocAttr, IntKind.bits, c5, i1, t1]
        repeat' (first | exact ⟨⟨i + 1, by simp, by omega, hyes (by rw [mk, decide_eq_true m1', decide_eq_true m2]; rfl)⟩, by simp [m1]; omega⟩ | refine ⟨?_, ?_⟩)
      · simp (disch := omega) only [dm_t, wS, simprocAttr, IntKind.bits, c5, i1, t1]
        repeat' (first | exact ⟨by rw [noA2 (hno (by rw [mk, decide_eq_false m2]; simp))], E⟩ | refine ⟨?_, ?_⟩)
    · simp (disch := omega) only [dm_t, wS, simprocAttr, IntKind.bits, c5, i1, t1]
      repeat' (first | exact ⟨by rw [noA2 (hno (by rw [mk, decide_eq_false m1']; simp))], E⟩ | refine ⟨?_, ?_⟩)
  · obtain rfl : i = marks.length := by omega
    rw [List.take_length] at hal
    have t := D5 K (by rw [okA2, o1, hal]; rfl)
    revert t
    simp (disch := omega) only [dm_t, wS, simprocAttr, IntKind.bits, c5, c2]
    exact id
end
theorem DCkA_i {S : Nat → Prop} {h : H} {w mw : Value} {recs : List rc.D} {marks : List Int} (kind number err off : Int) (b1 : inI kind) (b3 : inI err) (b4 : inI off) (hr : RepL S rc h w recs) (hm : RepL S (.int .i64) h mw marks) :
    Ok Try.prog 29 #[.agg (aCs (kind, number, err, off, recs, marks) w mw).toArray] h fun v h' => v = .int .i64 (ckA (kind, number, err, off, recs, marks)) ∧ Ext h h' := by
  obtain ⟨sa, sc, rfl⟩ := hr.len
  obtain ⟨ma, mc, rfl⟩ := hm.len
  simp only [aCs]
  refine c29_ok (args := [_]) (by simp) ?_
  simp (disch := omega) only [dm_t, wS, simprocAttr, IntKind.bits]
  intro rb hrb; generalize hG : hupd h rb _ = G; obtain ⟨E, q⟩ := new_ext hG hrb; clear hG
  have c0 : cellAt G ⟨rb, 0, none⟩ = some (.int .i64 kind) := by rw [cellAt_of q]; rfl
  have c2 : cellAt G ⟨rb, 2, none⟩ = some (.int .i64 err) := by rw [cellAt_of q]; rfl
  have c3 : cellAt G ⟨rb, 3, none⟩ = some (.int .i64 off) := by rw [cellAt_of q]; rfl
  have c4 : cellAt G ⟨rb, 4, none⟩ = some (.slice sa recs.length sc) := by rw [cellAt_of q]; rfl
  have c5 : cellAt G ⟨rb, 5, none⟩ = some (.slice ma marks.length mc) := by rw [cellAt_of q]; rfl
  by_cases k1 : 1 ≤ kind
  case neg =>
    simp (disch := omega) only [dm_t, wS, simprocAttr, IntKind.bits, c0, c2, c3, c4, c5]
    exact ⟨by rw [noA (by rw [okA, decide_eq_false (show ¬ kind = 1 by omega), decide_eq_false (show ¬ kind = 2 by omega), decide_eq_false (show ¬ kind = 3 by omega)]; simp)], E⟩
  by_cases k3 : kind ≤ 3
  case neg =>
    simp (disch := omega) only [dm_t, wS, simprocAttr, IntKind.bits, c0, c2, c3, c4, c5]
    exact ⟨by rw [noA (by rw [okA, decide_eq_false (show ¬ kind = 1 by omega), decide_eq_false (show ¬ kind = 2 by omega), decide_eq_false (show ¬ kind = 3 by omega)]; simp)], E⟩
  by_cases u1 : 0 ≤ err
  case neg =>
    simp (disch := omega) only [dm_t, wS, simprocAttr, IntKind.bits, c0, c2, c3, c4, c5]
    exact ⟨by rw [noA1 (by simp only [okA1, decide_eq_false u1]; simp)], E⟩
  by_cases u2 : err ≤ 65535
  case neg =>
    simp (disch := omega) only [dm_t, wS, simprocAttr, IntKind.bits, c0, c2, c3, c4, c5]
    exact ⟨by rw [noA1 (by simp only [okA1, decide_eq_false u2]; simp)], E⟩
  by_cases u3 : 0 ≤ off
  case neg =>
    simp (disch := omega) only [dm_t, wS, simprocAttr, IntKind.bits, c0, c2, c3, c4, c5]
    exact ⟨by rw [noA1 (by simp only [okA1, decide_eq_false u3]; simp)], E⟩
  by_cases u4 : off ≤ 9007199254740993
  case neg =>
    simp (disch := omega) only [dm_t, wS, simprocAttr, IntKind.bits, c0, c2, c3, c4, c5]
    exact ⟨by rw [noA1 (by simp only [okA1, decide_eq_false u4]; simp)], E⟩
  by_cases u5 : marks.length ≤ 16
  case neg =>
    simp (disch := omega) only [dm_t, wS, simprocAttr, IntKind.bits, c0, c2, c3, c4, c5]
    exact ⟨by rw [noA1 (by simp only [okA1, decide_eq_false u5]; simp)], E⟩
  simp (disch := omega) only [dm_t, wS, simprocAttr, IntKind.bits, c0, c2, c3, c4, c5]
  refine (dcarry_ok (hr.ext E)).k ?_
  rintro _ G2 ⟨rfl, e2⟩
  cases hc : carryP recs with
  | false =>
    simp (disch := omega) only [dm_t, wS, simprocAttr, IntKind.bits]
    exact ⟨by rw [noA1 (by simp only [okA1, hc]; simp)], E.trans e2⟩
  | true =>
    have K : BK h G2 rb kind number err off recs marks sa ma sc mc := ⟨cellAt_ext e2 c0, cellAt_ext e2 c2, cellAt_ext e2 c3, cellAt_ext e2 c4, cellAt_ext e2 c5, E.trans e2, RepL.mono (hr.ext (E.trans e2)) fun _ _ _ h => h.elim, RepL.mono (hm.ext (E.trans e2)) fun _ _ _ h => h.elim, ⟨k1, k3⟩, by
      simp only [okA1, hc, decide_eq_true u1, decide_eq_true u2, decide_eq_true u3, decide_eq_true u4, decide_eq_true u5]; rfl⟩
    have t := D1 K u5
    revert t
    simp (disch := omega) only [dm_t, wS, simprocAttr, IntKind.bits]
    exact id
theorem DCkA_ok {S : Nat → Prop} {h : H} {cs : List Value} {x : ansT.D} (hx : Rep S ansT h cs x) : Ok Try.prog 29 #[.agg cs.toArray] h fun v h' => v = .int .i64 (ckA x) ∧ Ext h h' := by
  obtain ⟨w, mw, rfl, ⟨b1, b2, b3, b4⟩, hr, hm⟩ := rep_ans.1 hx
  exact DCkA_i x.1 x.2.1 x.2.2.1 x.2.2.2.1 b1 b3 b4 hr hm
end Go.Proofs.Ytfeaaliocdkonaa.pr
