/-
  history: HistoryOrder, walked.
-/
import Derived.Test.YtmolhemoiplpfaaOg
namespace Go.Proofs.Ytmolhemoiplpfaa.hi
open Go.Proofs.Ytmolhemoiplpfaa
set_option linter.unusedVariables false
set_option linter.unusedSimpArgs false
theorem HO_ok {g : H} {sv : Value} {l : List evT.D} (hs : RepL nos evT g sv l) (hf : ∀ x ∈ l, evT.fit x) : Ok Try.prog 6 #[sv] g fun v h' => v = .bool true ∧ Ext g h' := by
  obtain ⟨sa, sn, rfl⟩ := hs.len
  have hcap := hs.cap
  have hlim : ∀ x ∈ l, limE x := fun x hx => fit_lim (hf x hx)
  refine c6_ok (args := [_]) (by simp) ?_
  by_cases hl : 60 < l.length
  · simp (disch := omega) only [dm_t, wS, simprocAttr, IntKind.bits]
    refine (known_ok g).k ?_
    rintro _ g2 ⟨rfl, e2⟩
    simp (disch := omega) only [dm_t, wS, simprocAttr, IntKind.bits]
    exact e2
  simp (disch := omega) only [dm_t, wS, simprocAttr, IntKind.bits]
  refine (OpsF_ok hs (by omega) hlim).k ?_
  rintro v g1 ⟨e1, hv⟩
  rcases hv with ⟨h0, vo, rfl, o1⟩ | ⟨h0, rfl⟩
  rotate_left
  · simp (disch := omega) only [dm_t, wS, simprocAttr, IntKind.bits]
    refine (known_ok g1).k ?_
    rintro _ g2 ⟨rfl, e2⟩
    simp (disch := omega) only [dm_t, wS, simprocAttr, IntKind.bits]
    exact e1.trans e2
  have I := OI.all oi0 h0
  have hevs := (ofG_len h0).1
  have hcnt := I.cnt
  obtain ⟨os, hos⟩ : ∃ os, (ofG Hs.new l 0).1.ops = os := ⟨_, rfl⟩
  have po := I.po
  rw [hos] at o1 hcnt po
  rw [hevs] at hcnt
  have hol := (sum_le os).1
  have hrevl : os.reverse.length = os.length := List.length_reverse
  obtain ⟨oa, on, rfl⟩ := o1.len
  simp (disch := omega) only [dm_t, wS, simprocAttr, IntKind.bits]
  refine vc_loop2 (fun vt vi G => Ext g1 G ∧ ∃ j : Nat, vi = .int .i64 ((os.length : Int) - 1 - (j : Int)) ∧ j ≤ os.length ∧ OwL nos opT (fun y => g1 y = none) G 43 vt (os.reverse.take j)) (fun vt _ _ => os.length - mlen vt) ?_ ?_
  · simp (disch := omega) only [dm_t, wS, simprocAttr, IntKind.bits]
    exact ⟨Ext.refl _, 0, by simp, by omega, OwL.nil⟩
  rintro vt _ G ⟨e, j, rfl, hj, ot⟩
  by_cases hjl : j < os.length
  · have hi0 : os.length - 1 - j < os.length := by omega
    have hti : os.reverse[j]'(by omega) = os[os.length - 1 - j] := by rw [List.getElem_reverse]
    have hsp : os.reverse.take (j + 1) = os.reverse.take j ++ [os[os.length - 1 - j]] := by rw [List.take_succ_eq_append_getElem (by omega), hti]
    have hlt : (os.reverse.take j).length = j := by rw [List.length_take]; omega
    obtain ⟨b, o, cs, i1, n1, -, n3⟩ := o1.rep.fresh.load hi0 .i64 11 rfl
    rw [show ((os.length - 1 - j : Nat) : Int) = (os.length : Int) - 1 - (j : Int) by omega] at i1
    have hcs := n3.len
    obtain ⟨ta, tn, rfl⟩ := ot.len
    simp (disch := omega) only [dm_t, wS, simprocAttr, IntKind.bits, i1, cellsAt_ext e n1]
    rw [if_pos (show cs.length = 11 from hcs), so.splice_all hcs]
    simp (disch := omega) only [dm_t, wS, simprocAttr, IntKind.bits]
    refine OwL.push (bytes := 120) (V := fun _ => _) (x := os[os.length - 1 - j]) 11 rfl ot (fun y hy => e.bk hy) ((n3.ext e).mono fun y _ _ hy => hy.elim (fun hy => ot.own hy) fun h => h.elim) (by rfl) (by rw [hlt]; omega) (by rw [hlt]; omega) ?_
    intro _ s' G4 _ o4 f4
    obtain ⟨ta', tn', rfl⟩ := o4.len
    simp (disch := omega) only [dm_t, wS, simprocAttr, IntKind.bits]
    exact ⟨⟨Ext.step e f4, j + 1, by rw [show (os.length : Int) - 1 - (j : Int) - 1 = (os.length : Int) - 1 - ((j + 1 : Nat) : Int) by omega], by omega, by rw [hsp]; exact o4⟩, by simp only [mlen, List.length_append, hlt, List.length_cons, List.length_nil]; omega⟩
  · obtain rfl : j = os.length := by omega
    rw [← hrevl, List.take_length] at ot
    have r1 := o1.rep.ext e
    have hsn := hs.ext (e1.trans e)
    simp (disch := omega) only [dm_t, wS, simprocAttr, IntKind.bits]
    refine (Back_ok ot.rep h0 hos (by omega) hlim).k ?_
    rintro v2 G2 ⟨vb, rfl, ob2, e2⟩
    obtain ⟨ba, bn, rfl⟩ := ob2.len
    have r2 := r1.ext e2
    have hs2 := hsn.ext e2
    have rb := ob2.rep
    simp (disch := omega) only [dm_t, wS, simprocAttr, IntKind.bits]
    refine vc_loop1 (fun vi G => G = G2 ∧ ∃ i : Nat, vi = .int .i64 (i : Int) ∧ i ≤ l.length) (fun vi _ => l.length - m1 vi) ?_ ?_
    · simp (disch := omega) only [dm_t, wS, simprocAttr, IntKind.bits]
      exact ⟨0, rfl, by omega⟩
    rintro _ G' ⟨rfl, i, rfl, hi⟩
    by_cases hil : i < l.length
    · obtain ⟨b1, a1, cs1, i1, c1, d1, q1⟩ := hs2.load (i := i) hil .i64 10 rfl
      obtain ⟨b2, a2, cs2, i2, c2, d2, q2⟩ := rb.load (i := i) hil .i64 10 rfl
      obtain ⟨_, _, rfl, _⟩ := rep_ev.1 q1
      obtain ⟨_, _, rfl, _⟩ := rep_ev.1 q2
      have x0 : cellAt G' ⟨b1, a1, none⟩ = some (.int .i64 (l[i]).1) := d1 0 (by omega)
      have x1 : cellAt G' ⟨b1, a1 + 1, none⟩ = some (.bool (l[i]).2.1) := d1 1 (by omega)
      have x2 : cellAt G' ⟨b1, a1 + 2, none⟩ = some (.int .i64 (l[i]).2.2.1.1) := d1 2 (by omega)
      have x8 : cellAt G' ⟨b1, a1 + 8, none⟩ = some (.int .i64 (l[i]).2.2.2.2.1) := d1 8 (by omega)
      have y0 : cellAt G' ⟨b2, a2, none⟩ = some (.int .i64 (l[i]).1) := d2 0 (by omega)
      have y1 : cellAt G' ⟨b2, a2 + 1, none⟩ = some (.bool (l[i]).2.1) := d2 1 (by omega)
      have y2 : cellAt G' ⟨b2, a2 + 2, none⟩ = some (.int .i64 (l[i]).2.2.1.1) := d2 2 (by omega)
      have y8 : cellAt G' ⟨b2, a2 + 8, none⟩ = some (.int .i64 (l[i]).2.2.2.2.1) := d2 8 (by omega)
      obtain ⟨bt, hbt⟩ : ∃ bt, (l[i]).2.1 = bt := ⟨_, rfl⟩
      rw [hbt] at x1 y1
      cases bt with
      | true =>
        simp (disch := omega) only [dm_t, wS, simprocAttr, IntKind.bits, i1, i2, x0, x1, x2, x8, y0, y1, y2, y8]
        exact ⟨⟨i + 1, by simp, by omega⟩, by simp [m1]; omega⟩
      | false =>
        simp (disch := omega) only [dm_t, wS, simprocAttr, IntKind.bits, i1, i2, x0, x1, x2, x8, y0, y1, y2, y8]
        exact ⟨⟨i + 1, by simp, by omega⟩, by simp [m1]; omega⟩
    · obtain rfl : i = l.length := by omega
      have k : vc Try.prog c6_s14 (retQ [2] (okR fun v h' => v = .bool true ∧ Ext g h')) [(3, .slice oa os.length on)] G' := by
        refine pairs (lds r2) (by omega) po ?_
        intro G3 e3
        simp (disch := omega) only [dm_t, wS, simprocAttr, IntKind.bits]
        refine (known_ok G3).k ?_
        rintro _ G4 ⟨rfl, e4⟩
        simp (disch := omega) only [dm_t, wS, simprocAttr, IntKind.bits]
        exact (((e1.trans e).trans e2).trans e3).trans e4
      simp (disch := omega) only [dm_t, wS, simprocAttr, IntKind.bits, k]
end Go.Proofs.Ytmolhemoiplpfaa.hi
