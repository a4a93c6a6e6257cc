/-
  The statement on lines (ScriptLines), walked.
-/
import Derived.Test.YtooimdgoibdhlaaDoorPv
namespace Go.Proofs.YtooimdgoibdhlaaDoor.sc
open Go Go.Proofs.YtooimdgoibdhlaaDoor Go.RowKit
set_option linter.unusedVariables false
set_option linter.unusedSimpArgs false
theorem sz_st : stT.sz = 7 := rfl
theorem step_at {S : Nat → Prop} {h : H} {v : Value} {l : List St} (r : RepL S stT h v l) {i : Nat} (hi : i < l.length) (kk : IntKind) : ∃ b o vb vp, idxV1 7 v (.int kk (i : Int)) = some (.pointer (some ⟨b, o, none⟩)) ∧
    (∀ j (hj : j < 7), cellAt h ⟨b, o + j, none⟩ = (sCs l[i] vb vp)[j]?) ∧ cellsAt h ⟨b, o, none⟩ 7 = some (sCs l[i] vb vp).toArray ∧ sB l[i] ∧ By S h vb l[i].2.2.1 ∧ RepL S tI h vp l[i].2.2.2.2.2 := by
  obtain ⟨rows, h1, h2, h3⟩ := repL_iff.1 r
  rw [sz_st] at h1
  have hi' : i < rows.length := by omega
  obtain ⟨b, o, k1, k2, k3, k4⟩ := SlK.row h1 hi' kk
  obtain ⟨vb, vp, q1, q2, q3, q4⟩ := rep_st.1 (h3 i _ _ (List.getElem?_eq_getElem hi') (List.getElem?_eq_getElem hi))
  rw [q1] at k3 k4
  exact ⟨b, o, vb, vp, k1, k3, k4, q2, q3, q4⟩
/-- More than is worked out. -/
def lng (x : St) : Bool := decide (20000 < x.2.2.1.length) || decide (500 < x.2.2.2.2.2.length)
section
variable {S : Nat → Prop} {h : H}
theorem long_ok {v : Value} {l : List St} (r : RepL S stT h v l) (hl : l.length ≤ 4611686018427387904) : Ok Tryd.prog 9 #[v] h fun v h' => v = .bool (l.any lng) ∧ h = h' := by
  obtain ⟨va, vc', rfl⟩ := r.len
  refine c9_ok (args := [_]) (by simp) ?_
  simp (disch := omega) only [dm_t, wS, simprocAttr, IntKind.bits]
  refine vc_loop1 (fun vi h' => h' = h ∧ ∃ i : Nat, vi = .int .i64 (i : Int) ∧ i ≤ l.length ∧ ∀ j (hj : j < l.length), j < i → lng l[j] = false) (fun vi _ => l.length - m1 vi) ?_ ?_
  · simp (disch := omega) only [dm_t, wS, simprocAttr, IntKind.bits]
    exact ⟨0, rfl, by omega, fun j hj h => by omega⟩
  rintro _ g ⟨rfl, i, rfl, hi, hall⟩
  by_cases hil : i < l.length
  · obtain ⟨b, o, vb, vp, i1, t1, -, -, hb, hp⟩ := step_at r hil .i64
    obtain ⟨ba, bc, rfl⟩ := hb.len
    obtain ⟨pa, pc, rfl⟩ := hp.len
    have t2 : cellAt g ⟨b, o + 2, none⟩ = some (.slice ba l[i].2.2.1.length bc) := t1 2 (by omega)
    have t6 : cellAt g ⟨b, o + 6, none⟩ = some (.slice pa l[i].2.2.2.2.2.length pc) := t1 6 (by omega)
    have hyes : lng l[i] = true → l.any lng = true := fun h => List.any_eq_true.2 ⟨l[i], List.getElem_mem hil, h⟩
    by_cases c1 : 20000 < l[i].2.2.1.length
    · have hy := hyes (by simp [lng, c1])
      simp (disch := omega) only [dm_t, wS, simprocAttr, IntKind.bits, i1, t2, t6]
      rw [hy]
    · by_cases c2 : 500 < l[i].2.2.2.2.2.length
      · have hy := hyes (by simp [lng, c2])
        simp (disch := omega) only [dm_t, wS, simprocAttr, IntKind.bits, i1, t2, t6]
        rw [hy]
      · simp (disch := omega) only [dm_t, wS, simprocAttr, IntKind.bits, i1, t2, t6]
        refine ⟨⟨i + 1, by simp, by omega, fun j hj hji => ?_⟩, by simp [m1] <;> omega⟩
        by_cases hji' : j = i
        · subst hji'; simp [lng, c1, c2]
        · exact hall j hj (by omega)
  · have : l.any lng = false := by
      rw [List.any_eq_false]
      intro x hx
      obtain ⟨j, hj, rfl⟩ := List.getElem_of_mem hx
      rw [hall j hj (by omega)]; simp
    simp (disch := omega) only [dm_t, wS, simprocAttr, IntKind.bits]
    rw [this]
theorem rdS_pl (line : List UInt8) : (rdS line).1.2.2.2.2.2.length ≤ 4096 := by
  by_cases hl : line.length ≤ 1048576
  · by_cases he : ∃ t, May t ∧ ln t = line
    · obtain ⟨t, m, ht⟩ := he
      rw [rdS_yes hl m ht]; exact m.pl
    · rw [rdS_no hl fun t m ht => he ⟨t, m, ht⟩]; simp
  · rw [rdS_long (by omega)]; simp
/-- Two steps as a list. -/
theorem two_st {g : H} {b : Nat} {x y : St} {vx wx vy wy : Value} (rx : Rep nos stT g (sCs x vx wx) x) (ry : Rep nos stT g (sCs y vy wy) y) (hb : g b = none) :
    RepL nos stT (hupd g b (.cells (sCs x vx wx ++ sCs y vy wy).toArray 31)) (.slice (some ⟨b, 0, none⟩) 2 2) [x, y] := by
  refine repL_iff.2 ⟨[sCs x vx wx, sCs y vy wy], (OwK.lit (k := 7) (O := fun _ => True) (rows := [sCs x vx wx, sCs y vy wy]) (fun r hr => ?_) rfl (by simp) (Nat.le_refl _) ?_ trivial (.inl rfl)).s0, rfl, ?_⟩
  · simp only [List.mem_cons, List.not_mem_nil, or_false] at hr
    rcases hr with rfl | rfl <;> rfl
  · have := at_arr (sCs x vx wx ++ sCs y vy wy) #[]
    simpa [flat] using this
  · intro i r z hr hz
    match i with
    | 0 => simp at hr hz; subst hr hz; exact rx.ext (Ext.new hb _)
    | 1 => simp at hr hz; subst hr hz; exact ry.ext (Ext.new hb _)
    | n + 2 => simp at hr
theorem SL_ok (G : GL h) {cs ds : List Value} {a b : St} (ha : Rep S stT h cs a) (hb : Rep S stT h ds b) (line : List UInt8) (hl : line.length ≤ 9223372036854775807) : Ok Tryd.prog 3 #[.agg cs.toArray, .agg ds.toArray, sv line] h fun v h' => v = .bool true ∧ Ext h h' := by
  obtain ⟨v, w, rfl, ba, hv, hw⟩ := rep_st.1 ha
  obtain ⟨v', w', rfl, bb, hv', hw'⟩ := rep_st.1 hb
  have wv := Rep.cells (repB.2 hv)
  have ww := Rep.cells hw
  have wv' := Rep.cells (repB.2 hv')
  have ww' := Rep.cells hw'
  refine c3_ok (args := [_, _, _]) (by simp) ?_
  simp (disch := omega) only [dm_t, wS, simprocAttr, IntKind.bits]
  intro pa hpa pb hpb
  generalize hG : hupd h pa _ = g1 at hpb ⊢
  obtain ⟨e1, qa⟩ := new_ext hG hpa
  clear hG
  generalize hG : hupd g1 pb _ = g2
  obtain ⟨e2, qb⟩ := new_ext hG hpb
  clear hG
  have E := e1.trans e2
  replace qa := e2.at qa
  have A := V7.mk' qa
  have B := V7.mk' qb
  have aa := A.all; have ab := B.all
  simp (disch := omega) only [dm_t, wS, simprocAttr, IntKind.bits, aa, ab]
  intro pl hpl
  have rl := two_st ((rep_st.2 ⟨v, w, rfl, ba, SlK.nos (hv.ext E), Rep.mono (hw.ext E) fun _ _ _ h => h.elim⟩ : Rep nos stT g2 (sCs a v w) a)) ((rep_st.2 ⟨v', w', rfl, bb, SlK.nos (hv'.ext E), Rep.mono (hw'.ext E) fun _ _ _ h => h.elim⟩ : Rep nos stT g2 (sCs b v' w') b)) hpl
  have e3 : Ext g2 (hupd g2 pl (.cells (sCs a v w ++ sCs b v' w').toArray 31)) := Ext.new hpl _
  have k0 : ∀ g3, g3 = hupd g2 pl (.cells (sCs a v w ++ sCs b v' w').toArray 31) → RepL nos stT g3 (.slice (some ⟨pl, 0, none⟩) 2 2) [a, b] ∧ Ext g2 g3 := fun g3 hg => by rw [hg]; exact ⟨rl, e3⟩
  clear rl e3
  generalize hG : hupd g2 pl _ = g3
  obtain ⟨rl, e3⟩ := k0 g3 (by rw [← hG]; rfl)
  clear hG k0
  refine (long_ok rl (by simp)).k ?_
  rintro _ _ ⟨rfl, rfl⟩
  have E3 := E.trans e3
  have G3 := G.ext E3
  cases hlg : [a, b].any lng with
  | true =>
    simp (disch := omega) only [dm_t, wS, simprocAttr, IntKind.bits]
    refine (works_ok G3).k ?_
    rintro _ g4 ⟨rfl, e4⟩
    simp (disch := omega) only [dm_t, wS, simprocAttr, IntKind.bits]
    exact E3.trans e4
  | false =>
  have hla : lng a = false ∧ lng b = false := by simpa using hlg
  have la1 : a.2.2.1.length ≤ 20000 := by have := hla.1; simp only [lng, Bool.or_eq_false_iff, decide_eq_false_iff_not] at this; omega
  have la2 : a.2.2.2.2.2.length ≤ 500 := by have := hla.1; simp only [lng, Bool.or_eq_false_iff, decide_eq_false_iff_not] at this; omega
  by_cases hll : line.length ≤ 40000
  case neg =>
    simp (disch := omega) only [dm_t, wS, simprocAttr, IntKind.bits, size_mk]
    refine (works_ok G3).k ?_
    rintro _ g4 ⟨rfl, e4⟩
    simp (disch := omega) only [dm_t, wS, simprocAttr, IntKind.bits]
    exact E3.trans e4
  have rA : ∀ {g}, Ext h g → Rep nos stT g (sCs a v w) a := fun e => rep_st.2 ⟨v, w, rfl, ba, SlK.nos (hv.ext e), Rep.mono (hw.ext e) fun _ _ _ h => h.elim⟩
  have rB : ∀ {g}, Ext h g → Rep nos stT g (sCs b v' w') b := fun e => rep_st.2 ⟨v', w', rfl, bb, SlK.nos (hv'.ext e), Rep.mono (hw'.ext e) fun _ _ _ h => h.elim⟩
  have A3 := A.ext e3
  have aa3 := A3.all
  simp (disch := omega) only [dm_t, wS, simprocAttr, IntKind.bits, size_mk, aa3]
  refine (copied_ok (rA E3) la1 la2).k ?_
  rintro _ g4 ⟨⟨mb, mp, rfl, cp⟩, e4⟩
  have cmb : isCell mb = true := by obtain ⟨⟨a, c, e, _⟩, _⟩ := id cp; rw [e]; rfl
  have cmp : isCell mp = true := by obtain ⟨_, a, c, e, _⟩ := id cp; rw [e]; rfl
  simp (disch := omega) only [dm_t, wS, simprocAttr, IntKind.bits]
  intro pm hpm
  refine (stn_new rfl (by rfl) (cells_sCs cmb cmp) ?_).2
  generalize hG : hupd g4 pm _ = g5
  obtain ⟨e5, qm⟩ := new_ext hG hpm
  clear hG
  have M := V7.mk' qm
  have E5 := (E3.trans e4).trans e5
  have am := M.all
  have hia := ints_in hw
  simp (disch := omega) only [dm_t, wS, simprocAttr, IntKind.bits, am]
  refine (Line_ok (G.ext E5) ((cp.ext e5).rep ba hia) (by omega)).k ?_
  rintro _ g6 ⟨rfl, e6⟩
  have E6 := E5.trans e6
  simp (disch := omega) only [dm_t, wS, simprocAttr, IntKind.bits]
  refine (Read_ok (G.ext E6) line hl).k ?_
  intro _ g7 r7
  obtain ⟨tb, tp, rfl, ctb, ctp, tB, otb, otp, tI', e7⟩ := r7.cells
  simp (disch := omega) only [dm_t, wS, simprocAttr, IntKind.bits]
  intro pt hpt
  refine (stn_new rfl (by rfl) (cells_sCs ctb ctp) ?_).2
  generalize hG : hupd g7 pt _ = g8
  obtain ⟨e8, qt⟩ := new_ext hG hpt
  clear hG
  have Tt := V7.mk' qt
  have E8 := (E6.trans e7).trans e8
  simp (disch := omega) only [dm_t, wS, simprocAttr, IntKind.bits]
  refine (DRead_ok (G.ext E8) line hl).k ?_
  intro _ g9 r9
  obtain ⟨ub, up, rfl, cub, cup, uB, oub, oup, uI, e9⟩ := r9.cells
  simp (disch := omega) only [dm_t, wS, simprocAttr, IntKind.bits]
  intro pu hpu
  refine (stn_new rfl (by rfl) (cells_sCs cub cup) ?_).2
  generalize hG : hupd g9 pu _ = g10
  obtain ⟨e10, qu⟩ := new_ext hG hpu
  clear hG
  have Uu := V7.mk' qu
  have E10 := (E8.trans e9).trans e10
  have e510 := ((e6.trans e7).trans e8).trans (e9.trans e10)
  have am10 := (M.ext e510).all
  have aa10 := (A3.ext ((e4.trans e5).trans e510)).all
  have ab10 := (B.ext (e3.trans ((e4.trans e5).trans e510))).all
  have at10 := (Tt.ext (e9.trans e10)).all
  have au10 := Uu.all
  have cp10 := (cp.ext e5).ext e510
  simp (disch := omega) only [dm_t, wS, simprocAttr, IntKind.bits, am10, aa10, ab10, at10, au10]
  refine (kept_ok (rA E10) cp10 la1 la2).k ?_
  rintro _ g11 ⟨rfl, e11⟩
  have fa : ∀ g', Ext g10 g' → cellsAt g' ⟨pm, 0, none⟩ 7 = some (sCs a mb mp).toArray ∧ cellsAt g' ⟨pa, 0, none⟩ 7 = some (sCs a v w).toArray ∧ cellsAt g' ⟨pb, 0, none⟩ 7 = some (sCs b v' w').toArray ∧
      cellsAt g' ⟨pt, 0, none⟩ 7 = some (sCs (rdS line).1 tb tp).toArray ∧ cellsAt g' ⟨pu, 0, none⟩ 7 = some (sCs (rdS line).1 ub up).toArray := fun g' e =>
    ⟨(M.ext (e510.trans e)).all, (A3.ext ((e4.trans e5).trans (e510.trans e))).all, (B.ext (e3.trans ((e4.trans e5).trans (e510.trans e)))).all, (Tt.ext ((e9.trans e10).trans e)).all, (Uu.ext e).all⟩
  have E11 := E10.trans e11
  obtain ⟨m1, m2, m3, m4, m5⟩ := fa g11 e11
  simp (disch := omega) only [dm_t, wS, simprocAttr, IntKind.bits, m1, m2, m3, m4, m5]
  refine (Same_ok ((cp10.ext e11).rep ba hia) (rB E11) (by omega)).k ?_
  rintro _ g12 ⟨rfl, e12⟩
  have E12 := E11.trans e12
  obtain ⟨m1, m2, m3, m4, m5⟩ := fa g12 (e11.trans e12)
  simp (disch := omega) only [dm_t, wS, simprocAttr, IntKind.bits, m1, m2, m3, m4, m5]
  refine (DSame_ok (rA E12) (rB E12) (by omega)).k ?_
  rintro _ g13 ⟨rfl, e13⟩
  have E13 := E12.trans e13
  obtain ⟨m1, m2, m3, m4, m5⟩ := fa g13 ((e11.trans e12).trans e13)
  have hbb : ∀ q : Bool, (q == q) = true := fun q => by simp
  simp (disch := omega) only [dm_t, wS, simprocAttr, IntKind.bits, m1, m2, m3, m4, m5, hbb, Bool.true_eq_false]
  have e713 : Ext g7 g13 := (((e8.trans e9).trans e10).trans ((e11.trans e12).trans e13))
  have e913 : Ext g9 g13 := e10.trans ((e11.trans e12).trans e13)
  refine (DSame_ok (T := nos) (rep_st.2 ⟨tb, tp, rfl, tB, (otb.ext e713).s0, iRep (OwK.ext otp e713).s0 tI'⟩) (rep_st.2 ⟨ub, up, rfl, uB, (oub.ext e913).s0, iRep (OwK.ext oup e913).s0 uI⟩) (by have := rdS_pl line; omega)).k ?_
  rintro _ g14 ⟨rfl, e14⟩
  rw [decide_eq_true rfl]
  have E14 := E13.trans e14
  obtain ⟨m1, m2, m3, m4, m5⟩ := fa g14 (((e11.trans e12).trans e13).trans e14)
  simp (disch := omega) only [dm_t, wS, simprocAttr, IntKind.bits, m1, m2, m3, m4, m5]
  refine (Num_ok g14 (rdS line).2).k ?_
  rintro _ _ ⟨rfl, rfl⟩
  simp (disch := omega) only [dm_t, wS, simprocAttr, IntKind.bits, m1, m2, m3, m4, m5]
  refine (DMay_ok (rA E14) (by omega)).k ?_
  rintro _ g15 ⟨rfl, e15⟩
  have E15 := E14.trans e15
  obtain ⟨m1, m2, m3, m4, m5⟩ := fa g15 ((((e11.trans e12).trans e13).trans e14).trans e15)
  cases hm : mayS a with
  | false =>
    simp only [Bool.false_eq_true, if_false]
    simp (disch := omega) only [dm_t, wS, simprocAttr, IntKind.bits, m2]
    refine (Check_ok (rA E15) (by omega)).k ?_
    rintro _ g16 ⟨rfl, e16⟩
    rw [hm]
    simp only [Bool.false_eq_true, if_false]
    simp (disch := omega) only [dm_t, wS, simprocAttr, IntKind.bits]
    refine (Num_ok g16 2).k ?_
    rintro _ _ ⟨rfl, rfl⟩
    simp (disch := omega) only [dm_t, wS, simprocAttr, IntKind.bits, toList_mk]
    refine (Num_ok g16 2).k ?_
    rintro _ _ ⟨rfl, rfl⟩
    simp (disch := omega) only [dm_t, wS, simprocAttr, IntKind.bits]
    refine (works_ok (G.ext (E15.trans e16))).k ?_
    rintro _ g17 ⟨rfl, e17⟩
    simp (disch := omega) only [dm_t, wS, simprocAttr, IntKind.bits]
    exact (E15.trans e16).trans e17
  | true =>
    simp only [if_true]
    have m := (may_iff a).1 hm
    simp (disch := omega) only [dm_t, wS, simprocAttr, IntKind.bits, m2]
    refine (Check_ok (rA E15) (by omega)).k ?_
    rintro _ g16 ⟨rfl, e16⟩
    rw [hm]
    simp only [if_true]
    obtain ⟨m1, m2, m3, m4, m5⟩ := fa g16 (((((e11.trans e12).trans e13).trans e14).trans e15).trans e16)
    have E16 := E15.trans e16
    simp (disch := omega) only [dm_t, wS, simprocAttr, IntKind.bits]
    refine (Num_ok g16 0).k ?_
    rintro _ _ ⟨rfl, rfl⟩
    simp (disch := omega) only [dm_t, wS, simprocAttr, IntKind.bits, m2]
    refine (DLine_ok (G.ext E16) (rA E16) m).k ?_
    rintro _ g17 ⟨rfl, e17⟩
    simp (disch := omega) only [dm_t, wS, simprocAttr, IntKind.bits, toList_mk]
    refine (Num_ok g17 0).k ?_
    rintro _ _ ⟨rfl, rfl⟩
    simp (disch := omega) only [dm_t, wS, simprocAttr, IntKind.bits]
    refine (works_ok (G.ext (E16.trans e17))).k ?_
    rintro _ g18 ⟨rfl, e18⟩
    simp (disch := omega) only [dm_t, wS, simprocAttr, IntKind.bits]
    exact (E16.trans e17).trans e18
end
end Go.Proofs.YtooimdgoibdhlaaDoor.sc
