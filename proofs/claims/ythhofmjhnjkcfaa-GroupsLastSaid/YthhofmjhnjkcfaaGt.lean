/-
  groups: GroupsLast, walked.
-/
import Derived.Test.YthhofmjhnjkcfaaGr
namespace Go.Proofs.Ythhofmjhnjkcfaa.gr
open Go.Proofs.Ythhofmjhnjkcfaa wi
set_option linter.unusedVariables false
set_option linter.unusedSimpArgs false
def mb : Value → Bool
  | .bool b => b
  | _ => false
theorem fits {l : List rc.D} (h : Ty.fit (.sl rc) l) : ∀ x ∈ l, x.2.1.length ≤ 140737488351232 := fun x hx => by
  have := (h.2 x hx).2.1.1
  rw [show Ty.by .byte = 1 from rfl, Nat.mul_one] at this
  exact this
theorem GL_ok {h : H} {v : Value} {l : List rc.D} (hl : RepL nos rc h v l) (hk : ∀ x ∈ l, x.2.1.length ≤ 140737488351232) : Ok Try.prog 5 #[v] h fun r h' => r = .bool true ∧ Ext h h' := by
  obtain ⟨va, vc', rfl⟩ := hl.len
  refine c5_ok (args := [_]) (by simp) ?_
  by_cases h200 : 200 < l.length
  · simp (disch := omega) only [dm_t, wS, simprocAttr, IntKind.bits]
    refine (works_ok h).k ?_
    rintro _ g1 ⟨rfl, e1⟩
    simp (disch := omega) only [dm_t, wS, simprocAttr, IntKind.bits]
    exact e1
  have hlo : RepL (fun y => h y = none) rc h (.slice va l.length vc') l := hl.fresh
  simp (disch := omega) only [dm_t, wS, simprocAttr, IntKind.bits]
  refine vc_loop2 (fun vl vi g => ∃ (i : Nat) (xs : List rc.D), vi = .int .i64 (i : Int) ∧ i ≤ l.length ∧ xs ++ kp (l.drop i) = kp l ∧ OwL (fun y => h y = none) rc (fun y => h y = none) g 26 vl xs ∧ Ext h g) (fun _ vi _ => l.length - m1 vi) ?_ ?_
  · simp (disch := omega) only [dm_t, wS, simprocAttr, IntKind.bits]
    exact ⟨0, [], rfl, by omega, rfl, OwL.nil, Ext.refl _⟩
  rintro vl _ g ⟨i, xs, rfl, hi, hkp, ow, e⟩
  have hxs : xs.length ≤ 200 := by
    have := congrArg List.length hkp
    have := kp_len l
    rw [List.length_append] at *
    omega
  by_cases hil : i < l.length
  · simp (disch := omega) only [dm_t, wS, simprocAttr, IntKind.bits]
    refine vc_loop2 (fun vb vk g => ∃ (k : Nat) (b : Bool), vk = .int .i64 (k : Int) ∧ k ≤ l.length ∧ vb = .bool b ∧ (b || beh l[i] (l.drop k)) = beh l[i] (l.drop (i + 1)) ∧ OwL (fun y => h y = none) rc (fun y => h y = none) g 26 vl xs ∧ Ext h g) (fun _ vk _ => l.length - m1 vk) ?_ ?_
    · simp (disch := omega) only [dm_t, wS, simprocAttr, IntKind.bits]
      exact ⟨i + 1, false, by simp, by omega, rfl, by simp, ow, e⟩
    rintro _ _ g2 ⟨k, b, rfl, hkl, rfl, hb, ow2, e2⟩
    by_cases hkl2 : k < l.length
    · obtain ⟨b1, o1, cs, i1, c1, -, r1⟩ := (hlo.ext e2).load hkl2 .i64 3 sz_rc
      obtain ⟨b2, o2, ds, i2, c2, -, r2⟩ := (hlo.ext e2).load hil .i64 3 sz_rc
      simp (disch := omega) only [dm_t, wS, simprocAttr, IntKind.bits, i1, c1, i2, c2]
      refine (Read_ok r1 (hk _ (List.getElem_mem hkl2))).k ?_
      rintro _ g3 ⟨rfl, e3⟩
      simp (disch := omega) only [dm_t, wS, simprocAttr, IntKind.bits]
      intro b5 hb5
      simp (disch := omega) only [dm_t, wS, simprocAttr, IntKind.bits]
      refine storeH_all (hupd_same _ _ _) rfl rfl ?_
      rw [hupd_hupd]
      generalize hG : hupd g3 b5 _ = g4
      obtain ⟨e4, q5⟩ := new_ext hG hb5
      clear hG
      have e24 := e3.trans e4
      have c1' := cellsAt_ext e24 c1
      have c2' := cellsAt_ext e24 c2
      have hbk : beh l[i] (l.drop k) = ((decide (l[i].2.1 = l[k].2.1) && decide (rdE l[k] = 0)) || beh l[i] (l.drop (k + 1))) := by
        rw [List.drop_eq_getElem_cons hkl2]; rfl
      rw [hbk] at hb
      have ow4 := ow2.ext e24
      have E4 := e2.trans e24
      cases b with
      | true =>
        simp (disch := omega) only [dm_t, wS, simprocAttr, IntKind.bits, i1, c1', i2, c2']
        exact ⟨⟨k + 1, true, by simp, by omega, rfl, by rw [← hb]; simp, ow4, E4⟩, by simp [m1]; omega⟩
      | false =>
        simp (disch := omega) only [dm_t, wS, simprocAttr, IntKind.bits, i1, c1', i2, c2']
        refine (key_ok (Rep.ext r2 e24) (Rep.ext r1 e24)).k ?_
        rintro _ g5 ⟨rfl, e5⟩
        have c1'' := cellsAt_ext e5 c1'
        have c2'' := cellsAt_ext e5 c2'
        by_cases hkk : (l[i]).2.1 = (l[k]).2.1
        · rw [decide_eq_true hkk] at hb ⊢
          simp (disch := omega) only [dm_t, wS, simprocAttr, IntKind.bits, i1, c1'', i2, c2'']
          refine (num_ok g5 (rdE l[k])).k ?_
          rintro _ _ ⟨rfl, rfl⟩
          simp (disch := omega) only [dm_t, wS, simprocAttr, IntKind.bits, i1, c1'', i2, c2'']
          exact ⟨⟨k + 1, decide (rdE l[k] = 0), by simp, by omega, rfl, by rw [← hb]; simp, ow4.ext e5, E4.trans e5⟩, by simp [m1]; omega⟩
        · rw [decide_eq_false hkk] at hb ⊢
          simp (disch := omega) only [dm_t, wS, simprocAttr, IntKind.bits, i1, c1'', i2, c2'']
          exact ⟨⟨k + 1, false, by simp, by omega, rfl, by rw [← hb]; simp, ow4.ext e5, E4.trans e5⟩, by simp [m1]; omega⟩
    · obtain rfl : k = l.length := by omega
      rw [List.drop_length] at hb
      simp only [beh, List.any_nil, Bool.or_false] at hb
      have hkd : kp (l.drop i) = if b = true then kp (l.drop (i + 1)) else l[i] :: kp (l.drop (i + 1)) := by
        rw [List.drop_eq_getElem_cons hil, kp, hb]; rfl
      cases b with
      | true =>
        rw [if_pos rfl] at hkd
        simp (disch := omega) only [dm_t, wS, simprocAttr, IntKind.bits]
        exact ⟨⟨i + 1, xs, by simp, by omega, by rw [← hkp, hkd], ow2, e2⟩, by simp [m1]; omega⟩
      | false =>
        rw [if_neg (by simp)] at hkd
        obtain ⟨b2, o2, ds, i2, c2, -, r2⟩ := (hlo.ext e2).load hil .i64 3 sz_rc
        have hdl : ds.length = 3 := r2.len.trans sz_rc
        simp (disch := omega) only [dm_t, wS, simprocAttr, IntKind.bits, i2, c2]
        rw [if_pos hdl, so.splice_all hdl]
        simp (disch := omega) only [dm_t, wS, simprocAttr, IntKind.bits]
        refine OwL.push 3 sz_rc ow2 (fun y hy => e2.bk hy) (r2.mono fun y o _ hy => hy.elim (fun h => ow2.own h) id) (by rfl) (by omega) (by omega) ?_
        intro b7 v7 g5 hb7 o7 f7
        simp (disch := omega) only [dm_t, wS, simprocAttr, IntKind.bits]
        exact ⟨⟨i + 1, xs ++ [l[i]], by simp, by omega, by rw [← hkp, hkd]; simp, o7, Ext.step' e2 f7 fun y hy => hy.1⟩, by simp [m1]; omega⟩
  · obtain rfl : i = l.length := by omega
    rw [List.drop_length] at hkp
    simp only [kp, List.append_nil] at hkp
    subst hkp
    have hsl := ow.rep
    have hkl := kp_len l
    have srt := fold_srt (l := l) (L := []) List.Pairwise.nil
    have hF1 := foldG_eq (l := l) 0 List.Pairwise.nil (by simp; omega)
    have hF2 := foldG_eq (l := kp l) 0 List.Pairwise.nil (by simp; omega)
    rw [fold_kp] at hF2
    rw [Nat.zero_add] at hF1 hF2
    obtain ⟨vb, vd, rfl⟩ := ow.len
    simp (disch := omega) only [dm_t, wS, simprocAttr, IntKind.bits]
    refine (GNew_ok g).k ?_
    rintro _ g1 ⟨ba, ma, rfl, hba, hma, A1, e1⟩
    simp (disch := omega) only [dm_t, wS, simprocAttr, IntKind.bits]
    refine (GNew_ok g1).k ?_
    rintro _ g2 ⟨bb, mb, rfl, hbb, hmb, B2, e2⟩
    simp (disch := omega) only [dm_t, wS, simprocAttr, IntKind.bits]
    refine (GNew_ok g2).k ?_
    rintro _ g3 ⟨bc, mc, rfl, hbc, hmc, C3, e3⟩
    simp (disch := omega) only [dm_t, wS, simprocAttr, IntKind.bits]
    have A3 := (A1.ext e2).ext e3
    have hl3 := hl.ext (e.trans ((e1.trans e2).trans e3))
    refine (Fold_ok A3 hl3 (by omega) hk).k ?_
    rintro _ g4 ⟨rfl, A4, f4⟩
    rw [hF1] at A4 ⊢
    simp only at A4
    generalize hM : l.foldl stp [] = M at *
    have n1 : ¬ bb = ma := fun h => A1.nm (h ▸ hbb)
    have n2 : ¬ mb = ma := fun h => A1.nm (h ▸ hmb)
    have n3 : ¬ ba = mb := fun h => A1.nb (h.symm ▸ hmb)
    have n4 : ¬ bc = ma := fun h => (A1.ext e2).nm (h ▸ hbc)
    have n5 : ¬ mc = ma := fun h => (A1.ext e2).nm (h ▸ hmc)
    have n6 : ¬ ba = mc := fun h => (A1.ext e2).nb (h.symm ▸ hmc)
    have n7 : ¬ bc = mb := fun h => B2.nm (h ▸ hbc)
    have n8 : ¬ mc = mb := fun h => B2.nm (h ▸ hmc)
    have n9 : ¬ bb = mc := fun h => B2.nb (h.symm ▸ hmc)
    have B4 := (B2.ext e3).fr f4 n1 n2
    have C4 := C3.fr f4 n4 n5
    have s3 := hsl.ext ((e1.trans e2).trans e3)
    have s4 := A3.rep s3 f4
    simp (disch := omega) only [dm_t, wS, simprocAttr, IntKind.bits]
    refine (Fold_ok B4 s4 (by omega) (fun x hx => hk x (kp_mem hx))).k ?_
    rintro _ g5 ⟨rfl, B5, f5⟩
    rw [hF2] at B5 ⊢
    simp only at B5
    have A5 := A4.fr f5 n3 (fun h => n2 h.symm)
    have C5 := C4.fr f5 n7 n8
    have s5 := B4.rep s4 f5
    simp (disch := omega) only [dm_t, wS, simprocAttr, IntKind.bits]
    refine (Records_ok A5).k ?_
    rintro _ g6 ⟨rr, e6⟩
    have hMl := A5.len
    have hF3 := foldG_eq (l := M.map recP) 0 List.Pairwise.nil (by simp; omega)
    rw [fold_recs A5.srt A5.may, Nat.zero_add, List.length_map] at hF3
    simp (disch := omega) only [dm_t, wS, simprocAttr, IntKind.bits]
    have hkr : ∀ x ∈ M.map recP, x.2.1.length ≤ 140737488351232 := fun x hx => by
      obtain ⟨p, hp, rfl⟩ := List.mem_map.1 hx
      have := (mayP_iff.1 (A5.may p hp)).1.1.2
      rw [show (recP p).2.1 = keyB p.1 p.2.1 from rfl, keyB_len]; omega
    refine (Fold_ok (C5.ext e6) rr (by rw [List.length_map]; omega) hkr).k ?_
    rintro _ g7 ⟨rfl, C7, f7⟩
    rw [hF3] at C7 ⊢
    simp only at C7
    have A7 := (A5.ext e6).fr f7 n6 (fun h => n5 h.symm)
    have B7 := (B5.ext e6).fr f7 n9 (fun h => n8 h.symm)
    have s7 := (C5.ext e6).rep (s5.ext e6) f7
    have E7 : Ext h g7 := Ext.step' ((Ext.step' (Ext.step' (e.trans ((e1.trans e2).trans e3)) f4 fun y hy => by rw [hy]; exact e.bk hma) f5 fun y hy => by rw [hy]; exact e.bk (e1.bk hmb)).trans e6) f7 fun y hy => by rw [hy]; exact e.bk (e1.bk (e2.bk hmc))
    simp (disch := omega) only [dm_t, wS, simprocAttr, IntKind.bits]
    refine (num_ok g7 0).k ?_
    rintro _ _ ⟨rfl, rfl⟩
    simp (disch := omega) only [dm_t, wS, simprocAttr, IntKind.bits]
    refine (num_ok g7 0).k ?_
    rintro _ _ ⟨rfl, rfl⟩
    simp (disch := omega) only [dm_t, wS, simprocAttr, IntKind.bits]
    refine (Len_ok A7).k ?_
    rintro _ _ ⟨rfl, rfl⟩
    simp (disch := omega) only [dm_t, wS, simprocAttr, IntKind.bits]
    refine (num_ok g7 0).k ?_
    rintro _ _ ⟨rfl, rfl⟩
    simp (disch := omega) only [dm_t, wS, simprocAttr, IntKind.bits]
    refine (GSame_ok A7 B7).k ?_
    rintro _ g8 ⟨rfl, e8⟩
    rw [decide_eq_true rfl]
    simp (disch := omega) only [dm_t, wS, simprocAttr, IntKind.bits, Bool.not_true]
    refine (GSame_ok (A7.ext e8) (C7.ext e8)).k ?_
    rintro _ g9 ⟨rfl, e9⟩
    rw [decide_eq_true rfl]
    simp (disch := omega) only [dm_t, wS, simprocAttr, IntKind.bits, Bool.not_true]
    have A9 := (A7.ext e8).ext e9
    have s9 := (s7.ext e8).ext e9
    have E9 := (E7.trans e8).trans e9
    refine vc_loop1 (fun vi g => ∃ (i : Nat), vi = .int .i64 (i : Int) ∧ i ≤ (kp l).length ∧ GB g ba ma M ∧ RepL nos rc g (.slice vb (kp l).length vd) (kp l) ∧ Ext h g) (fun vi _ => (kp l).length - m1 vi) ?_ ?_
    · simp (disch := omega) only [dm_t, wS, simprocAttr, IntKind.bits]
      exact ⟨0, rfl, by omega, A9, s9, E9⟩
    rintro _ k1 ⟨i, rfl, hi, A, s, E⟩
    by_cases hik : i < (kp l).length
    · obtain ⟨b1, o1, cs, i1, c1, -, r1⟩ := s.load hik .i64 3 sz_rc
      have hx := List.getElem_mem hik
      generalize hxe : (kp l)[i] = x at *
      have hxk := hk x (kp_mem hx)
      simp (disch := omega) only [dm_t, wS, simprocAttr, IntKind.bits, i1, c1]
      refine (Read_ok r1 hxk).k ?_
      rintro _ k2 ⟨rfl, a2⟩
      simp (disch := omega) only [dm_t, wS, simprocAttr, IntKind.bits]
      intro b5 hb5
      simp (disch := omega) only [dm_t, wS, simprocAttr, IntKind.bits]
      refine storeH_all (hupd_same _ _ _) rfl rfl ?_
      rw [hupd_hupd]
      generalize hG : hupd k2 b5 _ = k3
      obtain ⟨a3, q5⟩ := new_ext hG hb5
      clear hG
      have d0 : cellAt k3 ⟨b5, 0, none⟩ = some (sv (rdP x).1) := by rw [cellAt_of q5]; rfl
      have d1 : cellAt k3 ⟨b5, 1, none⟩ = some (.int .i64 (rdP x).2.1) := by rw [cellAt_of q5]; rfl
      have a13 := a2.trans a3
      simp (disch := omega) only [dm_t, wS, simprocAttr, IntKind.bits]
      refine (num_ok k3 (rdE x)).k ?_
      rintro _ _ ⟨rfl, rfl⟩
      by_cases he : rdE x = 0
      · rw [he]
        have hpl := rdP_len x hxk
        simp (disch := omega) only [dm_t, wS, simprocAttr, IntKind.bits, d0, d1]
        refine (At_ok (A.ext a13) (key (rdP x)) (Nat.le_trans hpl (by decide))).k ?_
        rintro _ k4 ⟨rfl, a4⟩
        have hfn : fnd (key (rdP x)) M = if rdS x = false then none else some (rdP x) := by
          rw [← hM, fnd_fold List.Pairwise.nil, lst_at hx he]; rfl
        have hgp : (grp (key (rdP x)).1 && prt (key (rdP x)).2) = true := by
          have h1 := rdE_of he
          rw [mayP, Bool.and_eq_true, Bool.and_eq_true] at h1
          exact h1.1.1
        have q54 := a4.at q5
        have kq : ∀ G, Ext k4 G → cellsAt G ⟨b5, 0, none⟩ 4 = some (pCs (rdP x)).toArray := fun G e => cellsAt_all (e.at q54) 4 rfl
        have E4 := E.trans (a13.trans a4)
        have A4' := A.ext (a13.trans a4)
        have s4' := s.ext (a13.trans a4)
        cases hst : rdS x with
        | true =>
          rw [hst, if_neg (by simp)] at hfn
          have hE : letE M (key (rdP x)) = 0 := by rw [letE, if_pos hgp, hfn]; rfl
          have hP : atP M (key (rdP x)) = rdP x := by rw [atP, if_pos hE, hfn]; rfl
          rw [hE, hP]
          simp (disch := omega) only [dm_t, wS, simprocAttr, IntKind.bits]
          intro b6 hb6
          simp (disch := omega) only [dm_t, wS, simprocAttr, IntKind.bits]
          refine storeH_all (hupd_same _ _ _) rfl rfl ?_
          rw [hupd_hupd]
          generalize hG : hupd k4 b6 _ = k5
          obtain ⟨a5, q6⟩ := new_ext hG hb6
          clear hG
          have kp6 : cellsAt k5 ⟨b6, 0, none⟩ 4 = some (pCs (rdP x)).toArray := cellsAt_all q6 4 rfl
          simp (disch := omega) only [dm_t, wS, simprocAttr, IntKind.bits, kq _ a5, kp6]
          refine raw_nePl rfl rfl ?_
          rw [decide_eq_true rfl]
          simp (disch := omega) only [dm_t, wS, simprocAttr, IntKind.bits, kq _ a5, kp6, Bool.not_true]
          refine (num_ok k5 0).k ?_
          rintro _ _ ⟨rfl, rfl⟩
          simp (disch := omega) only [dm_t, wS, simprocAttr, IntKind.bits]
          exact ⟨⟨i + 1, by simp, by omega, A4'.ext a5, s4'.ext a5, E4.trans a5⟩, by simp [m1]; omega⟩
        | false =>
          rw [hst, if_pos rfl] at hfn
          have hE : letE M (key (rdP x)) = 360 := by rw [letE, if_pos hgp, hfn]; rfl
          rw [hE]
          simp (disch := omega) only [dm_t, wS, simprocAttr, IntKind.bits]
          intro b6 hb6
          simp (disch := omega) only [dm_t, wS, simprocAttr, IntKind.bits]
          refine storeH_all (hupd_same _ _ _) rfl rfl ?_
          rw [hupd_hupd]
          generalize hG : hupd k4 b6 _ = k5
          obtain ⟨a5, q6⟩ := new_ext hG hb6
          clear hG
          simp (disch := omega) only [dm_t, wS, simprocAttr, IntKind.bits]
          refine (num_ok k5 360).k ?_
          rintro _ _ ⟨rfl, rfl⟩
          simp (disch := omega) only [dm_t, wS, simprocAttr, IntKind.bits]
          exact ⟨⟨i + 1, by simp, by omega, A4'.ext a5, s4'.ext a5, E4.trans a5⟩, by simp [m1]; omega⟩
      · simp (disch := omega) only [dm_t, wS, simprocAttr, IntKind.bits]
        exact ⟨⟨i + 1, by simp, by omega, A.ext a13, s.ext a13, E.trans a13⟩, by simp [m1]; omega⟩
    · simp (disch := omega) only [dm_t, wS, simprocAttr, IntKind.bits]
      refine (works_ok k1).k ?_
      rintro _ k2 ⟨rfl, a2⟩
      simp (disch := omega) only [dm_t, wS, simprocAttr, IntKind.bits]
      exact E.trans a2
end Go.Proofs.Ythhofmjhnjkcfaa.gr
