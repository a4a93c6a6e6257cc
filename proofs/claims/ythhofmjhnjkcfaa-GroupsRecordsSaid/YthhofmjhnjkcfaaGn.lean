/-
  groups: GroupsRecords, walked.
-/
import Derived.Test.YthhofmjhnjkcfaaGm
namespace Go.Proofs.Ythhofmjhnjkcfaa.gr
open Go.Proofs.Ythhofmjhnjkcfaa wi
set_option linter.unusedVariables false
set_option linter.unusedSimpArgs false
theorem fitl {l : List UInt8} (h : Ty.fit (.sl .byte) l) : l.length ≤ 140737488351232 := by
  have := h.1
  rw [show Ty.by .byte = 1 from rfl, Nat.mul_one] at this
  exact this
theorem may0 (p : Pl) : mayP (p.1, p.2.1, 0, p.2.2.2) = true ∨ mayP (p.1, p.2.1, 0, p.2.2.2) = false := by
  cases mayP (p.1, p.2.1, 0, p.2.2.2) <;> simp
theorem GR_ok {g : H} {cs ds : List Value} {p : Pl} {r : rc.D} (hp : Rep nos plT g cs p) (hr : Rep nos rc g ds r) (hl : r.2.1.length ≤ 140737488351232) (hl2 : r.2.2.length ≤ 140737488351232) :
    Ok Try.prog 3 #[.agg cs.toArray, .agg ds.toArray] g fun v h' => v = .bool true ∧ Ext g h' := by
  obtain ⟨rfl, hpl, hp1, hp2, hp3⟩ := rep_pl.1 hp
  have hdl : ds.length = 3 := hr.len.trans sz_rc
  refine c3_ok (args := [_, _]) (by simp) ?_
  simp (disch := omega) only [dm_t, wS, simprocAttr, IntKind.bits]
  intro b2 hb2 b3 hb3
  generalize hG : hupd g b2 _ = g1 at hb3 ⊢
  obtain ⟨e1, q2⟩ := new_ext hG hb2
  clear hG
  generalize hG : hupd g1 b3 _ = g2
  obtain ⟨e2, q3⟩ := new_ext hG hb3
  clear hG
  have E2 := e1.trans e2
  replace q2 := e2.at q2
  have kp : ∀ G, Ext g2 G → cellsAt G ⟨b2, 0, none⟩ 4 = some (pCs p).toArray := fun G e => cellsAt_all (e.at q2) 4 rfl
  have kr : ∀ G, Ext g2 G → cellsAt G ⟨b3, 0, none⟩ 3 = some ds.toArray := fun G e => cellsAt_all (e.at q3) 3 hdl
  have c0 : ∀ G, Ext g2 G → cellAt G ⟨b2, 0, none⟩ = some (sv p.1) := fun G e => by rw [cellAt_of (e.at q2)]; rfl
  have c1 : ∀ G, Ext g2 G → cellAt G ⟨b2, 1, none⟩ = some (.int .i64 p.2.1) := fun G e => by rw [cellAt_of (e.at q2)]; rfl
  have c3 : ∀ G, Ext g2 G → cellAt G ⟨b2, 3, none⟩ = some (.int .i64 p.2.2.2) := fun G e => by rw [cellAt_of (e.at q2)]; rfl
  simp (disch := omega) only [dm_t, wS, simprocAttr, IntKind.bits, kp _ (Ext.refl _)]
  refine (Record_ok g2 p hpl).k ?_
  rintro _ g3 ⟨e3, w1, rfl, hR1⟩
  obtain ⟨xs, rfl, ha⟩ := hR1.rep
  have hxl : xs.length = 3 := ha.len.trans sz_rc
  simp (disch := omega) only [dm_t, wS, simprocAttr, IntKind.bits]
  intro b5 hb5
  simp (disch := omega) only [dm_t, wS, simprocAttr, IntKind.bits]
  refine stn_new hxl (by rfl) ha.cells ?_
  generalize hG : hupd g3 b5 _ = g4
  obtain ⟨e4, q5⟩ := new_ext hG hb5
  clear hG
  have e24 := e3.trans e4
  have ka : ∀ G, Ext g4 G → cellsAt G ⟨b5, 0, none⟩ 3 = some xs.toArray := fun G e => cellsAt_all (e.at q5) 3 hxl
  simp (disch := omega) only [dm_t, wS, simprocAttr, IntKind.bits, c0 _ e24, c1 _ e24, c3 _ e24]
  refine (Gone_ok g4 p.1 p.2.1 p.2.2.2 hpl).k ?_
  rintro _ g5 ⟨e5, w2, rfl, hR2⟩
  obtain ⟨ys, rfl, hb⟩ := hR2.rep
  have hyl : ys.length = 3 := hb.len.trans sz_rc
  simp (disch := omega) only [dm_t, wS, simprocAttr, IntKind.bits]
  intro b7 hb7
  simp (disch := omega) only [dm_t, wS, simprocAttr, IntKind.bits]
  refine stn_new hyl (by rfl) hb.cells ?_
  generalize hG : hupd g5 b7 _ = g6
  obtain ⟨e6, q7⟩ := new_ext hG hb7
  clear hG
  have kb : ∀ G, Ext g6 G → cellsAt G ⟨b7, 0, none⟩ 3 = some ys.toArray := fun G e => cellsAt_all (e.at q7) 3 hyl
  have e26 := (e24.trans e5).trans e6
  simp (disch := omega) only [dm_t, wS, simprocAttr, IntKind.bits, kr _ e26]
  rw [if_pos hdl, so.splice_all hdl]
  simp (disch := omega) only [dm_t, wS, simprocAttr, IntKind.bits]
  intro b8 hb8
  generalize hG : hupd g6 b8 _ = g7
  obtain ⟨e7, q8⟩ := new_ext hG hb8
  clear hG
  have e27 := e26.trans e7
  have L1 : RepL nos rc g7 (.slice (some ⟨b8, 0, none⟩) 1 1) [r] := rec_one q8 (hr.ext (E2.trans e27))
  refine (Copy_ok L1 (by simp) (by intro x hx; simp only [List.mem_singleton] at hx; subst hx; omega)).k ?_
  rintro vm g8 ⟨om, e8⟩
  have om' := om.l.rep
  obtain ⟨ma, mn, rfl⟩ := om'.len
  have e28 := e27.trans e8
  obtain ⟨mb, mo, ms, mi, mc, -, mr⟩ := om'.load (i := 0) (by simp) .i64 3 sz_rc
  have mi' : idxV1 3 (.slice ma [r].length mn) (.int .i64 0) = some (.pointer (some ⟨mb, mo, none⟩)) := mi
  have mr' : Rep nos rc g8 ms r := mr
  simp (disch := omega) only [dm_t, wS, simprocAttr, IntKind.bits, mi', mc]
  refine (Read_ok mr' hl).k ?_
  rintro _ g9 ⟨rfl, e9⟩
  simp (disch := omega) only [dm_t, wS, simprocAttr, IntKind.bits]
  intro b10 hb10
  simp (disch := omega) only [dm_t, wS, simprocAttr, IntKind.bits]
  refine storeH_all (hupd_same _ _ _) rfl rfl ?_
  rw [hupd_hupd]
  generalize hG : hupd g9 b10 _ = g10
  obtain ⟨e10, q10⟩ := new_ext hG hb10
  clear hG
  have kq : ∀ G, Ext g10 G → cellsAt G ⟨b10, 0, none⟩ 4 = some (pCs (rdP r)).toArray := fun G e => cellsAt_all (e.at q10) 4 rfl
  have e210 := (e28.trans e9).trans e10
  simp (disch := omega) only [dm_t, wS, simprocAttr, IntKind.bits, kr _ e210]
  refine (DRead_ok (hr.ext (E2.trans e210)) hl).k ?_
  rintro _ g11 ⟨rfl, e11⟩
  simp (disch := omega) only [dm_t, wS, simprocAttr, IntKind.bits]
  intro b13 hb13
  simp (disch := omega) only [dm_t, wS, simprocAttr, IntKind.bits]
  refine storeH_all (hupd_same _ _ _) rfl rfl ?_
  rw [hupd_hupd]
  generalize hG : hupd g11 b13 _ = g12
  obtain ⟨e12, q13⟩ := new_ext hG hb13
  clear hG
  have kx : ∀ G, Ext g12 G → cellsAt G ⟨b13, 0, none⟩ 4 = some (pCs (rdP r)).toArray := fun G e => cellsAt_all (e.at q13) 4 rfl
  have e1012 := e11.trans e12
  have e812 := (e9.trans e10).trans e1012
  have e212 := e28.trans e812
  simp (disch := omega) only [dm_t, wS, simprocAttr, IntKind.bits, kq _ e1012, kx _ (Ext.refl _)]
  refine raw_nePl rfl rfl ?_
  rw [decide_eq_true rfl]
  simp (disch := omega) only [dm_t, wS, simprocAttr, IntKind.bits, kq _ e1012, kx _ (Ext.refl _), Bool.not_true, beq_self_eq_true]
  refine (num_ok g12 (rdE r)).k ?_
  rintro _ _ ⟨rfl, rfl⟩
  have mi12 := mi'
  have mc12 := cellsAt_ext e812 mc
  have mr12 := Rep.ext mr' e812
  simp (disch := omega) only [dm_t, wS, simprocAttr, IntKind.bits, mi12, mc12, kr _ e212]
  refine (same_ok mr12 (hr.ext (E2.trans e212))).k ?_
  rintro _ g13 ⟨rfl, e13⟩
  rw [decide_eq_true rfl]
  have e213 := e212.trans e13
  have e413 : Ext g4 g13 := (((((e5.trans e6).trans e7).trans e8).trans e812).trans e13)
  have e613 : Ext g6 g13 := ((e7.trans e8).trans e812).trans e13
  simp (disch := omega) only [dm_t, wS, simprocAttr, IntKind.bits, mi12, cellsAt_ext e13 mc12, kr _ e213, kp _ e213]
  refine (DMay_ok g13 p hpl).k ?_
  rintro _ g14 ⟨rfl, e14⟩
  -- the end: the record that lets it go
  have fin : ∀ G, Ext g13 G → vc Try.prog c3_s7 (retQ [4] (okR fun v h' => v = .bool true ∧ Ext g h')) [(2, .pointer (some ⟨b2, 0, none⟩)), (7, .pointer (some ⟨b7, 0, none⟩)), (8, .int .i64 (if mayP (p.1, p.2.1, 0, p.2.2.2) = true then 0 else 2))] G := by
    intro G eG
    have e2G := e213.trans eG
    have e6G := e613.trans eG
    have q2G := e2G.at q2
    have q7G := e6G.at q7
    simp (disch := omega) only [dm_t, wS, simprocAttr, IntKind.bits, storeH_0 q2G]
    generalize hG : hupd G b2 _ = G1
    have f1 : Fr (fun y => y = b2) G G1 := hG ▸ Fr.upd (S := fun y => y = b2) rfl _
    have qz : G1 b2 = some (.cells (pCs (p.1, p.2.1, 0, p.2.2.2)).toArray 23) := by rw [← hG, hupd_same]
    have EG1 : Ext g G1 := Ext.step' (E2.trans e2G) f1 fun y hy => by rw [hy]; exact hb2
    have h27 : b7 ≠ b2 := (ne_of (((e24.trans e5)).at q2) hb7).symm
    have q7z := f1 _ _ q7G h27
    have hbz : Rep nos rc G1 ys (if mayP (p.1, p.2.1, 0, p.2.2.2) = true then goneP p.1 p.2.1 p.2.2.2 else rc0) := by
      have h5 : Rep (fun y => g4 y ≠ none) rc G ys _ := hb.ext (e6.trans e6G)
      have h6 : Rep (fun y => y = b2) rc G ys _ := h5.mono fun y o _ hy => by rw [hy, e24.at q2]; simp
      exact (h6.fr f1 fun _ h => h).mono fun _ _ _ h => h.elim
    clear hG
    have kz : ∀ H, Ext G1 H → cellsAt H ⟨b2, 0, none⟩ 4 = some (pCs (p.1, p.2.1, 0, p.2.2.2)).toArray := fun H e => cellsAt_all (e.at qz) 4 rfl
    have kbz : ∀ H, Ext G1 H → cellsAt H ⟨b7, 0, none⟩ 3 = some ys.toArray := fun H e => cellsAt_all (e.at q7z) 3 hyl
    have d0 : ∀ H, Ext G1 H → cellAt H ⟨b2, 0, none⟩ = some (sv p.1) := fun H e => by rw [cellAt_of (e.at qz)]; rfl
    have d1 : ∀ H, Ext G1 H → cellAt H ⟨b2, 1, none⟩ = some (.int .i64 p.2.1) := fun H e => by rw [cellAt_of (e.at qz)]; rfl
    have d3 : ∀ H, Ext G1 H → cellAt H ⟨b2, 3, none⟩ = some (.int .i64 p.2.2.2) := fun H e => by rw [cellAt_of (e.at qz)]; rfl
    simp (disch := omega) only [dm_t, wS, simprocAttr, IntKind.bits, kz _ (Ext.refl _)]
    refine (DMay_ok G1 (p.1, p.2.1, 0, p.2.2.2) hpl).k ?_
    rintro _ G2 ⟨rfl, e2'⟩
    cases hmz : mayP (p.1, p.2.1, 0, p.2.2.2) with
    | true =>
      rw [hmz, if_pos rfl] at hbz
      obtain ⟨⟨⟨m1, m2⟩, m3⟩, m4, m5, m6⟩ := mayP_iff.1 hmz
      simp only at m1 m2 m4 m6
      simp (disch := omega) only [dm_t, wS, simprocAttr, IntKind.bits, kbz _ e2', d0 _ e2', d1 _ e2', d3 _ e2']
      refine (DKey_ok G2 p.1 p.2.1 m2 m4).k ?_
      rintro kv G3 ⟨o3, e3'⟩
      obtain ⟨va, vn, rfl⟩ := By.len o3.s0
      have e13' := e2'.trans e3'
      simp (disch := omega) only [dm_t, wS, simprocAttr, IntKind.bits, kbz _ e13', d0 _ e13', d1 _ e13', d3 _ e13']
      have hgo : Rep nos rc G3 [.int .i64 p.2.2.2, .slice va (keyB p.1 p.2.1).length vn, .slice none 0 0] (goneP p.1 p.2.1 p.2.2.2) := rep_rc.2 ⟨_, _, rfl, hp3, o3.s0, By.nil⟩
      refine (same_ok (hbz.ext e13') hgo).k ?_
      rintro _ G4 ⟨rfl, e4'⟩
      rw [decide_eq_true rfl]
      have e14' := e13'.trans e4'
      simp (disch := omega) only [dm_t, wS, simprocAttr, IntKind.bits, kbz _ e14', d0 _ e14', d1 _ e14', d3 _ e14']
      refine (num_ok G4 0).k ?_
      rintro _ _ ⟨rfl, rfl⟩
      simp (disch := omega) only [dm_t, wS, simprocAttr, IntKind.bits]
      refine (works_ok G4).k ?_
      rintro _ G5 ⟨rfl, e5'⟩
      simp (disch := omega) only [dm_t, wS, simprocAttr, IntKind.bits]
      exact (EG1.trans e14').trans e5'
    | false =>
      rw [hmz, if_neg (by simp)] at hbz
      simp (disch := omega) only [dm_t, wS, simprocAttr, IntKind.bits, kbz _ e2']
      refine (same_ok (hbz.ext e2') (rep_rc0 (S := nos) G2)).k ?_
      rintro _ G4 ⟨rfl, e4'⟩
      rw [decide_eq_true rfl]
      simp (disch := omega) only [dm_t, wS, simprocAttr, IntKind.bits]
      refine (num_ok G4 2).k ?_
      rintro _ _ ⟨rfl, rfl⟩
      simp (disch := omega) only [dm_t, wS, simprocAttr, IntKind.bits]
      refine (works_ok G4).k ?_
      rintro _ G5 ⟨rfl, e5'⟩
      simp (disch := omega) only [dm_t, wS, simprocAttr, IntKind.bits]
      exact ((EG1.trans e2').trans e4').trans e5'
  cases hm : mayP p with
  | true =>
    rw [hm, if_pos rfl] at ha
    have e214 := e213.trans e14
    have e414 := e413.trans e14
    simp (disch := omega) only [dm_t, wS, simprocAttr, IntKind.bits, ka _ e414, kp _ e214]
    refine (DRecord_ok g14 p hm).k ?_
    rintro _ g15 ⟨hRN, e15⟩
    obtain ⟨zs, rfl, hz⟩ := hRN.rep
    have e215 := e214.trans e15
    have e415 := e414.trans e15
    simp (disch := omega) only [dm_t, wS, simprocAttr, IntKind.bits, ka _ e415, kp _ e215]
    have ha15 := ha.ext (e4.trans e415)
    refine (same_ok ha15 hz).k ?_
    rintro _ g16 ⟨rfl, e16⟩
    rw [decide_eq_true rfl]
    have e216 := e215.trans e16
    have e416 := e415.trans e16
    simp (disch := omega) only [dm_t, wS, simprocAttr, IntKind.bits, ka _ e416, kp _ e216]
    refine (num_ok g16 0).k ?_
    rintro _ _ ⟨rfl, rfl⟩
    have k := fin g16 ((e14.trans e15).trans e16)
    simp (disch := omega) only [dm_t, wS, simprocAttr, IntKind.bits, ka _ e416, kp _ e216, k]
  | false =>
    rw [hm, if_neg (by simp)] at ha
    have e214 := e213.trans e14
    have e414 := e413.trans e14
    simp (disch := omega) only [dm_t, wS, simprocAttr, IntKind.bits, ka _ e414, kp _ e214]
    have ha14 := ha.ext (e4.trans e414)
    refine (same_ok ha14 (rep_rc0 (S := nos) g14)).k ?_
    rintro _ g16 ⟨rfl, e16⟩
    rw [decide_eq_true rfl]
    have e216 := e214.trans e16
    have e416 := e414.trans e16
    simp (disch := omega) only [dm_t, wS, simprocAttr, IntKind.bits, ka _ e416, kp _ e216]
    refine (num_ok g16 2).k ?_
    rintro _ _ ⟨rfl, rfl⟩
    have k := fin g16 (e14.trans e16)
    simp (disch := omega) only [dm_t, wS, simprocAttr, IntKind.bits, ka _ e416, kp _ e216, k]
end Go.Proofs.Ythhofmjhnjkcfaa.gr
