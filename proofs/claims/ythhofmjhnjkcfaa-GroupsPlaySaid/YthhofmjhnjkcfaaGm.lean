/-
  groups: what a place's record is read as; All; the law's works.
-/
import Derived.Test.YthhofmjhnjkcfaaGl
namespace Go.Proofs.Ythhofmjhnjkcfaa.gr
open Go.Proofs.Ythhofmjhnjkcfaa wi
set_option linter.unusedVariables false
set_option linter.unusedSimpArgs false
theorem sgn_bits {o : Int} (h1 : 0 ≤ o) (h2 : o ≤ 9007199254740992) : sgn64 (bits64 o) = o := by
  unfold sgn64 bits64
  split <;> omega
theorem keyB_len (g : List UInt8) (n : Int) : (keyB g n).length = g.length + 3 := by
  simp [keyB, low_len]
theorem keyB_take (g : List UInt8) (n : Int) : (keyB g n).take ((keyB g n).length - 3) = g := by
  rw [keyB_len, Nat.add_sub_cancel, keyB, List.append_assoc, List.take_left']
  rfl
theorem keyB_at (g : List UInt8) (n : Int) : (keyB g n)[(keyB g n).length - 3]? = some 0 := by
  rw [keyB_len, Nat.add_sub_cancel, keyB, List.append_assoc, List.getElem?_append_right (Nat.le_refl _), Nat.sub_self]
  rfl
theorem keyB_drop (g : List UInt8) (n : Int) : (keyB g n).drop ((keyB g n).length - 3 + 1) = low 2 n.toNat := by
  rw [keyB_len, Nat.add_sub_cancel, keyB]
  rw [List.drop_left' (by simp)]
theorem keyB_num {n : Int} (h1 : 0 ≤ n) (h2 : n < 16) (g : List UInt8) : ((num ((keyB g n).drop ((keyB g n).length - 3 + 1)) : Nat) : Int) = n := by
  rw [keyB_drop, num_low]
  omega
theorem rd_rec {p : Pl} (h : mayP p = true) : rdOk (recP p) ∧ rdQ (recP p) = p ∧ (recP p).2.2.length = 8 := by
  obtain ⟨⟨⟨m1, m2⟩, m3⟩, m4, m5, m6⟩ := mayP_iff.1 h
  have h8 : (recP p).2.2.length = 8 := low_len _ _
  have hq : rdQ (recP p) = p := by
    have hw : num (recP p).2.2 = bits64 p.2.2.1 := by
      show num (low 8 _) = _
      rw [num_low]
      exact Nat.mod_eq_of_lt (bits64_lt _)
    rw [rdQ, if_pos h8, hw, sgn_bits m5.1 m5.2]
    have t1 : (recP p).2.1.take ((recP p).2.1.length - 3) = p.1 := keyB_take p.1 p.2.1
    have t2 : ((num ((recP p).2.1.drop ((recP p).2.1.length - 3 + 1)) : Nat) : Int) = p.2.1 := keyB_num m4.1 m4.2 p.1
    rw [t1, t2]
    rfl
  refine ⟨⟨?_, keyB_at _ _, .inr h8, by rw [hq]; exact h⟩, hq, h8⟩
  show 4 ≤ (keyB p.1 p.2.1).length
  rw [keyB_len]; omega
theorem rd_gone {g : List UInt8} {n t : Int} (h : mayP (g, n, 0, t) = true) : rdOk (goneP g n t) ∧ rdQ (goneP g n t) = (g, n, 0, t) ∧ (goneP g n t).2.2.length = 0 := by
  obtain ⟨⟨⟨m1, m2⟩, m3⟩, m4, m5, m6⟩ := mayP_iff.1 h
  have hq : rdQ (goneP g n t) = (g, n, 0, t) := by
    have t1 : (goneP g n t).2.1.take ((goneP g n t).2.1.length - 3) = g := keyB_take g n
    have t2 : ((num ((goneP g n t).2.1.drop ((goneP g n t).2.1.length - 3 + 1)) : Nat) : Int) = n := keyB_num m4.1 m4.2 g
    rw [rdQ, t1, t2]
    rfl
  refine ⟨⟨?_, keyB_at _ _, .inl rfl, by rw [hq]; exact h⟩, hq, rfl⟩
  show 4 ≤ (keyB g n).length
  rw [keyB_len]; simp only at m1; omega
theorem rdP_rec {p : Pl} (h : mayP p = true) : rdP (recP p) = p ∧ rdS (recP p) = true ∧ rdE (recP p) = 0 := by
  obtain ⟨h1, h2, h3⟩ := rd_rec h
  exact ⟨by rw [rdP, if_pos h1, h2], by rw [rdS, decide_eq_true h1, decide_eq_true h3]; rfl, if_pos h1⟩
theorem rdP_gone {g : List UInt8} {n t : Int} (h : mayP (g, n, 0, t) = true) : rdP (goneP g n t) = (g, n, 0, t) ∧ rdS (goneP g n t) = false ∧ rdE (goneP g n t) = 0 := by
  obtain ⟨h1, h2, h3⟩ := rd_gone h
  exact ⟨by rw [rdP, if_pos h1, h2], by rw [rdS, h3]; simp, if_pos h1⟩
/-! ### All -/
theorem All_ok {h : H} {b m : Nat} {L : List Pl} (G : GB h b m L) : Ok Try.prog 48 #[.pointer (some ⟨b, 0, none⟩)] h fun v h' => ∃ c s, v = .func (.func 82) #[] #[.pointer (some ⟨c, 0, none⟩)] ∧ h c = none ∧ h' c = some (.cells #[s] 65) ∧ PL (fun y => h y = none) h' s L ∧ Ext h h' := by
  refine c48_ok (args := [_]) (by simp) ?_
  simp (disch := omega) only [dm_t, wS, simprocAttr, IntKind.bits]
  refine (list_ok G).k ?_
  rintro s g1 ⟨o1, e1⟩
  obtain ⟨sa, sc, rfl⟩ := o1.s0.len
  have k : Ok Try.prog 71 #[.slice sa (L.map pCs).length sc] g1 fun v h' => ∃ c, v = .func (.func 82) #[] #[.pointer (some ⟨c, 0, none⟩)] ∧ g1 c = none ∧ h' c = some (.cells #[.slice sa (L.map pCs).length sc] 65) ∧ Ext g1 h' := by
    refine c71_ok (args := [_]) (by simp) ?_
    simp (disch := omega) only [dm_t, wS, simprocAttr, IntKind.bits]
    intro c hc
    exact ⟨c, rfl, hc, hupd_same _ _ _, Ext.new hc _⟩
  simp (disch := omega) only [dm_t, wS, simprocAttr, IntKind.bits]
  refine (k).k ?_
  rintro _ g2 ⟨c, rfl, hc, qc, e2⟩
  simp (disch := omega) only [dm_t, wS, simprocAttr, IntKind.bits]
  exact ⟨c, _, rfl, e1.bk hc, qc, o1.ext e2, e1.trans e2⟩
theorem rec_one {h : H} {b : Nat} {cs : List Value} {x : rc.D} (q : h b = some (.cells cs.toArray 26)) (r : Rep nos rc h cs x) : RepL nos rc h (.slice (some ⟨b, 0, none⟩) 1 1) [x] := by
  have hl : cs.length = 3 := r.len.trans sz_rc
  refine repL_iff.2 ⟨[cs], ⟨fun r hr => ?_, .inr ⟨b, 0, 1, _, _, _, rfl, q, ?_, by simp, ?_, fun h => h⟩⟩, rfl, fun i r' z hr hz => ?_⟩
  · simp only [List.mem_singleton] at hr; subst hr; exact hl
  · rw [sz_rc]; simp [hl]
  · rw [flat_cons, flat_nil, List.append_nil]; exact at_arr cs #[]
  · cases i with
    | zero =>
      simp only [List.getElem?_cons_zero, Option.some.injEq] at hr hz
      subst hr hz
      exact r
    | succ i => simp at hr
theorem fold_one {p : Pl} (h : mayP p = true) : foldG [] [recP p] 0 = ([p], 1, 0) := by
  obtain ⟨h1, h2, h3⟩ := rdP_rec h
  have hE : setE [] p = 0 := by rw [setE, if_pos h, if_neg (by simp)]
  rw [foldG, if_neg (by simp [h3]), if_neg (by simp [h2]), h1, if_pos hE, setR, if_pos hE]
  rfl
def pW : Pl := ([103], 1, 7, 5)
theorem works_ok (h : H) : Ok Try.prog 18 #[] h fun v h' => v = .bool true ∧ Ext h h' := by
  refine c18_ok (args := []) (by simp) ?_
  simp (disch := omega) only [dm_t, wS, simprocAttr, IntKind.bits]
  intro b1 hb1
  simp (disch := omega) only [dm_t, wS, simprocAttr, IntKind.bits]
  have hm : mayP pW = true := by decide
  have hl : pW.1.length ≤ 140737488351232 := by decide
  have hl2 : pW.1.length ≤ 9223372036854775807 := by decide
  refine storeH_all (hupd_same _ _ _) rfl rfl ?_
  rw [hupd_hupd]
  generalize hG : hupd h b1 _ = g1
  obtain ⟨e1, q1⟩ := new_ext hG hb1
  clear hG
  replace q1 : g1 b1 = some (.cells (pCs pW).toArray 23) := q1
  have k1 : ∀ G, Ext g1 G → cellsAt G ⟨b1, 0, none⟩ 4 = some (pCs pW).toArray := fun G e => cellsAt_all (e.at q1) 4 rfl
  simp (disch := omega) only [dm_t, wS, simprocAttr, IntKind.bits, k1 _ (Ext.refl _)]
  refine (Record_ok g1 pW hl2).k ?_
  rintro _ g2 ⟨e2, w, rfl, hR⟩
  rw [hm, if_pos rfl] at hR
  rw [hm, if_pos rfl]
  obtain ⟨cs, rfl, hrep⟩ := hR.rep
  have hcl := hrep.len
  rw [sz_rc] at hcl
  simp (disch := omega) only [dm_t, wS, simprocAttr, IntKind.bits]
  intro b2 hb2
  simp (disch := omega) only [dm_t, wS, simprocAttr, IntKind.bits]
  refine stn_new hcl (by rfl) hrep.cells ?_
  generalize hG : hupd g2 b2 _ = g3
  obtain ⟨e3, q3⟩ := new_ext hG hb2
  clear hG
  have k3 : ∀ G, Ext g3 G → cellsAt G ⟨b2, 0, none⟩ 3 = some cs.toArray := fun G e => cellsAt_all (e.at q3) 3 hcl
  have r3 := fun (G : H) (e : Ext g3 G) => hrep.ext (e3.trans e)
  have hkl : (recP pW).2.1.length ≤ 140737488351232 := by rw [show (recP pW).2.1 = keyB pW.1 pW.2.1 from rfl, keyB_len]; decide
  obtain ⟨rp, rs, re⟩ := rdP_rec hm
  simp (disch := omega) only [dm_t, wS, simprocAttr, IntKind.bits, k3 _ (Ext.refl _)]
  refine (Read_ok (r3 _ (Ext.refl _)) hkl).k ?_
  rintro _ g4 ⟨rfl, e4⟩
  rw [rp, rs, re]
  simp (disch := omega) only [dm_t, wS, simprocAttr, IntKind.bits]
  intro b3 hb3
  simp (disch := omega) only [dm_t, wS, simprocAttr, IntKind.bits]
  refine storeH_all (hupd_same _ _ _) rfl rfl ?_
  rw [hupd_hupd]
  generalize hG : hupd g4 b3 _ = g5
  obtain ⟨e5, q5⟩ := new_ext hG hb3
  clear hG
  have k5 : ∀ G, Ext g5 G → cellsAt G ⟨b3, 0, none⟩ 4 = some (pCs pW).toArray := fun G e => cellsAt_all (e.at q5) 4 rfl
  simp (disch := omega) only [dm_t, wS, simprocAttr, IntKind.bits]
  refine (GNew_ok g5).k ?_
  rintro _ g6 ⟨gb, gm, rfl, hgb, hgm, G6, e6⟩
  simp (disch := omega) only [dm_t, wS, simprocAttr, IntKind.bits]
  refine (All_ok G6).k ?_
  rintro _ g7 ⟨ac, asl, rfl, hac, qac, oac, e7⟩
  have e37 : Ext g3 g7 := ((e4.trans e5).trans e6).trans e7
  simp (disch := omega) only [dm_t, wS, simprocAttr, IntKind.bits, k3 _ e37]
  rw [if_pos hcl, so.splice_all hcl]
  simp (disch := omega) only [dm_t, wS, simprocAttr, IntKind.bits]
  intro b4 hb4
  generalize hG : hupd g7 b4 _ = g8
  obtain ⟨e8, q8⟩ := new_ext hG hb4
  clear hG
  have e38 := e37.trans e8
  have L1 : RepL nos rc g8 (.slice (some ⟨b4, 0, none⟩) 1 1) [recP pW] := rec_one q8 ((r3 _ e38).mono fun _ _ _ h => h.elim)
  have G8 := (G6.ext e7).ext e8
  simp (disch := omega) only [dm_t, wS, simprocAttr, IntKind.bits]
  refine (Fold_ok G8 L1 (by simp) (by intro x hx; simp only [List.mem_singleton] at hx; subst hx; exact hkl)).k ?_
  rintro _ g9 ⟨rfl, G9, f9⟩
  rw [fold_one hm] at G9 ⊢
  simp (disch := omega) only [dm_t, wS, simprocAttr, IntKind.bits]
  have hat := At_ok G9 ([103], 1) (by decide)
  have hlet : letE [pW] ([103], 1) = 0 := by decide
  have hatp : atP [pW] ([103], 1) = pW := by decide
  rw [hlet, hatp] at hat
  refine (hat).k ?_
  rintro _ g10 ⟨rfl, e10⟩
  simp (disch := omega) only [dm_t, wS, simprocAttr, IntKind.bits]
  intro b5 hb5
  simp (disch := omega) only [dm_t, wS, simprocAttr, IntKind.bits]
  refine storeH_all (hupd_same _ _ _) rfl rfl ?_
  rw [hupd_hupd]
  generalize hG : hupd g10 b5 _ = g11
  obtain ⟨e11, q11⟩ := new_ext hG hb5
  clear hG
  have k11 : cellsAt g11 ⟨b5, 0, none⟩ 4 = some (pCs pW).toArray := cellsAt_all q11 4 rfl
  have F8 : Fr (fun y => y = gm) g3 g11 := (((e38.mono fun _ h => h.elim).trans f9).trans (e10.mono fun _ h => h.elim)).trans (e11.mono fun _ h => h.elim)
  have nm : ∀ {y : Nat} {c : Array Value} {E : TypeId}, g8 y = some (.cells c E) → y ≠ gm := fun hy => G8.nocell hy
  have F89 : Fr (fun y => y = gm) g8 g11 := (f9.trans (e10.mono fun _ h => h.elim)).trans (e11.mono fun _ h => h.elim)
  have z3 := F89 _ _ (e38.at q3) (nm (e38.at q3))
  have q58 := (((e6.trans e7).trans e8)).at q5
  have z5 := F89 _ _ q58 (nm q58)
  have q18 := ((((e2.trans e3).trans e38)).at q1)
  have z1 := F89 _ _ q18 (nm q18)
  obtain ⟨kk, kv, hcs, -, hk, hv⟩ := rep_rc.1 hrep
  have d1 : cellAt g11 ⟨b2, 1, none⟩ = some kk := by rw [cellAt_of z3, hcs]; rfl
  have hkey : By nos g11 kk (keyB [103] 1) := by
    have h8 : By nos g8 kk (keyB [103] 1) := SlK.nos (SlK.ext hk (e3.trans e38))
    exact SlK.mono (SlK.fr (SlK.oldM (T := fun y => y = gm) h8 G8.noc) F89 fun _ h => h) fun _ _ _ h => h.elim
  have e1' : cellsAt g11 ⟨b1, 0, none⟩ 4 = some (pCs pW).toArray := cellsAt_all z1 4 rfl
  have e3' : cellsAt g11 ⟨b3, 0, none⟩ 4 = some (pCs pW).toArray := cellsAt_all z5 4 rfl
  have EE : Ext h g11 := by
    have E0 : Ext h g8 := ((e1.trans e2).trans e3).trans e38
    exact Ext.step' E0 F89 fun y hy => by rw [hy]; exact (((e1.trans e2).trans e3).trans (e4.trans e5)).bk hgm
  simp (disch := omega) only [dm_t, wS, simprocAttr, IntKind.bits]
  refine (num_ok g11 0).k ?_
  rintro _ _ ⟨rfl, rfl⟩
  simp (disch := omega) only [dm_t, wS, simprocAttr, IntKind.bits, d1]
  refine cvbs_of hkey ?_
  have hlit : ({ data := (keyB [103] 1).toArray } : ByteArray) = ⟨#[103, 0, 1, 0]⟩ := rfl
  rw [hlit]
  simp (disch := omega) only [dm_t, wS, simprocAttr, IntKind.bits, e1', e3', k11]
  refine raw_eqPl rfl rfl ?_
  rw [decide_eq_true rfl]
  simp (disch := omega) only [dm_t, wS, simprocAttr, IntKind.bits]
  refine (num_ok g11 0).k ?_
  rintro _ _ ⟨rfl, rfl⟩
  simp (disch := omega) only [dm_t, wS, simprocAttr, IntKind.bits]
  refine (num_ok _ 0).k ?_
  rintro _ _ ⟨rfl, rfl⟩
  simp (disch := omega) only [dm_t, wS, simprocAttr, IntKind.bits, e1', k11]
  refine raw_eqPl rfl rfl ?_
  rw [decide_eq_true rfl]
  simp (disch := omega) only [dm_t, wS, simprocAttr, IntKind.bits]
  refine (num_ok _ 0).k ?_
  rintro _ _ ⟨rfl, rfl⟩
  simp (disch := omega) only [dm_t, wS, simprocAttr, IntKind.bits]
  exact EE
end Go.Proofs.Ythhofmjhnjkcfaa.gr
