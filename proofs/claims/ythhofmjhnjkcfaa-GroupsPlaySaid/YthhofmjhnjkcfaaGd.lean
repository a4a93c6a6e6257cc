/-
  groups: places as records: the program's, the document's.
-/
import Derived.Test.YthhofmjhnjkcfaaGc
namespace Go.Proofs.Ythhofmjhnjkcfaa.gr
open Go.Proofs.Ythhofmjhnjkcfaa wi
set_option linter.unusedVariables false
set_option linter.unusedSimpArgs false
def keyB (g : List UInt8) (n : Int) : List UInt8 := g ++ [0] ++ low 2 n.toNat
def goneP (g : List UInt8) (n t : Int) : rc.D := (t, keyB g n, ([] : List UInt8))
def recP (x : Pl) : rc.D := (x.2.2.2, keyB x.1 x.2.1, low 8 (bits64 x.2.2.1))
abbrev rc0 : rc.D := ((0 : Int), ([] : List UInt8), ([] : List UInt8))
/-- A record in memory, its lists where nothing was at h0. -/
def RN (h0 h : H) (v : Value) (x : rc.D) : Prop := ∃ k w, v = .agg #[.int .i64 x.1, k, w] ∧ (-9223372036854775808 ≤ x.1 ∧ x.1 ≤ 9223372036854775807) ∧ OwB (fun y => h0 y = none) h 5 k x.2.1 ∧ OwB (fun y => h0 y = none) h 5 w x.2.2
theorem RN.rep {h0 h : H} {v : Value} {x : rc.D} (r : RN h0 h v x) : ∃ cs, v = .agg cs.toArray ∧ Rep (fun y => h0 y ≠ none) rc h cs x := by
  obtain ⟨k, w, rfl, hb, hk, hw⟩ := r
  exact ⟨_, rfl, rep_rc.2 ⟨k, w, rfl, hb, OwK.sl hk fun x hx hy => hy hx, OwK.sl hw fun x hx hy => hy hx⟩⟩
theorem RN.ext {h0 h h' : H} {v : Value} {x : rc.D} (r : RN h0 h v x) (e : Ext h h') : RN h0 h' v x := by
  obtain ⟨k, w, h1, hb, hk, hw⟩ := r
  exact ⟨k, w, h1, hb, hk.ext e, hw.ext e⟩
theorem RN.zero (h0 h : H) : RN h0 h (.agg #[.int .i64 0, .slice none 0 0, .slice none 0 0]) rc0 := ⟨_, _, rfl, by decide, OwK.nil, OwK.nil⟩
theorem mayP_iff {x : Pl} : mayP x = true ↔ ((1 ≤ x.1.length ∧ x.1.length ≤ 64) ∧ x.1.all chr = true) ∧ (0 ≤ x.2.1 ∧ x.2.1 < 16) ∧ (0 ≤ x.2.2.1 ∧ x.2.2.1 ≤ 9007199254740992) ∧ (0 ≤ x.2.2.2 ∧ x.2.2.2 ≤ 9007199254740992) := by
  simp only [mayP, grp, prt, tm, Bool.and_eq_true, decide_eq_true_eq]
  constructor
  · rintro ⟨⟨⟨h1, h2⟩, h3⟩, h4⟩; exact ⟨h1, h2, h3, h4⟩
  · rintro ⟨h1, h2, h3, h4⟩; exact ⟨⟨⟨h1, h2⟩, h3⟩, h4⟩
theorem Gone_ok (h : H) (g : List UInt8) (n t : Int) (hg : g.length ≤ 9223372036854775807) : Ok Try.prog 9 #[sv g, .int .i64 n, .int .i64 t] h fun v h' => Ext h h' ∧ ∃ w, v = .tuple #[w, .int .i64 (if mayP (g, n, 0, t) = true then 0 else 2)] ∧ RN h h' w (if mayP (g, n, 0, t) = true then goneP g n t else rc0) := by
  refine c9_ok (args := [_, _, _]) (by simp) ?_
  simp (disch := omega) only [dm_t, wS, simprocAttr, IntKind.bits]
  intro b hb
  generalize hG : hupd h b _ = g1
  obtain ⟨e1, q1⟩ := new_ext hG hb
  clear hG
  simp (disch := omega) only [dm_t, wS, simprocAttr, IntKind.bits]
  refine (may_ok g1 (g, n, 0, t) hg).k ?_
  rintro _ g2 ⟨rfl, e2⟩
  cases hm : mayP (g, n, 0, t) with
  | false =>
    have q2 := e2.at q1
    simp (disch := omega) only [dm_t, wS, simprocAttr, IntKind.bits]
    refine storeH_all q2 rfl rfl ?_
    generalize hG : hupd g2 b _ = g3
    have f3 : Fr (fun y => y = b) g2 g3 := hG ▸ Fr.upd (S := fun y => y = b) rfl _
    have q3 : g3 b = some (.cells #[.int .i64 0, .slice none 0 0, .slice none 0 0] 26) := by rw [← hG, hupd_same]
    have E3 : Ext h g3 := Ext.step' (e1.trans e2) f3 fun y hy => by rw [hy]; exact hb
    clear hG
    simp (disch := omega) only [dm_t, wS, simprocAttr, IntKind.bits, cellsAt_all q3 3 rfl]
    refine ⟨E3, _, rfl, ?_⟩
    exact RN.zero _ _
  | true =>
    obtain ⟨⟨⟨m1, m2⟩, m3⟩, m4, m5, m6⟩ := mayP_iff.1 hm
    simp only at m1 m2 m4 m5 m6
    simp (disch := omega) only [dm_t, wS, simprocAttr, IntKind.bits]
    obtain ⟨m, rfl⟩ : ∃ m : Nat, n = m := ⟨n.toNat, by omega⟩
    refine cvsb_of (O := fun y => h y = none) g (fun y hy => e1.bk (e2.bk hy)) ?_
    intro kv g3 o3 e3
    have E3 := (e1.trans e2).trans e3
    simp (disch := omega) only [dm_t, wS, simprocAttr, IntKind.bits]
    refine pushB 0 o3 (fun y hy => E3.bk hy) rfl (by omega) ?_
    intro _ kv2 g4 _ o4 f4
    have f4' : Fr (fun y => isAt kv y ∧ h y = none) g3 g4 := f4.mono fun y hy => ⟨hy.2, hy.1⟩
    have E4 : Ext h g4 := Ext.step' E3 f4 fun y hy => hy.1
    simp (disch := omega) only [dm_t, wS, simprocAttr, IntKind.bits]
    refine (u16_ok (OwK.s0 o4) m (by omega) (by rw [List.length_append, List.length_singleton]; omega)).k ?_
    rintro kv3 g5 ⟨o5, e5⟩
    have q4 := f4' _ _ (e3.at (e2.at q1)) fun h => OwK.tyno o3 (e3.at (e2.at q1)) (by decide) h.1
    have q5 := e5.at q4
    have E5 := E4.trans e5
    obtain ⟨ka, kc, rfl⟩ := By.len o5.s0
    simp (disch := omega) only [dm_t, wS, simprocAttr, IntKind.bits]
    refine storeH_all q5 rfl rfl ?_
    generalize hG : hupd g5 b _ = g6
    have f6 : Fr (fun y => y = b) g5 g6 := hG ▸ Fr.upd (S := fun y => y = b) rfl _
    have q6 : g6 b = some (.cells #[.int .i64 t, .slice ka (g ++ [0] ++ low 2 m).length kc, .slice none 0 0] 26) := by rw [← hG, hupd_same]
    have E6 : Ext h g6 := Ext.step' E5 f6 fun y hy => by rw [hy]; exact hb
    have o6 := OwK.fr o5 f6 fun y hy hn _ => by rw [hy, q4] at hn; cases hn
    clear hG
    simp (disch := omega) only [dm_t, wS, simprocAttr, IntKind.bits, cellsAt_all q6 3 rfl]
    refine ⟨E6, _, rfl, ?_⟩
    exact ⟨_, _, rfl, show -9223372036854775808 ≤ t ∧ t ≤ 9223372036854775807 by omega, OwK.mono o6 fun y _ _ hy => E4.bk hy, OwK.nil⟩
theorem Record_ok (h : H) (x : Pl) (hg : x.1.length ≤ 9223372036854775807) : Ok Try.prog 8 #[.agg (pCs x).toArray] h fun v h' => Ext h h' ∧ ∃ w, v = .tuple #[w, .int .i64 (if mayP x = true then 0 else 2)] ∧ RN h h' w (if mayP x = true then recP x else rc0) := by
  obtain ⟨g, n, o, t⟩ := x
  refine c8_ok (args := [_]) (by simp) ?_
  simp (disch := omega) only [dm_t, wS, simprocAttr, IntKind.bits]
  intro p hp b hb
  generalize hG : hupd h p _ = g1 at hb ⊢
  obtain ⟨e1, q1⟩ := new_ext hG hp
  clear hG
  generalize hG : hupd g1 b _ = g2
  obtain ⟨e2, q2⟩ := new_ext hG hb
  clear hG
  have c0 : ∀ G, Ext g1 G → cellAt G ⟨p, 0, none⟩ = some (sv g) := fun G e => by rw [cellAt_of (e.at q1)]; rfl
  have c1 : ∀ G, Ext g1 G → cellAt G ⟨p, 1, none⟩ = some (.int .i64 n) := fun G e => by rw [cellAt_of (e.at q1)]; rfl
  have c2 : ∀ G, Ext g1 G → cellAt G ⟨p, 2, none⟩ = some (.int .i64 o) := fun G e => by rw [cellAt_of (e.at q1)]; rfl
  have c3 : ∀ G, Ext g1 G → cellAt G ⟨p, 3, none⟩ = some (.int .i64 t) := fun G e => by rw [cellAt_of (e.at q1)]; rfl
  have E2 := e1.trans e2
  simp (disch := omega) only [dm_t, wS, simprocAttr, IntKind.bits, c0 _ e2, c1 _ e2, c3 _ e2]
  refine (Gone_ok g2 g n t hg).k ?_
  rintro _ g3 ⟨e3, w, rfl, hR⟩
  have q13 := (e2.trans e3).at q1
  have q23 := e3.at q2
  have m0 : mayP (g, n, o, t) = (mayP (g, n, 0, t) && tm o) := by
    have t0 : tm 0 = true := rfl
    simp only [mayP, t0, Bool.and_true]
    cases grp g <;> cases prt n <;> cases tm o <;> cases tm t <;> rfl
  rw [m0]
  have hbp : b ≠ p := (ne_of q1 hb).symm
  cases hm : mayP (g, n, 0, t) with
  | false =>
    rw [hm] at hR
    rw [Bool.false_and]
    obtain ⟨k, v, rfl, hbd, hk, hv⟩ := hR
    obtain ⟨ka, kc, rfl⟩ := By.len hk.s0
    obtain ⟨va, vc, rfl⟩ := By.len hv.s0
    simp (disch := omega) only [dm_t, wS, simprocAttr, IntKind.bits]
    intro r hr
    simp (disch := omega) only [dm_t, wS, simprocAttr, IntKind.bits]
    refine storeH_all (hupd_same _ _ _) rfl rfl ?_
    rw [hupd_hupd]
    generalize hG : hupd g3 r _ = g4
    obtain ⟨e4, q4⟩ := new_ext hG hr
    clear hG
    have q24 := e4.at q23
    simp (disch := omega) only [dm_t, wS, simprocAttr, IntKind.bits]
    refine storeH_all q24 rfl rfl ?_
    generalize hG : hupd g4 b _ = g5
    have f5 : Fr (fun y => y = b) g4 g5 := hG ▸ Fr.upd (S := fun y => y = b) rfl _
    have q5 : g5 b = some (.cells #[.int .i64 0, .slice none 0 0, .slice none 0 0] 26) := by rw [← hG, hupd_same]
    have E5 : Ext h g5 := Ext.step' ((E2.trans e3).trans e4) f5 fun y hy => by rw [hy]; exact e1.bk hb
    clear hG
    simp (disch := omega) only [dm_t, wS, simprocAttr, IntKind.bits, cellsAt_all q5 3 rfl]
    exact ⟨E5, _, rfl, RN.zero _ _⟩
  | true =>
    rw [hm] at hR
    rw [Bool.true_and]
    obtain ⟨k, v, rfl, hbd, hk, hv⟩ := hR
    obtain ⟨ka, kc, rfl⟩ := By.len hk.s0
    obtain ⟨va, vc, rfl⟩ := By.len hv.s0
    simp (disch := omega) only [dm_t, wS, simprocAttr, IntKind.bits]
    intro r hr
    simp (disch := omega) only [dm_t, wS, simprocAttr, IntKind.bits]
    refine storeH_all (hupd_same _ _ _) rfl rfl ?_
    rw [hupd_hupd]
    generalize hG : hupd g3 r _ = g4
    obtain ⟨e4, q4⟩ := new_ext hG hr
    clear hG
    have q14 := e4.at q13
    have q24 := e4.at q23
    have c4 := cellsAt_all q14 4 rfl
    simp (disch := omega) only [dm_t, wS, simprocAttr, IntKind.bits, c4]
    refine (may_ok g4 (g, n, o, t) hg).k ?_
    rintro _ g5 ⟨rfl, e5⟩
    rw [m0, hm, Bool.true_and]
    have q45 := e5.at q4
    have q25 := e5.at q24
    have q15 := e5.at q14
    have E5 := ((E2.trans e3).trans e4).trans e5
    cases ht : tm o with
    | false =>
      simp (disch := omega) only [dm_t, wS, simprocAttr, IntKind.bits]
      refine storeH_all q25 rfl rfl ?_
      generalize hG : hupd g5 b _ = g6
      have f6 : Fr (fun y => y = b) g5 g6 := hG ▸ Fr.upd (S := fun y => y = b) rfl _
      have q6 : g6 b = some (.cells #[.int .i64 0, .slice none 0 0, .slice none 0 0] 26) := by rw [← hG, hupd_same]
      have E6 : Ext h g6 := Ext.step' E5 f6 fun y hy => by rw [hy]; exact e1.bk hb
      clear hG
      simp (disch := omega) only [dm_t, wS, simprocAttr, IntKind.bits, cellsAt_all q6 3 rfl]
      exact ⟨E6, _, rfl, RN.zero _ _⟩
    | true =>
      have c2' : cellAt g5 ⟨p, 2, none⟩ = some (.int .i64 o) := by rw [cellAt_of q15]; rfl
      simp (disch := omega) only [dm_t, wS, simprocAttr, IntKind.bits, c2']
      refine (i64_ok (h := g5) (l := []) By.nil o (by simp)).k ?_
      rintro v2 g6 ⟨o6, e6⟩
      rw [List.nil_append] at o6
      obtain ⟨ua, uc, rfl⟩ := By.len o6.s0
      have q46 := e6.at q45
      have q26 := e6.at q25
      simp (disch := omega) only [dm_t, wS, simprocAttr, IntKind.bits, storeH_0 q46]
      generalize hG : hupd g6 r _ = g7
      have f7 : Fr (fun y => y = r) g6 g7 := hG ▸ Fr.upd (S := fun y => y = r) rfl _
      have q47 : g7 r = some (.cells #[.int .i64 t, .slice ka (goneP g n t).2.1.length kc, .slice ua (low 8 (bits64 o)).length uc] 26) := by rw [← hG, hupd_same]; rfl
      have hrg : g3 r = none := hr
      have E7 : Ext h g7 := Ext.step' (E5.trans e6) f7 fun y hy => by rw [hy]; exact (E2.trans e3).bk hr
      have hbr : b ≠ r := ne_of q23 hr
      have q27 := f7 _ _ q26 hbr
      have hk7 : OwB (fun y => h y = none) g7 5 (.slice ka (goneP g n t).2.1.length kc) (keyB g n) := OwK.fr (OwK.mono (((OwK.ext hk e4).ext e5).ext e6) fun y _ _ hy => E2.bk hy) f7 fun y hy hn hat => OwK.tyno (((OwK.ext hk e4).ext e5).ext e6) q46 (by decide) (hy ▸ hat)
      have ho7 : OwB (fun y => h y = none) g7 5 (.slice ua (low 8 (bits64 o)).length uc) (low 8 (bits64 o)) := OwK.fr (OwK.mono o6 fun y _ _ hy => E5.bk hy) f7 fun y hy hn hat => OwK.tyno o6 q46 (by decide) (hy ▸ hat)
      clear hG
      simp (disch := omega) only [dm_t, wS, simprocAttr, IntKind.bits, cellsAt_all q47 3 rfl]
      refine storeH_all q27 rfl rfl ?_
      generalize hG : hupd g7 b _ = g8
      have f8 : Fr (fun y => y = b) g7 g8 := hG ▸ Fr.upd (S := fun y => y = b) rfl _
      have q8 : g8 b = some (.cells #[.int .i64 t, .slice ka (goneP g n t).2.1.length kc, .slice ua (low 8 (bits64 o)).length uc] 26) := by rw [← hG, hupd_same]
      have E8 : Ext h g8 := Ext.step' E7 f8 fun y hy => by rw [hy]; exact e1.bk hb
      clear hG
      simp (disch := omega) only [dm_t, wS, simprocAttr, IntKind.bits, cellsAt_all q8 3 rfl]
      exact ⟨E8, _, rfl, _, _, rfl, hbd, OwK.fr hk7 f8 fun y hy hn hat => OwK.tyno hk7 q27 (by decide) (hy ▸ hat), OwK.fr ho7 f8 fun y hy hn hat => OwK.tyno ho7 q27 (by decide) (hy ▸ hat)⟩
end Go.Proofs.Ythhofmjhnjkcfaa.gr
