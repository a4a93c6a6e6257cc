/-
  proto: ProtoTells.
-/
import Derived.Test.YtfeaaliocdkonaaPx
namespace Go.Proofs.Ytfeaaliocdkonaa.pr
open Go.Proofs.Ytfeaaliocdkonaa rr wi
set_option linter.unusedVariables false
set_option linter.unusedSimpArgs false
abbrev iv (l : List Int) : List Value := l.map (.int .i64)
theorem at_lit {b n c x : Nat} (h : isAt (.slice (some ⟨b, 0, none⟩) n c) x) : x = b := hasAt h
/-- The second half: the marks' copy. -/
theorem PT_marks {h H1 : H} {pa pb mb : Nat} {x y : ansT.D} {wa ka wb kb : Value} {ma : Option Addr} {mc : Nat}
    (qa : H1 pa = some (.cells (aCs x wa ka).toArray 73)) (qb : H1 pb = some (.cells (aCs y wb kb).toArray 73)) (qm : H1 mb = some (.cells (aCs x (.slice ma x.2.2.2.2.1.length mc) ka).toArray 73))
    (hma : pa ≠ mb) (hmb : pb ≠ mb) (hm0 : h mb = none) (bx : aB x) (bY : aB y) (ra : RepL nos rc h wa x.2.2.2.2.1) (rb : RepL nos rc h wb y.2.2.2.2.1) (rm : RepL (fun z => z = mb) rc H1 (.slice ma (x.2.2.2.2.1.length + 1) mc) (x.2.2.2.2.1 ++ [r77]))
    (sa : RepL nos (.int .i64) h ka x.2.2.2.2.2) (sb : RepL nos (.int .i64) h kb y.2.2.2.2.2) (sx : Short x.2.2.2.2.1) (lx : x.2.2.2.2.2.length ≤ 40) (E : Ext h H1) :
    vc Try.prog c7_s3 (retQ [4] (okR (qT h))) [(2, .pointer (some ⟨pa, 0, none⟩)), (3, .pointer (some ⟨pb, 0, none⟩)), (5, .pointer (some ⟨mb, 0, none⟩))] H1 := by
  obtain ⟨ua, uc, rfl⟩ := sa.len
  have sx1 := (repI (sa.ext E)).1
  have sxb := (repI sa).2
  obtain ⟨marks, hmk⟩ : ∃ m : List Int, m = x.2.2.2.2.2 := ⟨_, rfl⟩
  rw [← hmk] at sx1 sxb lx
  have qm2 : H1 mb = some (.cells (aCs x (.slice ma x.2.2.2.2.1.length mc) (.slice ua marks.length uc)).toArray 73) := by rw [hmk]; exact qm
  have ca5 : ∀ g, Ext H1 g → cellAt g ⟨pa, 5, none⟩ = some (.slice ua marks.length uc) := fun g e => by rw [cellAt_of (e.at qa), hmk]; rfl
  have e0 := Ext.refl H1
  have fin : ∀ (g : H) (v : Value), Ext H1 g → O1 (fun y => H1 y = none) g 2 v (iv marks ++ [.int .i64 77]) → ∃ na nc, v = .slice na (marks.length + 1) nc ∧ marks.length ≤ nc ∧
      vc Try.prog c7_s4 (retQ [4] (okR (qT h))) [(2, .pointer (some ⟨pa, 0, none⟩)), (3, .pointer (some ⟨pb, 0, none⟩)), (5, .pointer (some ⟨mb, 0, none⟩))] (hupd g mb (.cells (aCs x (.slice ma x.2.2.2.2.1.length mc) (.slice na marks.length nc)).toArray 73)) := by
    intro g v e o
    obtain ⟨na, nc, rfl⟩ := S1.len o.s0
    have hc := SlK.cap o.s0
    have hl : (iv marks ++ [Value.int .i64 77]).length = marks.length + 1 := by simp
    rw [one_len, hl] at hc
    rw [hl] at o ⊢
    refine ⟨na, nc, rfl, by omega, ?_⟩
    have f := Fr.upd (h := g) (b := mb) (S := fun y => y = mb) rfl (.cells (aCs x (.slice ma x.2.2.2.2.1.length mc) (.slice na marks.length nc)).toArray 73)
    have Eh : Ext h (hupd g mb (.cells (aCs x (.slice ma x.2.2.2.2.1.length mc) (.slice na marks.length nc)).toArray 73)) := Ext.upd (E.trans e) hm0
    have o2 : S1 (fun y => y = mb) g (.slice na (marks.length + 1) nc) ((marks ++ [(77 : Int)]).map (.int .i64)) := by
      rw [List.map_append]
      exact OwK.sl o fun y hy hh => by rw [hh, qm] at hy; cases hy
    have o3 : RepL nos (.int .i64) (hupd g mb (.cells (aCs x (.slice ma x.2.2.2.2.1.length mc) (.slice na marks.length nc)).toArray 73)) (.slice na (marks.length + 1) nc) (marks ++ [(77 : Int)]) := by
      refine iRep (SlK.mono (SlK.fr o2 f fun y hy => hy) fun _ _ _ h => h.elim) ?_
      intro z hz
      rcases List.mem_append.1 hz with hz | hz
      · exact sxb z hz
      · simp only [List.mem_singleton] at hz; subst hz; decide
    have r3 := RepL.mono (T := nos) (RepL.fr (rm.ext e) f fun y hy => hy) fun _ _ _ h => h.elim
    have q1 : hupd g mb (.cells (aCs x (.slice ma x.2.2.2.2.1.length mc) (.slice na marks.length nc)).toArray 73) pa = some (.cells (aCs x wa (.slice ua x.2.2.2.2.2.length uc)).toArray 73) := by rw [hupd_ne _ _ hma]; exact e.at qa
    have q2 : hupd g mb (.cells (aCs x (.slice ma x.2.2.2.2.1.length mc) (.slice na marks.length nc)).toArray 73) pb = some (.cells (aCs y wb kb).toArray 73) := by rw [hupd_ne _ _ hmb]; exact e.at qb
    have q3 : hupd g mb (.cells (aCs x (.slice ma x.2.2.2.2.1.length mc) (.slice na marks.length nc)).toArray 73) mb = some (.cells (aCs x (.slice ma x.2.2.2.2.1.length mc) (.slice na marks.length nc)).toArray 73) := hupd_same _ _ _
    have ra' := ra.ext Eh
    have rb' := rb.ext Eh
    have sa' := sa.ext Eh
    have sb' := sb.ext Eh
    generalize hupd g mb (.cells (aCs x (.slice ma x.2.2.2.2.1.length mc) (.slice na marks.length nc)).toArray 73) = G at Eh o3 r3 q1 q2 q3 ra' rb' sa' sb' ⊢
    rw [hmk] at o3 q3 lx
    exact PT_tail ⟨q1, q2, q3, bx, bY, ra', rb', r3, sa', sb', o3, sx, lx, Eh⟩
  have hci : (iv marks).all isCell = true := cells_ints _ _
  have hil : (iv marks).length = marks.length := by simp
  simp (disch := omega) only [dm_t, wS, simprocAttr, IntKind.bits, ca5 _ e0]
  refine ⟨?_, ?_⟩
  · intro b0 hb0
    have o0 : O1 (fun y => H1 y = none) (hupd H1 b0 (.cells #[] 2)) 2 (.slice (some ⟨b0, 0, none⟩) 0 0) [] := olit1 (h := H1) (O := fun y => H1 y = none) [] rfl hb0
    generalize hG : hupd H1 b0 _ = g2 at o0 ⊢
    obtain ⟨e2, q2⟩ := new_ext hG hb0
    clear hG
    simp (disch := omega) only [dm_t, wS, simprocAttr, IntKind.bits, ca5 _ e2]
    refine ⟨?_, ?_⟩
    · refine app1 o0 (fun y hy => e2.bk hy) (SlK.ext sx1 e2) hci (by rw [List.length_nil, hil]; omega) (by rw [List.length_nil, hil]; omega) ?_
      intro v3 g3 o3 f3
      rw [List.nil_append] at o3
      have E3 : Ext H1 g3 := Ext.step e2 f3
      simp (disch := omega) only [dm_t, wS, simprocAttr, IntKind.bits, ca5 _ E3]
      intro b1 hb1
      have s1 : S1 nos (hupd g3 b1 (.cells #[.int .i64 77] 2)) (.slice (some ⟨b1, 0, none⟩) 1 1) [.int .i64 77] := slit1 [_] rfl
      generalize hG : hupd g3 b1 _ = g4 at s1 ⊢
      obtain ⟨e4, _⟩ := new_ext hG hb1
      clear hG
      have E4 := E3.trans e4
      simp (disch := omega) only [dm_t, wS, simprocAttr, IntKind.bits, ca5 _ E4]
      refine app1 (o3.ext e4) (fun y hy => E4.bk hy) s1 rfl (by rw [hil]; simp; omega) (by rw [hil]; simp; omega) ?_
      intro v5 g5 o5 f5
      have E5 : Ext H1 g5 := Ext.step E4 f5
      obtain ⟨na, nc, rfl, hnc, t⟩ := fin g5 v5 E5 o5
      simp (disch := omega) only [dm_t, wS, simprocAttr, IntKind.bits, ca5 _ E5]
      refine slc_pre marks.length rfl rfl hnc ?_
      simp (disch := omega) only [dm_t, wS, simprocAttr, IntKind.bits, ca5 _ E5, storeH_0 (E5.at qm2)]
      skip
      revert t
      simp (disch := omega) only [dm_t, wS, simprocAttr, IntKind.bits, aCs]
      exact id
    · intro b1 hb1
      have hne : ¬ b1 = b0 := fun hh => ne_of q2 hb1 hh.symm
      have s1 : S1 (fun y => y = b0) (hupd g2 b1 (.cells #[.int .i64 77] 2)) (.slice (some ⟨b1, 0, none⟩) 1 1) [.int .i64 77] := slitS [_] rfl hne
      generalize hG : hupd g2 b1 _ = g3 at s1 ⊢
      obtain ⟨e3, _⟩ := new_ext hG hb1
      clear hG
      have E3 := e2.trans e3
      simp (disch := omega) only [dm_t, wS, simprocAttr, IntKind.bits, ca5 _ E3]
      refine app1 (o0.ext e3) (fun y hy => E3.bk hy) (SlK.ext sx1 E3) hci (by rw [List.length_nil, hil]; omega) (by rw [List.length_nil, hil]; omega) ?_
      intro v4 g4 o4 f4
      rw [List.nil_append] at o4
      have E4 : Ext H1 g4 := Ext.step E3 f4
      have s4 := SlK.fr s1 f4 fun y hy => at_lit hy.2
      simp (disch := omega) only [dm_t, wS, simprocAttr, IntKind.bits, ca5 _ E4]
      refine app1 o4 (fun y hy => E4.bk hy) s4 rfl (by rw [hil]; simp; omega) (by rw [hil]; simp; omega) ?_
      intro v5 g5 o5 f5
      have E5 : Ext H1 g5 := Ext.step E4 f5
      obtain ⟨na, nc, rfl, hnc, t⟩ := fin g5 v5 E5 o5
      simp (disch := omega) only [dm_t, wS, simprocAttr, IntKind.bits, ca5 _ E5]
      refine slc_pre marks.length rfl rfl hnc ?_
      simp (disch := omega) only [dm_t, wS, simprocAttr, IntKind.bits, ca5 _ E5, storeH_0 (E5.at qm2)]
      skip
      revert t
      simp (disch := omega) only [dm_t, wS, simprocAttr, IntKind.bits, aCs]
      exact id
  · intro b1 hb1
    have s1 : ∀ S : Nat → Prop, ¬ S b1 → S1 S (hupd H1 b1 (.cells #[.int .i64 77] 2)) (.slice (some ⟨b1, 0, none⟩) 1 1) [.int .i64 77] := fun S hS => slitS [_] rfl hS
    generalize hG : hupd H1 b1 _ = g2 at s1 ⊢
    obtain ⟨e2, q2⟩ := new_ext hG hb1
    clear hG
    simp (disch := omega) only [dm_t, wS, simprocAttr, IntKind.bits, ca5 _ e2]
    intro b0 hb0
    have hne : ¬ b1 = b0 := fun hh => ne_of q2 hb0 hh
    have o0 : O1 (fun y => H1 y = none) (hupd g2 b0 (.cells #[] 2)) 2 (.slice (some ⟨b0, 0, none⟩) 0 0) [] := olit1 (h := g2) (O := fun y => H1 y = none) [] rfl (e2.bk hb0)
    generalize hG : hupd g2 b0 _ = g3 at o0 ⊢
    obtain ⟨e3, _⟩ := new_ext hG hb0
    clear hG
    have E3 := e2.trans e3
    simp (disch := omega) only [dm_t, wS, simprocAttr, IntKind.bits, ca5 _ E3]
    refine app1 o0 (fun y hy => E3.bk hy) (SlK.ext sx1 E3) hci (by rw [List.length_nil, hil]; omega) (by rw [List.length_nil, hil]; omega) ?_
    intro v4 g4 o4 f4
    rw [List.nil_append] at o4
    have E4 : Ext H1 g4 := Ext.step E3 f4
    have s4 := SlK.fr ((s1 (fun y => y = b0) hne).ext e3) f4 fun y hy => at_lit hy.2
    simp (disch := omega) only [dm_t, wS, simprocAttr, IntKind.bits, ca5 _ E4]
    refine app1 o4 (fun y hy => E4.bk hy) s4 rfl (by rw [hil]; simp; omega) (by rw [hil]; simp; omega) ?_
    intro v5 g5 o5 f5
    have E5 : Ext H1 g5 := Ext.step E4 f5
    obtain ⟨na, nc, rfl, hnc, t⟩ := fin g5 v5 E5 o5
    simp (disch := omega) only [dm_t, wS, simprocAttr, IntKind.bits, ca5 _ E5]
    refine slc_pre marks.length rfl rfl hnc ?_
    simp (disch := omega) only [dm_t, wS, simprocAttr, IntKind.bits, ca5 _ E5, storeH_0 (E5.at qm2)]
    skip
    revert t
    simp (disch := omega) only [dm_t, wS, simprocAttr, IntKind.bits, aCs]
    exact id
theorem PT_ok {h : H} {ca cb : List Value} {x y : ansT.D} (ha : Rep nos ansT h ca x) (hb : Rep nos ansT h cb y) (hlx : x.2.2.2.2.1.length ≤ 4611686018427387904) (hly : y.2.2.2.2.1.length ≤ 4611686018427387904) :
    Ok Try.prog 7 #[.agg ca.toArray, .agg cb.toArray] h (qT h) := by
  obtain ⟨wa, ka, rfl, bx, ra, sa⟩ := rep_ans.1 ha
  obtain ⟨wb, kb, rfl, bY, rb, sb⟩ := rep_ans.1 hb
  have hca := Rep.cells ha
  have hcb := Rep.cells hb
  refine c7_ok (args := [_, _]) (by simp) ?_
  simp (disch := omega) only [dm_t, wS, simprocAttr, IntKind.bits, aCs]
  intro pa hpa pb hpb
  generalize hG : hupd h pa _ = g1 at hpb ⊢
  obtain ⟨e1, qa⟩ := new_ext hG hpa
  clear hG
  generalize hG : hupd g1 pb _ = g2
  obtain ⟨e2, qb⟩ := new_ext hG hpb
  clear hG
  have E2 := e1.trans e2
  replace qa : g2 pa = some (.cells (aCs x wa ka).toArray 73) := e2.at qa
  replace qb : g2 pb = some (.cells (aCs y wb kb).toArray 73) := qb
  obtain ⟨va, vz, rfl⟩ := ra.len
  obtain ⟨ta, tc, rfl⟩ := rb.len
  obtain ⟨ua, uc, rfl⟩ := sa.len
  obtain ⟨xa, xc, rfl⟩ := sb.len
  have ca : ∀ g, Ext g2 g → cellAt g ⟨pa, 4, none⟩ = some (.slice va x.2.2.2.2.1.length vz) := fun g e => by rw [cellAt_of (e.at qa)]; rfl
  have cb : ∀ g, Ext g2 g → cellAt g ⟨pb, 4, none⟩ = some (.slice ta y.2.2.2.2.1.length tc) := fun g e => by rw [cellAt_of (e.at qb)]; rfl
  have ca5 : ∀ g, Ext g2 g → cellAt g ⟨pa, 5, none⟩ = some (.slice ua x.2.2.2.2.2.length uc) := fun g e => by rw [cellAt_of (e.at qa)]; rfl
  have cb5 : ∀ g, Ext g2 g → cellAt g ⟨pb, 5, none⟩ = some (.slice xa y.2.2.2.2.2.length xc) := fun g e => by rw [cellAt_of (e.at qb)]; rfl
  have e0 := Ext.refl g2
  simp (disch := omega) only [dm_t, wS, simprocAttr, IntKind.bits, ca _ e0]
  refine (long_ok (ra.ext E2) hlx).k ?_
  rintro _ _ ⟨⟨b1, rfl, h1⟩, rfl⟩
  cases b1 with
  | true =>
    simp (disch := omega) only [dm_t, wS, simprocAttr, IntKind.bits]
    refine works_k fun g e => ?_
    simp (disch := omega) only [dm_t, wS, simprocAttr, IntKind.bits]
    exact ⟨rfl, E2.trans e⟩
  | false =>
  have sx := h1 rfl
  simp (disch := omega) only [dm_t, wS, simprocAttr, IntKind.bits, cb _ e0]
  refine (long_ok (rb.ext E2) hly).k ?_
  rintro _ _ ⟨⟨b2, rfl, h2⟩, rfl⟩
  cases b2 with
  | true =>
    simp (disch := omega) only [dm_t, wS, simprocAttr, IntKind.bits]
    refine works_k fun g e => ?_
    simp (disch := omega) only [dm_t, wS, simprocAttr, IntKind.bits]
    exact ⟨rfl, E2.trans e⟩
  | false =>
  by_cases lx : 40 < x.2.2.2.2.2.length
  · simp (disch := omega) only [dm_t, wS, simprocAttr, IntKind.bits, ca5 _ e0]
    refine works_k fun g e => ?_
    simp (disch := omega) only [dm_t, wS, simprocAttr, IntKind.bits]
    exact ⟨rfl, E2.trans e⟩
  by_cases ly : 40 < y.2.2.2.2.2.length
  · simp (disch := omega) only [dm_t, wS, simprocAttr, IntKind.bits, ca5 _ e0, cb5 _ e0]
    refine works_k fun g e => ?_
    simp (disch := omega) only [dm_t, wS, simprocAttr, IntKind.bits]
    exact ⟨rfl, E2.trans e⟩
  have la : ∀ g, Ext g2 g → cellsAt g ⟨pa, 0, none⟩ 6 = some (aCs x (.slice va x.2.2.2.2.1.length vz) (.slice ua x.2.2.2.2.2.length uc)).toArray := fun g e => cellsAt_all (e.at qa) 6 rfl
  simp (disch := omega) only [dm_t, wS, simprocAttr, IntKind.bits, la _ e0, ca5 _ e0, cb5 _ e0]
  intro mb hmb
  simp (disch := omega) only [dm_t, wS, simprocAttr, IntKind.bits]
  refine ⟨rfl, storeH_all (hupd_same _ _ _) rfl hca ?_⟩
  rw [hupd_hupd]
  generalize hG : hupd g2 mb _ = g3
  obtain ⟨e3, qm⟩ := new_ext hG hmb
  clear hG
  simp (disch := omega) only [dm_t, wS, simprocAttr, IntKind.bits, ca _ e3]
  have hmay := short_may sx
  have hlen : x.2.2.2.2.1.length ≤ 1100 := sx.1
  have hma : pa ≠ mb := ne_of qa hmb
  have hmbb : pb ≠ mb := ne_of qb hmb
  have fin : ∀ (g : H) (v : Value), Ext g3 g → OwL (fun y => g3 y ≠ none) rc (fun y => g3 y = none) g 32 v (x.2.2.2.2.1 ++ [r77]) → ∃ ma mc, v = .slice ma (x.2.2.2.2.1.length + 1) mc ∧ x.2.2.2.2.1.length ≤ mc ∧
      vc Try.prog c7_s3 (retQ [4] (okR (qT h))) [(2, .pointer (some ⟨pa, 0, none⟩)), (3, .pointer (some ⟨pb, 0, none⟩)), (5, .pointer (some ⟨mb, 0, none⟩))] (hupd g mb (.cells (aCs x (.slice ma x.2.2.2.2.1.length mc) (.slice ua x.2.2.2.2.2.length uc)).toArray 73)) := by
    intro g v e o
    obtain ⟨ma, mc, rfl⟩ := o.len
    have hc := RepL.cap o.rep
    simp only [List.length_append, List.length_cons, List.length_nil] at hc o ⊢
    refine ⟨ma, mc, rfl, by omega, ?_⟩
    have f := Fr.upd (h := g) (b := mb) (S := fun y => y = mb) rfl (.cells (aCs x (.slice ma x.2.2.2.2.1.length mc) (.slice ua x.2.2.2.2.2.length uc)).toArray 73)
    have Eh : Ext h (hupd g mb (.cells (aCs x (.slice ma x.2.2.2.2.1.length mc) (.slice ua x.2.2.2.2.2.length uc)).toArray 73)) := Ext.upd ((E2.trans e3).trans e) (E2.bk hmb)
    have r0 : RepL (fun y => g3 y ≠ none) rc g (.slice ma (x.2.2.2.2.1.length + 1) mc) (x.2.2.2.2.1 ++ [r77]) := OwL.repS o fun y hy hn => hn hy
    have r1 : RepL (fun y => y = mb) rc (hupd g mb (.cells (aCs x (.slice ma x.2.2.2.2.1.length mc) (.slice ua x.2.2.2.2.2.length uc)).toArray 73)) (.slice ma (x.2.2.2.2.1.length + 1) mc) (x.2.2.2.2.1 ++ [r77]) :=
      RepL.mono (RepL.fr r0 f fun y hy => by rw [hy, qm]; simp) fun y _ _ hy => by rw [hy, qm]; simp
    exact PT_marks (by rw [hupd_ne _ _ hma]; exact (e3.trans e).at qa) (by rw [hupd_ne _ _ hmbb]; exact (e3.trans e).at qb) (hupd_same _ _ _) hma hmbb (E2.bk hmb) bx bY ra rb r1 sa sb sx (by omega) Eh
  refine ⟨?_, ?_⟩
  · refine (RCopy_ok (ra.ext (E2.trans e3)) (by omega) hmay).k ?_
    rintro v g4 ⟨o4, e4⟩
    simp (disch := omega) only [dm_t, wS, simprocAttr, IntKind.bits, ca _ (e3.trans e4)]
    intro lb hlb
    have hl77 := lit77 (h := g4) (b := lb) (E := 32) (S := fun y => isAt v y ∨ g3 y ≠ none) (fun hh => hh.elim (fun hh => (ow_copy o4).there hh hlb) fun hh => hh (e4.bk hlb))
    generalize hG : hupd g4 lb _ = g5 at hl77 ⊢
    obtain ⟨e5, _⟩ := new_ext hG hlb
    clear hG
    simp (disch := omega) only [dm_t, wS, simprocAttr, IntKind.bits, ca _ ((e3.trans e4).trans e5)]
    refine OwL.app 3 sz_rc ((ow_copy o4).ext e5) (fun y hy => (e4.trans e5).bk hy) hl77 (by rfl) (by simp; omega) (by simp; omega) ?_
    intro v6 g6 o6 f6 _
    have E6 : Ext g3 g6 := Ext.step (e4.trans e5) f6
    obtain ⟨ma, mc, rfl, hmc, t⟩ := fin g6 v6 E6 o6
    simp (disch := omega) only [dm_t, wS, simprocAttr, IntKind.bits, ca _ (e3.trans E6)]
    refine slc_pre x.2.2.2.2.1.length rfl rfl hmc ?_
    simp (disch := omega) only [dm_t, wS, simprocAttr, IntKind.bits, ca _ (e3.trans E6), storeH_0 (E6.at qm)]
    revert t
    simp (disch := omega) only [dm_t, wS, simprocAttr, IntKind.bits, aCs]
    exact id
  · intro lb hlb
    have hl77 : ∀ S : Nat → Prop, ¬ S lb → RepL S rc (hupd g3 lb (.cells #[.int .i64 77, .slice none 0 0, .slice none 0 0] 32)) (.slice (some ⟨lb, 0, none⟩) 1 1) [r77] := fun S hS => lit77 hS
    have hlb3 := hlb
    generalize hG : hupd g3 lb _ = g4 at hl77 ⊢
    obtain ⟨e4, q4⟩ := new_ext hG hlb
    clear hG
    simp (disch := omega) only [dm_t, wS, simprocAttr, IntKind.bits, ca _ (e3.trans e4)]
    refine (RCopy_ok (ra.ext ((E2.trans e3).trans e4)) (by omega) hmay).k ?_
    rintro v g5 ⟨o5, e5⟩
    have E5 := e4.trans e5
    have hne : ¬ (isAt v lb ∨ g3 lb ≠ none) := fun hh => hh.elim (fun hh => by have := (ow_copy o5).own hh; rw [q4] at this; cases this) fun hh => hh hlb3
    have o5' : OwL (fun y => g3 y ≠ none) rc (fun y => g3 y = none) g5 32 v x.2.2.2.2.1 := OwL.mono (OwL.subS (ow_copy o5) fun y hy hn => hy (e4.bk hn)) fun y _ _ hn => e4.bk hn
    simp (disch := omega) only [dm_t, wS, simprocAttr, IntKind.bits, ca _ (e3.trans E5)]
    refine OwL.app 3 sz_rc o5' (fun y hy => E5.bk hy) (RepL.ext (hl77 _ hne) e5) (by rfl) (by simp; omega) (by simp; omega) ?_
    intro v6 g6 o6 f6 _
    have E6 : Ext g3 g6 := Ext.step E5 f6
    obtain ⟨ma, mc, rfl, hmc, t⟩ := fin g6 v6 E6 o6
    simp (disch := omega) only [dm_t, wS, simprocAttr, IntKind.bits, ca _ (e3.trans E6)]
    refine slc_pre x.2.2.2.2.1.length rfl rfl hmc ?_
    simp (disch := omega) only [dm_t, wS, simprocAttr, IntKind.bits, ca _ (e3.trans E6), storeH_0 (E6.at qm)]
    revert t
    simp (disch := omega) only [dm_t, wS, simprocAttr, IntKind.bits, aCs]
    exact id
end Go.Proofs.Ytfeaaliocdkonaa.pr
