/-
  proto: ProtoAsks.
-/
import Derived.Test.YtfeaaliocdkonaaPs
namespace Go.Proofs.Ytfeaaliocdkonaa.pr
open Go.Proofs.Ytfeaaliocdkonaa rr wi
set_option linter.unusedVariables false
set_option linter.unusedSimpArgs false
theorem PA_ok {h : H} {ca cb : List Value} {x y : reqT.D} (ha : Rep nos reqT h ca x) (hb : Rep nos reqT h cb y) (hlx : x.2.2.2.1.length ≤ 4611686018427387904) (hly : y.2.2.2.1.length ≤ 4611686018427387904) :
    Ok Try.prog 3 #[.agg ca.toArray, .agg cb.toArray] h (qT h) := by
  obtain ⟨wa, rfl, bx, ra⟩ := rep_req.1 ha
  obtain ⟨wb, rfl, bY, rb⟩ := rep_req.1 hb
  have hca := Rep.cells ha
  have hcb := Rep.cells hb
  refine c3_ok (args := [_, _]) (by simp) ?_
  simp (disch := omega) only [dm_t, wS, simprocAttr, IntKind.bits, qCs]
  intro pa hpa pb hpb
  generalize hG : hupd h pa _ = g1 at hpb ⊢
  obtain ⟨e1, qa⟩ := new_ext hG hpa
  clear hG
  generalize hG : hupd g1 pb _ = g2
  obtain ⟨e2, qb⟩ := new_ext hG hpb
  clear hG
  have E2 := e1.trans e2
  replace qa : g2 pa = some (.cells (qCs x wa).toArray 26) := e2.at qa
  replace qb : g2 pb = some (.cells (qCs y wb).toArray 26) := qb
  obtain ⟨sa, sc, rfl⟩ := ra.len
  obtain ⟨ta, tc, rfl⟩ := rb.len
  have ca : ∀ g, Ext g2 g → cellAt g ⟨pa, 3, none⟩ = some (.slice sa x.2.2.2.1.length sc) := fun g e => by rw [cellAt_of (e.at qa)]; rfl
  have cb : ∀ g, Ext g2 g → cellAt g ⟨pb, 3, none⟩ = some (.slice ta y.2.2.2.1.length tc) := fun g e => by rw [cellAt_of (e.at qb)]; rfl
  have e0 := Ext.refl g2
  simp (disch := omega) only [dm_t, wS, simprocAttr, IntKind.bits, ca _ e0]
  refine (long_ok (ra.ext E2) hlx).k ?_
  rintro _ _ ⟨⟨b1, rfl, h1⟩, rfl⟩
  cases b1 with
  | true =>
    simp (disch := omega) only [dm_t, wS, simprocAttr, IntKind.bits]
    refine works_k fun g e => ?_
    simp (disch := omega) only [dm_t, wS, simprocAttr, IntKind.bits]
    exact ⟨rfl, E2.trans e⟩
  | false =>
  have sx := h1 rfl
  simp (disch := omega) only [dm_t, wS, simprocAttr, IntKind.bits, cb _ e0]
  refine (long_ok (rb.ext E2) hly).k ?_
  rintro _ _ ⟨⟨b2, rfl, h2⟩, rfl⟩
  cases b2 with
  | true =>
    simp (disch := omega) only [dm_t, wS, simprocAttr, IntKind.bits]
    refine works_k fun g e => ?_
    simp (disch := omega) only [dm_t, wS, simprocAttr, IntKind.bits]
    exact ⟨rfl, E2.trans e⟩
  | false =>
  have la : ∀ g, Ext g2 g → cellsAt g ⟨pa, 0, none⟩ 6 = some (qCs x (.slice sa x.2.2.2.1.length sc)).toArray := fun g e => cellsAt_all (e.at qa) 6 rfl
  simp (disch := omega) only [dm_t, wS, simprocAttr, IntKind.bits, la _ e0]
  intro mb hmb
  simp (disch := omega) only [dm_t, wS, simprocAttr, IntKind.bits]
  refine ⟨rfl, storeH_all (hupd_same _ _ _) rfl hca ?_⟩
  rw [hupd_hupd]
  generalize hG : hupd g2 mb _ = g3
  obtain ⟨e3, qm⟩ := new_ext hG hmb
  clear hG
  simp (disch := omega) only [dm_t, wS, simprocAttr, IntKind.bits, ca _ e3]
  have hmay := short_may sx
  have hlen : x.2.2.2.1.length ≤ 1100 := sx.1
  -- what follows
  have fin : ∀ (g : H) (v : Value), Ext g3 g → OwL (fun y => g3 y ≠ none) rc (fun y => g3 y = none) g 32 v (x.2.2.2.1 ++ [r77]) → ∃ ma mc, v = .slice ma (x.2.2.2.1.length + 1) mc ∧ x.2.2.2.1.length ≤ mc ∧
      AC h (hupd g mb (.cells (qCs x (.slice ma x.2.2.2.1.length mc)).toArray 26)) pa pb mb x y (.slice sa x.2.2.2.1.length sc) (.slice ta y.2.2.2.1.length tc) ma mc := by
    intro g v e o
    obtain ⟨ma, mc, rfl⟩ := o.len
    have hc := RepL.cap o.rep
    simp only [List.length_append, List.length_cons, List.length_nil] at hc o ⊢
    refine ⟨ma, mc, rfl, by omega, ?_⟩
    have hma : pa ≠ mb := ne_of qa hmb
    have hmbb : pb ≠ mb := ne_of qb hmb
    have E3 := e2.trans e3
    have f := Fr.upd (h := g) (b := mb) (S := fun y => y = mb) rfl (.cells (qCs x (.slice ma x.2.2.2.1.length mc)).toArray 26)
    have Eh : Ext h (hupd g mb (.cells (qCs x (.slice ma x.2.2.2.1.length mc)).toArray 26)) := Ext.upd ((E2.trans e3).trans e) (E2.bk hmb)
    refine ⟨by rw [hupd_ne _ _ hma]; exact (e3.trans e).at qa, by rw [hupd_ne _ _ hmbb]; exact (e3.trans e).at qb, hupd_same _ _ _, bx, bY, ra.ext Eh, rb.ext Eh, ?_, sx, Eh⟩
    have r0 : RepL (fun y => g3 y ≠ none) rc g (.slice ma (x.2.2.2.1.length + 1) mc) (x.2.2.2.1 ++ [r77]) := OwL.repS o fun y hy hn => hn hy
    refine RepL.mono (RepL.fr r0 f fun y hy => by rw [hy, qm]; simp) fun _ _ _ h => h.elim
  refine ⟨?_, ?_⟩
  · refine (RCopy_ok (ra.ext (E2.trans e3)) (by omega) hmay).k ?_
    rintro v g4 ⟨o4, e4⟩
    simp (disch := omega) only [dm_t, wS, simprocAttr, IntKind.bits, ca _ (e3.trans e4)]
    intro lb hlb
    have hl77 := lit77 (h := g4) (b := lb) (E := 32) (S := fun y => isAt v y ∨ g3 y ≠ none) (fun hh => hh.elim (fun hh => (ow_copy o4).there hh hlb) fun hh => hh (e4.bk hlb))
    generalize hG : hupd g4 lb _ = g5 at hl77 ⊢
    obtain ⟨e5, _⟩ := new_ext hG hlb
    clear hG
    simp (disch := omega) only [dm_t, wS, simprocAttr, IntKind.bits, ca _ ((e3.trans e4).trans e5)]
    refine OwL.app 3 sz_rc ((ow_copy o4).ext e5) (fun y hy => (e4.trans e5).bk hy) hl77 (by rfl) (by simp; omega) (by simp; omega) ?_
    intro v6 g6 o6 f6 _
    have E6 : Ext g3 g6 := Ext.step (e4.trans e5) f6
    obtain ⟨ma, mc, rfl, hmc, A⟩ := fin g6 v6 E6 o6
    simp (disch := omega) only [dm_t, wS, simprocAttr, IntKind.bits, ca _ (e3.trans E6)]
    refine slc_pre x.2.2.2.1.length rfl rfl hmc ?_
    simp (disch := omega) only [dm_t, wS, simprocAttr, IntKind.bits, ca _ (e3.trans E6), storeH_0 (E6.at qm)]
    have t := PA_tail A
    revert t
    simp (disch := omega) only [dm_t, wS, simprocAttr, IntKind.bits, qCs]
    exact id
  · intro lb hlb
    have hl77 : ∀ S : Nat → Prop, ¬ S lb → RepL S rc (hupd g3 lb (.cells #[.int .i64 77, .slice none 0 0, .slice none 0 0] 32)) (.slice (some ⟨lb, 0, none⟩) 1 1) [r77] := fun S hS => lit77 hS
    have hlb3 := hlb
    generalize hG : hupd g3 lb _ = g4 at hl77 ⊢
    obtain ⟨e4, q4⟩ := new_ext hG hlb
    clear hG
    simp (disch := omega) only [dm_t, wS, simprocAttr, IntKind.bits, ca _ (e3.trans e4)]
    refine (RCopy_ok (ra.ext ((E2.trans e3).trans e4)) (by omega) hmay).k ?_
    rintro v g5 ⟨o5, e5⟩
    have E5 := e4.trans e5
    have hne : ¬ (isAt v lb ∨ g3 lb ≠ none) := fun hh => hh.elim (fun hh => by have := (ow_copy o5).own hh; rw [q4] at this; cases this) fun hh => hh hlb3
    have o5' : OwL (fun y => g3 y ≠ none) rc (fun y => g3 y = none) g5 32 v x.2.2.2.1 := OwL.mono (OwL.subS (ow_copy o5) fun y hy hn => hy (e4.bk hn)) fun y _ _ hn => e4.bk hn
    simp (disch := omega) only [dm_t, wS, simprocAttr, IntKind.bits, ca _ (e3.trans E5)]
    refine OwL.app 3 sz_rc o5' (fun y hy => E5.bk hy) (RepL.ext (hl77 _ hne) e5) (by rfl) (by simp; omega) (by simp; omega) ?_
    intro v6 g6 o6 f6 _
    have E6 : Ext g3 g6 := Ext.step E5 f6
    obtain ⟨ma, mc, rfl, hmc, A⟩ := fin g6 v6 E6 o6
    simp (disch := omega) only [dm_t, wS, simprocAttr, IntKind.bits, ca _ (e3.trans E6)]
    refine slc_pre x.2.2.2.1.length rfl rfl hmc ?_
    simp (disch := omega) only [dm_t, wS, simprocAttr, IntKind.bits, ca _ (e3.trans E6), storeH_0 (E6.at qm)]
    have t := PA_tail A
    revert t
    simp (disch := omega) only [dm_t, wS, simprocAttr, IntKind.bits, qCs]
    exact id
end Go.Proofs.Ytfeaaliocdkonaa.pr
