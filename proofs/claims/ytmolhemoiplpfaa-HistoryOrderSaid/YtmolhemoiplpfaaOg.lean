/-
  history: HistoryOrder, plain; its loops over pairs.
-/
import Derived.Test.YtmolhemoiplpfaaOf
namespace Go.Proofs.Ytmolhemoiplpfaa.hi
open Go.Proofs.Ytmolhemoiplpfaa
set_option linter.unusedVariables false
set_option linter.unusedSimpArgs false
/-- What the law asks of operations. -/
structure PO (os : List opT.D) : Prop where
  irr : ∀ o ∈ os, ahead o o = false
  up : ∀ (i : Nat) (o p : opT.D), os[i]? = some o → os[i + 1]? = some p → ob o < ob p
  sq : ∀ (i j : Nat) (o p : opT.D), os[i]? = some o → os[j]? = some p → i < j → oc o = oc p → ahead o p = true
  tr : ∀ o ∈ os, ∀ p ∈ os, ∀ q ∈ os, ahead o p = true → ahead p q = true → ahead o q = true
  iv : ∀ (o p q r : opT.D), ahead o p = true → ahead q r = true → ahead o r = false → ahead q p = true
theorem ahead_iff {x y : opT.D} : ahead x y = true ↔ 0 ≤ oe x ∧ oe x < ob y := by unfold ahead; simp
theorem ahead_no {x y : opT.D} : ahead x y = false ↔ ¬ (0 ≤ oe x ∧ oe x < ob y) := by unfold ahead; simp
theorem OI.po {s : Hs} (I : OI s) : PO s.ops := by
  have lo : ∀ o ∈ s.ops, 0 ≤ ob o ∧ (oe o = -1 ∨ ob o < oe o) := by
    intro o ho
    obtain ⟨i, hi, rfl⟩ := List.getElem_of_mem ho
    obtain ⟨k, k1, _⟩ := I.call i _ (List.getElem?_eq_getElem hi)
    rcases I.ret i _ (List.getElem?_eq_getElem hi) with ⟨h, _⟩ | ⟨k', h1, h2, _⟩
    · exact ⟨by omega, .inl h⟩
    · exact ⟨by omega, .inr (by omega)⟩
  refine ⟨fun o ho => ?_, fun i o p h1 h2 => I.up i (i + 1) o p h1 h2 (by omega), fun i j o p h1 h2 hij hc => ?_, fun o ho p hp q hq h1 h2 => ?_, fun o p q r h1 h2 h3 => ?_⟩
  · rw [ahead_no]
    have := lo o ho; omega
  · rw [ahead_iff]; exact I.sq i j o p h1 h2 hij hc
  · rw [ahead_iff] at *
    have := lo p hp; omega
  · rw [ahead_iff] at *; rw [ahead_no] at h3; omega
section
variable {h g3 : H} {R : Value → H → Prop} {qa : Option Addr} {qc : Nat} {os : List opT.D}
def Lds (g3 : H) (sl : Value) (os : List opT.D) : Prop := ∀ (i : Nat) (hi : i < os.length), ∃ b o cs, idxV1 11 sl (.int .i64 (i : Int)) = some (.pointer (some ⟨b, o, none⟩)) ∧ (∀ G, Ext g3 G → cellsAt G ⟨b, o, none⟩ 11 = some cs.toArray ∧ cellAt G ⟨b, o, none⟩ = some (.int .i64 (oc os[i])) ∧ cellAt G ⟨b, o + 9, none⟩ = some (.int .i64 (ob os[i])) ∧ Rep nos opT G cs os[i])
theorem lds (hr : RepL nos opT g3 (.slice qa os.length qc) os) : Lds g3 (.slice qa os.length qc) os := by
  intro i hi
  obtain ⟨b, o, cs, h1, h2, h3, h4⟩ := hr.load hi .i64 11 rfl
  obtain ⟨r, q, rfl, _⟩ := rep_op.1 h4
  refine ⟨b, o, _, h1, fun G e => ⟨cellsAt_ext e h2, cellAt_ext e ?_, cellAt_ext e ?_, h4.ext e⟩⟩
  · exact h3 0 (by omega)
  · exact h3 9 (by omega)
theorem loop_d (L : Lds g3 (.slice qa os.length qc) os) (hn : os.length ≤ 60000) (po : PO os) {a b c : Nat} (ha : a < os.length) (hb : b < os.length) (hc : c < os.length) (hab : ahead os[a] os[b] = true) {Q : Post}
    (hQ : ∀ G, Ext g3 G → Q .normal [(3, .slice qa os.length qc), (10, .int .i64 (a : Int)), (11, .int .i64 (b : Int)), (12, .int .i64 (c : Int)), (13, .int .i64 (os.length : Int)), (226, .bool false)] G) {G0 : H} (e0 : Ext g3 G0) :
    vc Try.prog c6_s25 Q [(3, .slice qa os.length qc), (10, .int .i64 (a : Int)), (11, .int .i64 (b : Int)), (12, .int .i64 (c : Int)), (13, .int .i64 0)] G0 := by
  simp (disch := omega) only [dm_t, wS, simprocAttr, IntKind.bits]
  refine vc_loop1 (fun vi G => Ext g3 G ∧ ∃ i : Nat, vi = .int .i64 (i : Int) ∧ i ≤ os.length) (fun vi _ => os.length - m1 vi) ?_ ?_
  · simp (disch := omega) only [dm_t, wS, simprocAttr, IntKind.bits]
    exact ⟨e0, 0, rfl, by omega⟩
  rintro _ G ⟨e, d, rfl, hd⟩
  by_cases hdl : d < os.length
  rotate_left
  · obtain rfl : d = os.length := by omega
    have k := hQ G e
    simp (disch := omega) only [dm_t, wS, simprocAttr, IntKind.bits, k]
  obtain ⟨ba, oa, ca, ia, fa⟩ := L a ha
  obtain ⟨bb, ob', cb, ib, fb⟩ := L b hb
  obtain ⟨bc, oc', cc, ic, fc⟩ := L c hc
  obtain ⟨bd, od, cd, id, fd⟩ := L d hdl
  obtain ⟨fc1, -, -, fc4⟩ := fc G e
  obtain ⟨fd1, -, -, fd4⟩ := fd G e
  simp (disch := omega) only [dm_t, wS, simprocAttr, IntKind.bits, ic, id, fc1, fd1]
  refine (Ahead_ok fc4 fd4).k ?_
  rintro v1 G1 ⟨hv1, e1⟩
  replace e1 := e.trans e1
  obtain ⟨fc1, -, -, fc4⟩ := fc G1 e1
  obtain ⟨fd1, -, -, fd4⟩ := fd G1 e1
  obtain ⟨fa1, -, -, fa4⟩ := fa G1 e1
  obtain ⟨fb1, -, -, fb4⟩ := fb G1 e1
  cases h1 : ahead os[c] os[d] with
  | false =>
    rw [h1] at hv1; subst hv1
    simp (disch := omega) only [dm_t, wS, simprocAttr, IntKind.bits, fc1, fd1]
    exact ⟨⟨e1, d + 1, by simp, by omega⟩, by simp [m1]; omega⟩
  | true =>
    rw [h1] at hv1; subst hv1
    simp (disch := omega) only [dm_t, wS, simprocAttr, IntKind.bits, fc1, fd1, ia, id, fa1]
    refine (Ahead_ok fa4 fd4).k ?_
    rintro v2 G2 ⟨hv2, e2⟩
    replace e2 := e1.trans e2
    obtain ⟨fc1, -, -, fc4⟩ := fc G2 e2
    obtain ⟨fd1, -, -, fd4⟩ := fd G2 e2
    obtain ⟨fa1, -, -, fa4⟩ := fa G2 e2
    obtain ⟨fb1, -, -, fb4⟩ := fb G2 e2
    cases h2 : ahead os[a] os[d] with
    | true =>
      rw [h2] at hv2; subst hv2
      simp (disch := omega) only [dm_t, wS, simprocAttr, IntKind.bits, fc1, fd1, fa1]
      exact ⟨⟨e2, d + 1, by simp, by omega⟩, by simp [m1]; omega⟩
    | false =>
      rw [h2] at hv2; subst hv2
      have h3 := po.iv _ _ _ _ hab h1 h2
      simp (disch := omega) only [dm_t, wS, simprocAttr, IntKind.bits, fc1, fd1, fa1, fb1, ic, ib]
      refine (Ahead_ok fc4 fb4).k ?_
      rintro v3 G3 ⟨hv3, e3⟩
      rw [h3] at hv3; subst hv3
      replace e3 := e2.trans e3
      obtain ⟨fc1, -, -, fc4⟩ := fc G3 e3
      obtain ⟨fd1, -, -, fd4⟩ := fd G3 e3
      obtain ⟨fa1, -, -, fa4⟩ := fa G3 e3
      obtain ⟨fb1, -, -, fb4⟩ := fb G3 e3
      simp (disch := omega) only [dm_t, wS, simprocAttr, IntKind.bits, fc1, fd1, fa1, fb1]
      exact ⟨⟨e3, d + 1, by simp, by omega⟩, by simp [m1]; omega⟩
theorem loop_c (L : Lds g3 (.slice qa os.length qc) os) (hn : os.length ≤ 60000) (po : PO os) {a b : Nat} (ha : a < os.length) (hb : b < os.length) (hab : ahead os[a] os[b] = true) {Q : Post}
    (hQ : ∀ G, Ext g3 G → Q .normal [(3, .slice qa os.length qc), (10, .int .i64 (a : Int)), (11, .int .i64 (b : Int)), (12, .int .i64 (os.length : Int)), (199, .bool false)] G) {G0 : H} (e0 : Ext g3 G0) :
    vc Try.prog c6_s22 Q [(3, .slice qa os.length qc), (10, .int .i64 (a : Int)), (11, .int .i64 (b : Int)), (12, .int .i64 0)] G0 := by
  simp (disch := omega) only [dm_t, wS, simprocAttr, IntKind.bits]
  refine vc_loop1 (fun vi G => Ext g3 G ∧ ∃ i : Nat, vi = .int .i64 (i : Int) ∧ i ≤ os.length) (fun vi _ => os.length - m1 vi) ?_ ?_
  · simp (disch := omega) only [dm_t, wS, simprocAttr, IntKind.bits]
    exact ⟨e0, 0, rfl, by omega⟩
  rintro _ G ⟨e, c, rfl, hc⟩
  by_cases hcl : c < os.length
  rotate_left
  · obtain rfl : c = os.length := by omega
    have k := hQ G e
    simp (disch := omega) only [dm_t, wS, simprocAttr, IntKind.bits, k]
  obtain ⟨ba, oa, ca, ia, fa⟩ := L a ha
  obtain ⟨bb, ob', cb, ib, fb⟩ := L b hb
  obtain ⟨bc, oc', cc, ic, fc⟩ := L c hcl
  obtain ⟨fa1, -, -, fa4⟩ := fa G e
  obtain ⟨fb1, -, -, fb4⟩ := fb G e
  obtain ⟨fc1, -, -, fc4⟩ := fc G e
  generalize hQ0 : lq1 _ _ _ _ _ _ _ = Q0
  have key : ∀ G, Ext g3 G → vc Try.prog c6_s24 (blockQ 9 (seqQ Try.prog [3, 10, 11, 12] c6_s28 Q0)) [(3, .slice qa os.length qc), (10, .int .i64 (a : Int)), (11, .int .i64 (b : Int)), (12, .int .i64 (c : Int))] G := by
    intro G e
    simp (disch := omega) only [dm_t, wN, simprocAttr, IntKind.bits]
    refine loop_d L hn po ha hb hcl hab ?_ e
    intro G1 e1
    subst hQ0
    simp (disch := omega) only [dm_t, wS, simprocAttr, IntKind.bits]
    exact ⟨⟨e1, c + 1, by simp, by omega⟩, by simp [m1]; omega⟩
  simp (disch := omega) only [dm_t, wS, simprocAttr, IntKind.bits, ic, ib, fc1, fb1]
  refine (Ahead_ok fb4 fc4).k ?_
  rintro v1 G1 ⟨hv1, e1⟩
  replace e1 := e.trans e1
  obtain ⟨fa1, -, -, fa4⟩ := fa G1 e1
  obtain ⟨fb1, -, -, fb4⟩ := fb G1 e1
  obtain ⟨fc1, -, -, fc4⟩ := fc G1 e1
  cases h1 : ahead os[b] os[c] with
  | false =>
    rw [h1] at hv1; subst hv1
    have k := key G1 e1
    simp (disch := omega) only [dm_t, wS, simprocAttr, IntKind.bits, fc1, fb1, k]
  | true =>
    rw [h1] at hv1; subst hv1
    have h2 := po.tr _ (List.getElem_mem ha) _ (List.getElem_mem hb) _ (List.getElem_mem hcl) hab h1
    simp (disch := omega) only [dm_t, wS, simprocAttr, IntKind.bits, fc1, fb1, ia, ic, fa1]
    refine (Ahead_ok fa4 fc4).k ?_
    rintro v2 G2 ⟨hv2, e2⟩
    rw [h2] at hv2; subst hv2
    replace e2 := e1.trans e2
    obtain ⟨fa1, -, -, fa4⟩ := fa G2 e2
    obtain ⟨fb1, -, -, fb4⟩ := fb G2 e2
    obtain ⟨fc1, -, -, fc4⟩ := fc G2 e2
    have k := key G2 e2
    simp (disch := omega) only [dm_t, wS, simprocAttr, IntKind.bits, fc1, fb1, fa1, k]
end
end Go.Proofs.Ytmolhemoiplpfaa.hi
namespace Go.Proofs.Ytmolhemoiplpfaa.hi
open Go.Proofs.Ytmolhemoiplpfaa
set_option linter.unusedVariables false
set_option linter.unusedSimpArgs false
section
variable {h g3 : H} {R : Value → H → Prop} {qa : Option Addr} {qc : Nat} {os : List opT.D}
theorem loop_b (L : Lds g3 (.slice qa os.length qc) os) (hn : os.length ≤ 60000) (po : PO os) {a : Nat} (ha : a < os.length) {Q : Post}
    (hQ : ∀ G, Ext g3 G → Q .normal [(3, .slice qa os.length qc), (10, .int .i64 (a : Int)), (11, .int .i64 (os.length : Int)), (155, .bool false)] G) {G0 : H} (e0 : Ext g3 G0) :
    vc Try.prog c6_s18 Q [(3, .slice qa os.length qc), (10, .int .i64 (a : Int)), (11, .int .i64 0)] G0 := by
  simp (disch := omega) only [dm_t, wS, simprocAttr, IntKind.bits]
  refine vc_loop1 (fun vi G => Ext g3 G ∧ ∃ i : Nat, vi = .int .i64 (i : Int) ∧ i ≤ os.length) (fun vi _ => os.length - m1 vi) ?_ ?_
  · simp (disch := omega) only [dm_t, wS, simprocAttr, IntKind.bits]
    exact ⟨e0, 0, rfl, by omega⟩
  rintro _ G ⟨e, b, rfl, hb⟩
  by_cases hbl : b < os.length
  rotate_left
  · obtain rfl : b = os.length := by omega
    have k := hQ G e
    simp (disch := omega) only [dm_t, wS, simprocAttr, IntKind.bits, k]
  obtain ⟨ba, oa, ca, ia, fa⟩ := L a ha
  obtain ⟨bb, ob', cb, ib, fb⟩ := L b hbl
  obtain ⟨fa1, fa2, -, fa4⟩ := fa G e
  obtain ⟨fb1, fb2, -, fb4⟩ := fb G e
  generalize hQ0 : lq1 _ _ _ _ _ _ _ = Q0
  have key : ∀ G, Ext g3 G → vc Try.prog c6_s20 (blockQ 7 (seqQ Try.prog [3, 10, 11] c6_s29 Q0)) [(3, .slice qa os.length qc), (10, .int .i64 (a : Int)), (11, .int .i64 (b : Int))] G := by
    intro G e
    obtain ⟨fa1, -, -, fa4⟩ := fa G e
    obtain ⟨fb1, -, -, fb4⟩ := fb G e
    simp (disch := omega) only [dm_t, wS, simprocAttr, IntKind.bits, ia, ib, fa1, fb1]
    refine (Ahead_ok fa4 fb4).k ?_
    rintro v1 G1 ⟨hv1, e1⟩
    replace e1 := e.trans e1
    obtain ⟨fa1, -, -, fa4⟩ := fa G1 e1
    obtain ⟨fb1, -, -, fb4⟩ := fb G1 e1
    cases h1 : ahead os[a] os[b] with
    | false =>
      rw [h1] at hv1; subst hv1
      subst hQ0
      simp (disch := omega) only [dm_t, wS, simprocAttr, IntKind.bits, fa1, fb1]
      exact ⟨⟨e1, b + 1, by simp, by omega⟩, by simp [m1]; omega⟩
    | true =>
      rw [h1] at hv1; subst hv1
      have k : vc Try.prog c6_s22 (blockQ 7 (seqQ Try.prog [3, 10, 11] c6_s29 Q0)) [(3, .slice qa os.length qc), (10, .int .i64 (a : Int)), (11, .int .i64 (b : Int)), (12, .int .i64 0)] G1 := by
        refine loop_c L hn po ha hbl h1 ?_ e1
        intro G2 e2
        subst hQ0
        simp (disch := omega) only [dm_t, wS, simprocAttr, IntKind.bits]
        exact ⟨⟨e2, b + 1, by simp, by omega⟩, by simp [m1]; omega⟩
      simp (disch := omega) only [dm_t, wS, simprocAttr, IntKind.bits, fa1, fb1, k]
  by_cases hc : oc os[a] = oc os[b]
  · by_cases hab : a < b
    · have h2 := po.sq a b _ _ (List.getElem?_eq_getElem ha) (List.getElem?_eq_getElem hbl) hab hc
      simp (disch := omega) only [dm_t, wS, simprocAttr, IntKind.bits, ia, ib, fa1, fb1, fa2, fb2]
      refine (Ahead_ok fa4 fb4).k ?_
      rintro v1 G1 ⟨hv1, e1⟩
      rw [h2] at hv1; subst hv1
      replace e1 := e.trans e1
      obtain ⟨fa1, fa2, -, fa4⟩ := fa G1 e1
      obtain ⟨fb1, fb2, -, fb4⟩ := fb G1 e1
      have k := key G1 e1
      simp (disch := omega) only [dm_t, wS, simprocAttr, IntKind.bits, fa1, fb1, fa2, fb2, k]
    · have k := key G e
      simp (disch := omega) only [dm_t, wS, simprocAttr, IntKind.bits, ia, ib, fa2, fb2, k]
  · have k := key G e
    simp (disch := omega) only [dm_t, wS, simprocAttr, IntKind.bits, ia, ib, fa2, fb2, k]
/-- The loops over pairs of operations. -/
theorem pairs (L : Lds g3 (.slice qa os.length qc) os) (hn : os.length ≤ 60000) (po : PO os)
    (hk : ∀ G, Ext g3 G → vc Try.prog c6_s31 (retQ [2] (okR R)) [] G) :
    vc Try.prog c6_s14 (retQ [2] (okR R)) [(3, .slice qa os.length qc)] g3 := by
  simp (disch := omega) only [dm_t, wS, simprocAttr, IntKind.bits]
  refine vc_loop1 (fun vi G => Ext g3 G ∧ ∃ i : Nat, vi = .int .i64 (i : Int) ∧ i ≤ os.length) (fun vi _ => os.length - m1 vi) ?_ ?_
  · simp (disch := omega) only [dm_t, wS, simprocAttr, IntKind.bits]
    exact ⟨Ext.refl _, 0, rfl, by omega⟩
  rintro _ Ga ⟨ea, a, rfl, ha⟩
  by_cases hal : a < os.length
  rotate_left
  · obtain rfl : a = os.length := by omega
    have k := hk Ga ea
    simp (disch := omega) only [dm_t, wS, simprocAttr, IntKind.bits, k]
  obtain ⟨ba, oa, ca, ia, fa⟩ := L a hal
  obtain ⟨fa1, fa2, fa3, fa4⟩ := fa Ga ea
  have hirr := po.irr _ (List.getElem_mem hal)
  generalize hQ0 : lq1 _ _ _ _ _ _ _ = Q0
  simp (disch := omega) only [dm_t, wS, simprocAttr, IntKind.bits, ia, fa1]
  refine (Ahead_ok fa4 fa4).k ?_
  rintro v Gb ⟨hv, eb⟩
  rw [hirr] at hv
  subst hv
  have eb' := ea.trans eb
  obtain ⟨fb1, fb2, fb3, fb4⟩ := fa Gb eb'
  have next : vc Try.prog c6_s18 (blockQ 5 (seqQ Try.prog [3, 10] c6_s30 Q0)) [(3, .slice qa os.length qc), (10, .int .i64 (a : Int)), (11, .int .i64 0)] Gb := by
    refine loop_b L hn po hal ?_ eb'
    intro G2 e2
    subst hQ0
    simp (disch := omega) only [dm_t, wS, simprocAttr, IntKind.bits]
    exact ⟨⟨e2, a + 1, by simp, by omega⟩, by simp [m1]; omega⟩
  by_cases ha0 : a = 0
  · subst ha0
    have n2 : vc Try.prog c6_s18 (blockQ 5 (seqQ Try.prog [3, 10] c6_s30 Q0)) [(3, .slice qa os.length qc), (10, .int .i64 0), (11, .int .i64 0)] Gb := next
    simp (disch := omega) only [dm_t, wS, simprocAttr, IntKind.bits, fb1, n2]
  · obtain ⟨b, rfl⟩ : ∃ b, a = b + 1 := ⟨a - 1, by omega⟩
    obtain ⟨bb, ob', cb, ib, fb⟩ := L b (by omega)
    obtain ⟨gb1, gb2, gb3, gb4⟩ := fb Gb eb'
    have hup := po.up b _ _ (List.getElem?_eq_getElem (by omega)) (List.getElem?_eq_getElem hal)
    rw [show (b : Int) = ((b + 1 : Nat) : Int) - 1 by omega] at ib
    simp (disch := omega) only [dm_t, wS, simprocAttr, IntKind.bits, fb1, fb3, gb3, ib, ia, next]
end
end Go.Proofs.Ytmolhemoiplpfaa.hi
