/-
  proto: ProtoTells walked.
-/
import Derived.Test.YtfeaaliocdkonaaPs
import Derived.Test.YtfeaaliocdkonaaPw
namespace Go.Proofs.Ytfeaaliocdkonaa.pr
open Go.Proofs.Ytfeaaliocdkonaa rr wi
set_option linter.unusedVariables false
set_option linter.unusedSimpArgs false
theorem app77 {n : Nat} {l : List rc.D} (hn : l.length = n) : ((l ++ [r77])[n]'(by simp [hn])).1 = 77 := by
  have : (l ++ [r77])[n]'(by simp [hn]) = r77 := by simp [← hn]
  rw [this]; rfl
/-- What stands when the copies have been made. -/
structure BC (h G : H) (pa pb mb : Nat) (x y : ansT.D) (wa ka wb kb : Value) (ma na : Option Addr) (mc nc : Nat) : Prop where
  qa : G pa = some (.cells (aCs x wa ka).toArray 73)
  qb : G pb = some (.cells (aCs y wb kb).toArray 73)
  qm : G mb = some (.cells (aCs x (.slice ma x.2.2.2.2.1.length mc) (.slice na x.2.2.2.2.2.length nc)).toArray 73)
  bx : aB x
  bY : aB y
  ra : RepL nos rc G wa x.2.2.2.2.1
  rb : RepL nos rc G wb y.2.2.2.2.1
  rm : RepL nos rc G (.slice ma (x.2.2.2.2.1.length + 1) mc) (x.2.2.2.2.1 ++ [r77])
  sa : RepL nos (.int .i64) G ka x.2.2.2.2.2
  sb : RepL nos (.int .i64) G kb y.2.2.2.2.2
  sm : RepL nos (.int .i64) G (.slice na (x.2.2.2.2.2.length + 1) nc) (x.2.2.2.2.2 ++ [(77 : Int)])
  sx : Short x.2.2.2.2.1
  lx : x.2.2.2.2.2.length ≤ 40
  E : Ext h G
theorem PT_tail {h G : H} {pa pb mb : Nat} {x y : ansT.D} {wa ka wb kb : Value} {ma na : Option Addr} {mc nc : Nat} (A : BC h G pa pb mb x y wa ka wb kb ma na mc nc) :
    vc Try.prog c7_s4 (retQ [4] (okR (qT h))) [(2, .pointer (some ⟨pa, 0, none⟩)), (3, .pointer (some ⟨pb, 0, none⟩)), (5, .pointer (some ⟨mb, 0, none⟩))] G := by
  obtain ⟨qa, qb, qm, bx, bY, ra, rb, rm, sa, sb, sm, sx, lx, E⟩ := A
  generalize hn : x.2.2.2.2.1.length = n at qm rm
  generalize hk : x.2.2.2.2.2.length = k at qm sm lx
  have hn2 : n ≤ 1100 := by rw [← hn]; exact sx.1
  have rm0 : RepL nos rc G (.slice ma n mc) x.2.2.2.2.1 := by
    have h1 := RepL.pre rm (m := n) (by omega)
    have h2 : (x.2.2.2.2.1 ++ [r77]).take n = x.2.2.2.2.1 := by rw [← hn, List.take_left]
    rw [h2] at h1
    exact h1
  have sm0 : RepL nos (.int .i64) G (.slice na k nc) x.2.2.2.2.2 := by
    have h1 := RepL.pre sm (m := k) (by omega)
    have h2 : (x.2.2.2.2.2 ++ [(77 : Int)]).take k = x.2.2.2.2.2 := by rw [← hk, List.take_left]
    rw [h2] at h1
    exact h1
  obtain ⟨_, _, hmc⟩ := RepL.cap rm
  have hmc' : n + 1 ≤ mc := by simpa [hn] using hmc
  obtain ⟨_, _, hnc⟩ := RepL.cap sm
  have hnc' : k + 1 ≤ nc := by simpa [hk] using hnc
  have Rm : Rep nos ansT G (aCs x (.slice ma n mc) (.slice na k nc)) x := rep_ans.2 ⟨_, _, rfl, bx, rm0, sm0⟩
  have Ra : Rep nos ansT G (aCs x wa ka) x := rep_ans.2 ⟨_, _, rfl, bx, ra, sa⟩
  have Rb : Rep nos ansT G (aCs y wb kb) y := rep_ans.2 ⟨_, _, rfl, bY, rb, sb⟩
  have la : ∀ g, Ext G g → cellsAt g ⟨pa, 0, none⟩ 6 = some (aCs x wa ka).toArray := fun g e => cellsAt_all (e.at qa) 6 rfl
  have lb : ∀ g, Ext G g → cellsAt g ⟨pb, 0, none⟩ 6 = some (aCs y wb kb).toArray := fun g e => cellsAt_all (e.at qb) 6 rfl
  have lm : ∀ g, Ext G g → cellsAt g ⟨mb, 0, none⟩ 6 = some (aCs x (.slice ma n mc) (.slice na k nc)).toArray := fun g e => cellsAt_all (e.at qm) 6 rfl
  obtain ⟨va, vz, rfl⟩ := ra.len
  obtain ⟨ua, uc, rfl⟩ := sa.len
  have ca : ∀ g, Ext G g → cellAt g ⟨pa, 4, none⟩ = some (.slice va n vz) := fun g e => by rw [cellAt_of (e.at qa), ← hn]; rfl
  have ca5 : ∀ g, Ext G g → cellAt g ⟨pa, 5, none⟩ = some (.slice ua k uc) := fun g e => by rw [cellAt_of (e.at qa), ← hk]; rfl
  have cm : ∀ g, Ext G g → cellAt g ⟨mb, 4, none⟩ = some (.slice ma n mc) := fun g e => by rw [cellAt_of (e.at qm)]; rfl
  have cm5 : ∀ g, Ext G g → cellAt g ⟨mb, 5, none⟩ = some (.slice na k nc) := fun g e => by rw [cellAt_of (e.at qm)]; rfl
  have e0 := Ext.refl G
  simp (disch := omega) only [dm_t, wS, simprocAttr, IntKind.bits, lm _ e0]
  refine (Tell_both Rm (by rw [hk]; omega)).k ?_
  rintro _ g1 ⟨f, fl, rfl, o1, hfl, e1⟩
  simp (disch := omega) only [dm_t, wS, simprocAttr, IntKind.bits, la _ e1]
  refine (DCkA_ok (Ra.ext e1)).k ?_
  rintro _ g2 ⟨rfl, e2⟩
  have E2 := e1.trans e2
  simp (disch := omega) only [dm_t, wS, simprocAttr, IntKind.bits, lm _ E2]
  refine (CkA_ok (Rm.ext E2) (by rw [hk]; omega)).k ?_
  rintro _ g3 ⟨rfl, e3⟩
  have E3 := E2.trans e3
  generalize hcd : ckA x = code at hfl ⊢
  simp (disch := omega) only [dm_t, wS, simprocAttr, IntKind.bits, lm _ E3]
  refine (num_ok _ _).k ?_
  rintro _ _ ⟨rfl, rfl⟩
  simp (disch := omega) only [dm_t, wS, simprocAttr, IntKind.bits, lm _ E3]
  refine (num_ok _ _).k ?_
  rintro _ _ ⟨rfl, rfl⟩
  simp (disch := omega) only [dm_t, wS, simprocAttr, IntKind.bits, lm _ E3, la _ E3, lb _ E3]
  refine (SA_ok (Rm.ext E3) (Rb.ext E3) (by rw [hn]; omega) (by rw [hk]; omega)).k ?_
  rintro _ g4 ⟨rfl, e4⟩
  have E4 := E3.trans e4
  simp (disch := omega) only [dm_t, wS, simprocAttr, IntKind.bits, lm _ E4, la _ E4, lb _ E4]
  refine (DSA_ok (Ra.ext E4) (Rb.ext E4) (by rw [hn]; omega) (by rw [hk]; omega)).k ?_
  rintro _ g5 ⟨rfl, e5⟩
  have E5 := E4.trans e5
  have hx1 := app77 (l := x.2.2.2.2.1) hn
  have hx2 : (x.2.2.2.2.2 ++ [(77 : Int)])[k]'(by simp [hk]) = 77 := by simp [← hk]
  have cf : ∀ g, Ext g1 g → By nos g f fl := fun g e => (o1.ext e).s0
  have fin : ∀ g, Ext g1 g → vc Try.prog c7_s7 (retQ [4] (okR (qT h))) [(2, .pointer (some ⟨pa, 0, none⟩)), (6, f), (8, .int .i64 code)] g := by
    intro g eg
    have Eg := e1.trans eg
    obtain ⟨fa, fc, rfl⟩ := (cf g eg).len
    by_cases hc0 : code = 0
    · obtain ⟨_, rfl⟩ : code = 0 ∧ fl = sealB (bodyA x) := hfl.elim id fun hh => absurd hc0 hh.1
      rw [hc0] at hcd
      simp (disch := omega) only [dm_t, wS, simprocAttr, IntKind.bits, la _ Eg]
      refine ⟨?_, ?_⟩
      · refine cvbs_of (cf g eg) ?_
        simp (disch := omega) only [dm_t, wS, simprocAttr, IntKind.bits, la _ Eg]
        refine (DTell_ok (Ra.ext Eg) hcd).k ?_
        rintro w2 g2' ⟨o2, e2'⟩
        simp (disch := omega) only [dm_t, wS, simprocAttr, IntKind.bits, la _ (Eg.trans e2')]
        refine cvbs_of o2.s0 ?_
        simp (disch := omega) only [dm_t, wS, simprocAttr, IntKind.bits, la _ (Eg.trans e2')]
        refine works_k fun g3' e3' => ?_
        simp (disch := omega) only [dm_t, wS, simprocAttr, IntKind.bits]
        exact ⟨rfl, (E.trans (Eg.trans e2')).trans e3'⟩
      · refine (DTell_ok (Ra.ext Eg) hcd).k ?_
        rintro w2 g2' ⟨o2, e2'⟩
        simp (disch := omega) only [dm_t, wS, simprocAttr, IntKind.bits, la _ (Eg.trans e2')]
        refine ⟨?_, ?_⟩
        · refine cvbs_of (cf _ (eg.trans e2')) ?_
          simp (disch := omega) only [dm_t, wS, simprocAttr, IntKind.bits, la _ (Eg.trans e2')]
          refine cvbs_of o2.s0 ?_
          simp (disch := omega) only [dm_t, wS, simprocAttr, IntKind.bits, la _ (Eg.trans e2')]
          refine works_k fun g3' e3' => ?_
          simp (disch := omega) only [dm_t, wS, simprocAttr, IntKind.bits]
          exact ⟨rfl, (E.trans (Eg.trans e2')).trans e3'⟩
        · refine cvbs_of o2.s0 ?_
          simp (disch := omega) only [dm_t, wS, simprocAttr, IntKind.bits, la _ (Eg.trans e2')]
          refine cvbs_of (cf _ (eg.trans e2')) ?_
          simp (disch := omega) only [dm_t, wS, simprocAttr, IntKind.bits, la _ (Eg.trans e2')]
          refine works_k fun g3' e3' => ?_
          simp (disch := omega) only [dm_t, wS, simprocAttr, IntKind.bits]
          exact ⟨rfl, (E.trans (Eg.trans e2')).trans e3'⟩
    · obtain ⟨_, rfl⟩ : ¬ code = 0 ∧ fl = [] := hfl.elim (fun hh => absurd hh.1 hc0) id
      simp (disch := omega) only [dm_t, wS, simprocAttr, IntKind.bits, List.length_nil]
      refine works_k fun g3' e3' => ?_
      simp (disch := omega) only [dm_t, wS, simprocAttr, IntKind.bits]
      exact ⟨rfl, (E.trans Eg).trans e3'⟩
  cases hs : sameA x y <;>
  ( simp (disch := omega) only [dm_t, wS, simprocAttr, IntKind.bits, lm _ E5, la _ E5, lb _ E5]
    refine (SA_ok (Rm.ext E5) (Ra.ext E5) (by rw [hn]; omega) (by rw [hk]; omega)).k ?_
    rintro _ g6 ⟨rfl, e6⟩
    rw [sameA_self]
    have E6 := E5.trans e6
    simp (disch := omega) only [dm_t, wS, simprocAttr, IntKind.bits, lm _ E6, la _ E6, lb _ E6]
    refine (DSA_ok (Rm.ext E6) (Ra.ext E6) (by rw [hn]; omega) (by rw [hk]; omega)).k ?_
    rintro _ g7 ⟨rfl, e7⟩
    rw [sameA_self]
    have E7 := E6.trans e7
    obtain ⟨pb', po, k', v', i1, t1, _⟩ := rec_at (rm.ext E7) (i := n) (by simp [hn])
    rw [hx1] at t1
    obtain ⟨pb2, po2, i2, t2⟩ := S1.load (repI (sm.ext E7)).1 (i := k) (by simp [hk]) .i64
    rw [List.getElem_map, hx2] at t2
    simp (disch := omega) only [dm_t, wS, simprocAttr, IntKind.bits, lm _ E7, la _ E7, lb _ E7, cm _ E7, ca _ E7]
    refine slc_pre (n + 1) (by simp) rfl (by omega) ?_
    simp (disch := omega) only [dm_t, wS, simprocAttr, IntKind.bits, lm _ E7, la _ E7, lb _ E7, cm _ E7, ca _ E7, cm5 _ E7, ca5 _ E7, i1, t1]
    refine slc_pre (k + 1) (by simp) rfl (by omega) ?_
    have t := fin g7 ((((e2.trans e3).trans e4).trans e5).trans (e6.trans e7))
    revert t
    simp (disch := omega) only [dm_t, wS, simprocAttr, IntKind.bits, lm _ E7, la _ E7, lb _ E7, cm _ E7, ca _ E7, cm5 _ E7, ca5 _ E7, i1, t1, i2, t2]
    exact id)
end Go.Proofs.Ytfeaaliocdkonaa.pr
