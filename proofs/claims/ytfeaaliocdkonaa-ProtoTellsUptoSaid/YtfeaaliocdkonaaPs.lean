/-
  proto: ProtoAsks walked.
-/
import Derived.Test.YtfeaaliocdkonaaPr
namespace Go.Proofs.Ytfeaaliocdkonaa.pr
open Go.Proofs.Ytfeaaliocdkonaa rr wi
set_option linter.unusedVariables false
set_option linter.unusedSimpArgs false
abbrev qT (h : H) : Value → H → Prop := fun v h' => v = .bool true ∧ Ext h h'
def r77 : rc.D := ((77 : Int), ([] : List UInt8), ([] : List UInt8))
theorem RepL.pre {S : Nat → Prop} {t : Ty} {h : H} {a : Option Addr} {n c m : Nat} {xs : List t.D} (r : RepL S t h (.slice a n c) xs) (hm : m ≤ n) : RepL S t h (.slice a m c) (xs.take m) := by
  obtain ⟨rows, h1, h2, h3⟩ := repL_iff.1 r
  refine repL_iff.2 ⟨rows.take m, SlK.pre h1 hm, by rw [List.length_take, List.length_take, h2], ?_⟩
  intro i r x hr hx
  rw [List.getElem?_take] at hr hx
  split at hr
  · rw [if_pos (by assumption)] at hx
    exact h3 i r x hr hx
  · cases hr
theorem lit77 {S : Nat → Prop} {h : H} {b : Nat} {E : TypeId} (hb : ¬ S b) : RepL S rc (hupd h b (.cells #[.int .i64 77, .slice none 0 0, .slice none 0 0] E)) (.slice (some ⟨b, 0, none⟩) 1 1) [r77] := by
  have h1 : OwK 3 (fun y => ¬ S y) (hupd h b (.cells #[.int .i64 77, .slice none 0 0, .slice none 0 0] E)) E (.slice (some ⟨b, 0, none⟩) 1 1) [[.int .i64 77, .slice none 0 0, .slice none 0 0]] :=
    OwK.lit (fun r hr => by simp only [List.mem_singleton] at hr; subst hr; rfl) rfl (by simp) (by omega) (by intro m hm; rw [show flat [[Value.int .i64 77, .slice none 0 0, .slice none 0 0]] = [.int .i64 77, .slice none 0 0, .slice none 0 0] from rfl] at *; match m, hm with
      | 0, _ => rfl
      | 1, _ => rfl
      | 2, _ => rfl) hb (.inl rfl)
  refine repL_iff.2 ⟨_, OwK.sl h1 fun x hx => hx, rfl, ?_⟩
  intro i r x hr hx
  match i with
  | 0 =>
    simp only [List.getElem?_cons_zero, Option.some.injEq] at hr hx
    subst hr hx
    exact rep_rc.2 ⟨_, _, rfl, ⟨by decide, by decide⟩, By.nil, By.nil⟩
  | i + 1 => simp at hr
/-- The copied records, and one more behind them. -/
theorem ow_copy {l : List rc.D} {h g : H} {v : Value} (o : OwQ (WRow 5 fun y => h y = none) (fun y => h y ≠ none) rc (fun y => h y = none) g 32 v l) : OwL (fun y => h y ≠ none) rc (fun y => h y = none) g 32 v l := o.l
theorem short_may {l : List rc.D} (hs : Short l) : ∀ x ∈ l, x.2.1.length ≤ 140737488355328 ∧ x.2.2.length ≤ 140737488355328 := fun x hx => by
  have := hs.2.2 x hx
  omega
/-- What stands when the copy has been made. -/
structure AC (h G : H) (pa pb mb : Nat) (x y : reqT.D) (wa wb : Value) (ma : Option Addr) (mc : Nat) : Prop where
  qa : G pa = some (.cells (qCs x wa).toArray 26)
  qb : G pb = some (.cells (qCs y wb).toArray 26)
  qm : G mb = some (.cells (qCs x (.slice ma x.2.2.2.1.length mc)).toArray 26)
  bx : qB x
  bY : qB y
  ra : RepL nos rc G wa x.2.2.2.1
  rb : RepL nos rc G wb y.2.2.2.1
  rm : RepL nos rc G (.slice ma (x.2.2.2.1.length + 1) mc) (x.2.2.2.1 ++ [r77])
  sx : Short x.2.2.2.1
  E : Ext h G
/-- What Ask answers, both ways. -/
theorem Ask_both {S : Nat → Prop} {h : H} {cs : List Value} {x : reqT.D} (hx : Rep S reqT h cs x) :
    Ok Try.prog 12 #[.agg cs.toArray] h fun v h' => ∃ f l, v = .tuple #[f, .int .i64 (ckQ x)] ∧ OwB (fun y => h y = none) h' 5 f l ∧ ((ckQ x = 0 ∧ l = sealB (bodyQ x)) ∨ (¬ ckQ x = 0 ∧ l = [])) ∧ Ext h h' := by
  by_cases hck : ckQ x = 0
  · exact (Ask_ok hx hck).mono fun v h' ⟨f, h1, h2, h3⟩ => ⟨f, _, by rw [h1, hck], h2, .inl ⟨hck, rfl⟩, h3⟩
  · exact (Ask_no hx hck).mono fun v h' ⟨h1, h3⟩ => ⟨.slice none 0 0, [], by rw [h1], OwK.nil, .inr ⟨hck, rfl⟩, h3⟩
theorem PA_tail {h G : H} {pa pb mb : Nat} {x y : reqT.D} {wa wb : Value} {ma : Option Addr} {mc : Nat} (A : AC h G pa pb mb x y wa wb ma mc) :
    vc Try.prog c3_s3 (retQ [4] (okR (qT h))) [(2, .pointer (some ⟨pa, 0, none⟩)), (3, .pointer (some ⟨pb, 0, none⟩)), (5, .pointer (some ⟨mb, 0, none⟩))] G := by
  obtain ⟨qa, qb, qm, bx, bY, ra, rb, rm, sx, E⟩ := A
  generalize hn : x.2.2.2.1.length = n at qm rm
  have hn2 : n ≤ 1100 := by rw [← hn]; exact sx.1
  have rm0 : RepL nos rc G (.slice ma n mc) x.2.2.2.1 := by
    have h1 := RepL.pre rm (m := n) (by omega)
    have h2 : (x.2.2.2.1 ++ [r77]).take n = x.2.2.2.1 := by rw [← hn, List.take_left]
    rw [h2] at h1
    exact h1
  obtain ⟨_, _, hmc⟩ := RepL.cap rm
  have hmc' : n + 1 ≤ mc := by simpa [hn] using hmc
  have Rm : Rep nos reqT G (qCs x (.slice ma n mc)) x := rep_req.2 ⟨_, rfl, bx, rm0⟩
  have Ra : Rep nos reqT G (qCs x wa) x := rep_req.2 ⟨_, rfl, bx, ra⟩
  have Rb : Rep nos reqT G (qCs y wb) y := rep_req.2 ⟨_, rfl, bY, rb⟩
  have la : ∀ g, Ext G g → cellsAt g ⟨pa, 0, none⟩ 6 = some (qCs x wa).toArray := fun g e => cellsAt_all (e.at qa) 6 rfl
  have lb : ∀ g, Ext G g → cellsAt g ⟨pb, 0, none⟩ 6 = some (qCs y wb).toArray := fun g e => cellsAt_all (e.at qb) 6 rfl
  have lm : ∀ g, Ext G g → cellsAt g ⟨mb, 0, none⟩ 6 = some (qCs x (.slice ma n mc)).toArray := fun g e => cellsAt_all (e.at qm) 6 rfl
  obtain ⟨sa, sc, rfl⟩ := ra.len
  have ca : ∀ g, Ext G g → cellAt g ⟨pa, 3, none⟩ = some (.slice sa n sc) := fun g e => by rw [cellAt_of (e.at qa), ← hn]; rfl
  have cm : ∀ g, Ext G g → cellAt g ⟨mb, 3, none⟩ = some (.slice ma n mc) := fun g e => by rw [cellAt_of (e.at qm)]; rfl
  have e0 := Ext.refl G
  simp (disch := omega) only [dm_t, wS, simprocAttr, IntKind.bits, lm _ e0]
  refine (Ask_both Rm).k ?_
  rintro _ g1 ⟨f, fl, rfl, o1, hfl, e1⟩
  simp (disch := omega) only [dm_t, wS, simprocAttr, IntKind.bits, la _ e1]
  refine (DCkQ_ok (Ra.ext e1)).k ?_
  rintro _ g2 ⟨rfl, e2⟩
  have E2 := e1.trans e2
  have hcode : ∃ c, c = ckQ x := ⟨_, rfl⟩
  simp (disch := omega) only [dm_t, wS, simprocAttr, IntKind.bits, lm _ E2]
  refine (CkQ_ok (Rm.ext E2)).k ?_
  rintro _ g3 ⟨rfl, e3⟩
  have E3 := E2.trans e3
  generalize hcd : ckQ x = code at hfl ⊢
  simp (disch := omega) only [dm_t, wS, simprocAttr, IntKind.bits, lm _ E3]
  refine (num_ok _ _).k ?_
  rintro _ _ ⟨rfl, rfl⟩
  simp (disch := omega) only [dm_t, wS, simprocAttr, IntKind.bits, lm _ E3]
  refine (num_ok _ _).k ?_
  rintro _ _ ⟨rfl, rfl⟩
  simp (disch := omega) only [dm_t, wS, simprocAttr, IntKind.bits, lm _ E3, la _ E3, lb _ E3]
  refine (SQ_ok (Rm.ext E3) (Rb.ext E3) (by rw [hn]; omega)).k ?_
  rintro _ g4 ⟨rfl, e4⟩
  have E4 := E3.trans e4
  simp (disch := omega) only [dm_t, wS, simprocAttr, IntKind.bits, lm _ E4, la _ E4, lb _ E4]
  refine (DSQ_ok (Ra.ext E4) (Rb.ext E4) (by rw [hn]; omega)).k ?_
  rintro _ g5 ⟨rfl, e5⟩
  have E5 := E4.trans e5
  have hx1 : ((x.2.2.2.1 ++ [r77])[n]'(by simp [hn])).1 = 77 := by
    have : (x.2.2.2.1 ++ [r77])[n]'(by simp [hn]) = r77 := by simp [← hn]
    rw [this]; rfl
  have cf : ∀ g, Ext g1 g → By nos g f fl := fun g e => (o1.ext e).s0
  have fin : ∀ g, Ext g1 g → vc Try.prog c3_s6 (retQ [4] (okR (qT h))) [(2, .pointer (some ⟨pa, 0, none⟩)), (6, f), (8, .int .i64 code)] g := by
    intro g eg
    have Eg := e1.trans eg
    obtain ⟨fa, fc, rfl⟩ := (cf g eg).len
    by_cases hc0 : code = 0
    · obtain ⟨_, rfl⟩ : code = 0 ∧ fl = sealB (bodyQ x) := hfl.elim id fun hh => absurd hc0 hh.1
      rw [hc0] at hcd
      simp (disch := omega) only [dm_t, wS, simprocAttr, IntKind.bits, la _ Eg]
      refine ⟨?_, ?_⟩
      · refine cvbs_of (cf g eg) ?_
        simp (disch := omega) only [dm_t, wS, simprocAttr, IntKind.bits, la _ Eg]
        refine (DAsk_ok (Ra.ext Eg) hcd).k ?_
        rintro w2 g2' ⟨o2, e2'⟩
        simp (disch := omega) only [dm_t, wS, simprocAttr, IntKind.bits, la _ (Eg.trans e2')]
        refine cvbs_of o2.s0 ?_
        simp (disch := omega) only [dm_t, wS, simprocAttr, IntKind.bits, la _ (Eg.trans e2')]
        refine works_k fun g3' e3' => ?_
        simp (disch := omega) only [dm_t, wS, simprocAttr, IntKind.bits]
        exact ⟨rfl, (E.trans (Eg.trans e2')).trans e3'⟩
      · refine (DAsk_ok (Ra.ext Eg) hcd).k ?_
        rintro w2 g2' ⟨o2, e2'⟩
        simp (disch := omega) only [dm_t, wS, simprocAttr, IntKind.bits, la _ (Eg.trans e2')]
        refine ⟨?_, ?_⟩
        · refine cvbs_of (cf _ (eg.trans e2')) ?_
          simp (disch := omega) only [dm_t, wS, simprocAttr, IntKind.bits, la _ (Eg.trans e2')]
          refine cvbs_of o2.s0 ?_
          simp (disch := omega) only [dm_t, wS, simprocAttr, IntKind.bits, la _ (Eg.trans e2')]
          refine works_k fun g3' e3' => ?_
          simp (disch := omega) only [dm_t, wS, simprocAttr, IntKind.bits]
          exact ⟨rfl, (E.trans (Eg.trans e2')).trans e3'⟩
        · refine cvbs_of o2.s0 ?_
          simp (disch := omega) only [dm_t, wS, simprocAttr, IntKind.bits, la _ (Eg.trans e2')]
          refine cvbs_of (cf _ (eg.trans e2')) ?_
          simp (disch := omega) only [dm_t, wS, simprocAttr, IntKind.bits, la _ (Eg.trans e2')]
          refine works_k fun g3' e3' => ?_
          simp (disch := omega) only [dm_t, wS, simprocAttr, IntKind.bits]
          exact ⟨rfl, (E.trans (Eg.trans e2')).trans e3'⟩
    · obtain ⟨_, rfl⟩ : ¬ code = 0 ∧ fl = [] := hfl.elim (fun hh => absurd hh.1 hc0) id
      simp (disch := omega) only [dm_t, wS, simprocAttr, IntKind.bits, List.length_nil]
      refine works_k fun g3' e3' => ?_
      simp (disch := omega) only [dm_t, wS, simprocAttr, IntKind.bits]
      exact ⟨rfl, (E.trans Eg).trans e3'⟩
  cases hs : sameQ x y <;>
  ( simp (disch := omega) only [dm_t, wS, simprocAttr, IntKind.bits, lm _ E5, la _ E5, lb _ E5]
    refine (SQ_ok (Rm.ext E5) (Ra.ext E5) (by rw [hn]; omega)).k ?_
    rintro _ g6 ⟨rfl, e6⟩
    rw [sameQ_self]
    have E6 := E5.trans e6
    simp (disch := omega) only [dm_t, wS, simprocAttr, IntKind.bits, lm _ E6, la _ E6, lb _ E6]
    refine (DSQ_ok (Rm.ext E6) (Ra.ext E6) (by rw [hn]; omega)).k ?_
    rintro _ g7 ⟨rfl, e7⟩
    rw [sameQ_self]
    have E7 := E6.trans e7
    obtain ⟨pb', po, k', v', i1, t1, _⟩ := rec_at (rm.ext E7) (i := n) (by simp [hn])
    rw [hx1] at t1
    simp (disch := omega) only [dm_t, wS, simprocAttr, IntKind.bits, lm _ E7, la _ E7, lb _ E7, cm _ E7, ca _ E7]
    refine slc_pre (n + 1) (by simp) rfl (by omega) ?_
    have t := fin g7 ((((e2.trans e3).trans e4).trans e5).trans (e6.trans e7))
    revert t
    simp (disch := omega) only [dm_t, wS, simprocAttr, IntKind.bits, lm _ E7, la _ E7, lb _ E7, cm _ E7, ca _ E7, i1, t1]
    exact id)
end Go.Proofs.Ytfeaaliocdkonaa.pr
