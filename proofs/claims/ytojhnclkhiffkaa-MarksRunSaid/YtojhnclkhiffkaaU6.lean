/-
  The invariant, the trace: kept by an own step, by a step at the shared cell, by bookkeeping at the group's cells, by a go statement.
-/
import Derived.Test.YtojhnclkhiffkaaU5
namespace Go.Proofs.Ytojhnclkhiffkaa
open Go.Conc Go.RowKit
open Go.ConcN (upd upd_same upd_ne RelBy RelBy.appOther Deaf_still norel_of Deaf_absent)
open Go.ConcR (rd wr mk stA smA WgAt wgBlock KK g_of_ofEvents ofEvent_cell)
set_option linter.unusedVariables false

def ShS (M Wg : Nat) (l : Loc) : Prop := InB M l ∨ InB Wg l
section
variable (pr : Pro)
structure TI (j M Wg : Nat) (γ : List Value) (Hs : Nat → H) (st dfs : Nat → Nat) (t : Trace) (n : Nat) : Prop where
  T : TrI t n j
  p : ∀ k, k ≤ j → (k = 0 ∨ st k = 8) → TP t k (Hs k)
  sk : ∀ k, k ≤ j → ShK (ShS M Wg) t k
  sd : ShSaid (ShS M Wg) t
  pt : PubT (fun b => pr.pub γ b ≠ none) t ⟨M, 0, none⟩
  norel : NoRelease (stA Wg) t
  df : ∀ k, k ≤ j → Deaf t k = dfs k
  rel : ∀ k, 1 ≤ k → k ≤ j → st k ≤ 6 → ∃ r, Rel Wg t k r
end
section
variable {pr : Pro} {j M Wg : Nat} {e0 : Value} {γ : List Value} {ph V : Nat} {ds : List Value} {N0 : Nat} {W0 : World} {Hs : Nat → H} {w w' : World} {st dfs : Nat → Nat} {t : Trace} {n : Nat}
theorem note_noL {h : H} {b : Nat} (hb : h b = none ∨ ∃ E n t s L, h b = some (noteO E n t s L) ∧ 1 ≤ t) {l : Loc} (hl : InB b l) : ¬ OwnL h l ∧ ¬ RdL h l := by
  obtain ⟨a, rfl, rfl⟩ := hl
  rcases hb with hb | ⟨E, n, t, s, L, hb, ht⟩
  · refine ⟨?_, ?_⟩
    · rintro (⟨c, E, fr, h1, _⟩ | ⟨_, v, n, E, h1⟩ | ⟨_, s, n, E, L, h1, _⟩) <;> rw [hb] at h1 <;> cases h1
    · rintro ⟨c, E, fr, h1, _⟩; rw [hb] at h1; cases h1
  · refine ⟨?_, ?_⟩
    · rintro (⟨c, E, fr, h1, _⟩ | ⟨_, v, n, E, h1⟩ | ⟨_, s, n, E, L, h1, _⟩) <;> rw [hb] at h1
      · cases h1
      · cases h1
      · have := congrArg noteOf (Option.some.inj h1)
        simp only [noteOf_noteO, Option.some.injEq, Prod.mk.injEq] at this
        omega
    · rintro ⟨c, E, fr, h1, _⟩; rw [hb] at h1; cases h1
theorem HI.noS (I : HI pr j M Wg e0 γ ph V ds N0 W0 Hs w) {k : Nat} (hk : k ≤ j) {l : Loc} (hl : ShS M Wg l) : ¬ OwnL (Hs k) l ∧ ¬ RdL (Hs k) l := by
  rcases hl with hl | hl
  · exact note_noL (I.atM hk) hl
  · exact note_noL (I.atW hk) hl
theorem HI.noP (I : HI pr j M Wg e0 γ ph V ds N0 W0 Hs w) {k : Nat} (hk : k ≤ j) {ad : Addr} (ho : OwnL (Hs k) (.cell ad)) : ad ≠ ⟨M, 0, none⟩ ∧ ¬ pr.pub γ ad.block ≠ none := by
  refine ⟨?_, fun hp => ?_⟩
  · rintro rfl; exact (I.noS hk (.inl ⟨_, rfl, rfl⟩)).1 ho
  · cases hx : pr.pub γ ad.block with
    | none => exact hp hx
    | some x =>
      obtain ⟨c, E⟩ := x
      have p4 := (I.pub _ c E hx).2.2.2 k hk
      rcases ho with ⟨c', E', fr, h1, h2⟩ | ⟨_, v, n, E', h1⟩ | ⟨_, s, n, E', L, h1, _⟩
      · obtain ⟨fr', e, hr⟩ := p4 _ h1
        simp only [Obj.cells.injEq] at e
        obtain ⟨rfl, rfl, rfl⟩ := e
        exact h2 hr
      · obtain ⟨fr', e, hr⟩ := p4 _ h1; cases e
      · obtain ⟨fr', e, hr⟩ := p4 _ h1; cases e
theorem wi_norel {k : Nat} {h : H} {es : Array Event} (he : ∀ e ∈ es, EvO h e) (Wg : Nat) : ∀ e ∈ es, e.loc ≠ .mark (.release (stA Wg)) := fun e hm => (he e hm).mark.2.2 _
theorem still_of {k : Nat} {fn : FuncId} {pos : String} {es : Array Event} (he : ∀ e ∈ es, e.loc ≠ .mark .disable ∧ e.loc ≠ .mark .enable) : ∀ op ∈ MemOp.ofEvents k fn pos es, op.act ≠ .mark .disable ∧ op.act ≠ .mark .enable := by
  intro op hop
  rw [ofEvents_eq] at hop
  obtain ⟨e, hm, rfl⟩ := Array.mem_map.1 hop
  exact ⟨fun h => (he e hm).1 (Go.ConcR.loc_of_ofEvent h), fun h => (he e hm).2 (Go.ConcR.loc_of_ofEvent h)⟩

/-- AN OWN STEP OF PARTY k. -/
theorem TI.own (X : TI pr j M Wg γ Hs st dfs t w.heap.size) (I : HI pr j M Wg e0 γ ph V ds N0 W0 Hs w) {k : Nat} (hk : k ≤ j) (live : k = 0 ∨ st k = 8) {h1 : H} {es : Array Event} (f : Fra (Hs k) w h1 w' es) (fn : FuncId) (pos : String) :
    TI pr j M Wg γ (upd Hs k h1) st dfs (t ++ MemOp.ofEvents k fn pos es) w'.heap.size := by
  have I' := I.own hk f
  have hu : ∀ op ∈ MemOp.ofEvents k fn pos es, WiOp k h1 op := wi_of f.ev fn pos
  have e1 : upd Hs k h1 k = h1 := upd_same _ _ _
  have noS : ∀ l, ShS M Wg l → ¬ OwnL h1 l ∧ ¬ RdL h1 l := fun l hl => by have := I'.noS hk hl; rwa [e1] at this
  have hf : TP t k h1 := (X.p k hk live).fra X.T f
  refine ⟨X.T.own hf (fun l hl => hl.elim (fun h => h.lt f.hol) (fun h => h.lt f.hol)) f.size hk hu, fun k' hk' lv => ?_, fun k' hk' => (X.sk k' hk').own noS hu, X.sd.own noS hu, ?_, X.norel.app (norel_of (wi_norel (k := k) f.ev Wg)), fun k' hk' => ?_, fun k' h1' hk' hs => ?_⟩
  · by_cases e : k' = k
    · subst e; rw [upd_same]; exact hf.app fun op hop => (hu op hop).1
    · rw [upd_ne _ _ e]
      refine (X.p k' hk' lv).other ?_ hu
      have := I'.ap k k' hk hk' (Ne.symm e)
      rwa [e1, upd_ne _ _ e] at this
  · refine X.pt.app fun op hop x hx hw ad hl => ?_
    rcases (hu op hop).2 x hx with ho | ⟨_, hw'⟩
    · rw [hl] at ho
      have := I'.noP hk (ad := ad) (by rw [e1]; exact ho)
      exact this
    · rw [hw'] at hw; cases hw
  · rw [Deaf_still t k' _ (still_of fun e he => ⟨(f.ev e he).mark.1, (f.ev e he).mark.2.1⟩), X.df k' hk']
  · by_cases e : k' = k
    · subst e
      rcases live with h | h <;> omega
    · obtain ⟨r, R⟩ := X.rel k' h1' hk' hs
      exact ⟨r, R.app (R.rel.appOther g_of_ofEvents (Ne.symm e)) fun op hop hg => absurd ((g_of_ofEvents op hop).symm.trans hg) (Ne.symm e)⟩

/-- BOOKKEEPING OF PARTY k, at the group's cells. -/
theorem TI.book (X : TI pr j M Wg γ Hs st dfs t w.heap.size) (I : HI pr j M Wg e0 γ ph V ds N0 W0 Hs w) {k : Nat} (hk : k ≤ j) {u : Trace} (hu : ∀ op ∈ u, ShOp (InB Wg) k op) {st' dfs' : Nat → Nat}
    (hst : ∀ k', k' ≠ k → st' k' = st k') (hst8 : k = 0 ∨ (st' k = 8 → st k = 8)) (hd : Deaf (t ++ u) k = dfs' k) (hds : ∀ k', k' ≠ k → dfs' k' = dfs k') (hnr : ∀ op ∈ u, op.act ≠ .mark (.release (stA Wg))) (hrel : 1 ≤ k → st' k ≤ 6 → ∃ r, Rel Wg (t ++ u) k r) :
    TI pr j M Wg γ Hs st' dfs' (t ++ u) w.heap.size := by
  have hu' : ∀ op ∈ u, ShOp (ShS M Wg) k op := fun op hop => ⟨(hu op hop).1, fun x hx => let ⟨a, b⟩ := (hu op hop).2 x hx; ⟨.inr a, b⟩⟩
  have hlt : ∀ l, ShS M Wg l → LocLt w.heap.size l := by
    rintro l (⟨a, rfl, rfl⟩ | ⟨a, rfl, rfl⟩)
    · exact (I.hol 0 (by omega)).lt I.hM
    · exact (I.hol 0 (by omega)).lt I.hW
  refine ⟨X.T.sh (X.sk k hk) X.sd hlt hk hu', fun k' hk' lv => ?_, fun k' hk' => (X.sk k' hk').sh hu', X.sd.sh hu', ?_, X.norel.app hnr, fun k' hk' => ?_, fun k' h1 hk' hs => ?_⟩
  · refine (X.p k' hk' ?_).sh (fun l hl => I.noS hk' hl) hu'
    by_cases e : k' = k
    · subst e
      rcases hst8 with h | h
      · exact .inl h
      · exact lv.imp id h
    · rwa [hst k' e] at lv
  · refine X.pt.app fun op hop x hx hw ad hl => ?_
    obtain ⟨⟨a, ha, hb⟩, _⟩ := (hu op hop).2 x hx
    rw [hl] at ha
    cases ha
    refine ⟨fun e => I.ne (by rw [← hb, e]), fun hp => ?_⟩
    cases hx' : pr.pub γ ad.block with
    | none => exact hp hx'
    | some y => exact (I.pub _ y.1 y.2 hx').2.1 hb
  · by_cases e : k' = k
    · subst e; exact hd
    · rw [Deaf_other t (Ne.symm e) _ (fun op hop => (hu op hop).1), X.df k' hk', hds k' e]
  · by_cases e : k' = k
    · subst e; exact hrel h1 hs
    · rw [hst k' e] at hs
      obtain ⟨r, R⟩ := X.rel k' h1 hk' hs
      exact ⟨r, R.app (R.rel.appOther (fun op hop => (hu op hop).1) (Ne.symm e)) fun op hop hg => absurd ((hu op hop).1.symm.trans hg) (Ne.symm e)⟩
/-- What is held turns without a step. -/
theorem TI.sub (X : TI pr j M Wg γ Hs st dfs t n) {Hs' : Nat → H} (hs : ∀ k, k ≤ j → (∀ l, OwnL (Hs' k) l → OwnL (Hs k) l) ∧ ∀ l, RdL (Hs' k) l → RdL (Hs k) l ∨ OwnL (Hs k) l) {st' dfs' : Nat → Nat} (hst : ∀ k, k ≤ j → st' k = 8 → st k = 8) (hdf : ∀ k, k ≤ j → dfs' k = dfs k) (h6 : ∀ k, 1 ≤ k → k ≤ j → st' k ≤ 6 → st k ≤ 6) : TI pr j M Wg γ Hs' st' dfs' t n :=
  ⟨X.T, fun k hk lv => (X.p k hk (lv.imp id (hst k hk))).sub (hs k hk).1 (hs k hk).2, X.sk, X.sd, X.pt, X.norel, fun k hk => (X.df k hk).trans (hdf k hk).symm, fun k h1 hk h => X.rel k h1 hk (h6 k h1 hk h)⟩

/-- A STEP OF A WORKER AT THE SHARED CELL. -/
theorem TI.sh (X : TI pr j M Wg γ Hs st dfs t w.heap.size) (I : HI pr j M Wg e0 γ ph V ds N0 W0 Hs w) {k : Nat} (k1 : 1 ≤ k) (hk : k ≤ j) (live : st k = 8) (hd0 : dfs k = 0) {h' : H} {γ' : List Value} {es : Array Event} (u : pr.Upd M k γ γ' w w' es) (T : pr.Turn M k γ γ' (Hs k) h') (fn : FuncId) (pos : String) :
    TI pr j M Wg γ' (upd Hs k h') st dfs (t ++ MemOp.ofEvents k fn pos es) w'.heap.size := by
  have I' := I.sh k1 hk u T
  obtain ⟨_, _, _, hsz, _, _⟩ := upd_world (E := pr.E) I.at_.1 u
  rw [hsz]
  have hm : Addr := ⟨M, 0, none⟩
  let x : MemOp := { g := k, fn, pos, act := .access ⟨.cell ⟨M, 0, none⟩, false, true⟩ }
  let y : MemOp := { g := k, fn, pos, act := .access ⟨.cell ⟨M, 0, none⟩, true, true⟩ }
  have ops : (γ' = γ ∧ MemOp.ofEvents k fn pos es = #[x]) ∨ MemOp.ofEvents k fn pos es = #[x, y] := by
    rcases u with ⟨h1, _, rfl⟩ | ⟨v, _, _, _, _, rfl⟩
    · left; refine ⟨h1, ?_⟩; rw [ofEvents_eq]; simp [rd, ofEvent_cell, x]
    · right; rw [ofEvents_eq]; simp [rd, wr, ofEvent_cell, x, y]
  have hop : ∀ op ∈ MemOp.ofEvents k fn pos es, op = x ∨ op = y := by
    intro op h
    rcases ops with ⟨_, e⟩ | e <;> rw [e] at h <;> simp at h
    · exact .inl h
    · exact h
  have hu' : ∀ op ∈ MemOp.ofEvents k fn pos es, ShOp (ShS M Wg) k op := by
    intro op h
    rcases hop op h with rfl | rfl
    · refine ⟨rfl, fun z hz => ?_⟩
      simp only [x, MemAct.touch?, Option.some.injEq] at hz
      subst hz
      exact ⟨.inl ⟨_, rfl, rfl⟩, by simp, by simp⟩
    · refine ⟨rfl, fun z hz => ?_⟩
      simp only [y, MemAct.touch?, Option.some.injEq] at hz
      subst hz
      exact ⟨.inl ⟨_, rfl, rfl⟩, by simp, by simp⟩
  have hlt : ∀ l, ShS M Wg l → LocLt w.heap.size l := by
    rintro l (⟨a, rfl, rfl⟩ | ⟨a, rfl, rfl⟩)
    · exact (I.hol 0 (by omega)).lt I.hM
    · exact (I.hol 0 (by omega)).lt I.hW
  have hd : Deaf t k = 0 := (X.df k hk).trans hd0
  have P0 : TP (t ++ MemOp.ofEvents k fn pos es) k (Hs k) := (X.p k hk (.inr live)).app fun op h => (hu' op h).1
  -- the load knows all that was written to what is published
  have knows : ∀ i a ad, touchAt t i = some a → a.loc = .cell ad → pr.pub γ ad.block ≠ none → a.write = true → HappensBefore (t ++ #[x]) i t.size := by
    intro i a ad ha hl hb hw
    obtain ⟨p, h1, h2, h3⟩ := X.pt i a ad ha hl hb hw
    exact (h3.app #[x]).hb (notices (y := x) h1 h2 hd rfl)
  have tsplit : t ++ #[x, y] = (t ++ #[x]) ++ #[y] := by apply Array.ext'; simp
  have ox : ∀ (i : Nat) (a : Touch) (ad : Addr), touchAt (t ++ MemOp.ofEvents k fn pos es) i = some a → a.loc = .cell ad → ad.block ≠ M → touchAt t i = some a := by
    intro i a ad ha hl hne
    obtain ⟨op, ho, hox⟩ := touch_of ha
    rcases getElem?_append_cases ho with ⟨_, hi'⟩ | ⟨_, hiu⟩
    · rw [touchAt_of hi']; exact hox
    · exfalso
      rcases hop op hiu with rfl | rfl <;> simp only [x, y, MemAct.touch?, Option.some.injEq] at hox <;> subst hox <;> cases hl <;> exact hne rfl
  have knows' : ∀ i a ad, touchAt t i = some a → a.loc = .cell ad → pr.pub γ ad.block ≠ none → a.write = true → Knows (t ++ MemOp.ofEvents k fn pos es) k i := by
    intro i a ad ha hl hb hw
    have h := knows i a ad ha hl hb hw
    have hx : (t ++ #[x])[t.size]? = some x := by rw [Array.getElem?_append_right (Nat.le_refl _)]; simp
    rcases ops with ⟨_, e⟩ | e
    · rw [e]; exact ⟨t.size, x, hx, rfl, .inr h⟩
    · rw [e, tsplit]; exact Knows.app #[y] ⟨t.size, x, hx, rfl, .inr h⟩
  refine ⟨X.T.sh (X.sk k hk) X.sd hlt hk hu', fun k' hk' lv => ?_, fun k' hk' => (X.sk k' hk').sh hu', X.sd.sh hu', ?_, X.norel.app fun op h => ?_, fun k' hk' => ?_, fun k' h1 hk' hs => ?_⟩
  · by_cases e : k' = k
    · subst e
      rw [upd_same]
      have ownSub : ∀ l, OwnL h' l → OwnL (Hs k') l := by
        intro l hl
        cases l with
        | cell ad =>
          by_cases hb : ad.block = M
          · have := (I'.noS hk (.inl ⟨ad, rfl, hb⟩)).1
            rw [upd_same] at this
            exact absurd hl this
          · rcases T.same ad.block hb with h0 | ⟨c, E, _, hx, _⟩
            · simp only [OwnL, h0] at hl; exact hl
            · exfalso
              simp only [OwnL, hx] at hl
              rcases hl with ⟨c', E', fr, e1, e2⟩ | ⟨_, v, n, E', e1⟩ | ⟨_, s, n, E', L, e1, _⟩
              · simp only [Option.some.injEq, Obj.cells.injEq] at e1
                obtain ⟨rfl, rfl, rfl⟩ := e1
                exact e2 (isRo_roO c)
              · cases e1
              · cases e1
        | obj r =>
          obtain ⟨o, hb, hm⟩ := hl
          by_cases hr : r = M
          · subst hr; rw [T.note] at hb; simp only [Option.some.injEq] at hb; subst hb; exact hm.elim
          · rcases T.same r hr with h0 | ⟨c, E, _, hx, _⟩
            · rw [h0] at hb; exact ⟨o, hb, hm⟩
            · rw [hx] at hb; simp only [Option.some.injEq] at hb; subst hb; exact hm.elim
        | _ => exact hl.elim
      refine ⟨fun l hl => P0.own l (ownSub l hl), fun l hl => ?_⟩
      cases l with
      | cell ad =>
        obtain ⟨c, E, fr, hb, hr⟩ := hl
        have hbM : ad.block ≠ M := by
          intro e
          rw [e, T.note] at hb; cases hb
        rcases T.same ad.block hbM with h0 | ⟨c', E', hp, hx, hor⟩
        · rw [h0] at hb; exact P0.rd _ ⟨c, E, fr, hb, hr⟩
        · rcases hor with ⟨h1, _⟩ | ⟨_, h1⟩
          · intro i a ha hl hw
            exact knows' i a ad (ox i a ad ha hl hbM) hl (by rw [h1]; simp) hw
          · exact .of (P0.own _ (.inl ⟨c', E', _, h1, not_isRo0 c'⟩))
      | _ => exact hl.elim
    · rw [upd_ne _ _ e]; exact (X.p k' hk' lv).sh (fun l hl => I.noS hk' hl) hu'
  · rcases ops with ⟨rfl, e⟩ | e
    · rw [e]
      refine X.pt.app fun op h z hz hw ad hl => ?_
      simp at h
      subst h
      simp only [x, MemAct.touch?, Option.some.injEq] at hz
      subst hz
      cases hw
    · intro i a ad ha hl hb hw
      have hbM : ad.block ≠ M := by
        intro e'
        cases hx : pr.pub γ' ad.block with
        | none => exact hb hx
        | some z => exact (I'.pub _ z.1 z.2 hx).1 e'
      have ha0 := ox i a ad ha hl hbM
      have hy : (t ++ #[x, y])[(t ++ #[x]).size]? = some y := by rw [tsplit, Array.getElem?_append_right (Nat.le_refl _)]; simp
      rw [e]
      have ysz : (t ++ #[x]).size = t.size + 1 := by simp
      have hdy : Deaf (t ++ #[x]) k = 0 := by
        rw [Deaf_still t k _ (by intro op h; simp at h; subst h; exact ⟨by simp [x], by simp [x]⟩)]; exact hd
      have before : Before (t ++ #[x, y]) i (t ++ #[x]).size := by
        cases hx : pr.pub γ ad.block with
        | some z =>
          have h := knows i a ad ha0 hl (by rw [hx]; simp) hw
          have hxx : (t ++ #[x])[t.size]? = some x := by rw [Array.getElem?_append_right (Nat.le_refl _)]; simp
          have : Knows (t ++ #[x]) k i := ⟨t.size, x, hxx, rfl, .inr h⟩
          have h2 := this.hb_new (u := #[y]) (Nat.le_refl _) (by rw [← tsplit]; exact hy) rfl
          rw [← tsplit] at h2
          exact .inr h2
        | none =>
          obtain ⟨c, E, hp⟩ : ∃ c E, pr.pub γ' ad.block = some (c, E) := by
            cases hx' : pr.pub γ' ad.block with
            | none => exact absurd hx' hb
            | some z => exact ⟨z.1, z.2, rfl⟩
          obtain ⟨h1, _, _⟩ := T.new _ c E hp hx
          have : Knows t k i := (X.p k hk (.inr live)).own (.cell ad) (.inl ⟨c, E, _, h1, not_isRo0 c⟩) i a ha0 hl
          have h2 := (this.app #[x]).hb_new (u := #[y]) (Nat.le_refl _) (by rw [← tsplit]; exact hy) rfl
          rw [← tsplit] at h2
          exact .inr h2
      refine ⟨(t ++ #[x]).size, ?_, ?_, before⟩
      · have := LastWrite.new (t ++ #[x]) ⟨M, 0, none⟩ (y := y) rfl
        rw [← tsplit] at this; exact this
      · refine ⟨k, by rw [Trace.g?, hy, Option.map_some], ?_⟩
        rw [tsplit, deaf_old (Nat.le_refl _)]; exact hdy
  · rcases hop op h with rfl | rfl <;> simp [x, y]
  · by_cases e : k' = k
    · subst e
      rw [Deaf_still t k' _ (by intro op h; rcases hop op h with rfl | rfl <;> simp [x, y]), X.df k' hk']
    · rw [Deaf_other t (Ne.symm e) _ (fun op h => (hu' op h).1), X.df k' hk']
  · by_cases e : k' = k
    · subst e; omega
    · obtain ⟨r, R⟩ := X.rel k' h1 hk' hs
      exact ⟨r, R.app (R.rel.appOther (fun op h => (hu' op h).1) (Ne.symm e)) fun op h hg => absurd ((hu' op h).1.symm.trans hg) (Ne.symm e)⟩

/-- A go STATEMENT. -/
theorem TI.fork (X : TI pr j M Wg γ Hs st dfs t n) (hd0 : dfs 0 = 0) {x y : MemOp} (hx : x.g = 0 ∧ x.act = .go (j + 1)) (hy : y.g = j + 1 ∧ y.act = .start) {hc h' : H}
    (ho : ∀ l, OwnL hc l → OwnL (Hs 0) l) (hr : ∀ l, RdL hc l → RdL (Hs 0) l ∨ OwnL (Hs 0) l) (ho' : ∀ l, OwnL h' l → OwnL (Hs 0) l) (hr' : ∀ l, RdL h' l → RdL (Hs 0) l ∨ OwnL (Hs 0) l)
    {st' dfs' : Nat → Nat} (hst : ∀ k, k ≤ j → st' k = st k) (hdf : ∀ k, 1 ≤ k → k ≤ j → dfs' k = dfs k) (h00 : dfs' 0 = 0) (hj0 : dfs' (j + 1) = 0) (h6 : 6 < st' (j + 1)) : TI pr (j + 1) M Wg γ (upd (upd Hs 0 h') (j + 1) hc) st' dfs' (t ++ #[x, y]) n := by
  have tx : x.act.touch? = none := by rw [hx.2]; rfl
  have ty : y.act.touch? = none := by rw [hy.2]; rfl
  have D0 : Deaf t 0 = 0 := (X.df 0 (by omega)).trans hd0
  have hmem : ∀ op ∈ #[x, y], op = x ∨ op = y := by intro op h; simpa using h
  have hstill : ∀ op ∈ #[x, y], op.act ≠ .mark .disable ∧ op.act ≠ .mark .enable := by
    intro op h
    rcases hmem op h with rfl | rfl
    · rw [hx.2]; exact ⟨by simp, by simp⟩
    · rw [hy.2]; exact ⟨by simp, by simp⟩
  have p0 := X.p 0 (by omega) (.inl rfl)
  refine ⟨X.T.fork hx hy, fun k hk lv => ?_, fun k hk => ?_, X.sd.fork tx ty, X.pt.app fun op h z hz => ?_, X.norel.app fun op h => ?_, fun k hk => ?_, fun k h1 hk hs => ?_⟩
  · by_cases e : k = j + 1
    · subst e
      rw [upd_same]
      exact (p0.fork X.T hx hy D0).sub ho hr
    · rw [upd_ne _ _ e]
      by_cases e0 : k = 0
      · subst e0; rw [upd_same]; exact (p0.forkOld tx ty).sub ho' hr'
      · rw [upd_ne _ _ e0]
        exact (X.p k (by omega) (by rwa [hst k (by omega)] at lv)).forkOld tx ty
  · by_cases e : k = j + 1
    · subst e; exact (X.sk 0 (by omega)).fork X.T hx hy D0
    · exact (X.sk k (by omega)).forkOld tx ty
  · rcases hmem op h with rfl | rfl
    · rw [tx] at hz; cases hz
    · rw [ty] at hz; cases hz
  · rcases hmem op h with rfl | rfl
    · rw [hx.2]; simp
    · rw [hy.2]; simp
  · rw [Deaf_still t k _ hstill]
    by_cases e : k = j + 1
    · subst e; rw [hj0]; exact Deaf_absent fun i op hi e => by have := X.T.gs i op hi; omega
    · rw [X.df k (by omega)]
      by_cases e0 : k = 0
      · subst e0; rw [h00, hd0]
      · rw [hdf k (by omega) (by omega)]
  · by_cases e : k = j + 1
    · subst e; omega
    · rw [hst k (by omega)] at hs
      obtain ⟨r, R⟩ := X.rel k h1 (by omega) hs
      refine ⟨r, R.app (R.rel.appNot fun op h => ?_) fun op h hg => ?_⟩
      · rcases hmem op h with rfl | rfl
        · rw [hx.1]; omega
        · rw [hy.1]; omega
      · rcases hmem op h with rfl | rfl
        · rw [hx.1] at hg; omega
        · rw [hy.1] at hg; omega
end
end Go.Proofs.Ytojhnclkhiffkaa
