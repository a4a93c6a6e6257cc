/-
  The starter alone: ahead of all workers, or behind the join, the workers only leaving.
-/
import Derived.Test.YtojhnclkhiffkaaQ8
import Derived.Test.YtojhnclkhiffkaaChecked
import Derived.Conc.WgGenN2
import Derived.KernelRfl
import Derived.Test.YtojhnclkhiffkaaQ7
/-
  The starter alone: ahead of all workers, or behind the join, the workers only leaving.
-/
namespace Go.Proofs.Ytojhnclkhiffkaa
open Go.Conc Go.RowKit
open Go.ConcN (upd upd_same upd_ne RelBy AcqAll handedOver_all norel_of norel_of_Bk get_map_set get_map_set_same runT_crowd_ended)
open Go.ConcR (rd wr mk stA smA WgAt wgBlock KK Bk bk_of_mute ofEvent_loc_mark g_of_ofEvents)
set_option linter.unusedVariables false

abbrev WR := Nat × (Tr × Nat)
def rank (c : Ch) : WR := (c.stage, (c.rk, c.fuel))
def ranks (j : Nat) (D : Nat → Ch) : List WR := (List.range j).map fun i => rank (D (i + 1))
theorem ranks_upd (j : Nat) (D : Nat → Ch) {k : Nat} (k1 : 1 ≤ k) (hk : k ≤ j) (c : Ch) : ranks j (updC D k c) = (ranks j D).set (k - 1) (rank c) := by
  apply List.ext_getElem?
  intro n
  unfold ranks
  rw [List.getElem?_set]
  simp only [List.getElem?_map]
  by_cases e : k - 1 = n
  · subst e
    rw [if_pos rfl]
    simp only [List.length_map, List.length_range]
    rw [if_pos (by omega), List.getElem?_range (by omega)]
    simp [show k - 1 + 1 = k by omega, updC_same]
  · rw [if_neg e]
    rcases Nat.lt_or_ge n j with h | h
    · rw [List.getElem?_range h]
      simp [updC_ne _ _ (show n + 1 ≠ k by omega)]
    · rw [List.getElem?_eq_none (by simpa using h)]; rfl

section
variable (pr : Pro) (P : Program)
structure Sol (j Wg N0 : Nat) (W0 : World) (D : Nat → Ch) (h : H) (cl : Bool) (gs : Array Goroutine) (w : World) (t : Trace) : Prop where
  hol : Hol h w
  pl : ∀ b o, h b = some o → plainO o ∨ (cl = true ∧ b = Wg ∧ o = nG pr 9 0 [])
  T : TrI t w.heap.size j
  p : TP t 0 h
  df0 : Deaf t 0 = 0
  bel : Below N0 W0 w
  n0 : N0 ≤ w.heap.size
  old : ∀ b o, h b = some o → b < N0 → ∃ c E, o = .cells c E (roF c)
  size : gs.size = j + 1
  kids : ∀ k, 1 ≤ k → k ≤ j → (D k).stage = 1 ∧ Deaf t k = (D k).deaf ∧ ∃ g, gs[k]? = some g ∧ QuitsD P (D k).fuel (D k).deaf g
  nr0 : cl = false → ∀ a, NoRelease a t
  done : (j = 0 ∧ cl = false) ∨ (cl = true ∧ h Wg = some (nG pr 9 0 []) ∧ NoRelease (stA Wg) t ∧ AcqAll Wg j t)
/-- What the run's end is to be. -/
def PostW (N0 : Nat) (W0 : World) (v : Value) (w : World) : Prop := ∃ h, pr.fin v h ∧ Hol h w ∧ Below N0 W0 w
end
section
variable {pr : Pro} {P : Program} {j Wg N0 : Nat} {W0 : World} {D : Nat → Ch} {h : H} {cl : Bool} {gs : Array Goroutine} {w w' : World} {t : Trace}
theorem Fra.below {h1 : H} {es : Array Event} (f : Fra h w h1 w' es) (bel : Below N0 W0 w) (n0 : N0 ≤ w.heap.size) (old : ∀ b o, h b = some o → b < N0 → ∃ c E, o = .cells c E (roF c)) :
    Below N0 W0 w' ∧ N0 ≤ w'.heap.size ∧ ∀ b o, h1 b = some o → b < N0 → ∃ c E, o = .cells c E (roF c) := by
  have low : ∀ b, b < N0 → w'.heap[b]? = w.heap[b]? := by
    intro b hb
    refine f.block (Nat.lt_of_lt_of_le hb n0) ?_
    cases hx : h b with
    | none => exact .inl rfl
    | some o =>
      obtain ⟨c, E, rfl⟩ := old b o hx hb
      exact .inr (.inl ⟨c, E, _, rfl, isRo_roF c⟩)
  refine ⟨⟨f.os.trans bel.os, f.tape.trans bel.tape, f.output.trans bel.output, Nat.le_trans bel.size f.size, fun b hb => (low b hb).trans (bel.block b hb)⟩, Nat.le_trans n0 f.size, fun b o hb hlt => ?_⟩
  obtain ⟨o0, h0, hc⟩ := f.old _ _ hb (Nat.lt_of_lt_of_le hlt n0)
  obtain ⟨c, E, rfl⟩ := old b o0 h0 hlt
  exact ⟨c, E, chO_ro hc (isRo_roF c)⟩
theorem acq_app {u : Trace} (h : AcqAll Wg j t) {g : Nat} (hu : ∀ op ∈ u, op.g = g) (hg : ∀ i r, i < j → i + 1 = g → RelBy (stA Wg) t (i + 1) r → RelBy (stA Wg) (t ++ u) (i + 1) r) : AcqAll Wg j (t ++ u) :=
  h.app fun i r hi hr => by
    by_cases e : i + 1 = g
    · exact hg i r hi e hr
    · exact hr.appOther hu (Ne.symm e)
/-- An own step of the starter's. -/
theorem Sol.own (X : Sol pr P j Wg N0 W0 D h cl gs w t) {a a' : Goroutine} {h1 : H} {es : Array Event} (F : Fra h w h1 w' es) (fn : FuncId) (pos : String) :
    Sol pr P j Wg N0 W0 D h1 cl ((gs.map (woken P a a' w')).setIfInBounds 0 a') w' (t ++ MemOp.ofEvents 0 fn pos es) := by
  obtain ⟨b1, b2, b3⟩ := F.below X.bel X.n0 X.old
  have hu : ∀ op ∈ MemOp.ofEvents 0 fn pos es, WiOp 0 h1 op := wi_of F.ev fn pos
  have hp := X.p.fra X.T F
  have hst := still_of (k := 0) (fn := fn) (pos := pos) (es := es) fun e he => ⟨(F.ev e he).mark.1, (F.ev e he).mark.2.1⟩
  refine ⟨F.hol, fun b o hb => ?_, X.T.own hp (fun l hl => hl.elim (fun h => h.lt F.hol) (fun h => h.lt F.hol)) F.size (Nat.zero_le _) hu, hp.app fun op hop => (hu op hop).1, by rw [Go.ConcN.Deaf_still t 0 _ hst, X.df0], b1, b2, b3, by simp [X.size], fun k k1 hk => ?_, ?_, ?_⟩
  · cases hno : noteOf o with
    | some z =>
      have hb0 := F.noteOld hb (by rw [hno]; simp)
      rcases X.pl b o hb0 with hpl | hpl
      · rw [hpl.2] at hno; cases hno
      · exact .inr hpl
    | none =>
      cases hone : oneOf o with
      | none => exact .inl ⟨hone, hno⟩
      | some z =>
        exfalso
        obtain ⟨i, v, n, E⟩ := z
        have e1 := oneOf_spec hone
        by_cases hlt : b < w.heap.size
        · obtain ⟨o0, h0, hc⟩ := F.old _ _ hb hlt
          rcases X.pl b o0 h0 with hpl | ⟨_, _, rfl⟩
          · rw [e1] at hc
            cases o0 with
            | deferred l =>
              have := chO_def hc hpl.1
              rw [← this] at hpl
              exact absurd hpl.1 (by rw [oneOf_oneO]; simp)
            | cells c0 E0 fr0 =>
              simp only [chO, oneOf_cells] at hc
              split at hc
              · cases hc
              · obtain ⟨_, hc, _⟩ := hc; cases hc
            | _ => simp [chO, oneOf, oneO] at hc
          · have := chO_note hc
            rw [e1] at this; cases this
        · have := (F.nw _ _ hb (by omega)).1
          rw [hone] at this; cases this
  · obtain ⟨k2, k3, g, hg, hq⟩ := X.kids k k1 hk
    exact ⟨k2, by rw [Deaf_other t (by omega) _ g_of_ofEvents]; exact k3, g, by rw [get_map_set _ _ _ _ (by omega), hg, Option.map_some, woken_quitsD hq], hq⟩
  · intro hc ad
    refine (X.nr0 hc ad).app fun op hop e => ?_
    rw [ofEvents_eq] at hop
    obtain ⟨ev, hm, rfl⟩ := Array.mem_map.1 hop
    exact (F.ev ev hm).mark.2.2 ad (Go.ConcR.loc_of_ofEvent e)
  · rcases X.done with hd | ⟨d1, d2, d3, d4⟩
    · exact .inl hd
    · exact .inr ⟨d1, F.nk _ _ d2 (noteOf_ne _ _ _ _ _), d3.app (norel_of (wi_norel (k := 0) F.ev Wg)), acq_app d4 g_of_ofEvents fun i r _ e => by omega⟩
/-- A leaving worker's step. -/
theorem Sol.kid (X : Sol pr P j Wg N0 W0 D h cl gs w t) {k : Nat} (k1 : 1 ≤ k) (hk : k ≤ j) {g : Goroutine} (hg : gs[k]? = some g) (hrun : g.status = .running) :
    ∃ g' es c', stepG P false g w = .go g' w es ∧ c'.stage = (D k).stage ∧ c'.rk = (D k).rk ∧ c'.fuel < (D k).fuel ∧ ∀ a : Goroutine, gs[0]? = some a → a.status = .running →
      Sol pr P j Wg N0 W0 (updC D k c') h cl ((gs.map (woken P g g' w)).setIfInBounds k g') w (t ++ MemOp.ofEvents k g.frame.fn g.frame.place es) ∧ ((gs.map (woken P g g' w)).setIfInBounds k g')[0]? = some a := by
  obtain ⟨k2, k3, g1, hg1, hq⟩ := X.kids k k1 hk
  obtain rfl : g = g1 := by rw [hg] at hg1; exact Option.some.inj hg1
  cases hm : (D k).fuel with
  | zero => rw [hm] at hq; rw [hq.1] at hrun; cases hrun
  | succ q =>
    rw [hm] at hq
    rcases hq with ⟨hf, _⟩ | ⟨_, g', es, hmute, hstep, hq⟩
    · rw [hf] at hrun; cases hrun
    · have hno : ∀ e ∈ es, (MemAct.ofEvent e).touch? = none := fun e he => by
        rcases bk_of_mute (Wg := Wg) (hmute e he) with h1 | h1 | ⟨a, wr, rfl, _⟩
        · rw [ofEvent_loc_mark h1]; rfl
        · rw [ofEvent_loc_mark h1]; rfl
        · have := hmute _ he; simp [Event.mute] at this
      have hsh : ∀ op ∈ MemOp.ofEvents k g.frame.fn g.frame.place es, ShOp (fun _ => False) k op := by
        intro op hop
        rw [ofEvents_eq] at hop
        obtain ⟨e, he, rfl⟩ := Array.mem_map.1 hop
        exact ⟨rfl, fun x hx => by simp only [hno e he] at hx; cases hx⟩
      refine ⟨g', es, { D k with fuel := q, deaf := deafBehind (D k).deaf es }, hstep w, rfl, rfl, by simp, fun a ha har => ⟨?_, ?_⟩⟩
      · refine ⟨X.hol, X.pl, X.T.sh (fun i a ha hs => hs.elim) (fun i op a _ _ hs => hs.elim) (fun l hl => hl.elim) hk hsh, X.p.sh (fun l hl => hl.elim) hsh, by rw [Deaf_other t (by omega) _ g_of_ofEvents, X.df0], X.bel, X.n0, X.old, by simp [X.size], fun k' h1 h2 => ?_, fun hc => ?_, ?_⟩
        · by_cases e : k' = k
          · subst e
            rw [updC_same]
            exact ⟨k2, by rw [Deaf_own, k3], g', get_map_set_same _ _ _ (by rw [X.size]; omega), hq⟩
          · obtain ⟨m1, m2, x, hx, hqx⟩ := X.kids k' h1 h2
            rw [updC_ne _ _ e]
            exact ⟨m1, by rw [Deaf_other t (Ne.symm e) _ g_of_ofEvents]; exact m2, x, by rw [get_map_set _ _ _ _ (Ne.symm e), hx, Option.map_some, woken_quitsD hqx], hqx⟩
        · rcases X.done with ⟨hd, _⟩ | ⟨d1, _⟩
          · omega
          · rw [hc] at d1; cases d1
        · rcases X.done with ⟨hd, _⟩ | ⟨d1, d2, d3, d4⟩
          · omega
          · refine .inr ⟨d1, d2, d3.app (norel_of (norel_of_Bk (Wg := Wg) fun e he => bk_of_mute (hmute e he))), acq_app d4 g_of_ofEvents fun i r _ e hr => ?_⟩
            subst e
            exact hr.book (Wg := Wg) k3 _ _ (fun e he => bk_of_mute (hmute e he)) fun jx e he => .inl (hno e (Array.mem_of_getElem? he))
      · rw [get_map_set _ _ _ _ (by omega), ha, Option.map_some]
        congr 1
        unfold woken
        split
        · exact again_running _ (.inl har)
        · rfl
/-- The return. -/
theorem Sol.ret (X : Sol pr P j Wg N0 W0 D h cl gs w t) {a : Goroutine} (ha : gs[0]? = some a) {v : Value} {es : Array Event} (hst : stepG P true a w = .ended (.done v) w es) (hev : ∀ e ∈ es, EvO h e) (hfin : pr.fin v h) (sl : Option (Nat × Nat)) :
    ∃ o w₁ ops, runT P (crowd gs w sl) 0 = (.ended o w₁, ops) ∧ ∀ w₀ sl₀, Go.Conc.Good P (PostW pr N0 W0) (crowd gs w₀ sl₀) o w₁ (t ++ ops) := by
  have hu : ∀ op ∈ MemOp.ofEvents 0 a.frame.fn a.frame.place es, WiOp 0 h op := wi_of hev _ _
  have hT := X.T.own X.p (n' := w.heap.size) (fun l hl => hl.elim (fun h => h.lt X.hol) (fun h => h.lt X.hol)) (Nat.le_refl _) (Nat.zero_le _) hu
  have wkq : ∀ i g, gs[i]? = some g → i ≠ 0 → 1 ≤ i ∧ i ≤ j ∧ QuitsD P (D i).fuel (D i).deaf g ∧ Deaf t i = (D i).deaf := by
    intro i g hg hi0
    have hlt : i ≤ j := by have := (Array.getElem?_eq_some_iff.1 hg).1; rw [X.size] at this; omega
    obtain ⟨_, k3, g1, hg1, hq⟩ := X.kids i (by omega) hlt
    rw [hg] at hg1
    cases hg1
    exact ⟨by omega, hlt, hq, k3⟩
  refine ⟨_, _, _, runT_crowd_ended ha (by simpa using hst), fun w₀ sl₀ => ⟨v, rfl, ⟨h, hfin, X.hol, X.bel⟩, hT.nr, ?_, ⟨fun g hg => ?_, rfl⟩, fun i g hg hi0 => ?_⟩⟩
  · rcases X.done with ⟨hj, _⟩ | ⟨d1, d2, d3, d4⟩
    · intro i g hgi hne
      exfalso
      obtain ⟨op, ho, rfl⟩ := Option.map_eq_some_iff.1 hgi
      have := hT.gs i op ho
      omega
    · obtain ⟨q, h1, h2, h3, h4⟩ := acq_app d4 (u := MemOp.ofEvents 0 a.frame.fn a.frame.place es) g_of_ofEvents fun i r _ e => by omega
      refine handedOver_all (fun i g hgi hne => ?_) (d3.app (norel_of (wi_norel (k := 0) hev Wg))) h1 h2 h3
      obtain ⟨op, ho, rfl⟩ := Option.map_eq_some_iff.1 hgi
      have := hT.gs i op ho
      have := h4 (op.g - 1) (by omega)
      rwa [show op.g - 1 + 1 = op.g by omega] at this
  · obtain ⟨i, hi⟩ := List.mem_iff_getElem?.1 hg
    rw [List.getElem?_drop] at hi
    obtain ⟨_, _, hqq, _⟩ := wkq (1 + i) g (by simpa [crowd] using hi) (by omega)
    exact ⟨_, hqq.leaves⟩
  · obtain ⟨_, hlt, hqq, hdf⟩ := wkq i g hg hi0
    refine ⟨(D i).fuel, ?_⟩
    have : (t ++ MemOp.ofEvents 0 a.frame.fn a.frame.place es).deaf i (t ++ MemOp.ofEvents 0 a.frame.fn a.frame.place es).size = (D i).deaf := by
      have := Deaf_other t (g := i) (g' := 0) (by omega) _ (g_of_ofEvents (fn := a.frame.fn) (pos := a.frame.place) (es := es))
      rw [hdf] at this
      exact this
    rw [this]
    exact hqq.hears _
end
end Go.Proofs.Ytojhnclkhiffkaa

/-
  The starter's steps in company: its own; its bookkeeping; notes; the opening; a go statement; the join.
-/
namespace Go.Proofs.Ytojhnclkhiffkaa
open Go.Conc Go.RowKit
open Go.ConcN (upd upd_same upd_ne WgLive WD Vc Vc_le pend isOpen isW3 isFin OpenSt AllQuit get_map_set get_map_set_same RelBy AcqAll cnt sumTo)
open Go.ConcR (rd wr mk stA smA WgAt wgBlock KK Payload Bk g_of_ofEvents ofEvent_mk)
set_option linter.unusedVariables false

section
variable {pr : Pro} {P : Program} {j M Wg : Nat} {e0 : Value} {γ : List Value} {ph V : Nat} {ds : List Value} {N0 : Nat} {W0 : World} {Hs : Nat → H} {D : Nat → Ch} {blk : Bool} {gs : Array Goroutine} {w w' : World} {t : Trace}
theorem Cmp.asm0 (X : Cmp pr P j M Wg e0 γ ph V ds N0 W0 Hs D blk gs w t) {a a' : Goroutine} {u : Trace} {Hs' : Nat → H} {ph' V' : Nat} {st' sm' : Int} {blk' : Bool}
    (I' : HI pr j M Wg e0 γ ph' V' ds N0 W0 Hs' w') (tr' : TI pr j M Wg γ Hs' (fun k => (D k).stage) (dfsOf ph' D) (t ++ u) w'.heap.size) (hoth : ∀ k, 1 ≤ k → Hs' k = Hs k)
    (hC : ∀ k, 1 ≤ k → k ≤ j → (D k).stage ≤ 7 → w'.heap[(D k).C]? = w.heap[(D k).C]?) (hwg : WgAt pr.tg Wg w' st' sm') (hm : Go.ConcN.Mode j (wdf D) (tagOf ph' V' blk') st' sm')
    (hbd : ph' = 1 → Vc j (wdf D) ≤ V') (hjb : (ph' = 2 ∨ ph' = 3) ∨ 7 < ph' → j < 2147483646 ∧ ph' ≤ 7) : Cmp pr P j M Wg e0 γ ph' V' ds N0 W0 Hs' D blk' ((gs.map (woken P a a' w')).setIfInBounds 0 a') w' (t ++ u) := by
  refine ⟨I', tr', by simp [X.size], fun k h1 h2 => ?_, X.dd, ⟨st', sm', hwg, hm⟩, hbd, X.jb.1, hjb⟩
  obtain ⟨x, hx, sx⟩ := X.sit k h1 h2
  refine ⟨x, by rw [get_map_set _ _ _ _ (by omega), hx, Option.map_some, sx.woken], ?_⟩
  rw [hoth k h1]
  exact sx.rely (hC k h1 h2) ⟨_, _, hwg⟩
/-- AN OWN STEP of the starter's. -/
theorem Cmp.own0 (X : Cmp pr P j M Wg e0 γ ph V ds N0 W0 Hs D false gs w t) {a a' : Goroutine} {h1 : H} {es : Array Event} (F : Fra (Hs 0) w h1 w' es) (fn : FuncId) (pos : String) :
    Cmp pr P j M Wg e0 γ ph V ds N0 W0 (upd Hs 0 h1) D false ((gs.map (woken P a a' w')).setIfInBounds 0 a') w' (t ++ MemOp.ofEvents 0 fn pos es) := by
  obtain ⟨st, sm, hwg, hmode⟩ := X.wg
  have hwg' : WgAt pr.tg Wg w' st sm := hwg.of_block (F.block ((X.I.hol 0 (by omega)).lt X.I.hW) (.inr (.inr (.inl ⟨_, _, _, _, _, X.I.hW⟩))))
  refine X.asm0 (X.I.own (by omega) F) (X.tr.own X.I (by omega) (.inl rfl) F _ _) (fun k k1 => upd_ne _ _ (by omega)) (fun k k1 hk h7 => F.block ((X.I.hol k hk).lt (X.lastCell k1 hk h7)) (.inl ?_)) hwg' hmode X.bd X.jb.2
  exact def_none (X.I.ap 0 k (by omega) hk (by omega)) (X.lastCell k1 hk h7)
theorem phase_sub {h : H} {ph V ph' V' : Nat} {ds ds' : List Value} (hW : h Wg = some (nG pr ph V ds)) : (∀ l, OwnL (hupd h Wg (nG pr ph' V' ds')) l → OwnL h l) ∧ ∀ l, RdL (hupd h Wg (nG pr ph' V' ds')) l → RdL h l ∨ OwnL h l := by
  refine ⟨fun l hl => ?_, fun l hl => ?_⟩
  · cases l with
    | cell ad =>
      by_cases e : ad.block = Wg
      · exfalso
        have := (note_noL (h := hupd h Wg (nG pr ph' V' ds')) (b := Wg) (.inr ⟨_, _, _, _, _, hupd_same _ _ _, by omega⟩) (l := .cell ad) ⟨ad, rfl, e⟩).1
        exact this hl
      · simp only [OwnL, hupd_ne _ _ e] at hl; exact hl
    | obj r =>
      obtain ⟨x, hx, hm⟩ := hl
      by_cases e : r = Wg
      · subst e; rw [hupd_same] at hx; simp only [Option.some.injEq] at hx; subst hx; exact hm.elim
      · rw [hupd_ne _ _ e] at hx; exact ⟨x, hx, hm⟩
    | _ => exact hl.elim
  · cases l with
    | cell ad =>
      by_cases e : ad.block = Wg
      · exfalso
        have := (note_noL (h := hupd h Wg (nG pr ph' V' ds')) (b := Wg) (.inr ⟨_, _, _, _, _, hupd_same _ _ _, by omega⟩) (l := .cell ad) ⟨ad, rfl, e⟩).2
        exact this hl
      · simp only [RdL, hupd_ne _ _ e] at hl; exact .inl hl
    | _ => exact hl.elim
/-- BOOKKEEPING of the starter's. -/
theorem Cmp.book0 (X : Cmp pr P j M Wg e0 γ ph V ds N0 W0 Hs D false gs w t) {a a' : Goroutine} {es : Array Event} {ph' V' : Nat} {st' sm' : Int} (fn : FuncId) (pos : String) (hAs : Aside Wg w w') (hwg' : WgAt pr.tg Wg w' st' sm')
    (hsh : ∀ op ∈ MemOp.ofEvents 0 fn pos es, ShOp (InB Wg) 0 op) (hnr : ∀ e ∈ es, e.loc ≠ .mark (.release (stA Wg))) (hdf : deafBehind (dph ph) es = dph ph') (hm : Go.ConcN.Mode j (wdf D) (tagOf ph' V' false) st' sm')
    (hbd : ph' = 1 → Vc j (wdf D) ≤ V') (hjb : (ph' = 2 ∨ ph' = 3) ∨ 7 < ph' → j < 2147483646 ∧ ph' ≤ 7) :
    Cmp pr P j M Wg e0 γ ph' V' ds N0 W0 (upd Hs 0 (hupd (Hs 0) Wg (nG pr ph' V' ds))) D false ((gs.map (woken P a a' w')).setIfInBounds 0 a') w' (t ++ MemOp.ofEvents 0 fn pos es) := by
  refine X.asm0 ((X.I.wg hAs hwg').phase ph' V') ?_ (fun k k1 => upd_ne _ _ (by omega)) (fun k k1 hk h7 => hAs.block _ ?_) hwg' hm hbd hjb
  · rw [hAs.size]
    have := X.tr.book X.I (Nat.zero_le j) hsh (st' := fun k => (D k).stage) (dfs' := dfsOf ph' D) (fun _ _ => rfl) (.inl rfl) (by rw [Deaf_own, X.tr.df 0 (by omega)]; exact hdf) (fun k e => by unfold dfsOf; rw [if_neg e, if_neg e]) (Go.ConcN.norel_of hnr) (fun h => by omega)
    refine this.sub (fun k hk => ?_) (fun _ _ h => h) (fun _ _ => rfl) (fun _ _ _ h => h)
    by_cases e : k = 0
    · subst e; rw [upd_same]; exact phase_sub X.I.hW
    · rw [upd_ne _ _ e]; exact ⟨fun _ h => h, fun _ h => .inl h⟩
  · have hc := X.lastCell k1 hk h7
    intro e
    rcases X.I.atW hk with h5 | ⟨E, n, t, s, L, h5, _⟩ <;> rw [e] at hc <;> rw [h5] at hc <;> cases hc
/-- It puts a block aside. -/
theorem Cmp.aside0 (X : Cmp pr P j M Wg e0 γ ph V ds N0 W0 Hs D blk gs w t) {b : Nat} {c : Array Value} {E : TypeId} (hb : Hs 0 b = some (.cells c E)) {o : Obj} (ho : HolO o (some (.cells c E))) (hn : noteOf o ≠ none → ∃ E n a L, o = noteO E n 0 a L)
    (hk : o = .deferred none ∨ (∃ c' E' fr, o = .cells c' E' fr ∧ isRo c' fr) ∨ ∃ E n a L, o = noteO E n 0 a L) : Cmp pr P j M Wg e0 γ ph V ds N0 W0 (upd Hs 0 (hupd (Hs 0) b o)) D blk gs w t := by
  refine ⟨X.I.aside (by omega) hb ho (fun h => ⟨rfl, hn h⟩), X.tr.sub (fun k _ => ?_) (fun _ _ h => h) (fun _ _ => rfl) (fun _ _ _ h => h), X.size, fun k h1 h2 => ?_, X.dd, X.wg, X.bd, X.jb⟩
  · by_cases e : k = 0
    · subst e; rw [upd_same]; exact aside_sub hb hk
    · rw [upd_ne _ _ e]; exact ⟨fun _ h => h, fun _ h => .inl h⟩
  · rw [upd_ne _ _ (by omega)]; exact X.sit k h1 h2
theorem Sol.aside0 {h : H} {cl : Bool} (X : Sol pr P j Wg N0 W0 D h cl gs w t) {b : Nat} {c : Array Value} {E : TypeId} (hb : h b = some (.cells c E)) : Sol pr P j Wg N0 W0 D (hupd h b (.cells c E (roO c))) cl gs w t := by
  have at0 : ∀ x y, hupd h b (.cells c E (roO c)) x = some y → (x = b ∧ y = .cells c E (roO c)) ∨ (x ≠ b ∧ h x = some y) := by
    intro x y hx
    by_cases e : x = b
    · subst e; rw [hupd_same] at hx; simp only [Option.some.injEq] at hx; exact .inl ⟨rfl, hx.symm⟩
    · rw [hupd_ne _ _ e] at hx; exact .inr ⟨e, hx⟩
  have hw : w.heap[b]? = some (.cells c E) := (HolO_own (not_isRo0 c)).1 (X.hol b _ hb)
  obtain ⟨s1, s2⟩ := aside_sub hb (o := .cells c E (roO c)) (.inr (.inl ⟨c, E, _, rfl, isRo_roO c⟩))
  refine ⟨fun x y hx => ?_, fun x y hx => ?_, X.T, X.p.sub s1 s2, X.df0, X.bel, X.n0, fun x y hx hlt => ?_, X.size, X.kids, X.nr0, ?_⟩
  · rcases at0 x y hx with ⟨rfl, rfl⟩ | ⟨_, hx⟩
    · rw [hw]; exact (HolO_ro (isRo_roO c)).2 ⟨_, rfl, fun _ => rfl⟩
    · exact X.hol x y hx
  · rcases at0 x y hx with ⟨rfl, rfl⟩ | ⟨_, hx⟩
    · exact .inl ⟨rfl, rfl⟩
    · exact X.pl x y hx
  · rcases at0 x y hx with ⟨rfl, rfl⟩ | ⟨_, hx⟩
    · obtain ⟨c', E', e⟩ := X.old x _ hb hlt
      simp [roF] at e
    · exact X.old x y hx hlt
  · rcases X.done with hd | ⟨d1, d2, d3⟩
    · exact .inl hd
    · refine .inr ⟨d1, ?_, d3⟩
      rw [hupd_ne]
      · exact d2
      · rintro rfl; rw [d2] at hb; cases hb

/-- THE OPENING. -/
theorem Sol.opn {h : H} {cl : Bool} (X : Sol pr P j Wg N0 W0 D h cl gs w t) {M Wg' : Nat} (hn : ∀ b o, h b = some o → plainO o) (hM : h M = some (.cells #[pr.val [e0]] pr.E)) (hW : h Wg' = some (.cells #[.int .u64 0, .int .u32 0] pr.tg)) (hp : ∀ b, pr.pub [e0] b = none)
    (hb0 : pr.by_ e0 = 0) (hne : M ≠ Wg') : j = 0 ∧ Cmp pr P 0 M Wg' e0 [e0] 0 0 [] N0 W0 (fun _ => hupd (hupd h M (nM pr 0 [e0])) Wg' (nG pr 0 0 [])) D false gs w t := by
  have hcl : j = 0 ∧ cl = false := by
    rcases X.done with hd | ⟨_, d2, _⟩
    · exact hd
    · have := (hn _ _ d2).2
      rw [show nG pr 9 0 [] = noteO pr.tg 2 12 0 #[] from rfl, noteOf_noteO] at this
      cases this
  obtain ⟨rfl, rfl⟩ := hcl
  refine ⟨rfl, ?_⟩
  have hwM : w.heap[M]? = some (.cells #[pr.val [e0]] pr.E) := (HolO_own (not_isRo0 _)).1 (X.hol _ _ hM)
  have hwW : w.heap[Wg']? = some (.cells #[.int .u64 0, .int .u32 0] pr.tg) := (HolO_own (not_isRo0 _)).1 (X.hol _ _ hW)
  let h' := hupd (hupd h M (nM pr 0 [e0])) Wg' (nG pr 0 0 [])
  have at0 : ∀ b o, h' b = some o → (b = Wg' ∧ o = nG pr 0 0 []) ∨ (b = M ∧ o = nM pr 0 [e0]) ∨ (b ≠ M ∧ b ≠ Wg' ∧ h b = some o) := by
    intro b o hb
    by_cases e : b = Wg'
    · subst e
      have hb : hupd (hupd h M (nM pr 0 [e0])) b (nG pr 0 0 []) b = some o := hb
      rw [hupd_same] at hb; simp only [Option.some.injEq] at hb; exact .inl ⟨rfl, hb.symm⟩
    · have hb : hupd (hupd h M (nM pr 0 [e0])) Wg' (nG pr 0 0 []) b = some o := hb
      rw [hupd_ne _ _ e] at hb
      by_cases e2 : b = M
      · subst e2; rw [hupd_same] at hb; simp only [Option.some.injEq] at hb; exact .inr (.inl ⟨rfl, hb.symm⟩)
      · rw [hupd_ne _ _ e2] at hb; exact .inr (.inr ⟨e2, e, hb⟩)
  have noold : ∀ {b : Nat} {c : Array Value} {E : TypeId}, h b = some (.cells c E) → N0 ≤ b := by
    intro b c E hb
    rcases Nat.lt_or_ge b N0 with hlt | hge
    · obtain ⟨c', E', e⟩ := X.old b _ hb hlt
      simp [roF] at e
    · exact hge
  have hM' : h' M = some (nM pr 0 [e0]) := by
    show hupd (hupd h M (nM pr 0 [e0])) Wg' (nG pr 0 0 []) M = _
    rw [hupd_ne _ _ hne, hupd_same]
  have hW' : h' Wg' = some (nG pr 0 0 []) := hupd_same _ _ _
  have I : HI pr 0 M Wg' e0 [e0] 0 0 [] N0 W0 (fun _ => h') w := by
    refine ⟨fun k _ b o hb => ?_, fun k k' h1 h2 h3 => by omega, hM', hW', hne, fun b o hb hnn => ?_, fun k h1 h2 => by omega, rfl, ⟨hwM, fun b c E h => absurd h (by rw [hp]; simp)⟩, fun b c E h => absurd h (by rw [hp]; simp), .one, ⟨[], by simp, by simp⟩, fun v hv => ?_, X.bel, X.n0, fun k _ b o hb hlt => ?_⟩
    · rcases at0 b o hb with ⟨rfl, rfl⟩ | ⟨rfl, rfl⟩ | ⟨_, _, hb⟩
      · rw [hwW]; exact HolO_note.2 ⟨_, rfl, rfl, fun h => by omega, fun _ => ⟨0, 0, rfl⟩⟩
      · rw [hwM]; exact HolO_note.2 ⟨_, rfl, rfl, fun h => by omega, fun h => by omega⟩
      · exact X.hol b o hb
    · rcases at0 b o hb with ⟨rfl, rfl⟩ | ⟨rfl, rfl⟩ | ⟨_, _, hb⟩
      · exact .inr (.inl rfl)
      · exact .inl rfl
      · exact absurd (hn b o hb).2 hnn
    · simp at hv; subst hv; rw [hb0]; exact Nat.le_refl _
    · rcases at0 b o hb with ⟨rfl, rfl⟩ | ⟨rfl, rfl⟩ | ⟨_, _, hb⟩
      · have := noold hW; omega
      · have := noold hM; omega
      · exact X.old b o hb hlt
  have g0 : ∀ (i : Nat) (op : MemOp), t[i]? = some op → op.g = 0 := fun i op hi => by have := X.T.gs i op hi; omega
  have kn : ∀ i a, touchAt t i = some a → Knows t 0 i := fun i a ha => by
    obtain ⟨op, hop, _⟩ := touch_of ha
    have := knows_own hop
    rwa [g0 i op hop] at this
  refine ⟨I, ⟨X.T, fun k hk _ => ?_, fun k hk i a ha _ _ => ?_, fun i op a hop _ _ _ => g0 i op hop, fun i a ad _ _ hb => absurd (hp _) hb, X.nr0 rfl _, fun k hk => ?_, fun k h1 h2 => by omega⟩, X.size, fun k h1 h2 => by omega, fun k h1 h2 => by omega, ⟨0, 0, hwW, ?_⟩, fun e => by omega, by omega, fun e => by omega⟩
  · obtain rfl : k = 0 := by omega
    exact ⟨fun l hl i a ha _ => kn i a ha, fun l hl i a ha _ _ => kn i a ha⟩
  · obtain rfl : k = 0 := by omega
    exact kn i a ha
  · obtain rfl : k = 0 := by omega
    exact X.df0
  · have := Go.ConcN.Mode.opn (j := 0) (D := wdf D) (tag := .kd) trivial (fun i hi => by omega) (fun vs e => by cases e)
    rw [show tagOf 0 0 false = .kd from rfl]
    simpa [Vc, sumTo, pend] using this
end
end Go.Proofs.Ytojhnclkhiffkaa

/-
  A go statement; the join.
-/
namespace Go.Proofs.Ytojhnclkhiffkaa
open Go.Conc Go.RowKit
open Go.ConcN (upd upd_same upd_ne WSit WgLive WD Vc Vc_le pend isOpen isW3 isFin OpenSt AllQuit get_map_set get_map_set_same RelBy AcqAll cnt sumTo sumTo_congr)
open Go.ConcR (rd wr mk stA smA WgAt wgBlock KK Payload Bk g_of_ofEvents ofEvent_mk)
set_option linter.unusedVariables false

section
variable {pr : Pro} {P : Program} {j M Wg : Nat} {e0 : Value} {γ : List Value} {ph V : Nat} {ds : List Value} {N0 : Nat} {W0 : World} {Hs : Nat → H} {D : Nat → Ch} {blk : Bool} {gs : Array Goroutine} {w w' : World} {t : Trace}
theorem sp_sub {k : Nat} {h hc h' : H} {d : Value} {ds' : List Value} (sp : ∀ b, b ≠ Wg → SpO pr k (h b) (hc b) (h' b)) (hcW : hc Wg = some (nW pr d)) (hW' : h' Wg = some (nG pr 0 0 ds')) :
    ((∀ l, OwnL hc l → OwnL h l) ∧ ∀ l, RdL hc l → RdL h l ∨ OwnL h l) ∧ (∀ l, OwnL h' l → OwnL h l) ∧ ∀ l, RdL h' l → RdL h l ∨ OwnL h l := by
  have ncW : ∀ ad : Addr, ad.block = Wg → ¬ OwnL hc (.cell ad) ∧ ¬ RdL hc (.cell ad) := fun ad e => note_noL (b := Wg) (.inr ⟨_, _, _, _, _, hcW, by omega⟩) ⟨ad, rfl, e⟩
  have nW : ∀ ad : Addr, ad.block = Wg → ¬ OwnL h' (.cell ad) ∧ ¬ RdL h' (.cell ad) := fun ad e => note_noL (b := Wg) (.inr ⟨_, _, _, _, _, hW', by omega⟩) ⟨ad, rfl, e⟩
  refine ⟨⟨fun l hl => ?_, fun l hl => ?_⟩, fun l hl => ?_, fun l hl => ?_⟩
  · cases l with
    | cell ad =>
      by_cases e : ad.block = Wg
      · exact absurd hl (ncW ad e).1
      · have s := sp ad.block e
        simp only [OwnL] at hl ⊢
        generalize hx : h ad.block = x at s
        generalize hy : hc ad.block = y at s hl
        generalize hz : h' ad.block = z at s
        cases s with
        | mine => rcases hl with ⟨c, E, fr, h1, _⟩ | ⟨_, v, n, E, h1⟩ | ⟨_, s, n, E, L, h1, _⟩ <;> cases h1
        | give c E => exact hl
        | copy c E fr hr => exact hl
        | part E n a L v hv ha =>
          rcases hl with ⟨c, E', fr, h1, _⟩ | ⟨hs, v', n', E', h1⟩ | ⟨_, s, n', E', L', h1, _⟩
          · cases h1
          · have := congrArg oneOf (Option.some.inj h1)
            simp only [oneOf_oneO, Option.some.injEq, Prod.mk.injEq] at this
            exact .inr (.inr ⟨hs, a, n, E, L, rfl, by omega⟩)
          · cases h1
        | note L =>
          rcases hl with ⟨c, E', fr, h1, _⟩ | ⟨hs, v', n', E', h1⟩ | ⟨_, s, n', E', L', h1, _⟩
          · cases h1
          · have := congrArg oneOf (Option.some.inj h1)
            rw [oneOf_oneO, show nM pr k L = noteO pr.E 1 1 k L.toArray from rfl, oneOf_noteO] at this
            cases this
          · have := (note_inj (Option.some.inj h1)).2.2.1; omega
    | obj r =>
      obtain ⟨o, hb, hm⟩ := hl
      by_cases e : r = Wg
      · subst e; rw [hcW] at hb; simp only [Option.some.injEq] at hb; subst hb; exact hm.elim
      · have s := sp r e
        rw [hb] at s
        generalize hx : h r = x at s
        generalize hy : (some o : Option Obj) = y at s
        generalize hz : h' r = z at s
        cases s with
        | mine => cases hy
        | give c E => simp only [Option.some.injEq] at hy; subst hy; exact hm.elim
        | copy c E fr hr => simp only [Option.some.injEq] at hy; subst hy; exact hm.elim
        | part E n a L v hv ha => simp only [Option.some.injEq] at hy; subst hy; exact hm.elim
        | note L => simp only [Option.some.injEq] at hy; subst hy; exact hm.elim
    | _ => exact hl.elim
  · cases l with
    | cell ad =>
      by_cases e : ad.block = Wg
      · exact absurd hl (ncW ad e).2
      · have s := sp ad.block e
        left
        simp only [RdL] at hl ⊢
        generalize hx : h ad.block = x at s
        generalize hy : hc ad.block = y at s hl
        generalize hz : h' ad.block = z at s
        obtain ⟨c', E', fr', h1, hr'⟩ := hl
        cases s with
        | mine => cases h1
        | give c E => exact ⟨c', E', fr', h1, hr'⟩
        | copy c E fr hr => exact ⟨c', E', fr', h1, hr'⟩
        | part E n a L v hv ha => cases h1
        | note L => cases h1
    | _ => exact hl.elim
  · cases l with
    | cell ad =>
      by_cases e : ad.block = Wg
      · exact absurd hl (nW ad e).1
      · have s := sp ad.block e
        simp only [OwnL] at hl ⊢
        generalize hx : h ad.block = x at s
        generalize hy : hc ad.block = y at s
        generalize hz : h' ad.block = z at s hl
        cases s with
        | mine => exact hl
        | give c E => rcases hl with ⟨c, E, fr, h1, _⟩ | ⟨_, v, n, E, h1⟩ | ⟨_, s, n, E, L, h1, _⟩ <;> cases h1
        | copy c E fr hr => exact hl
        | part E n a L v hv ha =>
          rcases hl with ⟨c, E', fr, h1, _⟩ | ⟨hs, v', n', E', h1⟩ | ⟨hs, s, n', E', L', h1, hle⟩
          · cases h1
          · cases h1
          · have := note_inj (Option.some.inj h1)
            exact .inr (.inr ⟨hs, a, n, E, L, rfl, by omega⟩)
        | note L => exact hl
    | obj r =>
      obtain ⟨o, hb, hm⟩ := hl
      by_cases e : r = Wg
      · subst e; rw [hW'] at hb; simp only [Option.some.injEq] at hb; subst hb; exact hm.elim
      · have s := sp r e
        rw [hb] at s
        generalize hx : h r = x at s
        generalize hy : hc r = y at s
        generalize hz : (some o : Option Obj) = z at s
        cases s with
        | mine => exact ⟨o, by rw [hx, hz], hm⟩
        | give c E => cases hz
        | copy c E fr hr => simp only [Option.some.injEq] at hz; subst hz; exact hm.elim
        | part E n a L v hv ha => simp only [Option.some.injEq] at hz; subst hz; exact hm.elim
        | note L => simp only [Option.some.injEq] at hz; subst hz; exact hm.elim
    | _ => exact hl.elim
  · cases l with
    | cell ad =>
      by_cases e : ad.block = Wg
      · exact absurd hl (nW ad e).2
      · have s := sp ad.block e
        left
        simp only [RdL] at hl ⊢
        generalize hx : h ad.block = x at s
        generalize hy : hc ad.block = y at s
        generalize hz : h' ad.block = z at s hl
        obtain ⟨c', E', fr', h1, hr'⟩ := hl
        cases s with
        | mine => exact ⟨c', E', fr', h1, hr'⟩
        | give c E => cases h1
        | copy c E fr hr => exact ⟨c', E', fr', h1, hr'⟩
        | part E n a L v hv ha => cases h1
        | note L => cases h1
    | _ => exact hl.elim

/-- A go STATEMENT. -/
theorem Cmp.fork (X : Cmp pr P j M Wg e0 γ 3 V ds N0 W0 Hs D false gs w t) {hc h' : H} {d : Value} {α : Tr} {a' child : Goroutine} (sp : ∀ b, b ≠ Wg → SpO pr (ds.length + 1) (Hs 0 b) (hc b) (h' b)) (hcW : hc Wg = some (nW pr d)) (hW' : h' Wg = some (nG pr 0 0 (ds ++ [d])))
    (hch : TW pr P α child hc) {x y : MemOp} (hx : x.g = 0 ∧ x.act = .go (j + 1)) (hy : y.g = j + 1 ∧ y.act = .start) :
    Cmp pr P (j + 1) M Wg e0 γ 0 0 (ds ++ [d]) N0 W0 (upd (upd Hs 0 h') (j + 1) hc) (updC D (j + 1) ⟨α, 8, 0, 0, d, 0, 0, undef⟩) false ((gs.setIfInBounds 0 a').push child) w (t ++ #[x, y]) := by
  obtain ⟨st, sm, hwg, hmode⟩ := X.wg
  obtain ⟨⟨s1, s2⟩, s3, s4⟩ := sp_sub sp hcW hW'
  have dl := X.I.dl
  obtain ⟨ho, hst, hsm, _⟩ := hmode.open_inv (tag := .sp 0 3) trivial
  have wd : ∀ i, i < j → wdf (updC D (j + 1) ⟨α, 8, 0, 0, d, 0, 0, undef⟩) i = wdf D i := fun i hi => by unfold wdf; rw [updC_ne _ _ (by omega)]
  have wj : (wdf (updC D (j + 1) ⟨α, 8, 0, 0, d, 0, 0, undef⟩) j).stage = 7 := by unfold wdf; rw [updC_same]; rfl
  refine ⟨X.I.fork sp hcW hW', X.tr.fork (by unfold dfsOf; rfl) hx hy s1 s2 s3 s4 (fun k hk => by simp only [updC_ne _ _ (show k ≠ j + 1 by omega)]) (fun k k1 hk => by unfold dfsOf; rw [if_neg (by omega), if_neg (by omega), updC_ne _ _ (by omega)]) rfl (by unfold dfsOf; rw [if_neg (by omega), updC_same]) (by simp only [updC_same]; omega), by simp [X.size], fun k k1 hk => ?_, fun k k1 hk => ?_, ⟨st, sm, hwg, ?_⟩, fun e => by omega, by have := X.jb.2 (.inl (.inr rfl)); omega, fun e => by omega⟩
  · by_cases e : k = j + 1
    · subst e
      refine ⟨child, ?_, ?_⟩
      · have hsz : (gs.setIfInBounds 0 a').size = j + 1 := by simp [X.size]
        rw [← hsz, Array.getElem?_push_size]
      · rw [updC_same, upd_same]; exact .inl ⟨rfl, rfl, hch⟩
    · obtain ⟨g, hg, hs⟩ := X.sit k k1 (by omega)
      refine ⟨g, ?_, by rw [updC_ne _ _ e, upd_ne _ _ e, upd_ne _ _ (by omega)]; exact hs⟩
      rw [Array.getElem?_push_lt (by simp [X.size]; omega), ← Array.getElem?_eq_getElem, Array.getElem?_setIfInBounds_ne (by omega)]
      exact hg
  · by_cases e : k = j + 1
    · subst e
      rw [updC_same, Nat.add_sub_cancel, ← dl]; simp
    · rw [updC_ne _ _ e]
      have := X.dd k k1 (by omega)
      rw [List.getElem?_append_left (List.getElem?_eq_some_iff.1 this).1]; exact this
  · have hV : Vc (j + 1) (wdf (updC D (j + 1) ⟨α, 8, 0, 0, d, 0, 0, undef⟩)) = Vc j (wdf D) + 1 := by
      simp only [Vc, sumTo]
      rw [sumTo_congr (fun i hi => by rw [wd i hi])]
      simp [cnt, wj]
    have : Go.ConcN.Mode (j + 1) (wdf (updC D (j + 1) ⟨α, 8, 0, 0, d, 0, 0, undef⟩)) .kd (((Vc (j + 1) (wdf (updC D (j + 1) ⟨α, 8, 0, 0, d, 0, 0, undef⟩)) + pend .kd : Nat) : Int) * KK) 0 :=
      .opn trivial (fun i hi => by
        by_cases e : i = j
        · subst e; rw [wj]; simp
        · rw [wd i (by omega)]; exact ho i (by omega)) (fun vs e => by cases e)
    rw [hV] at this
    rw [hst, hsm]
    exact this

/-- THE JOIN. -/
theorem Cmp.join (X : Cmp pr P j M Wg e0 γ 7 V ds N0 W0 Hs D false gs w t) (fn : FuncId) (pos : String) {a a' : Goroutine} : ∃ hs, Joined pr (Hs 0) ds hs w ∧ ∀ h', Hol h' w → Taken pr Wg (Hs 0) hs h' →
    Sol pr P j Wg N0 W0 D h' true ((gs.map (woken P a a' w)).setIfInBounds 0 a') w (t ++ MemOp.ofEvents 0 fn pos #[Go.ConcR.mk (.acquire (stA Wg))]) := by
  obtain ⟨st, sm, hwg, hmode⟩ := X.wg
  obtain ⟨hq, rfl, rfl⟩ := hmode.fin_inv (tag := .acq) trivial
  have st1 : ∀ k, 1 ≤ k → k ≤ j → (D k).stage = 1 := fun k k1 hk => by
    have := hq (k - 1) (by omega)
    unfold wdf at this
    simp only [show k - 1 + 1 = k by omega] at this
    omega
  have sits : ∀ k, 1 ≤ k → k ≤ j → ∃ g, gs[k]? = some g ∧ QuitsD P (D k).fuel (D k).deaf g ∧ Hs k (D k).C = some (.deferred none) ∧ pr.post (D k).d (hdel (Hs k) (D k).C) := by
    intro k k1 hk
    obtain ⟨g, hg, hs⟩ := X.sit k k1 hk
    rcases hs with ⟨h8, _⟩ | ⟨_, h2, h3, h4⟩
    · have := st1 k k1 hk; omega
    · exact ⟨g, hg, @Go.ConcN.WSit.quits ⟨(D k).E⟩ _ _ _ _ _ _ _ _ _ _ _ _ _ _ _ h2 (st1 k k1 hk), h3, h4⟩
  let hs : List H := (List.range j).map fun i => hdel (Hs (i + 1)) (D (i + 1)).C
  have hget : ∀ (i : Nat) (x : H), hs[i]? = some x → i < j ∧ x = hdel (Hs (i + 1)) (D (i + 1)).C := by
    intro i x hx
    simp only [hs, List.getElem?_map] at hx
    rcases Nat.lt_or_ge i j with h | h
    · rw [List.getElem?_range h] at hx
      simp only [Option.map_some, Option.some.injEq] at hx
      exact ⟨h, hx.symm⟩
    · rw [List.getElem?_eq_none (by simpa using h)] at hx; cases hx
  have hdl : ∀ {h : H} {C b : Nat} {o : Obj}, hdel h C b = some o → h b = some o ∧ b ≠ C := by
    intro h C b o hb
    unfold hdel at hb
    split at hb
    · cases hb
    · exact ⟨hb, by assumption⟩
  refine ⟨hs, ⟨by simp [hs, X.I.dl], fun i d x hd hx => ?_, fun x hx => ?_, M, γ, e0, X.I.hM, fun M' k L h => ?_, X.I.at_, X.I.hst, X.I.ext0, fun v hv => by rw [X.I.dl]; exact X.I.byle v hv, fun i x hx => ?_⟩, fun h' hol tk => ?_⟩
  · obtain ⟨hi, rfl⟩ := hget i x hx
    have h1 := X.dd (i + 1) (by omega) (by omega)
    simp only [Nat.add_sub_cancel] at h1
    rw [hd] at h1
    simp only [Option.some.injEq] at h1
    rw [h1]
    obtain ⟨_, _, _, _, h4⟩ := sits (i + 1) (by omega) (by omega)
    exact h4
  · obtain ⟨i, hi⟩ := List.mem_iff_getElem?.1 hx
    obtain ⟨hi, rfl⟩ := hget i x hi
    exact fun b o hb => X.I.hol (i + 1) (by omega) b o (hdl hb).1
  · rcases X.I.nts0 M' _ h (noteOf_ne _ _ _ _ _) with h1 | h1 | ⟨E, n, a, L', h1⟩
    · exact h1
    · subst h1
      have := (note_inj (Option.some.inj (h.symm.trans X.I.hW))).2.2.1; omega
    · have := (note_inj h1).2.2.1; omega
  · obtain ⟨hi, rfl⟩ := hget i x hx
    cases hb : hdel (Hs (i + 1)) (D (i + 1)).C M with
    | none => exact .inl rfl
    | some o =>
      right
      have h1 := (hdl hb).1
      rcases X.I.atM (k := i + 1) (by omega) with h2 | ⟨E, n, s, a, L, h2, _⟩
      · rw [h2] at h1; cases h1
      · rw [h2] at h1
        simp only [Option.some.injEq] at h1
        subst h1
        rcases X.I.ntc (i + 1) (by omega) (by omega) M _ h2 (noteOf_ne _ _ _ _ _) with ⟨_, L', e, hext⟩ | ⟨e, _⟩
        · exact ⟨L', by rw [e], hext⟩
        · exact absurd e X.I.ne
  · have e1 : MemOp.ofEvents 0 fn pos #[Go.ConcR.mk (.acquire (stA Wg))] = #[{ g := 0, fn, pos, act := .mark (.acquire (stA Wg)) }] := by rw [ofEvents_eq]; simp [ofEvent_mk]
    have hd0 : Deaf t 0 = 0 := X.tr.df 0 (by omega)
    have hrel : ∀ k, 1 ≤ k → k ≤ j → ∃ r, Rel Wg t k r := fun k k1 hk => X.tr.rel k k1 hk (by show (D k).stage ≤ 6; rw [st1 k k1 hk]; omega)
    have hsh : ∀ op ∈ MemOp.ofEvents 0 fn pos #[Go.ConcR.mk (.acquire (stA Wg))], ShOp (fun _ => False) 0 op := by
      intro op hop
      rw [e1] at hop
      simp at hop
      subst hop
      exact ⟨rfl, fun x hx => by simp [MemAct.touch?] at hx⟩
    have hstill : ∀ op ∈ MemOp.ofEvents 0 fn pos #[Go.ConcR.mk (.acquire (stA Wg))], op.act ≠ .mark .disable ∧ op.act ≠ .mark .enable := by
      intro op hop
      rw [e1] at hop
      simp at hop
      subst hop
      exact ⟨by simp, by simp⟩
    have hno : ∀ l, InB Wg l → ¬ OwnL h' l ∧ ¬ RdL h' l := fun l hl => note_noL (.inr ⟨_, _, _, _, _, tk.1, by omega⟩) hl
    have hperm : ∀ l, ¬ InB Wg l → Perm (t ++ MemOp.ofEvents 0 fn pos #[Go.ConcR.mk (.acquire (stA Wg))]) 0 l := fun l hl => by
      rw [e1]; exact join_knows X.tr.T hrel X.tr.norel hd0 ⟨rfl, rfl⟩ hl
    refine ⟨hol, fun b o hb => ?_, X.tr.T.sh (fun i a ha hs => hs.elim) (fun i op a _ _ hs => hs.elim) (fun l hl => hl.elim) (Nat.zero_le _) hsh, ⟨fun l hl => hperm l fun h => (hno l h).1 hl, fun l hl => .of (hperm l fun h => (hno l h).2 hl)⟩, by rw [Go.ConcN.Deaf_still t 0 _ hstill, hd0], X.I.bel, X.I.n0, fun b o hb hlt => ?_, by simp [X.size], fun k k1 hk => ?_, fun h => by simp at h, .inr ⟨rfl, tk.1, X.tr.norel.app fun op hop e => ?_, ?_⟩⟩
    · by_cases e : b = Wg
      · subst e
        have := tk.1
        rw [hb] at this
        simp only [Option.some.injEq] at this
        exact .inr ⟨rfl, rfl, this⟩
      · exact .inl (tk.2 b o hb e).1
    · have hW0 := X.I.Wg0
      obtain ⟨_, x, hx, y, hy, hor⟩ := tk.2 b o hb (by omega)
      have hyo : ∃ c E, y = .cells c E (roF c) := by
        rcases hx with rfl | hx
        · exact X.I.old 0 (by omega) b y hy hlt
        · obtain ⟨i, hi⟩ := List.mem_iff_getElem?.1 hx
          obtain ⟨hi, rfl⟩ := hget i x hi
          exact X.I.old (i + 1) (by omega) b y (hdl hy).1 hlt
      rcases hor with h | h
      · exact h
      · exact absurd hyo h
    · obtain ⟨g, hg, hqq, _⟩ := sits k k1 hk
      refine ⟨st1 k k1 hk, ?_, g, by rw [get_map_set _ _ _ _ (by omega), hg, Option.map_some, woken_quitsD hqq], hqq⟩
      rw [Go.ConcN.Deaf_still t k _ hstill]
      have := X.tr.df k hk
      rw [this, dfsOf, if_neg (by omega)]
    · rw [e1] at hop
      simp at hop
      subst hop
      simp at e
    · have hy : (t ++ #[({ g := 0, fn, pos, act := .mark (.acquire (stA Wg)) } : MemOp)])[t.size]? = some { g := 0, fn, pos, act := .mark (.acquire (stA Wg)) } := by simp
      refine ⟨t.size, by rw [e1, act?_of hy], by rw [e1, Trace.g?, hy]; rfl, by rw [e1]; exact ⟨0, by rw [Trace.g?, hy]; rfl, by rw [deaf_old (Nat.le_refl _)]; exact hd0⟩, fun i hi => ?_⟩
      obtain ⟨r, R⟩ := hrel (i + 1) (by omega) (by omega)
      exact ⟨r, R.rel.appOther g_of_ofEvents (by omega), lt_of_act? R.rel.act⟩
end
end Go.Proofs.Ytojhnclkhiffkaa

/-
  THE RUN: every step of the machine keeps the invariant and lowers the measure, or is the return, and all is well.
-/
namespace Go.Proofs.Ytojhnclkhiffkaa
open Go.Conc Go.RowKit
open Go.ConcN (upd upd_same upd_ne WSit WgLive WD Vc Vc_le pend isOpen isW3 isFin OpenSt AllQuit get_map_set get_map_set_same RelBy cnt sumTo exists_counted norel_of_Bk bk_cell)
open Go.ConcR (rd wr stA smA WgAt wgBlock KK Payload Bk g_of_ofEvents ofEvent_mk again_blocked)
set_option linter.unusedVariables false

/-! ### The measure -/
abbrev TrLT : Tr → Tr → Prop := Relation.TransGen Tr.lt
def wrk : WR → WR → Prop := Prod.Lex (· < ·) (Prod.Lex TrLT (· < ·))
def stepL {α : Type 1} (r : α → α → Prop) (l' l : List α) : Prop := ∃ (i : Nat) (x y : α), l[i]? = some y ∧ r x y ∧ l' = l.set i x
theorem stepL_nil {α : Type 1} {r : α → α → Prop} : Acc (stepL r) [] := ⟨_, fun l ⟨i, x, y, h, _⟩ => by simp at h⟩
theorem stepL_cons {α : Type 1} {r : α → α → Prop} {x : α} {l : List α} (hx : Acc r x) (hl : Acc (stepL r) l) : Acc (stepL r) (x :: l) := by
  induction hx generalizing l with
  | intro x _ ihx =>
    induction hl with
    | intro l hl ihl =>
      refine ⟨_, fun m ⟨i, a, b, h1, h2, h3⟩ => ?_⟩
      cases i with
      | zero =>
        simp only [List.getElem?_cons_zero, Option.some.injEq] at h1
        subst h1
        rw [h3]
        exact ihx a h2 ⟨_, hl⟩
      | succ i =>
        rw [h3, List.set_cons_succ]
        exact ihl _ ⟨i, a, b, by simpa using h1, h2, rfl⟩
theorem stepL_wf {α : Type 1} {r : α → α → Prop} (h : WellFounded r) : WellFounded (stepL r) := ⟨fun l => by
  induction l with
  | nil => exact stepL_nil
  | cons x l ih => exact stepL_cons (h.apply x) ih⟩
theorem TrLT.wf : WellFounded TrLT := Tr.wf.transGen
theorem wrk.wf : WellFounded wrk := (Prod.lex ⟨_, Nat.lt_wfRel.wf⟩ ⟨_, (Prod.lex ⟨_, TrLT.wf⟩ ⟨_, Nat.lt_wfRel.wf⟩).wf⟩).wf
abbrev Ms := Tr × (List WR × Nat)
def LtM : Ms → Ms → Prop := Prod.Lex TrLT (Prod.Lex (stepL wrk) (· < ·))
theorem LtM.wf : WellFounded LtM := (Prod.lex ⟨_, TrLT.wf⟩ ⟨_, (Prod.lex ⟨_, stepL_wf wrk.wf⟩ ⟨_, Nat.lt_wfRel.wf⟩).wf⟩).wf
/-- The invariant rule, whatever the measure's universe. -/
theorem run_inv {P : Program} {α : Type 1} {r : α → α → Prop} (wf : WellFounded r) (Inv : α → Machine → Trace → Prop) (Q : Machine → Outcome → World → Trace → Prop)
    (h : ∀ μ m t, Inv μ m t → (∃ o w ops, stepT P m = (.ended o w, ops) ∧ Q m o w (t ++ ops)) ∨ (∃ m' ops μ', stepT P m = (.next m', ops) ∧ r μ' μ ∧ Inv μ' m' (t ++ ops))) :
    ∀ μ m t, Inv μ m t → ∃ n last o w t', runNT P (n + 1) m t = (.ended o w, t') ∧ runN P n m = .next last ∧ step P last = .ended o w ∧ Q last o w t' := by
  intro μ
  induction μ using wf.induction with
  | _ μ ih =>
    intro m t hI
    rcases h μ m t hI with ⟨o, w, ops, hs, hq⟩ | ⟨m', ops, μ', hs, hr, hI'⟩
    · exact ⟨0, m, o, w, t ++ ops, by simp [runNT, hs], rfl, by simp [step, hs], hq⟩
    · obtain ⟨n, last, o, w, t', h1, h2, h3, h4⟩ := ih μ' hr m' (t ++ ops) hI'
      exact ⟨n + 1, last, o, w, t', by rw [runNT_succ_next hs]; exact h1, by rw [runN_succ_next hs]; exact h2, h3, h4⟩

section
variable (pr : Pro) (P : Program) (N0 : Nat) (W0 : World)
def Now (α : Tr) (l : List WR) (bit : Nat) (gs : Array Goroutine) (w : World) (t : Trace) : Prop :=
  ∃ a h, a.status = .running ∧ TM pr P α a h ∧
    ((∃ j Wg D cl, Sol pr P j Wg N0 W0 D h cl gs w t ∧ gs[0]? = some a ∧ l = ranks j D ∧ bit = 1) ∨
     (∃ j M Wg e0 γ ph V ds Hs D blk, Cmp pr P j M Wg e0 γ ph V ds N0 W0 Hs D blk gs w t ∧ Hs 0 = h ∧ gs[0]? = some (bl blk a) ∧ (blk = true → ph = 5 ∧ a.offers = none) ∧ l = ranks j D ∧ bit = if blk then 0 else 1))
end
section
variable {pr : Pro} {P : Program} {N0 : Nat} {W0 : World}
def Res (pr : Pro) (P : Program) (N0 : Nat) (W0 : World) (α : Tr) (l : List WR) (gs : Array Goroutine) (w : World) (sl : Option (Nat × Nat)) (t : Trace) : Prop :=
  (∃ o w₁ ops, runT P (crowd gs w sl) 0 = (.ended o w₁, ops) ∧ ∀ w₀ sl₀, Go.Conc.Good P (PostW pr N0 W0) (crowd gs w₀ sl₀) o w₁ (t ++ ops)) ∨
  (∃ gs' w' ops α' l' bit', runT P (crowd gs w sl) 0 = (.next (crowd gs' w' sl), ops) ∧ Now pr P N0 W0 α' l' bit' gs' w' (t ++ ops) ∧ (TrLT α' α ∨ (α' = α ∧ l' = l ∧ bit' = 0)))
theorem Res.up {α α' : Tr} {l l' : List WR} {gs : Array Goroutine} {w : World} {sl : Option (Nat × Nat)} {t : Trace} (h : TrLT α' α) (r : Res pr P N0 W0 α' l' gs w sl t) : Res pr P N0 W0 α l gs w sl t := by
  rcases r with r | ⟨gs', w', ops, β, l'', b, h1, h2, h3⟩
  · exact .inl r
  · refine .inr ⟨gs', w', ops, β, l'', b, h1, h2, .inl ?_⟩
    rcases h3 with h3 | ⟨rfl, _⟩
    · exact h3.trans h
    · exact h
theorem Upd_self {Hs : Nat → H} {b : Nat} {o : Obj} (h : Hs 0 b = some o) : upd Hs 0 (hupd (Hs 0) b o) = Hs := by
  funext k
  by_cases e : k = 0
  · subst e
    rw [upd_same]
    funext x
    unfold hupd
    by_cases hx : x = b
    · rw [if_pos hx, hx, h]
    · rw [if_neg hx]
  · rw [upd_ne _ _ e]

theorem TM_run : ∀ (α : Tr) {g : Goroutine} {h : H}, TM pr P α g h → g.status = .running := by
  intro α
  induction α with
  | mk ι f ih =>
    intro g h hT
    have hT' : RobM pr P (JW pr P) (fun g h => ∃ i, TM pr P (f i) g h) g h := hT
    cases hT' with
    | opn M Wg' e0 hn hM hW hp hb hne st => obtain ⟨i, hi⟩ := st; exact ih i hi
    | ro b c E hb st => obtain ⟨i, hi⟩ := st; exact ih i hi
    | part b c E hb hg st => obtain ⟨i, hi⟩ := st; exact ih i hi
    | _ => assumption
theorem TM_running {α : Tr} {g : Goroutine} {h : H} (hT : TM pr P α g h) : g.status = .running := TM_run α hT

set_option maxHeartbeats 2000000 in
theorem mainStep : ∀ (α : Tr) {l : List WR} {gs : Array Goroutine} {w : World} {t : Trace}, Now pr P N0 W0 α l 1 gs w t → ∀ sl, Res pr P N0 W0 α l gs w sl t := by
  intro α
  induction α with
  | mk ι f ih =>
    intro l gs w t hN sl
    obtain ⟨a, h, har, hT, hN⟩ := hN
    have hT' : RobM pr P (JW pr P) (fun g h => ∃ i, TM pr P (f i) g h) a h := hT
    have lt : ∀ i, TrLT (f i) (.mk ι f) := fun i => .single ⟨i, rfl⟩
    rcases hN with ⟨j, Wg, D, cl, X, ha, rfl, _⟩ | ⟨j, M, Wg, e0, γ, ph, V, ds, Hs, D, blk, X, rfl, ha, hblk, rfl, hbit⟩
    · -- ALONE
      have noG : ∀ {Wg' ph V ds}, h Wg' = some (nG pr ph V ds) → ph = 9 := by
        intro Wg' ph V ds hW
        rcases X.pl _ _ hW with hp | ⟨_, _, e⟩
        · exact absurd hp.2 (noteOf_ne _ _ _ _ _)
        · have := (note_inj e).2.2.1; omega
      cases hT' with
      | ord hs st =>
        obtain ⟨a', w', es, hgo, h1, F, i, hi⟩ := goes_inv (st w X.hol)
        refine .inr ⟨_, w', _, f i, _, 1, runT_crowd_go (i := 0) (g' := a') ha (by simpa using hgo), ⟨a', h1, TM_running hi, hi, .inl ⟨j, Wg, D, cl, X.own F _ _, get_map_set_same _ _ _ (by rw [X.size]; omega), rfl, rfl⟩⟩, .inl (lt i)⟩
      | ret hs hn st =>
        obtain ⟨v, es, hst, hev, hfin⟩ := st w X.hol
        exact .inl (X.ret ha hst hev hfin sl)
      | opn M Wg' e0 hn hM hW hp hb hne st =>
        obtain ⟨i, hi⟩ := st
        obtain ⟨rfl, C⟩ := X.opn hn hM hW hp hb hne
        exact (ih i ⟨a, _, har, hi, .inr ⟨0, M, Wg', e0, [e0], 0, 0, [], _, D, false, C, rfl, ha, by simp, rfl, rfl⟩⟩ sl).up (lt i)
      | ro b c E hb st =>
        obtain ⟨i, hi⟩ := st
        exact (ih i ⟨a, _, har, hi, .inl ⟨j, Wg, D, cl, X.aside0 hb, ha, rfl, rfl⟩⟩ sl).up (lt i)
      | part b c E hb hg st => obtain ⟨Wg', ph, V, ds, hlt, hW⟩ := hg; have := noG hW; omega
      | dis hs Wg' V ds hW st => have := noG hW; omega
      | said hs Wg' ph V ds hph hW st => have := noG hW; omega
      | add hs Wg' V ds hW hV st => have := noG hW; omega
      | ena hs Wg' ph V ds hph hW st => have := noG hW; omega
      | go hs Wg' V ds hW st => have := noG hW; omega
      | ld hs Wg' V ds hW st => have := noG hW; omega
      | cas hs Wg' u ds hW st => have := noG hW; omega
      | sem hs Wg' V ds ho hW st => have := noG hW; omega
      | ld2 hs Wg' V ds hW st => have := noG hW; omega
      | acq hs Wg' V ds hW st => have := noG hW; omega
    · -- IN COMPANY
      obtain rfl : blk = false := by cases blk with | false => rfl | true => simp at hbit
      have ha : gs[0]? = some a := ha
      have hol := X.I.hol 0 (by omega)
      obtain ⟨st, sm, hwg, hmode⟩ := X.wg
      have isW : ∀ {Wg' ph' V' ds'}, Hs 0 Wg' = some (nG pr ph' V' ds') → Wg' = Wg ∧ ph' = ph ∧ V' = V ∧ ds' = ds := by
        intro Wg' ph' V' ds' hW
        rcases X.I.nts0 _ _ hW (noteOf_ne _ _ _ _ _) with rfl | rfl | ⟨E, n, s, L, e⟩
        · have := (note_inj (Option.some.inj (hW.symm.trans X.I.hM))).2.2.1; omega
        · have := note_inj (Option.some.inj (hW.symm.trans X.I.hW))
          refine ⟨rfl, by omega, this.2.2.2.1, ?_⟩
          have := congrArg Array.toList this.2.2.2.2
          simpa using this
        · have := (note_inj e).2.2.1; omega
      have hVj := Vc_le j (wdf D)
      have dl := X.I.dl
      -- bookkeeping: all the phases
      have book : ∀ {a' : Goroutine} {w' : World} {es : Array Event} {ph' V' : Nat} {st' sm' : Int} {i : ι}, stepG P true a w = .go a' w' es → Aside Wg w w' → WgAt pr.tg Wg w' st' sm' → (∀ op ∈ MemOp.ofEvents 0 a.frame.fn a.frame.place es, ShOp (InB Wg) 0 op) → (∀ e ∈ es, e.loc ≠ .mark (.release (stA Wg))) →
          deafBehind (dph ph) es = dph ph' → Go.ConcN.Mode j (wdf D) (tagOf ph' V' false) st' sm' → (ph' = 1 → Vc j (wdf D) ≤ V') → ((ph' = 2 ∨ ph' = 3) ∨ 7 < ph' → j < 2147483646 ∧ ph' ≤ 7) → TM pr P (f i) a' (hupd (Hs 0) Wg (nG pr ph' V' ds)) →
          Res pr P N0 W0 (.mk ι f) (ranks j D) gs w sl t := by
        intro a' w' es ph' V' st' sm' i hgo hAs hwg' hsh hnr hdf hm hbd hjb hi
        exact .inr ⟨_, w', _, f i, _, 1, runT_crowd_go (i := 0) (g' := a') ha (by simpa using hgo), ⟨a', _, TM_running hi, hi, .inr ⟨j, M, Wg, e0, γ, ph', V', ds, _, D, false, X.book0 _ _ hAs hwg' hsh hnr hdf hm hbd hjb, upd_same _ _ _, get_map_set_same _ _ _ (by rw [X.size]; omega), by simp, rfl, rfl⟩⟩, .inl (lt i)⟩
      have mks : ∀ {m : Mark}, (MemAct.mark m).touch? = none → ∀ op ∈ MemOp.ofEvents 0 a.frame.fn a.frame.place #[Go.ConcR.mk m], ShOp (InB Wg) 0 op := by
        intro m hm op hop
        rw [ofEvents_eq] at hop
        simp only [List.map_toArray, List.map_cons, List.map_nil, List.mem_toArray, List.mem_cons, List.not_mem_nil, or_false] at hop
        subst hop
        refine ⟨rfl, fun x hx => ?_⟩
        rw [ofEvent_mk, hm] at hx; cases hx
      have bk : ∀ {es : Array Event}, (∀ e ∈ es, Bk Wg e) → (∀ op ∈ MemOp.ofEvents 0 a.frame.fn a.frame.place es, ShOp (InB Wg) 0 op) ∧ ∀ e ∈ es, e.loc ≠ .mark (.release (stA Wg)) := fun h => ⟨shop_of_Bk h, norel_of_Bk h⟩
      have brd : ∀ e ∈ #[rd (stA Wg)], Bk Wg e := by intro e he; simp at he; subst he; exact bk_cell _ _ rfl
      have brw : ∀ e ∈ #[rd (stA Wg), wr (stA Wg)], Bk Wg e := by intro e he; simp at he; rcases he with rfl | rfl <;> exact bk_cell _ _ rfl
      cases hT' with
      | ord hs st =>
        obtain ⟨a', w', es, hgo, h1, F, i, hi⟩ := goes_inv (st w hol)
        exact .inr ⟨_, w', _, f i, _, 1, runT_crowd_go (i := 0) (g' := a') ha (by simpa using hgo), ⟨a', h1, TM_running hi, hi, .inr ⟨j, M, Wg, e0, γ, ph, V, ds, _, D, false, X.own0 F _ _, upd_same _ _ _, get_map_set_same _ _ _ (by rw [X.size]; omega), by simp, rfl, rfl⟩⟩, .inl (lt i)⟩
      | ret hs hn st =>
        exfalso
        rcases hn with hn | ⟨Wg', hn⟩
        · rcases hn _ _ X.I.hM with h | h
          · exact absurd h.2 (noteOf_ne _ _ _ _ _)
          · have := (note_inj h).2.2.1; omega
        · obtain ⟨_, e, _⟩ := isW hn
          subst e
          have := (X.jb.2 (.inr (by omega))).2
          omega
      | opn M Wg' e0 hn hM hW hp hb hne st => exact absurd (hn _ _ X.I.hM).2 (noteOf_ne _ _ _ _ _)
      | ro b c E hb st =>
        obtain ⟨i, hi⟩ := st
        exact (ih i ⟨a, _, har, hi, .inr ⟨j, M, Wg, e0, γ, ph, V, ds, _, D, false, X.aside0 hb ((HolO_ro (isRo_roO c)).2 ⟨_, rfl, fun _ => rfl⟩) (fun h => absurd rfl h) (.inr (.inl ⟨c, E, _, rfl, isRo_roO c⟩)), upd_same _ _ _, ha, by simp, rfl, rfl⟩⟩ sl).up (lt i)
      | part b c E hb hg st =>
        obtain ⟨i, hi⟩ := st
        exact (ih i ⟨a, _, har, hi, .inr ⟨j, M, Wg, e0, γ, ph, V, ds, _, D, false, X.aside0 hb (HolO_note.2 ⟨c, rfl, rfl, fun _ _ _ => rfl, fun h => by omega⟩) (fun _ => ⟨E, c.size, 0, c, rfl⟩) (.inr (.inr ⟨E, c.size, 0, c, rfl⟩)), upd_same _ _ _, ha, by simp, rfl, rfl⟩⟩ sl).up (lt i)
      | dis hs Wg' V' ds' hW st' =>
        obtain ⟨rfl, rfl, rfl, rfl⟩ := isW hW
        obtain ⟨a', hgo, i, hi⟩ := st' w hol
        exact book (ph' := 1) (V' := ds'.length) hgo (.refl _ w) hwg (mks rfl) (by intro e he; simp at he; subst he; simp [Go.ConcR.mk]) rfl (hmode.reopen (tag := .kd) (tag' := .anch) trivial trivial rfl (fun vs e => by cases e)) (fun _ => by omega) (fun h => by omega) hi
      | said hs Wg' ph' V' ds' hph hW st' =>
        obtain ⟨rfl, rfl, rfl, rfl⟩ := isW hW
        obtain ⟨a', ad, hb, hgo, i, hi⟩ := st' w hol
        have hi' : TM pr P (f i) a' (hupd (Hs 0) Wg' (nG pr ph' V' ds')) := by
          have := congrFun (Upd_self (Hs := Hs) X.I.hW) 0
          rw [upd_same] at this
          rw [this]; exact hi
        rcases hgo with hgo | hgo
        · refine book (ph' := ph') (V' := V') hgo (.refl _ w) hwg ?_ (by intro e he; simp at he; subst he; simp [Go.ConcR.mk]) (Go.ConcN.deafBehind_idle (by intro e he; simp at he; subst he; simp [Go.ConcR.mk]) _) hmode X.bd X.jb.2 hi'
          intro op hop
          rw [ofEvents_eq] at hop
          simp only [List.map_toArray, List.map_cons, List.map_nil, List.mem_toArray, List.mem_cons, List.not_mem_nil, or_false] at hop
          subst hop
          refine ⟨rfl, fun x hx => ?_⟩
          simp only [ofEvent_mk, MemAct.touch?, Option.some.injEq] at hx
          subst hx
          exact ⟨⟨ad, rfl, hb⟩, by simp, fun _ => rfl⟩
        · refine book (ph' := ph') (V' := V') hgo (.refl _ w) hwg ?_ (by intro e he; simp at he; subst he; simp [Go.ConcR.mk]) (Go.ConcN.deafBehind_idle (by intro e he; simp at he; subst he; simp [Go.ConcR.mk]) _) hmode X.bd X.jb.2 hi'
          intro op hop
          rw [ofEvents_eq] at hop
          simp only [List.map_toArray, List.map_cons, List.map_nil, List.mem_toArray, List.mem_cons, List.not_mem_nil, or_false] at hop
          subst hop
          refine ⟨rfl, fun x hx => ?_⟩
          simp only [ofEvent_mk, MemAct.touch?, Option.some.injEq] at hx
          subst hx
          exact ⟨⟨ad, rfl, hb⟩, by simp, fun _ => rfl⟩
      | add hs Wg' V' ds' hW hV st' =>
        obtain ⟨rfl, rfl, rfl, rfl⟩ := isW hW
        obtain ⟨ho, rfl, rfl, _⟩ := hmode.open_inv (tag := .anch) trivial
        obtain ⟨a', hgo, i, hi⟩ := st' w (Vc j (wdf D)) (X.bd rfl) hol (by simpa [pend] using hwg)
        refine book (ph' := 2) (V' := V') hgo (aside_setCell w (stA Wg') _) (hwg.setSt _) (bk brw).1 (bk brw).2 (by simp [deafBehind, dph, rd, wr]) ?_ (fun h => by omega) (fun _ => by omega) hi
        have e : (((Vc j (wdf D) : Nat) : Int) + 1) * KK = ((Vc j (wdf D) + pend (.sp 0 3) : Nat) : Int) * KK := by simp [pend]
        rw [e]
        exact .opn trivial ho (fun vs e => by cases e)
      | ena hs Wg' ph' V' ds' hph hW st' =>
        obtain ⟨rfl, rfl, rfl, rfl⟩ := isW hW
        obtain ⟨a', hgo, i, hi⟩ := st' w hol
        rcases hph with rfl | rfl
        · exact book (ph' := 3) (V' := V') hgo (.refl _ w) hwg (mks rfl) (by intro e he; simp at he; subst he; simp [Go.ConcR.mk]) rfl hmode (fun h => by omega) (fun _ => ⟨(X.jb.2 (.inl (.inl rfl))).1, by omega⟩) hi
        · refine book (ph' := 7) (V' := V') hgo (.refl _ w) hwg (mks rfl) (by intro e he; simp at he; subst he; simp [Go.ConcR.mk]) rfl ?_ (fun h => by omega) (fun h => by omega) hi
          obtain ⟨hq, rfl, rfl⟩ := hmode.fin_inv (tag := .w4) trivial
          exact .fin trivial hq
      | go hs Wg' V' ds' hW st' =>
        obtain ⟨rfl, rfl, rfl, rfl⟩ := isW hW
        obtain ⟨a', child, d, hc, h', hgo, sp, hcW, hW', ⟨β, hch⟩, i, hi⟩ := st' w hol
        have hrun := runT_crowd_spawn (P := P) (sl := sl) (i := 0) ha (by simpa using hgo)
        have e0' : MemOp.ofEvents 0 a.frame.fn a.frame.place #[] = #[] := by rw [ofEvents_eq]; simp
        rw [e0', X.size] at hrun
        refine .inr ⟨_, w, _, f i, _, 1, hrun, ⟨a', h', TM_running hi, hi, .inr ⟨j + 1, M, Wg', e0, γ, 0, 0, _, _, _, false, X.fork sp hcW hW' hch (x := { g := 0, fn := a.frame.fn, pos := a.frame.place, act := .go (j + 1) }) (y := { g := j + 1, fn := child.frame.fn, pos := a.frame.place, act := .start }) ⟨rfl, rfl⟩ ⟨rfl, rfl⟩, ?_, ?_, by simp, rfl, rfl⟩⟩, .inl (lt i)⟩
        · rw [upd_ne _ _ (by omega), upd_same]
        · rw [Array.getElem?_push_lt (by simp [X.size]), ← Array.getElem?_eq_getElem]
          simp [X.size, bl]
      | ld hs Wg' V' ds' hW st' =>
        obtain ⟨rfl, rfl, rfl, rfl⟩ := isW hW
        obtain ⟨ho, rfl, rfl, _⟩ := hmode.open_inv (tag := .anch) trivial
        obtain ⟨a', hgo, i, hi⟩ := st' w (Vc j (wdf D)) (X.bd rfl) hol (by simpa [pend] using hwg)
        by_cases h0 : Vc j (wdf D) = 0
        · rw [if_pos h0] at hi
          refine book (ph' := 6) (V' := 0) hgo (.refl _ w) hwg (bk brd).1 (bk brd).2 (by simp [deafBehind, dph, rd]) ?_ (fun h => by omega) (fun h => by omega) hi
          have e : ((Vc j (wdf D) + pend .anch : Nat) : Int) * KK = 0 := by rw [h0]; simp [pend]
          rw [e]
          exact .fin trivial (Go.ConcN.allQuit_of ho h0)
        · rw [if_neg h0] at hi
          exact book (ph' := 4) (V' := (Vc j (wdf D))) hgo (.refl _ w) hwg (bk brd).1 (bk brd).2 (by simp [deafBehind, dph, rd]) (hmode.reopen (tag := .anch) (tag' := .w2 (Vc j (wdf D))) trivial trivial rfl (fun vs e => by cases e; omega)) (fun h => by omega) (fun h => by omega) hi
      | cas hs Wg' u ds' hW st' =>
        obtain ⟨rfl, rfl, rfl, rfl⟩ := isW hW
        obtain ⟨ho, rfl, rfl, hw2⟩ := hmode.open_inv (tag := .w2 u) trivial
        obtain ⟨hle, h1⟩ := hw2 u rfl
        obtain ⟨hhit, hmiss⟩ := st' w (Vc j (wdf D)) hle hol (by simpa [pend] using hwg)
        by_cases e : Vc j (wdf D) = u
        · obtain ⟨a', hgo, i, hi⟩ := hhit e
          exact book (ph' := 5) (V' := 0) hgo (aside_setCell w (stA Wg') _) (hwg.setSt _) (bk brw).1 (bk brw).2 (by simp [deafBehind, dph, rd, wr]) (.reg trivial ho (by omega)) (fun h => by omega) (fun h => by omega) hi
        · obtain ⟨a', hgo, i, hi⟩ := hmiss e
          exact book (ph' := 1) (V' := (Vc j (wdf D))) hgo (.refl _ w) hwg (bk brd).1 (bk brd).2 (by simp [deafBehind, dph, rd]) (hmode.reopen (tag := .w2 u) (tag' := .anch) trivial trivial rfl (fun vs e => by cases e)) (fun _ => Nat.le_refl _) (fun h => by omega) hi
      | sem hs Wg' V' ds' hoff hW st' =>
        obtain ⟨rfl, rfl, rfl, rfl⟩ := isW hW
        obtain ⟨hb, htake⟩ := st' w hol
        have block : WgAt pr.tg Wg' w st 0 → Go.ConcN.Mode j (wdf D) (tagOf 5 V' true) st 0 → sm = 0 → Res pr P N0 W0 (.mk ι f) (ranks j D) gs w sl t := by
          intro h0 hm hsm
          subst hsm
          have hgo := hb ⟨st, h0⟩
          have hnw : ∀ o, woken P a { a with status := .blocked } w o = o := fun o => by unfold woken; simp
          refine .inr ⟨_, w, _, .mk ι f, _, 0, runT_crowd_go (i := 0) (g' := { a with status := .blocked }) ha (by simpa using hgo), ⟨a, Hs 0, har, hT, .inr ⟨j, M, Wg', e0, γ, 5, V', ds', _, D, true, ?_, rfl, get_map_set_same _ _ _ (by rw [X.size]; omega), fun _ => ⟨rfl, hoff⟩, rfl, rfl⟩⟩, .inr ⟨rfl, rfl, rfl⟩⟩
          refine X.asm0 X.I ?_ (fun _ _ => rfl) (fun _ _ _ _ => rfl) h0 hm (fun h => by omega) (fun h => by omega)
          have : MemOp.ofEvents 0 a.frame.fn a.frame.place #[] = #[] := by rw [ofEvents_eq]; simp
          rw [this, Array.append_empty]
          exact X.tr
        generalize htag : tagOf 5 V' false = tag at hmode
        have e3 : tag = .w3 := by rw [← htag]; rfl
        subst e3
        cases hmode with
        | opn h1 _ _ => exact h1.elim
        | reg h1 h2 h3 => exact block hwg (.reg trivial h2 h3) rfl
        | last L h1 h2 h3 h4 => exact block hwg (.last L trivial h2 h3 h4) rfl
        | sema h2 =>
          obtain ⟨a', hgo, i, hi⟩ := htake hwg
          refine book (ph' := 6) (V' := 0) hgo (aside_setCell w (smA Wg') _) (hwg.setSm 0) (shop_of_Bk ?_) (norel_of_Bk (Wg := Wg') ?_) (by simp [deafBehind, dph, semEvents]) (.fin trivial h2) (fun h => by omega) (fun h => by omega) hi
          · intro e he
            simp [semEvents] at he
            rcases he with rfl | rfl | rfl | rfl
            · exact .inl rfl
            · exact bk_cell _ _ rfl
            · exact bk_cell _ _ rfl
            · exact .inr (.inl rfl)
          · intro e he
            simp [semEvents] at he
            rcases he with rfl | rfl | rfl | rfl
            · exact .inl rfl
            · exact bk_cell _ _ rfl
            · exact bk_cell _ _ rfl
            · exact .inr (.inl rfl)
        | fin h1 _ => exact h1.elim
      | ld2 hs Wg' V' ds' hW st' =>
        obtain ⟨rfl, rfl, rfl, rfl⟩ := isW hW
        obtain ⟨hq, rfl, rfl⟩ := hmode.fin_inv (tag := .w4) trivial
        obtain ⟨a', hgo, i, hi⟩ := st' w hol hwg
        have hi' : TM pr P (f i) a' (hupd (Hs 0) Wg' (nG pr 6 V' ds')) := by
          have := congrFun (Upd_self (Hs := Hs) X.I.hW) 0
          rw [upd_same] at this
          rw [this]; exact hi
        exact book (ph' := 6) (V' := V') hgo (.refl _ w) hwg (bk brd).1 (bk brd).2 (by simp [deafBehind, dph, rd]) (.fin trivial hq) (fun h => by omega) (fun h => by omega) hi'
      | acq hs Wg' V' ds' hW st' =>
        obtain ⟨rfl, rfl, rfl, rfl⟩ := isW hW
        obtain ⟨a', hgo, hJ⟩ := st' w hol
        obtain ⟨hs', hj, hS⟩ := X.join a.frame.fn a.frame.place (a := a) (a' := a')
        obtain ⟨h', k1, k2, i, hi⟩ := hJ hs' hj
        exact .inr ⟨_, w, _, f i, _, 1, runT_crowd_go (i := 0) (g' := a') ha (by simpa using hgo), ⟨a', h', TM_running hi, hi, .inl ⟨j, Wg', D, true, hS h' k1 k2, get_map_set_same _ _ _ (by rw [X.size]; omega), rfl, rfl⟩⟩, .inl (lt i)⟩

/-! ### A worker's step; the scheduler's draw -/
theorem rank_lt {j : Nat} {D : Nat → Ch} {k : Nat} (k1 : 1 ≤ k) (hk : k ≤ j) {c : Ch} (h : wrk (rank c) (rank (D k))) : stepL wrk (ranks j (updC D k c)) (ranks j D) := by
  refine ⟨k - 1, rank c, rank (D k), ?_, h, ranks_upd j D k1 hk c⟩
  unfold ranks
  rw [List.getElem?_map, List.getElem?_range (by omega)]
  simp [show k - 1 + 1 = k by omega]
theorem kidStep {α : Tr} {l : List WR} {bit : Nat} {gs : Array Goroutine} {w : World} {t : Trace} (hN : Now pr P N0 W0 α l bit gs w t) {k : Nat} (k1 : 1 ≤ k) {g : Goroutine} (hg : gs[k]? = some g) (hrun : g.status = .running) (sl : Option (Nat × Nat)) :
    ∃ gs' w' ops l' bit', runT P (crowd gs w sl) k = (.next (crowd gs' w' sl), ops) ∧ Now pr P N0 W0 α l' bit' gs' w' (t ++ ops) ∧ stepL wrk l' l := by
  obtain ⟨a, h, har, hT, hN⟩ := hN
  have hk0 : (k == 0) = false := by simp; omega
  rcases hN with ⟨j, Wg, D, cl, X, ha, rfl, _⟩ | ⟨j, M, Wg, e0, γ, ph, V, ds, Hs, D, blk, X, rfl, ha, hblk, rfl, hbit⟩
  · have hk : k ≤ j := by have := (Array.getElem?_eq_some_iff.1 hg).1; rw [X.size] at this; omega
    obtain ⟨g', es, c', hgo, h1, h2, h3, hX⟩ := X.kid k1 hk hg hrun
    obtain ⟨X', ha'⟩ := hX a ha har
    refine ⟨_, w, _, _, 1, runT_crowd_go (i := k) (g' := g') hg (by rw [hk0]; exact hgo), ⟨a, h, har, hT, .inl ⟨j, Wg, _, cl, X', ha', rfl, rfl⟩⟩, rank_lt k1 hk ?_⟩
    unfold rank
    rw [h1, h2]
    exact .right _ (.right _ h3)
  · have hk : k ≤ j := by have := (Array.getElem?_eq_some_iff.1 hg).1; rw [X.size] at this; omega
    rcases Nat.lt_or_ge (D k).stage 8 with h7 | h8
    · obtain ⟨g', w', es, c', blk', hgo, X', ha', hb', hr, hlt⟩ := X.low k1 hk (by omega) hg hrun ha har hblk
      refine ⟨_, w', _, _, _, runT_crowd_go (i := k) (g' := g') hg (by rw [hk0]; exact hgo), ⟨a, _, har, hT, .inr ⟨j, M, Wg, e0, γ, ph, V, ds, _, _, blk', X', rfl, ha', hb', rfl, rfl⟩⟩, rank_lt k1 hk ?_⟩
      unfold rank
      rcases hlt with hlt | ⟨h1, h2⟩
      · exact .left _ _ hlt
      · rw [h1, hr]; exact .right _ (.right _ (by omega))
    · have h8' : (D k).stage = 8 := by
        obtain ⟨_, _, hs⟩ := X.sit k k1 hk
        rcases hs with ⟨h, _⟩ | ⟨h, _⟩ <;> omega
      obtain ⟨g', w', es, γ', Hs', c', blk', hgo, X', ha', hb', h0, hlt⟩ := X.high k1 hk h8' hg hrun ha har hblk
      refine ⟨_, w', _, _, _, runT_crowd_go (i := k) (g' := g') hg (by rw [hk0]; exact hgo), ⟨a, _, har, hT, .inr ⟨j, M, Wg, e0, γ', ph, V, ds, _, _, blk', X', h0, ha', hb', rfl, rfl⟩⟩, rank_lt k1 hk ?_⟩
      unfold rank
      rcases hlt with ⟨h1, h2⟩ | h1
      · rw [h1, h8']; exact .right _ (.left _ _ (.single h2))
      · exact .left _ _ (by omega)

theorem HI.at {j M Wg : Nat} {e0 : Value} {γ : List Value} {ph V : Nat} {ds : List Value} {Hs : Nat → H} {w : World} (I : HI pr j M Wg e0 γ ph V ds N0 W0 Hs w) (d : Nat) : HI pr j M Wg e0 γ ph V ds N0 W0 Hs (w.at d) :=
  ⟨I.hol, I.ap, I.hM, I.hW, I.ne, I.nts0, I.ntc, I.dl, I.at_, I.pub, I.hst, I.ext0, I.byle, ⟨I.bel.os, I.bel.tape, I.bel.output, I.bel.size, I.bel.block⟩, I.n0, I.old⟩
theorem Now.at {α : Tr} {l : List WR} {bit : Nat} {gs : Array Goroutine} {w : World} {t : Trace} (hN : Now pr P N0 W0 α l bit gs w t) (d : Nat) : Now pr P N0 W0 α l bit gs (w.at d) t := by
  obtain ⟨a, h, har, hT, hN⟩ := hN
  refine ⟨a, h, har, hT, ?_⟩
  rcases hN with ⟨j, Wg, D, cl, X, ha, hl, hb⟩ | ⟨j, M, Wg, e0, γ, ph, V, ds, Hs, D, blk, X, hh, ha, hblk, hl, hbit⟩
  · exact .inl ⟨j, Wg, D, cl, ⟨X.hol, X.pl, X.T, X.p, X.df0, ⟨X.bel.os, X.bel.tape, X.bel.output, X.bel.size, X.bel.block⟩, X.n0, X.old, X.size, X.kids, X.nr0, X.done⟩, ha, hl, hb⟩
  · refine .inr ⟨j, M, Wg, e0, γ, ph, V, ds, Hs, D, blk, ⟨X.I.at d, X.tr, X.size, fun k k1 hk => ?_, X.dd, X.wg, X.bd, X.jb⟩, hh, ha, hblk, hl, hbit⟩
    obtain ⟨g, hg, hs⟩ := X.sit k k1 hk
    exact ⟨g, hg, hs.rely (fun _ => rfl) X.live⟩
theorem Sit.running {Wg : Nat} {c : Ch} {h : H} {g : Goroutine} {w : World} (s : Sit pr P Wg c h g w) (hs : c.stage ≠ 1) : g.status = .running := by
  rcases s with ⟨_, _, s⟩ | ⟨_, h2, _⟩
  · exact TW.running s
  · exact @Go.ConcN.WSit.running_of ⟨c.E⟩ _ _ _ _ _ _ _ _ _ _ _ _ _ _ _ h2 hs
/-- NO DEADLOCK; nobody sleeps. -/
theorem Now.alive {α : Tr} {l : List WR} {bit : Nat} {gs : Array Goroutine} {w : World} {t : Trace} (hN : Now pr P N0 W0 α l bit gs w t) : (∀ g ∈ gs, awake g) ∧ (∃ (i : Nat) (g : Goroutine), gs[i]? = some g ∧ g.status = .running) ∧ (∀ g, gs[0]? = some g → g.status = .running → bit = 1) := by
  obtain ⟨a, h, har, hT, hN⟩ := hN
  rcases hN with ⟨j, Wg, D, cl, X, ha, hl, hb⟩ | ⟨j, M, Wg, e0, γ, ph, V, ds, Hs, D, blk, X, hh, ha, hblk, hl, hbit⟩
  · refine ⟨fun g hg tm => ?_, ⟨0, a, ha, har⟩, fun _ _ _ => hb⟩
    obtain ⟨i, hi⟩ := Array.mem_iff_getElem?.1 hg
    by_cases h0 : i = 0
    · subst h0; rw [ha] at hi; cases hi; rw [har]; simp
    · obtain ⟨_, _, g1, hg1, hq⟩ := X.kids i (by omega) (by have := (Array.getElem?_eq_some_iff.1 hi).1; rw [X.size] at this; omega)
      rw [hi] at hg1; cases hg1
      rcases hq.status with h | h <;> rw [h] <;> simp
  · refine ⟨fun g hg tm => ?_, ?_, fun g hg hr => ?_⟩
    · obtain ⟨i, hi⟩ := Array.mem_iff_getElem?.1 hg
      by_cases h0 : i = 0
      · subst h0
        rw [ha] at hi; cases hi
        cases blk with
        | false => rw [show (bl false a).status = a.status from rfl, har]; simp
        | true => rw [show (bl true a).status = .blocked from rfl]; simp
      · obtain ⟨g1, hg1, hs⟩ := X.sit i (by omega) (by have := (Array.getElem?_eq_some_iff.1 hi).1; rw [X.size] at this; omega)
        rw [hi] at hg1; cases hg1
        rcases hs.status with h | h <;> rw [h] <;> simp
    · cases blk with
      | false => exact ⟨0, a, ha, har⟩
      | true =>
        obtain ⟨rfl, _⟩ := hblk rfl
        obtain ⟨st, sm, _, hm⟩ := X.wg
        have kid : ∀ i, i < j → (wdf D i).stage ≠ 1 → ∃ (i : Nat) (g : Goroutine), gs[i]? = some g ∧ g.status = .running := by
          intro i hi hne
          obtain ⟨g, hg, hs⟩ := X.sit (i + 1) (by omega) (by omega)
          refine ⟨i + 1, g, hg, hs.running fun e => hne ?_⟩
          unfold wdf
          rw [e]; rfl
        generalize htag : tagOf 5 V true = tag at hm
        have e3 : tag = .blk := by rw [← htag]; rfl
        subst e3
        cases hm with
        | opn h1 _ _ => exact h1.elim
        | reg _ _ h3 =>
          obtain ⟨i, hi, h5⟩ := exists_counted h3
          exact kid i hi (by omega)
        | last L _ h2 h3 _ => exact kid L h2 (by omega)
        | fin h1 _ => exact h1.elim
    · cases blk with
      | false => exact hbit
      | true => rw [ha] at hg; cases hg; rw [show (bl true a).status = .blocked from rfl] at hr; cases hr

/-- FROM THE ENTRY TO THE RETURN, ON EVERY TAPE. -/
theorem company_runs {a : Goroutine} {h : H} {w : World} (hJ : JM pr P a h) (hol : Hol h w) (hro : ∀ b o, h b = some o → ∃ c E, o = .cells c E (roF c)) :
    ∃ N last o w' t', runNT P (N + 1) (solo a w) #[] = (.ended o w', t') ∧ runN P N (solo a w) = .next last ∧ step P last = .ended o w' ∧ Go.Conc.Good P (fun v w' => ∃ h, pr.fin v h ∧ Hol h w' ∧ Below w.heap.size w w') last o w' t' := by
  obtain ⟨α, hT⟩ := hJ
  let Inv : Ms → Machine → Trace → Prop := fun μ m t => ∃ gs w1 sl, m = crowd gs w1 sl ∧ Now pr P w.heap.size w μ.1 μ.2.1 μ.2.2 gs w1 t
  have key : ∀ μ m t, Inv μ m t → (∃ o w' ops, stepT P m = (.ended o w', ops) ∧ Go.Conc.Good P (PostW pr w.heap.size w) m o w' (t ++ ops)) ∨ (∃ m' ops μ', stepT P m = (.next m', ops) ∧ LtM μ' μ ∧ Inv μ' m' (t ++ ops)) := by
    rintro ⟨α, l, bit⟩ m t ⟨gs, w1, sl, rfl, hN⟩
    obtain ⟨h1, h2, h3⟩ := hN.alive
    obtain ⟨i, g, d, sl', hg, hrun, hstep⟩ := crowd_pick (P := P) (w := w1) (sl := sl) h1 h2
    rw [hstep]
    have hN' := hN.at d
    by_cases h0 : i = 0
    · subst h0
      have hb := h3 g hg hrun
      simp only at hb
      subst hb
      rcases mainStep α hN' sl' with ⟨o, w', ops, k1, k2⟩ | ⟨gs', w', ops, α', l', bit', k1, k2, k3⟩
      · exact .inl ⟨o, w', ops, k1, k2 w1 sl⟩
      · refine .inr ⟨_, ops, (α', l', bit'), k1, ?_, gs', w', sl', rfl, k2⟩
        rcases k3 with k3 | ⟨rfl, rfl, rfl⟩
        · exact .left _ _ k3
        · exact .right _ (.right _ (by decide))
    · obtain ⟨gs', w', ops, l', bit', k1, k2, k3⟩ := kidStep hN' (by omega) hg hrun sl'
      exact .inr ⟨_, ops, (α, l', bit'), k1, .right _ (.left _ _ k3), gs', w', sl', rfl, k2⟩
  have har := TM_running hT
  let D0 : Nat → Ch := fun _ => ⟨.mk Empty Empty.elim, 0, 0, 0, undef, 0, 0, undef⟩
  have start : Inv (α, ranks 0 D0, 1) (solo a w) #[] := by
    refine ⟨#[a], w, none, rfl, a, h, har, hT, .inl ⟨0, 0, D0, false, ⟨hol, fun b o hb => ?_, ⟨fun said => Go.ConcN.noRace_nil said, fun i op hi => by simp at hi, fun i x hx => by simp [touchAt, Trace.act?] at hx⟩, ⟨fun l _ i a ha => by simp [touchAt, Trace.act?] at ha, fun l _ i a ha => by simp [touchAt, Trace.act?] at ha⟩, rfl, .refl _ _, Nat.le_refl _, fun b o hb _ => hro b o hb, rfl, fun k k1 hk => by omega, fun _ ad i => by simp [Trace.act?], .inl ⟨rfl, rfl⟩⟩, rfl, rfl, rfl⟩⟩
    obtain ⟨c, E, rfl⟩ := hro b o hb
    exact .inl ⟨rfl, rfl⟩
  exact run_inv LtM.wf Inv _ key _ _ _ start
#print axioms company_runs
end
end Go.Proofs.Ytojhnclkhiffkaa

/-
  sync.WaitGroup's functions and types in this program (as the kit's tool prints it).
-/
namespace Go.Proofs.Ytojhnclkhiffkaa
set_option maxRecDepth 100000
abbrev lnk : Go.Conc.Lib.WgLink := { add := 43, done := 45, wait := 47, relMerge := 52, disable := 53, enable := 54, inBubble := 55, associate := 56, fatal := 57, uOr := 58, uAdd := 59, raceRead := 60, uLoad := 61, uStore := 62, disassociate := 63, semrelease := 64, acquire := 65, isAssociated := 66, uCas := 67, raceWrite := 68, semacquire := 69, orU64 := 80, addU64 := 81, loadU64 := 82, storeU64 := 83, casU64 := 84, tWgP := 105, tUP := 49, tAssoc := 107, tWg := 99, tAU := 96, tU64 := 94, tUint := 103, tU32 := 97, tPU32 := 111, tPAU := 129, tPU64 := 131, tNoCopy := 93, tANoCopy := 29, tAlign64 := 30 }
theorem wgLib : Go.Conc.Lib.WgLib Try.prog lnk :=
  ⟨Try.func43, Try.func45, Try.func47, Try.func52, Try.func53, Try.func54, Try.func55, Try.func56, Try.func57, Try.func58, Try.func59, Try.func60, Try.func61, Try.func62, Try.func63, Try.func64, Try.func65, Try.func66, Try.func67, Try.func68, Try.func69, Try.func80, Try.func81, Try.func82, Try.func83, Try.func84, Try.underlying105, Try.runUnderlying105, Try.sizeOf105, Try.isAgg105, Try.zeroValue105, Try.underlying49, Try.runUnderlying49, Try.sizeOf49, Try.isAgg49, Try.zeroValue49, Try.underlying107, Try.runUnderlying107, Try.sizeOf107, Try.isAgg107, Try.zeroValue107, Try.underlying99, Try.runUnderlying99, Try.sizeOf99, Try.isAgg99, Try.zeroValue99, Try.underlying96, Try.runUnderlying96, Try.sizeOf96, Try.isAgg96, Try.zeroValue96, Try.underlying94, Try.runUnderlying94, Try.sizeOf94, Try.isAgg94, Try.zeroValue94, Try.underlying103, Try.runUnderlying103, Try.sizeOf103, Try.isAgg103, Try.zeroValue103, Try.underlying97, Try.runUnderlying97, Try.sizeOf97, Try.isAgg97, Try.zeroValue97, Try.underlying111, Try.runUnderlying111, Try.sizeOf111, Try.isAgg111, Try.zeroValue111, Try.underlying129, Try.runUnderlying129, Try.sizeOf129, Try.isAgg129, Try.zeroValue129, Try.underlying131, Try.runUnderlying131, Try.sizeOf131, Try.isAgg131, Try.zeroValue131, Try.underlying0, Try.runUnderlying0, Try.sizeOf0, Try.isAgg0, Try.zeroValue0, Try.underlying3, Try.runUnderlying3, Try.sizeOf3, Try.isAgg3, Try.zeroValue3, Try.underlying4, Try.runUnderlying4, Try.sizeOf4, Try.isAgg4, Try.zeroValue4, Try.underlying9, Try.runUnderlying9, Try.sizeOf9, Try.isAgg9, Try.zeroValue9, Try.underlying20, Try.runUnderlying20, Try.sizeOf20, Try.isAgg20, Try.zeroValue20, Try.underlying21, Try.runUnderlying21, Try.sizeOf21, Try.isAgg21, Try.zeroValue21, (by kernel_rfl), (by kernel_rfl)⟩
end Go.Proofs.Ytojhnclkhiffkaa

/-
  Calls of the model's entries in company: a worker's at the shared cell; the starter's at the group's cells; go.
-/
namespace Go.Proofs.Ytojhnclkhiffkaa
open Go.Conc
open Go.ConcR (rd wr stA smA WgAt wgBlock KK)
set_option linter.unusedVariables false

section
variable {Pg : Program} {main : Bool} {b : Frame} {a : Act} {k : List Item} {cs : List Frame} {ops : Array Oper} {i : Nat} {rest : List Nat} {o : Oper} {w w' : World} {f : FuncId} {fn : Func} {en : Array Value → Sem Value} {args : Array Value} {v : Value} {evs : Array Event}
/-- An entry is called: it answers. -/
theorem step_ext (ho : ops[i]? = some o) (hw : Region.wanted o (yielded ops a.tmps) = true) (hk : b.kind ≠ .early) (hs : (execOp a.eval o).runT Pg w #[] = (callFunc f args).runT Pg w #[])
    (hf : Pg.funcs[f]? = some fn) (hname : (fn.name == "runtime.NumGoroutine") = false) (hb : fn.body.isNone = true) (hn : Extern.findNext fn = none) (he : Extern.find fn = some en)
    (hrun : (en args).run Pg w = .ok v w') (hev : ∀ es, (en args).events Pg w es = es ++ evs) (hsy : ∀ x ∈ evs, x.sync = true ∧ ∀ g, x.loc ≠ .mark (.extern g)) :
    stepG Pg main (G (b.at a (.inRegion ops (i :: rest) :: k)) cs) w = .go (G (b.at (a.put o.dst v) (.inRegion ops rest :: k)) cs) w' evs := by
  have e1 : (execOp a.eval o).run Pg w = (callFunc f args).run Pg w := by
    have := congrArg Prod.fst hs
    rwa [Sem.runT_fst, Sem.runT_fst] at this
  have e2 : (execOp a.eval o).events Pg w #[] = (callFunc f args).events Pg w #[] := congrArg Prod.snd hs
  rw [stepG_value (v := v) (w' := w') ho hw hk (by rw [e1, run_callFunc_extern hf hname hb hn he, hrun]; rfl)]
  unfold listed
  rw [e2, events_callFunc_extern hf hname hb hn he]
  simp only [List.push_toArray, List.nil_append]
  rw [hev, seen_entry _ _ _ hsy]
/-- It waits. -/
theorem step_wait (ho : ops[i]? = some o) (hw : Region.wanted o (yielded ops a.tmps) = true) (hs : (execOp a.eval o).runT Pg w #[] = (callFunc f args).runT Pg w #[])
    (hf : Pg.funcs[f]? = some fn) (hname : (fn.name == "runtime.NumGoroutine") = false) (hb : fn.body.isNone = true) (hn : Extern.findNext fn = none) (he : Extern.find fn = some en) (hrun : (en args).run Pg w = .halt .blocked w') :
    stepG Pg main (G (b.at a (.inRegion ops (i :: rest) :: k)) cs) w = .go { G (b.at a (.inRegion ops (i :: rest) :: k)) cs with status := .blocked } w' #[] := by
  have hr : (execOp a.eval o).run Pg w = .halt .blocked w' := by
    have := congrArg Prod.fst hs
    rw [Sem.runT_fst, Sem.runT_fst] at this
    rw [this, run_callFunc_extern hf hname hb hn he, hrun]; rfl
  rw [stepG_oper ho hw]
  simp [stepG.apply, hr, G, GStep.after, seen_none]
end
theorem sy_rd (ad : Addr) : ∀ x ∈ #[rd ad], x.sync = true ∧ ∀ g, x.loc ≠ .mark (.extern g) := sync_r ad
theorem sy_rw (ad : Addr) : ∀ x ∈ #[rd ad, wr ad], x.sync = true ∧ ∀ g, x.loc ≠ .mark (.extern g) := sync_rw ad
theorem sy_mk {m : Mark} (hm : ∀ g, m ≠ .extern g) : ∀ x ∈ #[Go.ConcR.mk m], x.sync = true ∧ ∀ g, x.loc ≠ .mark (.extern g) := by
  intro x hx; simp at hx; subst hx; exact ⟨rfl, fun g h => hm g (Loc.mark.inj h)⟩

/-! ### A worker at the shared cell -/
section
variable {pr : Pro} {Pg : Program} {f : FuncId} {fn : Func} {h : H} {K : Value → H → Prop} {M k : Nat} {L : List Value} {ik : IntKind}
theorem Pro.At.blk {γ : List Value} {w : World} (ha : pr.At M γ w) : Blk w M #[pr.val γ] pr.E := ha.1
theorem Pro.Turn.load {γ : List Value} (hn : ∀ b, pr.pub γ b = none) : pr.Turn M k γ γ h (hupd h M (nM pr k γ)) :=
  ⟨hupd_same _ _ _, fun b hb => .inl (hupd_ne _ _ hb), fun _ _ h => h, fun b c E h => absurd h (by rw [hn]; simp)⟩
theorem Pro.Turn.snoc {γ γ' : List Value} (hn : ∀ b, pr.pub γ b = none) (hn' : ∀ b, pr.pub γ' b = none) : pr.Turn M k γ γ' h (hupd h M (nM pr k γ')) :=
  ⟨hupd_same _ _ _, fun b hb => .inl (hupd_ne _ _ hb), fun b x h => absurd h (by rw [hn]; simp), fun b c E h => absurd h (by rw [hn']; simp)⟩
end

/-! ### The starter at the group -/
section
variable {pr : Pro} {Pg : Program} {f : FuncId} {fn : Func} {h : H} {K : Value → H → Prop} {Wg ph V : Nat} {ds : List Value}
theorem wg_dis (hf : Pg.funcs[f]? = some fn) (hname : (fn.name == "runtime.NumGoroutine") = false) (hb : fn.body.isNone = true) (hn : Extern.findNext fn = none) (he : Extern.find fn = some (fun _ => do mark .disable; pure Extern.Race.none_)) {args : Array Value}
    (hW : h Wg = some (nG pr 0 V ds)) (hK : K (.tuple #[]) (hupd h Wg (nG pr 1 ds.length ds))) : Does (CM pr Pg) (callFunc f args) h K := by
  intro b a k' cs ops i rest o ho hw hk hs hV
  exact JM.of (.dis rfl Wg V ds hW fun w hh => ⟨_, step_ext ho hw hk (hs w) hf hname hb hn he (v := .tuple #[]) (by simp [Extern.Race.none_]) (fun es => by simp [Go.ConcR.mk]) (sy_mk (by simp)), hV _ _ hK⟩)
theorem wg_ena (hf : Pg.funcs[f]? = some fn) (hname : (fn.name == "runtime.NumGoroutine") = false) (hb : fn.body.isNone = true) (hn : Extern.findNext fn = none) (he : Extern.find fn = some (fun _ => do mark .enable; pure Extern.Race.none_)) {args : Array Value}
    (hph : ph = 2 ∨ ph = 6) (hW : h Wg = some (nG pr ph V ds)) (hK : K (.tuple #[]) (hupd h Wg (nG pr (ph + 1) V ds))) : Does (CM pr Pg) (callFunc f args) h K := by
  intro b a k' cs ops i rest o ho hw hk hs hV
  exact JM.of (.ena rfl Wg ph V ds hph hW fun w hh => ⟨_, step_ext ho hw hk (hs w) hf hname hb hn he (v := .tuple #[]) (by simp [Extern.Race.none_]) (fun es => by simp [Go.ConcR.mk]) (sy_mk (by simp)), hV _ _ hK⟩)
theorem wg_read (hf : Pg.funcs[f]? = some fn) (hname : (fn.name == "runtime.NumGoroutine") = false) (hb : fn.body.isNone = true) (hn : Extern.findNext fn = none) (he : Extern.find fn = some (Extern.Race.marked .read)) {o' : Nat}
    (hph : ph < 8) (hW : h Wg = some (nG pr ph V ds)) (hK : K (.tuple #[]) h) : Does (CM pr Pg) (callFunc f #[.pointer (some ⟨Wg, o', none⟩)]) h K := by
  intro b a k' cs ops i rest o ho hw hk hs hV
  exact JM.of (.said rfl Wg ph V ds hph hW fun w hh => ⟨_, ⟨Wg, o', none⟩, rfl, .inl (step_ext ho hw hk (hs w) hf hname hb hn he (v := .tuple #[]) (by simp [Extern.Race.marked, Extern.Race.at_, Extern.Race.none_]) (fun es => by simp [Extern.Race.marked, Extern.Race.at_, Go.ConcR.mk]) (sy_mk (by simp))), hV _ _ hK⟩)
theorem wg_write (hf : Pg.funcs[f]? = some fn) (hname : (fn.name == "runtime.NumGoroutine") = false) (hb : fn.body.isNone = true) (hn : Extern.findNext fn = none) (he : Extern.find fn = some (Extern.Race.marked .write)) {o' : Nat}
    (hph : ph < 8) (hW : h Wg = some (nG pr ph V ds)) (hK : K (.tuple #[]) h) : Does (CM pr Pg) (callFunc f #[.pointer (some ⟨Wg, o', none⟩)]) h K := by
  intro b a k' cs ops i rest o ho hw hk hs hV
  exact JM.of (.said rfl Wg ph V ds hph hW fun w hh => ⟨_, ⟨Wg, o', none⟩, rfl, .inr (step_ext ho hw hk (hs w) hf hname hb hn he (v := .tuple #[]) (by simp [Extern.Race.marked, Extern.Race.at_, Extern.Race.none_]) (fun es => by simp [Extern.Race.marked, Extern.Race.at_, Go.ConcR.mk]) (sy_mk (by simp))), hV _ _ hK⟩)
theorem wg_add (hf : Pg.funcs[f]? = some fn) (hname : (fn.name == "runtime.NumGoroutine") = false) (hb : fn.body.isNone = true) (hn : Extern.findNext fn = none) (he : Extern.find fn = some (Extern.Atomic.update (Op.intArith .add) .u64 true)) {d : Int} (hd : d = KK)
    (hl : ds.length < 2147483646) (hW : h Wg = some (nG pr 1 V ds)) (hVb : V < 2147483646) (hK : ∀ v : Nat, v ≤ V → K (.int .u64 ((v + 1) * KK)) (hupd h Wg (nG pr 2 V ds))) : Does (CM pr Pg) (callFunc f #[.pointer (some (stA Wg)), .int .u64 d]) h K := by
  intro b a k' cs ops i rest o ho hw hk hs hV
  refine JM.of (.add rfl Wg V ds hW hl fun w v hv hh hg => ?_)
  have e : IntKind.u64.wrap (v * KK + d) = (v + 1) * KK := by rw [hd, IntKind.wrap_u64]; simp only [KK]; omega
  exact ⟨_, step_ext ho hw hk (hs w) hf hname hb hn he (v := .int .u64 ((v + 1) * KK)) (by rw [run_add_entry hg.cellSt (hg.thaw 0), e]) (fun es => by rw [events_add_entry hg.cellSt (hg.thaw 0)]; exact Array.ext' (by simp [rd, wr])) (sy_rw _), hV _ _ (hK v hv)⟩
theorem wg_ld (hf : Pg.funcs[f]? = some fn) (hname : (fn.name == "runtime.NumGoroutine") = false) (hb : fn.body.isNone = true) (hn : Extern.findNext fn = none) (he : Extern.find fn = some (Extern.Atomic.loadT (.int .u64)))
    (hW : h Wg = some (nG pr 1 V ds)) (hK : ∀ v : Nat, v ≤ V → K (.int .u64 (v * KK)) (hupd h Wg (if v = 0 then nG pr 6 0 ds else nG pr 4 v ds))) : Does (CM pr Pg) (callFunc f #[.pointer (some (stA Wg))]) h K := by
  intro b a k' cs ops i rest o ho hw hk hs hV
  refine JM.of (.ld rfl Wg V ds hW fun w v hv hh hg => ?_)
  obtain ⟨r1, r2⟩ := run_aload (P := Pg) (o := 0) (k := .u64) (n := v * KK) (show Blk w Wg #[.int .u64 (v * KK), .int .u32 0] pr.tg from hg) rfl
  exact ⟨_, step_ext ho hw hk (hs w) hf hname hb hn he r1 r2 (sy_rd _), hV _ _ (hK v hv)⟩
theorem wg_ld2 (hf : Pg.funcs[f]? = some fn) (hname : (fn.name == "runtime.NumGoroutine") = false) (hb : fn.body.isNone = true) (hn : Extern.findNext fn = none) (he : Extern.find fn = some (Extern.Atomic.loadT (.int .u64)))
    (hW : h Wg = some (nG pr 6 V ds)) (hK : K (.int .u64 0) h) : Does (CM pr Pg) (callFunc f #[.pointer (some (stA Wg))]) h K := by
  intro b a k' cs ops i rest o ho hw hk hs hV
  refine JM.of (.ld2 rfl Wg V ds hW fun w hh hg => ?_)
  obtain ⟨r1, r2⟩ := run_aload (P := Pg) (o := 0) (k := .u64) (n := 0) (show Blk w Wg #[.int .u64 0, .int .u32 0] pr.tg from hg) rfl
  exact ⟨_, step_ext ho hw hk (hs w) hf hname hb hn he r1 r2 (sy_rd _), hV _ _ hK⟩
theorem wg_cas (hf : Pg.funcs[f]? = some fn) (hname : (fn.name == "runtime.NumGoroutine") = false) (hb : fn.body.isNone = true) (hn : Extern.findNext fn = none) (he : Extern.find fn = some (Extern.Atomic.casT (.int .u64))) {u : Nat} {x y : Int} (hx : x = u * KK) (hy : y = u * KK + 1)
    (hW : h Wg = some (nG pr 4 u ds)) (hit : K (.bool true) (hupd h Wg (nG pr 5 0 ds))) (miss : ∀ v : Nat, v < u → K (.bool false) (hupd h Wg (nG pr 1 v ds))) : Does (CM pr Pg) (callFunc f #[.pointer (some (stA Wg)), .int .u64 x, .int .u64 y]) h K := by
  intro b a k' cs ops i rest o ho hw hk hs hV
  subst hx hy
  refine JM.of (.cas rfl Wg u ds hW fun w v hv hh hg => ⟨fun e => ?_, fun e => ?_⟩)
  · subst e
    obtain ⟨r1, r2⟩ := run_acas_hit (P := Pg) (o := 0) (k := .u64) (n := v * KK) (y := v * KK + 1) (show Blk w Wg #[.int .u64 (v * KK), .int .u32 0] pr.tg from hg) rfl
    exact ⟨_, step_ext ho hw hk (hs w) hf hname hb hn he r1 r2 (sy_rw _), hV _ _ hit⟩
  · obtain ⟨r1, r2⟩ := run_acas_miss (P := Pg) (o := 0) (k := .u64) (n := v * KK) (x := u * KK) (y := u * KK + 1) (show Blk w Wg #[.int .u64 (v * KK), .int .u32 0] pr.tg from hg) rfl (by simp only [KK]; omega)
    exact ⟨_, step_ext ho hw hk (hs w) hf hname hb hn he r1 r2 (sy_rd _), hV _ _ (miss v (by omega))⟩
theorem wg_acq (hf : Pg.funcs[f]? = some fn) (hname : (fn.name == "runtime.NumGoroutine") = false) (hb : fn.body.isNone = true) (hn : Extern.findNext fn = none) (he : Extern.find fn = some (Extern.Race.marked .acquire))
    (hW : h Wg = some (nG pr 7 V ds)) (hK : ∀ w, Hol h w → ∀ hs, Joined pr h ds hs w → ∃ h', Hol h' w ∧ Taken pr Wg h hs h' ∧ K (.tuple #[]) h') : Does (CM pr Pg) (callFunc f #[.pointer (some (stA Wg))]) h K := by
  intro b a k' cs ops i rest o ho hw hk hs hV
  refine JM.of (.acq rfl Wg V ds hW fun w hh => ⟨_, step_ext ho hw hk (hs w) hf hname hb hn he (v := .tuple #[]) (by simp [Extern.Race.marked, Extern.Race.at_, Extern.Race.none_]) (fun es => by simp [Extern.Race.marked, Extern.Race.at_, Go.ConcR.mk]) (sy_mk (by simp)), fun hs hj => ?_⟩)
  obtain ⟨h', k1, k2, k3⟩ := hK w hh hs hj
  exact ⟨h', k1, k2, hV _ _ k3⟩
theorem wg_sem (hf : Pg.funcs[f]? = some fn) (hname : (fn.name == "runtime.NumGoroutine") = false) (hb : fn.body.isNone = true) (hn : Extern.findNext fn = none) (he : Extern.find fn = some Extern.Sync.semacquire) {args : Array Value} (ha : args[0]? = some (.pointer (some (smA Wg))))
    (hW : h Wg = some (nG pr 5 V ds)) (hK : K (.tuple #[]) (hupd h Wg (nG pr 6 0 ds))) : Does (CM pr Pg) (callFunc f args) h K := by
  intro b a k' cs ops i rest o ho hw hk hs hV
  refine JM.of (.sem rfl Wg V ds rfl hW fun w hh => ⟨fun ⟨st, hg⟩ => ?_, fun hg => ?_⟩)
  · exact step_wait ho hw (hs w) hf hname hb hn he (by simp [Extern.Sync.semacquire, Extern.Sync.count, ha, hg.cellSm])
  · have hc : w.cell? (smA Wg) = some (.int .u32 1) := hg.cellSm
    have hz : w.frozen? (smA Wg) = false := hg.thaw 1
    generalize hsm : smA Wg = ad at *
    refine ⟨_, step_ext ho hw hk (hs w) hf hname hb hn he (v := .tuple #[]) (evs := semEvents ad) (by simp [Extern.Sync.semacquire, Extern.Sync.count, ha, hc, hz, Extern.Sync.none_, run_store Pg w ad (.int .u32 0) .atomic rfl, Result.andThen]) (fun es => ?_) (semEvents_sync _), hV _ _ hK⟩
    simp [Extern.Sync.semacquire, Extern.Sync.count, ha, hc, hz, semEvents, events_load, events_store Pg w _ ad (.int .u32 0) .atomic rfl, run_store Pg w ad (.int .u32 0) .atomic rfl, Result.evThen]
    exact Array.ext' (by simp)
end
end Go.Proofs.Ytojhnclkhiffkaa

/-
  The mark in company: a history that rises; what a worker's calls do to it.
-/
namespace Go.Proofs.Ytojhnclkhiffkaa.mk
open Go.Proofs.Ytojhnclkhiffkaa
set_option linter.unusedVariables false
set_option linter.unusedSimpArgs false

/-! ### Histories -/
/-- An entry: the number, who raised it. -/
def ent (x : Int) (k : Nat) : Value := .tuple #[.int .i64 x, .int .i64 (k : Int)]
def entV : Value → Int
  | .tuple ⟨[.int .i64 x, .int .i64 _]⟩ => x
  | _ => 0
def entB : Value → Nat
  | .tuple ⟨[.int .i64 _, .int .i64 k]⟩ => k.toNat
  | _ => 0
def lastV (γ : List Value) : Int := match γ.getLast? with
  | some v => entV v
  | none => 0
def okE (γ : List Value) (v : Value) : Prop := ∃ x k, v = ent x k ∧ lastV γ < x
/-- The protocol of a run of marks; what workers leave, what the starter answers, is said by whoever uses it. -/
def mpr (post : Value → H → Prop) (fin : Value → H → Prop) : Pro := ⟨34, 99, fun γ => .int .i64 (lastV γ), entB, okE, fun _ _ => none, post, fin⟩
section
variable {post : Value → H → Prop} {fin : Value → H → Prop}
/-! ### A worker's calls -/
variable {h : H} {M k : Nat} {L : List Value}
/-- The history that is known. -/
def hisOf (h : H) (M : Nat) : List Value := match h M with
  | some o => match noteOf o with
    | some (_, _, _, _, G) => G.toList
    | none => []
  | none => []
end
end Go.Proofs.Ytojhnclkhiffkaa.mk
namespace Go.Proofs.Ytojhnclkhiffkaa.mk
open Go.Proofs.Ytojhnclkhiffkaa
set_option linter.unusedVariables false
set_option linter.unusedSimpArgs false
/-- Whose entries these are. -/
def own (k : Nat) (γ : List Value) : List Int := (γ.filter fun v => decide (entB v = k)).map entV
def yes : List Int → List Bool → List Int
  | x :: xs, b :: bs => if b then x :: yes xs bs else yes xs bs
  | _, _ => []
section
variable {post : Value → H → Prop} {fin : Value → H → Prop}
theorem slFr2 {T : Nat → Prop} {h h' : H} {v : Value} {xs : List Value} (s : Sl h v xs) (f : Fr T h h') (hT : ∀ b c E fr, h b = some (.cells c E fr) → ¬ T b) : Sl h' v xs := by
  rcases s with s | ⟨b, o, cp, c, E, fr, h1, h2, h3⟩
  · exact .inl s
  · exact .inr ⟨b, o, cp, c, E, fr, h1, f _ _ h2 (hT b c E fr h2), h3⟩
end
end Go.Proofs.Ytojhnclkhiffkaa.mk
namespace Go.Proofs.Ytojhnclkhiffkaa.mk
open Go.Proofs.Ytojhnclkhiffkaa
set_option linter.unusedVariables false
set_option linter.unusedSimpArgs false
/-- Never falling, from a on. -/
def chain (a : Int) : List Int → Prop
  | [] => True
  | x :: r => a ≤ x ∧ chain x r
def lastOf (a : Int) : List Int → Int
  | [] => a
  | x :: r => lastOf x r
theorem chain_snoc : ∀ (a : Int) (ss : List Int) (x : Int), chain a ss → lastOf a ss ≤ x → chain a (ss ++ [x])
  | a, [], x, _, h => ⟨h, trivial⟩
  | a, y :: r, x, ⟨h1, h2⟩, h => ⟨h1, chain_snoc y r x h2 h⟩
theorem lastOf_snoc : ∀ (a : Int) (ss : List Int) (x : Int), lastOf a (ss ++ [x]) = x
  | a, [], x => rfl
  | a, y :: r, x => lastOf_snoc y r x
section
variable {post : Value → H → Prop} {fin : Value → H → Prop}
end
end Go.Proofs.Ytojhnclkhiffkaa.mk

