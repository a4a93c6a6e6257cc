/-
  The starter alone: ahead of all workers, or behind the join, the workers only leaving.
-/
import Derived.Test.YtojhnclkhiffkaaU9
namespace Go.Proofs.Ytojhnclkhiffkaa
open Go.Conc Go.RowKit
open Go.ConcN (upd upd_same upd_ne RelBy AcqAll handedOver_all norel_of norel_of_Bk get_map_set get_map_set_same runT_crowd_ended)
open Go.ConcR (rd wr mk stA smA WgAt wgBlock KK Bk bk_of_mute ofEvent_loc_mark g_of_ofEvents)
set_option linter.unusedVariables false

abbrev WR := Nat × (Tr × Nat)
def rank (c : Ch) : WR := (c.stage, (c.rk, c.fuel))
def ranks (j : Nat) (D : Nat → Ch) : List WR := (List.range j).map fun i => rank (D (i + 1))
theorem ranks_upd (j : Nat) (D : Nat → Ch) {k : Nat} (k1 : 1 ≤ k) (hk : k ≤ j) (c : Ch) : ranks j (updC D k c) = (ranks j D).set (k - 1) (rank c) := by
  apply List.ext_getElem?
  intro n
  unfold ranks
  rw [List.getElem?_set]
  simp only [List.getElem?_map]
  by_cases e : k - 1 = n
  · subst e
    rw [if_pos rfl]
    simp only [List.length_map, List.length_range]
    rw [if_pos (by omega), List.getElem?_range (by omega)]
    simp [show k - 1 + 1 = k by omega, updC_same]
  · rw [if_neg e]
    rcases Nat.lt_or_ge n j with h | h
    · rw [List.getElem?_range h]
      simp [updC_ne _ _ (show n + 1 ≠ k by omega)]
    · rw [List.getElem?_eq_none (by simpa using h)]; rfl

section
variable (pr : Pro) (P : Program)
structure Sol (j Wg N0 : Nat) (W0 : World) (D : Nat → Ch) (h : H) (cl : Bool) (gs : Array Goroutine) (w : World) (t : Trace) : Prop where
  hol : Hol h w
  pl : ∀ b o, h b = some o → plainO o ∨ (cl = true ∧ b = Wg ∧ o = nG pr 9 0 [])
  T : TrI t w.heap.size j
  p : TP t 0 h
  df0 : Deaf t 0 = 0
  bel : Below N0 W0 w
  n0 : N0 ≤ w.heap.size
  old : ∀ b o, h b = some o → b < N0 → ∃ c E, o = .cells c E (roF c)
  size : gs.size = j + 1
  kids : ∀ k, 1 ≤ k → k ≤ j → (D k).stage = 1 ∧ Deaf t k = (D k).deaf ∧ ∃ g, gs[k]? = some g ∧ QuitsD P (D k).fuel (D k).deaf g
  nr0 : cl = false → ∀ a, NoRelease a t
  done : (j = 0 ∧ cl = false) ∨ (cl = true ∧ h Wg = some (nG pr 9 0 []) ∧ NoRelease (stA Wg) t ∧ AcqAll Wg j t)
/-- What the run's end is to be. -/
def PostW (N0 : Nat) (W0 : World) (v : Value) (w : World) : Prop := ∃ h, pr.fin v h ∧ Hol h w ∧ Below N0 W0 w
end
section
variable {pr : Pro} {P : Program} {j Wg N0 : Nat} {W0 : World} {D : Nat → Ch} {h : H} {cl : Bool} {gs : Array Goroutine} {w w' : World} {t : Trace}
theorem Fra.below {h1 : H} {es : Array Event} (f : Fra h w h1 w' es) (bel : Below N0 W0 w) (n0 : N0 ≤ w.heap.size) (old : ∀ b o, h b = some o → b < N0 → ∃ c E, o = .cells c E (roF c)) :
    Below N0 W0 w' ∧ N0 ≤ w'.heap.size ∧ ∀ b o, h1 b = some o → b < N0 → ∃ c E, o = .cells c E (roF c) := by
  have low : ∀ b, b < N0 → w'.heap[b]? = w.heap[b]? := by
    intro b hb
    refine f.block (Nat.lt_of_lt_of_le hb n0) ?_
    cases hx : h b with
    | none => exact .inl rfl
    | some o =>
      obtain ⟨c, E, rfl⟩ := old b o hx hb
      exact .inr (.inl ⟨c, E, _, rfl, isRo_roF c⟩)
  refine ⟨⟨f.os.trans bel.os, f.tape.trans bel.tape, f.output.trans bel.output, Nat.le_trans bel.size f.size, fun b hb => (low b hb).trans (bel.block b hb)⟩, Nat.le_trans n0 f.size, fun b o hb hlt => ?_⟩
  obtain ⟨o0, h0, hc⟩ := f.old _ _ hb (Nat.lt_of_lt_of_le hlt n0)
  obtain ⟨c, E, rfl⟩ := old b o0 h0 hlt
  exact ⟨c, E, chO_ro hc (isRo_roF c)⟩
theorem acq_app {u : Trace} (h : AcqAll Wg j t) {g : Nat} (hu : ∀ op ∈ u, op.g = g) (hg : ∀ i r, i < j → i + 1 = g → RelBy (stA Wg) t (i + 1) r → RelBy (stA Wg) (t ++ u) (i + 1) r) : AcqAll Wg j (t ++ u) :=
  h.app fun i r hi hr => by
    by_cases e : i + 1 = g
    · exact hg i r hi e hr
    · exact hr.appOther hu (Ne.symm e)
/-- An own step of the starter's. -/
theorem Sol.own (X : Sol pr P j Wg N0 W0 D h cl gs w t) {a a' : Goroutine} {h1 : H} {es : Array Event} (F : Fra h w h1 w' es) (fn : FuncId) (pos : String) :
    Sol pr P j Wg N0 W0 D h1 cl ((gs.map (woken P a a' w')).setIfInBounds 0 a') w' (t ++ MemOp.ofEvents 0 fn pos es) := by
  obtain ⟨b1, b2, b3⟩ := F.below X.bel X.n0 X.old
  have hu : ∀ op ∈ MemOp.ofEvents 0 fn pos es, WiOp 0 h1 op := wi_of F.ev fn pos
  have hp := X.p.fra X.T F
  have hst := still_of (k := 0) (fn := fn) (pos := pos) (es := es) fun e he => ⟨(F.ev e he).mark.1, (F.ev e he).mark.2.1⟩
  refine ⟨F.hol, fun b o hb => ?_, X.T.own hp (fun l hl => hl.elim (fun h => h.lt F.hol) (fun h => h.lt F.hol)) F.size (Nat.zero_le _) hu, hp.app fun op hop => (hu op hop).1, by rw [Go.ConcN.Deaf_still t 0 _ hst, X.df0], b1, b2, b3, by simp [X.size], fun k k1 hk => ?_, ?_, ?_⟩
  · cases hno : noteOf o with
    | some z =>
      have hb0 := F.noteOld hb (by rw [hno]; simp)
      rcases X.pl b o hb0 with hpl | hpl
      · rw [hpl.2] at hno; cases hno
      · exact .inr hpl
    | none =>
      cases hone : oneOf o with
      | none => exact .inl ⟨hone, hno⟩
      | some z =>
        exfalso
        obtain ⟨i, v, n, E⟩ := z
        have e1 := oneOf_spec hone
        by_cases hlt : b < w.heap.size
        · obtain ⟨o0, h0, hc⟩ := F.old _ _ hb hlt
          rcases X.pl b o0 h0 with hpl | ⟨_, _, rfl⟩
          · rw [e1] at hc
            cases o0 with
            | deferred l =>
              have := chO_def hc hpl.1
              rw [← this] at hpl
              exact absurd hpl.1 (by rw [oneOf_oneO]; simp)
            | cells c0 E0 fr0 =>
              simp only [chO, oneOf_cells] at hc
              split at hc
              · cases hc
              · obtain ⟨_, hc, _⟩ := hc; cases hc
            | _ => simp [chO, oneOf, oneO] at hc
          · have := chO_note hc
            rw [e1] at this; cases this
        · have := (F.nw _ _ hb (by omega)).1
          rw [hone] at this; cases this
  · obtain ⟨k2, k3, g, hg, hq⟩ := X.kids k k1 hk
    exact ⟨k2, by rw [Deaf_other t (by omega) _ g_of_ofEvents]; exact k3, g, by rw [get_map_set _ _ _ _ (by omega), hg, Option.map_some, woken_quitsD hq], hq⟩
  · intro hc ad
    refine (X.nr0 hc ad).app fun op hop e => ?_
    rw [ofEvents_eq] at hop
    obtain ⟨ev, hm, rfl⟩ := Array.mem_map.1 hop
    exact (F.ev ev hm).mark.2.2 ad (Go.ConcR.loc_of_ofEvent e)
  · rcases X.done with hd | ⟨d1, d2, d3, d4⟩
    · exact .inl hd
    · exact .inr ⟨d1, F.nk _ _ d2 (noteOf_ne _ _ _ _ _), d3.app (norel_of (wi_norel (k := 0) F.ev Wg)), acq_app d4 g_of_ofEvents fun i r _ e => by omega⟩
/-- A leaving worker's step. -/
theorem Sol.kid (X : Sol pr P j Wg N0 W0 D h cl gs w t) {k : Nat} (k1 : 1 ≤ k) (hk : k ≤ j) {g : Goroutine} (hg : gs[k]? = some g) (hrun : g.status = .running) :
    ∃ g' es c', stepG P false g w = .go g' w es ∧ c'.stage = (D k).stage ∧ c'.rk = (D k).rk ∧ c'.fuel < (D k).fuel ∧ ∀ a : Goroutine, gs[0]? = some a → a.status = .running →
      Sol pr P j Wg N0 W0 (updC D k c') h cl ((gs.map (woken P g g' w)).setIfInBounds k g') w (t ++ MemOp.ofEvents k g.frame.fn g.frame.place es) ∧ ((gs.map (woken P g g' w)).setIfInBounds k g')[0]? = some a := by
  obtain ⟨k2, k3, g1, hg1, hq⟩ := X.kids k k1 hk
  obtain rfl : g = g1 := by rw [hg] at hg1; exact Option.some.inj hg1
  cases hm : (D k).fuel with
  | zero => rw [hm] at hq; rw [hq.1] at hrun; cases hrun
  | succ q =>
    rw [hm] at hq
    rcases hq with ⟨hf, _⟩ | ⟨_, g', es, hmute, hstep, hq⟩
    · rw [hf] at hrun; cases hrun
    · have hno : ∀ e ∈ es, (MemAct.ofEvent e).touch? = none := fun e he => by
        rcases bk_of_mute (Wg := Wg) (hmute e he) with h1 | h1 | ⟨a, wr, rfl, _⟩
        · rw [ofEvent_loc_mark h1]; rfl
        · rw [ofEvent_loc_mark h1]; rfl
        · have := hmute _ he; simp [Event.mute] at this
      have hsh : ∀ op ∈ MemOp.ofEvents k g.frame.fn g.frame.place es, ShOp (fun _ => False) k op := by
        intro op hop
        rw [ofEvents_eq] at hop
        obtain ⟨e, he, rfl⟩ := Array.mem_map.1 hop
        exact ⟨rfl, fun x hx => by simp only [hno e he] at hx; cases hx⟩
      refine ⟨g', es, { D k with fuel := q, deaf := deafBehind (D k).deaf es }, hstep w, rfl, rfl, by simp, fun a ha har => ⟨?_, ?_⟩⟩
      · refine ⟨X.hol, X.pl, X.T.sh (fun i a ha hs => hs.elim) (fun i op a _ _ hs => hs.elim) (fun l hl => hl.elim) hk hsh, X.p.sh (fun l hl => hl.elim) hsh, by rw [Deaf_other t (by omega) _ g_of_ofEvents, X.df0], X.bel, X.n0, X.old, by simp [X.size], fun k' h1 h2 => ?_, fun hc => ?_, ?_⟩
        · by_cases e : k' = k
          · subst e
            rw [updC_same]
            exact ⟨k2, by rw [Deaf_own, k3], g', get_map_set_same _ _ _ (by rw [X.size]; omega), hq⟩
          · obtain ⟨m1, m2, x, hx, hqx⟩ := X.kids k' h1 h2
            rw [updC_ne _ _ e]
            exact ⟨m1, by rw [Deaf_other t (Ne.symm e) _ g_of_ofEvents]; exact m2, x, by rw [get_map_set _ _ _ _ (Ne.symm e), hx, Option.map_some, woken_quitsD hqx], hqx⟩
        · rcases X.done with ⟨hd, _⟩ | ⟨d1, _⟩
          · omega
          · rw [hc] at d1; cases d1
        · rcases X.done with ⟨hd, _⟩ | ⟨d1, d2, d3, d4⟩
          · omega
          · refine .inr ⟨d1, d2, d3.app (norel_of (norel_of_Bk (Wg := Wg) fun e he => bk_of_mute (hmute e he))), acq_app d4 g_of_ofEvents fun i r _ e hr => ?_⟩
            subst e
            exact hr.book (Wg := Wg) k3 _ _ (fun e he => bk_of_mute (hmute e he)) fun jx e he => .inl (hno e (Array.mem_of_getElem? he))
      · rw [get_map_set _ _ _ _ (by omega), ha, Option.map_some]
        congr 1
        unfold woken
        split
        · exact again_running _ (.inl har)
        · rfl
/-- The return. -/
theorem Sol.ret (X : Sol pr P j Wg N0 W0 D h cl gs w t) {a : Goroutine} (ha : gs[0]? = some a) {v : Value} {es : Array Event} (hst : stepG P true a w = .ended (.done v) w es) (hev : ∀ e ∈ es, EvO h e) (hfin : pr.fin v h) (sl : Option (Nat × Nat)) :
    ∃ o w₁ ops, runT P (crowd gs w sl) 0 = (.ended o w₁, ops) ∧ ∀ w₀ sl₀, Go.Conc.Good P (PostW pr N0 W0) (crowd gs w₀ sl₀) o w₁ (t ++ ops) := by
  have hu : ∀ op ∈ MemOp.ofEvents 0 a.frame.fn a.frame.place es, WiOp 0 h op := wi_of hev _ _
  have hT := X.T.own X.p (n' := w.heap.size) (fun l hl => hl.elim (fun h => h.lt X.hol) (fun h => h.lt X.hol)) (Nat.le_refl _) (Nat.zero_le _) hu
  have wkq : ∀ i g, gs[i]? = some g → i ≠ 0 → 1 ≤ i ∧ i ≤ j ∧ QuitsD P (D i).fuel (D i).deaf g ∧ Deaf t i = (D i).deaf := by
    intro i g hg hi0
    have hlt : i ≤ j := by have := (Array.getElem?_eq_some_iff.1 hg).1; rw [X.size] at this; omega
    obtain ⟨_, k3, g1, hg1, hq⟩ := X.kids i (by omega) hlt
    rw [hg] at hg1
    cases hg1
    exact ⟨by omega, hlt, hq, k3⟩
  refine ⟨_, _, _, runT_crowd_ended ha (by simpa using hst), fun w₀ sl₀ => ⟨v, rfl, ⟨h, hfin, X.hol, X.bel⟩, hT.nr, ?_, ⟨fun g hg => ?_, rfl⟩, fun i g hg hi0 => ?_⟩⟩
  · rcases X.done with ⟨hj, _⟩ | ⟨d1, d2, d3, d4⟩
    · intro i g hgi hne
      exfalso
      obtain ⟨op, ho, rfl⟩ := Option.map_eq_some_iff.1 hgi
      have := hT.gs i op ho
      omega
    · obtain ⟨q, h1, h2, h3, h4⟩ := acq_app d4 (u := MemOp.ofEvents 0 a.frame.fn a.frame.place es) g_of_ofEvents fun i r _ e => by omega
      refine handedOver_all (fun i g hgi hne => ?_) (d3.app (norel_of (wi_norel (k := 0) hev Wg))) h1 h2 h3
      obtain ⟨op, ho, rfl⟩ := Option.map_eq_some_iff.1 hgi
      have := hT.gs i op ho
      have := h4 (op.g - 1) (by omega)
      rwa [show op.g - 1 + 1 = op.g by omega] at this
  · obtain ⟨i, hi⟩ := List.mem_iff_getElem?.1 hg
    rw [List.getElem?_drop] at hi
    obtain ⟨_, _, hqq, _⟩ := wkq (1 + i) g (by simpa [crowd] using hi) (by omega)
    exact ⟨_, hqq.leaves⟩
  · obtain ⟨_, hlt, hqq, hdf⟩ := wkq i g hg hi0
    refine ⟨(D i).fuel, ?_⟩
    have : (t ++ MemOp.ofEvents 0 a.frame.fn a.frame.place es).deaf i (t ++ MemOp.ofEvents 0 a.frame.fn a.frame.place es).size = (D i).deaf := by
      have := Deaf_other t (g := i) (g' := 0) (by omega) _ (g_of_ofEvents (fn := a.frame.fn) (pos := a.frame.place) (es := es))
      rw [hdf] at this
      exact this
    rw [this]
    exact hqq.hears _
end
end Go.Proofs.Ytojhnclkhiffkaa
