/-
  The invariant, what is held: by the starter (party 0) and the workers (parties 1 .. j). Kept by an own step of any party, by a step at the shared cell, by one at the group's cells.
-/
import Derived.Test.YtojhnclkhiffkaaU3
namespace Go.Proofs.Ytojhnclkhiffkaa
open Go.Conc Go.RowKit
open Go.ConcN (upd upd_same upd_ne)
open Go.ConcR (rd wr mk stA smA WgAt wgBlock KK)
set_option linter.unusedVariables false

structure Ch where
  rk : Tr
  stage : Nat
  fuel : Nat
  deaf : Nat
  d : Value
  C : Nat
  E : TypeId
  v : Value

section
variable (pr : Pro)
/-- What is held. M: the shared cell's block; Wg: the group's; γ: the history; N0, W0: the world at the start. -/
structure HI (j M Wg : Nat) (e0 : Value) (γ : List Value) (ph V : Nat) (ds : List Value) (N0 : Nat) (W0 : World) (Hs : Nat → H) (w : World) : Prop where
  hol : ∀ k, k ≤ j → Hol (Hs k) w
  ap : ∀ k k', k ≤ j → k' ≤ j → k ≠ k' → Ap (Hs k) (Hs k')
  hM : Hs 0 M = some (nM pr 0 [e0])
  hW : Hs 0 Wg = some (nG pr ph V ds)
  ne : M ≠ Wg
  nts0 : ∀ b o, Hs 0 b = some o → noteOf o ≠ none → b = M ∨ b = Wg ∨ ∃ E n a L, o = noteO E n 0 a L
  ntc : ∀ k, 1 ≤ k → k ≤ j → ∀ b o, Hs k b = some o → noteOf o ≠ none → (b = M ∧ ∃ L, o = nM pr k L ∧ pr.Ext k L γ) ∨ (b = Wg ∧ ∃ d, ds[k - 1]? = some d ∧ o = nW pr d)
  dl : ds.length = j
  at_ : pr.At M γ w
  pub : ∀ b c E, pr.pub γ b = some (c, E) → b ≠ M ∧ b ≠ Wg ∧ N0 ≤ b ∧ ∀ k, k ≤ j → ∀ o, Hs k b = some o → ∃ fr, o = .cells c E fr ∧ isRo c fr
  hst : pr.Hst e0 γ
  ext0 : pr.Ext 0 [e0] γ
  byle : ∀ v ∈ γ, pr.by_ v ≤ j
  bel : Below N0 W0 w
  n0 : N0 ≤ w.heap.size
  old : ∀ k, k ≤ j → ∀ b o, Hs k b = some o → b < N0 → ∃ c E, o = .cells c E (roF c)
end
section
variable {pr : Pro} {j M Wg : Nat} {e0 : Value} {γ : List Value} {ph V : Nat} {ds : List Value} {N0 : Nat} {W0 : World} {Hs : Nat → H} {w w' : World}
/-- A block at which the starter has a note of sort 1 or more is to each a note, or nothing. -/
theorem Ap.note {h hk : H} (a : Ap h hk) {b : Nat} {E : TypeId} {n t s : Nat} {L : Array Value} (hb : h b = some (noteO E n t s L)) (ht : 1 ≤ t) : hk b = none ∨ ∃ E n t s L, hk b = some (noteO E n t s L) ∧ 1 ≤ t := by
  cases h2 : hk b with
  | none => exact .inl rfl
  | some o =>
    right
    have d := a _ _ _ hb h2
    generalize hx : noteO E n t s L = x at d
    cases d with
    | ro _ _ => cases hx
    | one _ => cases hx
    | onePart _ => cases hx
    | partOne _ =>
      simp only [noteO, Obj.deferred.injEq, Option.some.injEq, List.cons.injEq, Deferred.mk.injEq, Target.collected.injEq] at hx
      omega
    | note h1 h3 => exact ⟨_, _, _, _, _, rfl, h3⟩
theorem HI.atM (I : HI pr j M Wg e0 γ ph V ds N0 W0 Hs w) {k : Nat} (hk : k ≤ j) : Hs k M = none ∨ ∃ E n t s L, Hs k M = some (noteO E n t s L) ∧ 1 ≤ t := by
  by_cases h0 : k = 0
  · subst h0; exact .inr ⟨_, _, _, _, _, I.hM, Nat.le_refl _⟩
  · exact (I.ap 0 k (by omega) hk (Ne.symm h0)).note I.hM (Nat.le_refl _)
theorem HI.atW (I : HI pr j M Wg e0 γ ph V ds N0 W0 Hs w) {k : Nat} (hk : k ≤ j) : Hs k Wg = none ∨ ∃ E n t s L, Hs k Wg = some (noteO E n t s L) ∧ 1 ≤ t := by
  by_cases h0 : k = 0
  · subst h0; exact .inr ⟨_, _, _, _, _, I.hW, by omega⟩
  · exact (I.ap 0 k (by omega) hk (Ne.symm h0)).note I.hW (by omega)
theorem noteOf_ne (E : TypeId) (n t a : Nat) (L : Array Value) : noteOf (noteO E n t a L) ≠ none := by rw [noteOf_noteO]; simp
/-- A note behind an own step was there. -/
theorem Fra.noteOld {h h1 : H} {w w1 : World} {es : Array Event} (f : Fra h w h1 w1 es) {b : Nat} {o : Obj} (hb : h1 b = some o) (hn : noteOf o ≠ none) : h b = some o := by
  obtain ⟨E, n, t, a, L, rfl⟩ : ∃ E n t a L, o = noteO E n t a L := by
    cases hno : noteOf o with
    | none => exact absurd hno hn
    | some z => obtain ⟨E, n, t, a, L⟩ := z; exact ⟨E, n, t, a, L, noteOf_spec hno⟩
  by_cases hlt : b < w.heap.size
  · obtain ⟨o0, h0, hc⟩ := f.old _ _ hb hlt
    cases o0 with
    | deferred l =>
      cases hone : oneOf (.deferred l) with
      | some x =>
        obtain ⟨i, v0, n0, E0⟩ := x
        have e0 := oneOf_spec hone
        rw [e0] at hc
        obtain ⟨v1, h1⟩ := chO_one hc
        cases h1
      | none =>
        have := chO_def hc hone
        rw [← this] at h0
        exact h0
    | cells c0 E0 fr0 =>
      exfalso
      simp only [chO, oneOf_cells] at hc
      split at hc
      · cases hc
      · obtain ⟨_, hc, _⟩ := hc; cases hc
    | _ => exfalso; simp [chO, oneOf, noteO] at hc
  · exact absurd (f.nw _ _ hb (by omega)).2 hn

/-- AN OWN STEP OF PARTY k. -/
theorem HI.own (I : HI pr j M Wg e0 γ ph V ds N0 W0 Hs w) {k : Nat} (hk : k ≤ j) {h1 : H} {es : Array Event} (f : Fra (Hs k) w h1 w' es) : HI pr j M Wg e0 γ ph V ds N0 W0 (upd Hs k h1) w' := by
  have blk : ∀ {b : Nat}, b < w.heap.size → (Hs k b = none ∨ ∃ E n t s L, Hs k b = some (noteO E n t s L) ∧ 1 ≤ t) → w'.heap[b]? = w.heap[b]? := fun hlt hb =>
    f.block hlt (hb.imp id fun ⟨E, n, t, s, L, h, _⟩ => .inr (.inl ⟨E, n, t, s, L, h⟩))
  have ltM : M < w.heap.size := (I.hol 0 (by omega)).lt I.hM
  have low : ∀ b, b < N0 → w'.heap[b]? = w.heap[b]? := by
    intro b hb
    refine f.block (Nat.lt_of_lt_of_le hb I.n0) ?_
    cases hx : Hs k b with
    | none => exact .inl rfl
    | some o =>
      obtain ⟨c, E, rfl⟩ := I.old k hk b o hx hb
      exact .inr (.inl ⟨c, E, _, rfl, isRo_roF c⟩)
  have sub : ∀ {b : Nat} {o : Obj}, h1 b = some o → b < w.heap.size → ∃ o0, Hs k b = some o0 ∧ chO o0 o := fun hb hlt => f.old _ _ hb hlt
  refine ⟨fun k' hk' => ?_, fun a b ha hb hab => ?_, ?_, ?_, I.ne, ?_, ?_, I.dl, ⟨?_, ?_⟩, ?_, I.hst, I.ext0, I.byle, ?_, ?_, ?_⟩
  · by_cases e : k' = k
    · subst e; rw [upd_same]; exact f.hol
    · rw [upd_ne _ _ e]; exact f.other (I.ap k k' hk hk' (Ne.symm e)) (I.hol k' hk')
  · by_cases ea : a = k
    · subst ea
      rw [upd_same, upd_ne _ _ (Ne.symm hab)]
      exact f.ap (I.ap a b ha hb hab) (I.hol b hb)
    · rw [upd_ne _ _ ea]
      by_cases eb : b = k
      · subst eb
        rw [upd_same]
        exact (f.ap (I.ap b a hb ha (Ne.symm hab)) (I.hol a ha)).symm
      · rw [upd_ne _ _ eb]; exact I.ap a b ha hb hab
  · by_cases e : k = 0
    · subst e; rw [upd_same]; exact f.nk _ _ I.hM (noteOf_ne _ _ _ _ _)
    · rw [upd_ne _ _ (Ne.symm e)]; exact I.hM
  · by_cases e : k = 0
    · subst e; rw [upd_same]; exact f.nk _ _ I.hW (noteOf_ne _ _ _ _ _)
    · rw [upd_ne _ _ (Ne.symm e)]; exact I.hW
  · intro b o hb hn
    by_cases e : k = 0
    · subst e; rw [upd_same] at hb; exact I.nts0 b o (f.noteOld hb hn) hn
    · rw [upd_ne _ _ (Ne.symm e)] at hb; exact I.nts0 b o hb hn
  · intro k' h1' hk' b o hb hn
    by_cases e : k' = k
    · subst e; rw [upd_same] at hb; exact I.ntc k' h1' hk' b o (f.noteOld hb hn) hn
    · rw [upd_ne _ _ e] at hb; exact I.ntc k' h1' hk' b o hb hn
  · rw [blk ltM (I.atM hk)]; exact I.at_.1
  · intro b c E hp
    have h0 := I.at_.2 b c E hp
    have hlt : b < w.heap.size := (Array.getElem?_eq_some_iff.1 h0).1
    rw [f.block hlt ?_]
    · exact h0
    · cases hx : Hs k b with
      | none => exact .inl rfl
      | some o =>
        obtain ⟨fr, rfl, hr⟩ := (I.pub b c E hp).2.2.2 k hk o hx
        exact .inr (.inl ⟨c, E, fr, rfl, hr⟩)
  · intro b c E hp
    obtain ⟨p1, p2, pn, p3⟩ := I.pub b c E hp
    have hlt : b < w.heap.size := (Array.getElem?_eq_some_iff.1 (I.at_.2 b c E hp)).1
    refine ⟨p1, p2, pn, fun k' hk' o hb => ?_⟩
    by_cases e : k' = k
    · subst e
      rw [upd_same] at hb
      obtain ⟨o0, h0, hc⟩ := sub hb hlt
      obtain ⟨fr, rfl, hr⟩ := p3 k' hk' o0 h0
      exact ⟨fr, chO_ro hc hr, hr⟩
    · rw [upd_ne _ _ e] at hb; exact p3 k' hk' o hb
  · exact ⟨f.os.trans I.bel.os, f.tape.trans I.bel.tape, f.output.trans I.bel.output, Nat.le_trans I.bel.size f.size, fun b hb => (low b hb).trans (I.bel.block b hb)⟩
  · exact Nat.le_trans I.n0 f.size
  · intro k' hk' b o hb hlt
    by_cases e : k' = k
    · subst e
      rw [upd_same] at hb
      obtain ⟨o0, h0, hc⟩ := sub hb (Nat.lt_of_lt_of_le hlt I.n0)
      obtain ⟨c, E, rfl⟩ := I.old k' hk' b o0 h0 hlt
      exact ⟨c, E, chO_ro hc (isRo_roF c)⟩
    · rw [upd_ne _ _ e] at hb; exact I.old k' hk' b o hb hlt

/-- The world behind a step at the shared cell. -/
theorem upd_world {E : TypeId} {M k : Nat} {γ γ' : List Value} {w w' : World} {es : Array Event} (ha : w.heap[M]? = some (.cells #[pr.val γ] pr.E)) (u : pr.Upd M k γ γ' w w' es) :
    w'.os = w.os ∧ w'.tape = w.tape ∧ w'.output = w.output ∧ w'.heap.size = w.heap.size ∧ w'.heap[M]? = some (.cells #[pr.val γ'] pr.E) ∧ ∀ b, b ≠ M → w'.heap[b]? = w.heap[b]? := by
  rcases u with ⟨rfl, rfl, _⟩ | ⟨v, _, _, _, rfl, _⟩
  · exact ⟨rfl, rfl, rfl, rfl, ha, fun _ _ => rfl⟩
  · have t := Blk.set (w := w) (b := M) (c := #[pr.val γ]) (E := pr.E) ha 0 (pr.val γ')
    refine ⟨t.os, t.tape, t.output, t.size, ?_, t.ne⟩
    have := t.at_
    simpa using this
theorem Pro.Ext.refl (k : Nat) (γ : List Value) : pr.Ext k γ γ := ⟨[], by simp, by simp⟩
theorem own_ap {h hk : H} (a : Ap h hk) {b : Nat} {c : Array Value} {E : TypeId} (hb : h b = some (.cells c E)) : hk b = none := by
  cases h2 : hk b with
  | none => rfl
  | some o =>
    exfalso
    have d := a _ _ _ hb h2
    cases d with | ro h1 _ => exact not_isRo0 c h1

/-- A STEP OF A WORKER AT THE SHARED CELL. -/
theorem HI.sh (I : HI pr j M Wg e0 γ ph V ds N0 W0 Hs w) {k : Nat} (k1 : 1 ≤ k) (hk : k ≤ j) {h' : H} {γ' : List Value} {es : Array Event} (u : pr.Upd M k γ γ' w w' es) (T : pr.Turn M k γ γ' (Hs k) h') : HI pr j M Wg e0 γ' ph V ds N0 W0 (upd Hs k h') w' := by
  obtain ⟨w1, w2, w3, w4, w5, w6⟩ := upd_world (E := pr.E) I.at_.1 u
  have M0 : N0 ≤ M := by
    rcases Nat.lt_or_ge M N0 with h | h
    · obtain ⟨c, E, e⟩ := I.old 0 (by omega) M _ I.hM h
      cases e
    · exact h
  have extk : ∀ {k' : Nat} {L : List Value}, k' ≠ k → pr.Ext k' L γ → pr.Ext k' L γ' := by
    intro k' L hne e
    rcases u with ⟨rfl, _, _⟩ | ⟨v, hv, _, rfl, _, _⟩
    · exact e
    · obtain ⟨r, rfl, hr⟩ := e
      refine ⟨r ++ [v], by simp, fun x hx => ?_⟩
      rcases List.mem_append.1 hx with hx | hx
      · exact hr x hx
      · simp at hx; subst hx; rw [hv]; exact Ne.symm hne
  have newN : ∀ b c E, pr.pub γ' b = some (c, E) → pr.pub γ b = none → b ≠ Wg ∧ N0 ≤ b ∧ w.heap[b]? = some (.cells c E) := by
    intro b c E hp hn
    obtain ⟨h1, h2, h3⟩ := T.new b c E hp hn
    refine ⟨fun e => ?_, ?_, (HolO_own (not_isRo0 c)).1 (I.hol k hk b _ h1)⟩
    · subst e
      rcases I.atW hk with h0 | ⟨E, n, t, s, L, h0, _⟩
      · rw [h0] at h1; cases h1
      · rw [h0] at h1; cases h1
    · rcases Nat.lt_or_ge b N0 with h | h
      · obtain ⟨c', E', e⟩ := I.old k hk b _ h1 h
        simp [roF] at e
      · exact h
  have pubOld : ∀ b c E, pr.pub γ' b = some (c, E) → pr.pub γ b = none ∨ pr.pub γ b = some (c, E) := by
    intro b c E hp
    cases hx : pr.pub γ b with
    | none => exact .inl rfl
    | some x => right; rw [← T.grow b x hx, hp]
  -- what another has at the shared block
  have othM : ∀ k', k' ≤ j → k' ≠ k → Hs k' M = none ∨ ∃ L, Hs k' M = some (nM pr k' L) := by
    intro k' hk' hne
    by_cases h0 : k' = 0
    · subst h0; exact .inr ⟨_, I.hM⟩
    · cases hx : Hs k' M with
      | none => exact .inl rfl
      | some o =>
        right
        rcases I.atM hk' with h1 | ⟨E, n, t, s, L, h1, _⟩
        · rw [h1] at hx; cases hx
        · rw [h1] at hx
          simp only [Option.some.injEq] at hx
          subst hx
          rcases I.ntc k' (by omega) hk' M _ h1 (noteOf_ne _ _ _ _ _) with ⟨_, L', e, _⟩ | ⟨e, _⟩
          · exact ⟨L', by rw [e]⟩
          · exact absurd e I.ne
  refine ⟨fun k' hk' b o hb => ?_, fun a b ha hb hab => ?_, ?_, ?_, I.ne, ?_, ?_, I.dl, ⟨w5, fun b c E hp => ?_⟩, fun b c E hp => ?_, ?_, extk (by omega) I.ext0, ?_, ?_, ?_, ?_⟩
  · by_cases e : k' = k
    · subst e
      rw [upd_same] at hb
      by_cases hbM : b = M
      · subst hbM
        rw [T.note] at hb
        simp only [Option.some.injEq] at hb
        subst hb
        rw [w5]
        exact HolO_note.2 ⟨_, rfl, rfl, by simp, by simp⟩
      · rw [w6 b hbM]
        rcases T.same b hbM with h0 | ⟨c, E, hp, hx, hor⟩
        · rw [h0] at hb; exact I.hol k' hk b o hb
        · rw [hx] at hb
          simp only [Option.some.injEq] at hb
          subst hb
          refine (HolO_ro (isRo_roO c)).2 ⟨(0, 0), ?_, fun _ => rfl⟩
          rcases hor with ⟨h1, _⟩ | ⟨_, h1⟩
          · exact I.at_.2 b c E h1
          · exact (HolO_own (not_isRo0 c)).1 (I.hol k' hk b _ h1)
    · rw [upd_ne _ _ e] at hb
      by_cases hbM : b = M
      · subst hbM
        rcases othM k' hk' e with h0 | ⟨L, h0⟩
        · rw [h0] at hb; cases hb
        · rw [h0] at hb
          simp only [Option.some.injEq] at hb
          subst hb
          rw [w5]
          exact HolO_note.2 ⟨_, rfl, rfl, by simp, by simp⟩
      · rw [w6 b hbM]; exact I.hol k' hk' b o hb
  · have key : ∀ k', k' ≤ j → k' ≠ k → Ap h' (Hs k') := by
      intro k' hk' hne b o o' hb hb'
      by_cases hbM : b = M
      · subst hbM
        rcases othM k' hk' hne with h0 | ⟨L, h0⟩
        · rw [h0] at hb'; cases hb'
        · rw [h0] at hb'; rw [T.note] at hb
          simp only [Option.some.injEq] at hb hb'
          subst hb hb'
          exact .note (Nat.le_refl _) (Nat.le_refl _)
      · rcases T.same b hbM with h0 | ⟨c, E, hp, hx, hor⟩
        · rw [h0] at hb; exact I.ap k k' hk hk' (Ne.symm hne) b o o' hb hb'
        · rw [hx] at hb
          simp only [Option.some.injEq] at hb
          subst hb
          rcases hor with ⟨h1, _⟩ | ⟨_, h1⟩
          · obtain ⟨fr, rfl, hr⟩ := (I.pub b c E h1).2.2.2 k' hk' o' hb'
            exact .ro (isRo_roO c) hr
          · rw [own_ap (I.ap k k' hk hk' (Ne.symm hne)) h1] at hb'; cases hb'
    by_cases ea : a = k
    · subst ea
      rw [upd_same, upd_ne _ _ (Ne.symm hab)]
      exact key b hb (Ne.symm hab)
    · rw [upd_ne _ _ ea]
      by_cases eb : b = k
      · subst eb
        rw [upd_same]
        exact (key a ha hab).symm
      · rw [upd_ne _ _ eb]; exact I.ap a b ha hb hab
  · rw [upd_ne _ _ (by omega)]; exact I.hM
  · rw [upd_ne _ _ (by omega)]; exact I.hW
  · rw [upd_ne _ _ (by omega)]; exact I.nts0
  · intro k' h1' hk' b o hb hn
    by_cases e : k' = k
    · subst e
      rw [upd_same] at hb
      by_cases hbM : b = M
      · subst hbM
        rw [T.note] at hb
        simp only [Option.some.injEq] at hb
        exact .inl ⟨rfl, γ', hb.symm, .refl _ _⟩
      · rcases T.same b hbM with h0 | ⟨c, E, hp, hx, hor⟩
        · rw [h0] at hb
          rcases I.ntc k' h1' hk' b o hb hn with ⟨h2, _⟩ | h2
          · exact absurd h2 hbM
          · exact .inr h2
        · rw [hx] at hb
          simp only [Option.some.injEq] at hb
          subst hb
          exact absurd rfl hn
    · rw [upd_ne _ _ e] at hb
      rcases I.ntc k' h1' hk' b o hb hn with ⟨h2, L, h3, h4⟩ | h2
      · exact .inl ⟨h2, L, h3, extk e h4⟩
      · exact .inr h2
  · rcases pubOld b c E hp with h0 | h0
    · obtain ⟨h1, h2, h3⟩ := T.new b c E hp h0
      rw [w6 b h3]; exact (newN b c E hp h0).2.2
    · rw [w6 b (I.pub b c E h0).1]; exact I.at_.2 b c E h0
  · rcases pubOld b c E hp with h0 | h0
    · obtain ⟨h1, h2, h3⟩ := T.new b c E hp h0
      obtain ⟨n1, n2, n3⟩ := newN b c E hp h0
      refine ⟨h3, n1, n2, fun k' hk' o hb => ?_⟩
      by_cases e : k' = k
      · subst e
        rw [upd_same, h2] at hb
        simp only [Option.some.injEq] at hb
        exact ⟨_, hb.symm, isRo_roO c⟩
      · rw [upd_ne _ _ e, own_ap (I.ap k k' hk hk' (Ne.symm e)) h1] at hb; cases hb
    · obtain ⟨n1, n2, n3, n4⟩ := I.pub b c E h0
      refine ⟨n1, n2, n3, fun k' hk' o hb => ?_⟩
      by_cases e : k' = k
      · subst e
        rw [upd_same] at hb
        rcases T.same b n1 with hs | ⟨c', E', hp', hx, hor⟩
        · rw [hs] at hb; exact n4 k' hk' o hb
        · rw [hx] at hb
          rw [hp] at hp'
          simp only [Option.some.injEq, Prod.mk.injEq] at hb hp'
          obtain ⟨rfl, rfl⟩ := hp'
          exact ⟨_, hb.symm, isRo_roO c⟩
      · rw [upd_ne _ _ e] at hb; exact n4 k' hk' o hb
  · rcases u with ⟨rfl, _, _⟩ | ⟨v, hv, hok, rfl, _, _⟩
    · exact I.hst
    · exact I.hst.snoc hok
  · rcases u with ⟨rfl, _, _⟩ | ⟨v, hv, hok, rfl, _, _⟩
    · exact I.byle
    · intro x hx
      rcases List.mem_append.1 hx with hx | hx
      · exact I.byle x hx
      · simp at hx; subst hx; omega
  · exact ⟨w1.trans I.bel.os, w2.trans I.bel.tape, w3.trans I.bel.output, by rw [w4]; exact I.bel.size, fun b hb => (w6 b (by omega)).trans (I.bel.block b hb)⟩
  · rw [w4]; exact I.n0
  · intro k' hk' b o hb hlt
    by_cases e : k' = k
    · subst e
      rw [upd_same] at hb
      rcases T.same b (by omega) with hs | ⟨c', E', hp', hx, hor⟩
      · rw [hs] at hb; exact I.old k' hk' b o hb hlt
      · rcases pubOld b c' E' hp' with h0 | h0
        · have := (newN b c' E' hp' h0).2.1; omega
        · have := (I.pub b c' E' h0).2.2.1; omega
    · rw [upd_ne _ _ e] at hb; exact I.old k' hk' b o hb hlt
end
end Go.Proofs.Ytojhnclkhiffkaa
