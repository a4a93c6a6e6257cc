/-
  The invariant, what is held: by the starter (party 0) and the workers (parties 1 .. j). Kept by an own step of any party, by a step at the shared cell, by one at the group's cells.
-/
import Derived.Test.YtojhnclkhiffkaaQ7
/-
  The invariant, what is held: by the starter (party 0) and the workers (parties 1 .. j). Kept by an own step of any party, by a step at the shared cell, by one at the group's cells.
-/
namespace Go.Proofs.Ytojhnclkhiffkaa
open Go.Conc Go.RowKit
open Go.ConcN (upd upd_same upd_ne)
open Go.ConcR (rd wr mk stA smA WgAt wgBlock KK)
set_option linter.unusedVariables false

structure Ch where
  rk : Tr
  stage : Nat
  fuel : Nat
  deaf : Nat
  d : Value
  C : Nat
  E : TypeId
  v : Value

section
variable (pr : Pro)
/-- What is held. M: the shared cell's block; Wg: the group's; γ: the history; N0, W0: the world at the start. -/
structure HI (j M Wg : Nat) (e0 : Value) (γ : List Value) (ph V : Nat) (ds : List Value) (N0 : Nat) (W0 : World) (Hs : Nat → H) (w : World) : Prop where
  hol : ∀ k, k ≤ j → Hol (Hs k) w
  ap : ∀ k k', k ≤ j → k' ≤ j → k ≠ k' → Ap (Hs k) (Hs k')
  hM : Hs 0 M = some (nM pr 0 [e0])
  hW : Hs 0 Wg = some (nG pr ph V ds)
  ne : M ≠ Wg
  nts0 : ∀ b o, Hs 0 b = some o → noteOf o ≠ none → b = M ∨ b = Wg ∨ ∃ E n a L, o = noteO E n 0 a L
  ntc : ∀ k, 1 ≤ k → k ≤ j → ∀ b o, Hs k b = some o → noteOf o ≠ none → (b = M ∧ ∃ L, o = nM pr k L ∧ pr.Ext k L γ) ∨ (b = Wg ∧ ∃ d, ds[k - 1]? = some d ∧ o = nW pr d)
  dl : ds.length = j
  at_ : pr.At M γ w
  pub : ∀ b c E, pr.pub γ b = some (c, E) → b ≠ M ∧ b ≠ Wg ∧ N0 ≤ b ∧ ∀ k, k ≤ j → ∀ o, Hs k b = some o → ∃ fr, o = .cells c E fr ∧ isRo c fr
  hst : pr.Hst e0 γ
  ext0 : pr.Ext 0 [e0] γ
  byle : ∀ v ∈ γ, pr.by_ v ≤ j
  bel : Below N0 W0 w
  n0 : N0 ≤ w.heap.size
  old : ∀ k, k ≤ j → ∀ b o, Hs k b = some o → b < N0 → ∃ c E, o = .cells c E (roF c)
end
section
variable {pr : Pro} {j M Wg : Nat} {e0 : Value} {γ : List Value} {ph V : Nat} {ds : List Value} {N0 : Nat} {W0 : World} {Hs : Nat → H} {w w' : World}
/-- A block at which the starter has a note of sort 1 or more is to each a note, or nothing. -/
theorem Ap.note {h hk : H} (a : Ap h hk) {b : Nat} {E : TypeId} {n t s : Nat} {L : Array Value} (hb : h b = some (noteO E n t s L)) (ht : 1 ≤ t) : hk b = none ∨ ∃ E n t s L, hk b = some (noteO E n t s L) ∧ 1 ≤ t := by
  cases h2 : hk b with
  | none => exact .inl rfl
  | some o =>
    right
    have d := a _ _ _ hb h2
    generalize hx : noteO E n t s L = x at d
    cases d with
    | ro _ _ => cases hx
    | one _ => cases hx
    | onePart _ => cases hx
    | partOne _ =>
      simp only [noteO, Obj.deferred.injEq, Option.some.injEq, List.cons.injEq, Deferred.mk.injEq, Target.collected.injEq] at hx
      omega
    | note h1 h3 => exact ⟨_, _, _, _, _, rfl, h3⟩
theorem HI.atM (I : HI pr j M Wg e0 γ ph V ds N0 W0 Hs w) {k : Nat} (hk : k ≤ j) : Hs k M = none ∨ ∃ E n t s L, Hs k M = some (noteO E n t s L) ∧ 1 ≤ t := by
  by_cases h0 : k = 0
  · subst h0; exact .inr ⟨_, _, _, _, _, I.hM, Nat.le_refl _⟩
  · exact (I.ap 0 k (by omega) hk (Ne.symm h0)).note I.hM (Nat.le_refl _)
theorem HI.atW (I : HI pr j M Wg e0 γ ph V ds N0 W0 Hs w) {k : Nat} (hk : k ≤ j) : Hs k Wg = none ∨ ∃ E n t s L, Hs k Wg = some (noteO E n t s L) ∧ 1 ≤ t := by
  by_cases h0 : k = 0
  · subst h0; exact .inr ⟨_, _, _, _, _, I.hW, by omega⟩
  · exact (I.ap 0 k (by omega) hk (Ne.symm h0)).note I.hW (by omega)
theorem noteOf_ne (E : TypeId) (n t a : Nat) (L : Array Value) : noteOf (noteO E n t a L) ≠ none := by rw [noteOf_noteO]; simp
/-- A note behind an own step was there. -/
theorem Fra.noteOld {h h1 : H} {w w1 : World} {es : Array Event} (f : Fra h w h1 w1 es) {b : Nat} {o : Obj} (hb : h1 b = some o) (hn : noteOf o ≠ none) : h b = some o := by
  obtain ⟨E, n, t, a, L, rfl⟩ : ∃ E n t a L, o = noteO E n t a L := by
    cases hno : noteOf o with
    | none => exact absurd hno hn
    | some z => obtain ⟨E, n, t, a, L⟩ := z; exact ⟨E, n, t, a, L, noteOf_spec hno⟩
  by_cases hlt : b < w.heap.size
  · obtain ⟨o0, h0, hc⟩ := f.old _ _ hb hlt
    cases o0 with
    | deferred l =>
      cases hone : oneOf (.deferred l) with
      | some x =>
        obtain ⟨i, v0, n0, E0⟩ := x
        have e0 := oneOf_spec hone
        rw [e0] at hc
        obtain ⟨v1, h1⟩ := chO_one hc
        cases h1
      | none =>
        have := chO_def hc hone
        rw [← this] at h0
        exact h0
    | cells c0 E0 fr0 =>
      exfalso
      simp only [chO, oneOf_cells] at hc
      split at hc
      · cases hc
      · obtain ⟨_, hc, _⟩ := hc; cases hc
    | _ => exfalso; simp [chO, oneOf, noteO] at hc
  · exact absurd (f.nw _ _ hb (by omega)).2 hn

/-- AN OWN STEP OF PARTY k. -/
theorem HI.own (I : HI pr j M Wg e0 γ ph V ds N0 W0 Hs w) {k : Nat} (hk : k ≤ j) {h1 : H} {es : Array Event} (f : Fra (Hs k) w h1 w' es) : HI pr j M Wg e0 γ ph V ds N0 W0 (upd Hs k h1) w' := by
  have blk : ∀ {b : Nat}, b < w.heap.size → (Hs k b = none ∨ ∃ E n t s L, Hs k b = some (noteO E n t s L) ∧ 1 ≤ t) → w'.heap[b]? = w.heap[b]? := fun hlt hb =>
    f.block hlt (hb.imp id fun ⟨E, n, t, s, L, h, _⟩ => .inr (.inl ⟨E, n, t, s, L, h⟩))
  have ltM : M < w.heap.size := (I.hol 0 (by omega)).lt I.hM
  have low : ∀ b, b < N0 → w'.heap[b]? = w.heap[b]? := by
    intro b hb
    refine f.block (Nat.lt_of_lt_of_le hb I.n0) ?_
    cases hx : Hs k b with
    | none => exact .inl rfl
    | some o =>
      obtain ⟨c, E, rfl⟩ := I.old k hk b o hx hb
      exact .inr (.inl ⟨c, E, _, rfl, isRo_roF c⟩)
  have sub : ∀ {b : Nat} {o : Obj}, h1 b = some o → b < w.heap.size → ∃ o0, Hs k b = some o0 ∧ chO o0 o := fun hb hlt => f.old _ _ hb hlt
  refine ⟨fun k' hk' => ?_, fun a b ha hb hab => ?_, ?_, ?_, I.ne, ?_, ?_, I.dl, ⟨?_, ?_⟩, ?_, I.hst, I.ext0, I.byle, ?_, ?_, ?_⟩
  · by_cases e : k' = k
    · subst e; rw [upd_same]; exact f.hol
    · rw [upd_ne _ _ e]; exact f.other (I.ap k k' hk hk' (Ne.symm e)) (I.hol k' hk')
  · by_cases ea : a = k
    · subst ea
      rw [upd_same, upd_ne _ _ (Ne.symm hab)]
      exact f.ap (I.ap a b ha hb hab) (I.hol b hb)
    · rw [upd_ne _ _ ea]
      by_cases eb : b = k
      · subst eb
        rw [upd_same]
        exact (f.ap (I.ap b a hb ha (Ne.symm hab)) (I.hol a ha)).symm
      · rw [upd_ne _ _ eb]; exact I.ap a b ha hb hab
  · by_cases e : k = 0
    · subst e; rw [upd_same]; exact f.nk _ _ I.hM (noteOf_ne _ _ _ _ _)
    · rw [upd_ne _ _ (Ne.symm e)]; exact I.hM
  · by_cases e : k = 0
    · subst e; rw [upd_same]; exact f.nk _ _ I.hW (noteOf_ne _ _ _ _ _)
    · rw [upd_ne _ _ (Ne.symm e)]; exact I.hW
  · intro b o hb hn
    by_cases e : k = 0
    · subst e; rw [upd_same] at hb; exact I.nts0 b o (f.noteOld hb hn) hn
    · rw [upd_ne _ _ (Ne.symm e)] at hb; exact I.nts0 b o hb hn
  · intro k' h1' hk' b o hb hn
    by_cases e : k' = k
    · subst e; rw [upd_same] at hb; exact I.ntc k' h1' hk' b o (f.noteOld hb hn) hn
    · rw [upd_ne _ _ e] at hb; exact I.ntc k' h1' hk' b o hb hn
  · rw [blk ltM (I.atM hk)]; exact I.at_.1
  · intro b c E hp
    have h0 := I.at_.2 b c E hp
    have hlt : b < w.heap.size := (Array.getElem?_eq_some_iff.1 h0).1
    rw [f.block hlt ?_]
    · exact h0
    · cases hx : Hs k b with
      | none => exact .inl rfl
      | some o =>
        obtain ⟨fr, rfl, hr⟩ := (I.pub b c E hp).2.2.2 k hk o hx
        exact .inr (.inl ⟨c, E, fr, rfl, hr⟩)
  · intro b c E hp
    obtain ⟨p1, p2, pn, p3⟩ := I.pub b c E hp
    have hlt : b < w.heap.size := (Array.getElem?_eq_some_iff.1 (I.at_.2 b c E hp)).1
    refine ⟨p1, p2, pn, fun k' hk' o hb => ?_⟩
    by_cases e : k' = k
    · subst e
      rw [upd_same] at hb
      obtain ⟨o0, h0, hc⟩ := sub hb hlt
      obtain ⟨fr, rfl, hr⟩ := p3 k' hk' o0 h0
      exact ⟨fr, chO_ro hc hr, hr⟩
    · rw [upd_ne _ _ e] at hb; exact p3 k' hk' o hb
  · exact ⟨f.os.trans I.bel.os, f.tape.trans I.bel.tape, f.output.trans I.bel.output, Nat.le_trans I.bel.size f.size, fun b hb => (low b hb).trans (I.bel.block b hb)⟩
  · exact Nat.le_trans I.n0 f.size
  · intro k' hk' b o hb hlt
    by_cases e : k' = k
    · subst e
      rw [upd_same] at hb
      obtain ⟨o0, h0, hc⟩ := sub hb (Nat.lt_of_lt_of_le hlt I.n0)
      obtain ⟨c, E, rfl⟩ := I.old k' hk' b o0 h0 hlt
      exact ⟨c, E, chO_ro hc (isRo_roF c)⟩
    · rw [upd_ne _ _ e] at hb; exact I.old k' hk' b o hb hlt

/-- The world behind a step at the shared cell. -/
theorem upd_world {E : TypeId} {M k : Nat} {γ γ' : List Value} {w w' : World} {es : Array Event} (ha : w.heap[M]? = some (.cells #[pr.val γ] pr.E)) (u : pr.Upd M k γ γ' w w' es) :
    w'.os = w.os ∧ w'.tape = w.tape ∧ w'.output = w.output ∧ w'.heap.size = w.heap.size ∧ w'.heap[M]? = some (.cells #[pr.val γ'] pr.E) ∧ ∀ b, b ≠ M → w'.heap[b]? = w.heap[b]? := by
  rcases u with ⟨rfl, rfl, _⟩ | ⟨v, _, _, _, rfl, _⟩
  · exact ⟨rfl, rfl, rfl, rfl, ha, fun _ _ => rfl⟩
  · have t := Blk.set (w := w) (b := M) (c := #[pr.val γ]) (E := pr.E) ha 0 (pr.val γ')
    refine ⟨t.os, t.tape, t.output, t.size, ?_, t.ne⟩
    have := t.at_
    simpa using this
theorem Pro.Ext.refl (k : Nat) (γ : List Value) : pr.Ext k γ γ := ⟨[], by simp, by simp⟩
theorem own_ap {h hk : H} (a : Ap h hk) {b : Nat} {c : Array Value} {E : TypeId} (hb : h b = some (.cells c E)) : hk b = none := by
  cases h2 : hk b with
  | none => rfl
  | some o =>
    exfalso
    have d := a _ _ _ hb h2
    cases d with | ro h1 _ => exact not_isRo0 c h1

/-- A STEP OF A WORKER AT THE SHARED CELL. -/
theorem HI.sh (I : HI pr j M Wg e0 γ ph V ds N0 W0 Hs w) {k : Nat} (k1 : 1 ≤ k) (hk : k ≤ j) {h' : H} {γ' : List Value} {es : Array Event} (u : pr.Upd M k γ γ' w w' es) (T : pr.Turn M k γ γ' (Hs k) h') : HI pr j M Wg e0 γ' ph V ds N0 W0 (upd Hs k h') w' := by
  obtain ⟨w1, w2, w3, w4, w5, w6⟩ := upd_world (E := pr.E) I.at_.1 u
  have M0 : N0 ≤ M := by
    rcases Nat.lt_or_ge M N0 with h | h
    · obtain ⟨c, E, e⟩ := I.old 0 (by omega) M _ I.hM h
      cases e
    · exact h
  have extk : ∀ {k' : Nat} {L : List Value}, k' ≠ k → pr.Ext k' L γ → pr.Ext k' L γ' := by
    intro k' L hne e
    rcases u with ⟨rfl, _, _⟩ | ⟨v, hv, _, rfl, _, _⟩
    · exact e
    · obtain ⟨r, rfl, hr⟩ := e
      refine ⟨r ++ [v], by simp, fun x hx => ?_⟩
      rcases List.mem_append.1 hx with hx | hx
      · exact hr x hx
      · simp at hx; subst hx; rw [hv]; exact Ne.symm hne
  have newN : ∀ b c E, pr.pub γ' b = some (c, E) → pr.pub γ b = none → b ≠ Wg ∧ N0 ≤ b ∧ w.heap[b]? = some (.cells c E) := by
    intro b c E hp hn
    obtain ⟨h1, h2, h3⟩ := T.new b c E hp hn
    refine ⟨fun e => ?_, ?_, (HolO_own (not_isRo0 c)).1 (I.hol k hk b _ h1)⟩
    · subst e
      rcases I.atW hk with h0 | ⟨E, n, t, s, L, h0, _⟩
      · rw [h0] at h1; cases h1
      · rw [h0] at h1; cases h1
    · rcases Nat.lt_or_ge b N0 with h | h
      · obtain ⟨c', E', e⟩ := I.old k hk b _ h1 h
        simp [roF] at e
      · exact h
  have pubOld : ∀ b c E, pr.pub γ' b = some (c, E) → pr.pub γ b = none ∨ pr.pub γ b = some (c, E) := by
    intro b c E hp
    cases hx : pr.pub γ b with
    | none => exact .inl rfl
    | some x => right; rw [← T.grow b x hx, hp]
  -- what another has at the shared block
  have othM : ∀ k', k' ≤ j → k' ≠ k → Hs k' M = none ∨ ∃ L, Hs k' M = some (nM pr k' L) := by
    intro k' hk' hne
    by_cases h0 : k' = 0
    · subst h0; exact .inr ⟨_, I.hM⟩
    · cases hx : Hs k' M with
      | none => exact .inl rfl
      | some o =>
        right
        rcases I.atM hk' with h1 | ⟨E, n, t, s, L, h1, _⟩
        · rw [h1] at hx; cases hx
        · rw [h1] at hx
          simp only [Option.some.injEq] at hx
          subst hx
          rcases I.ntc k' (by omega) hk' M _ h1 (noteOf_ne _ _ _ _ _) with ⟨_, L', e, _⟩ | ⟨e, _⟩
          · exact ⟨L', by rw [e]⟩
          · exact absurd e I.ne
  refine ⟨fun k' hk' b o hb => ?_, fun a b ha hb hab => ?_, ?_, ?_, I.ne, ?_, ?_, I.dl, ⟨w5, fun b c E hp => ?_⟩, fun b c E hp => ?_, ?_, extk (by omega) I.ext0, ?_, ?_, ?_, ?_⟩
  · by_cases e : k' = k
    · subst e
      rw [upd_same] at hb
      by_cases hbM : b = M
      · subst hbM
        rw [T.note] at hb
        simp only [Option.some.injEq] at hb
        subst hb
        rw [w5]
        exact HolO_note.2 ⟨_, rfl, rfl, by simp, by simp⟩
      · rw [w6 b hbM]
        rcases T.same b hbM with h0 | ⟨c, E, hp, hx, hor⟩
        · rw [h0] at hb; exact I.hol k' hk b o hb
        · rw [hx] at hb
          simp only [Option.some.injEq] at hb
          subst hb
          refine (HolO_ro (isRo_roO c)).2 ⟨(0, 0), ?_, fun _ => rfl⟩
          rcases hor with ⟨h1, _⟩ | ⟨_, h1⟩
          · exact I.at_.2 b c E h1
          · exact (HolO_own (not_isRo0 c)).1 (I.hol k' hk b _ h1)
    · rw [upd_ne _ _ e] at hb
      by_cases hbM : b = M
      · subst hbM
        rcases othM k' hk' e with h0 | ⟨L, h0⟩
        · rw [h0] at hb; cases hb
        · rw [h0] at hb
          simp only [Option.some.injEq] at hb
          subst hb
          rw [w5]
          exact HolO_note.2 ⟨_, rfl, rfl, by simp, by simp⟩
      · rw [w6 b hbM]; exact I.hol k' hk' b o hb
  · have key : ∀ k', k' ≤ j → k' ≠ k → Ap h' (Hs k') := by
      intro k' hk' hne b o o' hb hb'
      by_cases hbM : b = M
      · subst hbM
        rcases othM k' hk' hne with h0 | ⟨L, h0⟩
        · rw [h0] at hb'; cases hb'
        · rw [h0] at hb'; rw [T.note] at hb
          simp only [Option.some.injEq] at hb hb'
          subst hb hb'
          exact .note (Nat.le_refl _) (Nat.le_refl _)
      · rcases T.same b hbM with h0 | ⟨c, E, hp, hx, hor⟩
        · rw [h0] at hb; exact I.ap k k' hk hk' (Ne.symm hne) b o o' hb hb'
        · rw [hx] at hb
          simp only [Option.some.injEq] at hb
          subst hb
          rcases hor with ⟨h1, _⟩ | ⟨_, h1⟩
          · obtain ⟨fr, rfl, hr⟩ := (I.pub b c E h1).2.2.2 k' hk' o' hb'
            exact .ro (isRo_roO c) hr
          · rw [own_ap (I.ap k k' hk hk' (Ne.symm hne)) h1] at hb'; cases hb'
    by_cases ea : a = k
    · subst ea
      rw [upd_same, upd_ne _ _ (Ne.symm hab)]
      exact key b hb (Ne.symm hab)
    · rw [upd_ne _ _ ea]
      by_cases eb : b = k
      · subst eb
        rw [upd_same]
        exact (key a ha hab).symm
      · rw [upd_ne _ _ eb]; exact I.ap a b ha hb hab
  · rw [upd_ne _ _ (by omega)]; exact I.hM
  · rw [upd_ne _ _ (by omega)]; exact I.hW
  · rw [upd_ne _ _ (by omega)]; exact I.nts0
  · intro k' h1' hk' b o hb hn
    by_cases e : k' = k
    · subst e
      rw [upd_same] at hb
      by_cases hbM : b = M
      · subst hbM
        rw [T.note] at hb
        simp only [Option.some.injEq] at hb
        exact .inl ⟨rfl, γ', hb.symm, .refl _ _⟩
      · rcases T.same b hbM with h0 | ⟨c, E, hp, hx, hor⟩
        · rw [h0] at hb
          rcases I.ntc k' h1' hk' b o hb hn with ⟨h2, _⟩ | h2
          · exact absurd h2 hbM
          · exact .inr h2
        · rw [hx] at hb
          simp only [Option.some.injEq] at hb
          subst hb
          exact absurd rfl hn
    · rw [upd_ne _ _ e] at hb
      rcases I.ntc k' h1' hk' b o hb hn with ⟨h2, L, h3, h4⟩ | h2
      · exact .inl ⟨h2, L, h3, extk e h4⟩
      · exact .inr h2
  · rcases pubOld b c E hp with h0 | h0
    · obtain ⟨h1, h2, h3⟩ := T.new b c E hp h0
      rw [w6 b h3]; exact (newN b c E hp h0).2.2
    · rw [w6 b (I.pub b c E h0).1]; exact I.at_.2 b c E h0
  · rcases pubOld b c E hp with h0 | h0
    · obtain ⟨h1, h2, h3⟩ := T.new b c E hp h0
      obtain ⟨n1, n2, n3⟩ := newN b c E hp h0
      refine ⟨h3, n1, n2, fun k' hk' o hb => ?_⟩
      by_cases e : k' = k
      · subst e
        rw [upd_same, h2] at hb
        simp only [Option.some.injEq] at hb
        exact ⟨_, hb.symm, isRo_roO c⟩
      · rw [upd_ne _ _ e, own_ap (I.ap k k' hk hk' (Ne.symm e)) h1] at hb; cases hb
    · obtain ⟨n1, n2, n3, n4⟩ := I.pub b c E h0
      refine ⟨n1, n2, n3, fun k' hk' o hb => ?_⟩
      by_cases e : k' = k
      · subst e
        rw [upd_same] at hb
        rcases T.same b n1 with hs | ⟨c', E', hp', hx, hor⟩
        · rw [hs] at hb; exact n4 k' hk' o hb
        · rw [hx] at hb
          rw [hp] at hp'
          simp only [Option.some.injEq, Prod.mk.injEq] at hb hp'
          obtain ⟨rfl, rfl⟩ := hp'
          exact ⟨_, hb.symm, isRo_roO c⟩
      · rw [upd_ne _ _ e] at hb; exact n4 k' hk' o hb
  · rcases u with ⟨rfl, _, _⟩ | ⟨v, hv, hok, rfl, _, _⟩
    · exact I.hst
    · exact I.hst.snoc hok
  · rcases u with ⟨rfl, _, _⟩ | ⟨v, hv, hok, rfl, _, _⟩
    · exact I.byle
    · intro x hx
      rcases List.mem_append.1 hx with hx | hx
      · exact I.byle x hx
      · simp at hx; subst hx; omega
  · exact ⟨w1.trans I.bel.os, w2.trans I.bel.tape, w3.trans I.bel.output, by rw [w4]; exact I.bel.size, fun b hb => (w6 b (by omega)).trans (I.bel.block b hb)⟩
  · rw [w4]; exact I.n0
  · intro k' hk' b o hb hlt
    by_cases e : k' = k
    · subst e
      rw [upd_same] at hb
      rcases T.same b (by omega) with hs | ⟨c', E', hp', hx, hor⟩
      · rw [hs] at hb; exact I.old k' hk' b o hb hlt
      · rcases pubOld b c' E' hp' with h0 | h0
        · have := (newN b c' E' hp' h0).2.1; omega
        · have := (I.pub b c' E' h0).2.2.1; omega
    · rw [upd_ne _ _ e] at hb; exact I.old k' hk' b o hb hlt
end
end Go.Proofs.Ytojhnclkhiffkaa

/-
  The invariant, what is held: kept by steps at the group's cells, at a worker's last cell; by the starter's notes; by a go statement.
-/
namespace Go.Proofs.Ytojhnclkhiffkaa
open Go.Conc Go.RowKit
open Go.ConcN (upd upd_same upd_ne)
open Go.ConcR (rd wr mk stA smA WgAt wgBlock KK)
set_option linter.unusedVariables false

section
variable {pr : Pro} {j M Wg : Nat} {e0 : Value} {γ : List Value} {ph V : Nat} {ds : List Value} {N0 : Nat} {W0 : World} {Hs : Nat → H} {w w' : World}
theorem HI.M0 (I : HI pr j M Wg e0 γ ph V ds N0 W0 Hs w) : N0 ≤ M := by
  rcases Nat.lt_or_ge M N0 with h | h
  · obtain ⟨c, E, e⟩ := I.old 0 (by omega) M _ I.hM h; cases e
  · exact h
theorem HI.Wg0 (I : HI pr j M Wg e0 γ ph V ds N0 W0 Hs w) : N0 ≤ Wg := by
  rcases Nat.lt_or_ge Wg N0 with h | h
  · obtain ⟨c, E, e⟩ := I.old 0 (by omega) Wg _ I.hW h; cases e
  · exact h
/-- What each has at the group's block. -/
theorem HI.noteW (I : HI pr j M Wg e0 γ ph V ds N0 W0 Hs w) {k : Nat} (hk : k ≤ j) : Hs k Wg = none ∨ ∃ t a L, Hs k Wg = some (noteO pr.tg 2 t a L) ∧ 2 ≤ t := by
  by_cases h0 : k = 0
  · subst h0; exact .inr ⟨_, _, _, I.hW, by omega⟩
  · rcases I.atW hk with h1 | ⟨E, n, t, s, L, h1, _⟩
    · exact .inl h1
    · rcases I.ntc k (by omega) hk Wg _ h1 (noteOf_ne _ _ _ _ _) with ⟨e, _⟩ | ⟨_, d, _, e⟩
      · exact absurd e.symm I.ne
      · exact .inr ⟨2, 0, _, by rw [h1, e]; rfl, Nat.le_refl _⟩
/-- A turn of the group's block. -/
theorem HI.wg (I : HI pr j M Wg e0 γ ph V ds N0 W0 Hs w) (A : Aside Wg w w') {st sm : Int} (hw : WgAt pr.tg Wg w' st sm) : HI pr j M Wg e0 γ ph V ds N0 W0 Hs w' := by
  refine ⟨fun k hk b o hb => ?_, I.ap, I.hM, I.hW, I.ne, I.nts0, I.ntc, I.dl, ⟨(A.block M I.ne).trans I.at_.1, fun b c E hp => (A.block b (I.pub b c E hp).2.1).trans (I.at_.2 b c E hp)⟩, I.pub, I.hst, I.ext0, I.byle, ?_, by rw [A.size]; exact I.n0, I.old⟩
  · by_cases e : b = Wg
    · subst e
      rcases I.noteW hk with h1 | ⟨t, a, L, h1, ht⟩
      · rw [h1] at hb; cases hb
      · rw [h1] at hb
        simp only [Option.some.injEq] at hb
        subst hb
        have hw' : w'.heap[b]? = some (wgBlock pr.tg st sm) := hw
        rw [hw']
        exact HolO_note.2 ⟨_, rfl, rfl, fun h => by omega, fun _ => ⟨st, sm, rfl⟩⟩
    · rw [A.block b e]; exact I.hol k hk b o hb
  · have := I.Wg0
    exact ⟨A.os.trans I.bel.os, A.tape.trans I.bel.tape, A.output.trans I.bel.output, by rw [A.size]; exact I.bel.size, fun b hb => (A.block b (by omega)).trans (I.bel.block b hb)⟩
/-- A turn of a worker's last cell. -/
theorem HI.cc (I : HI pr j M Wg e0 γ ph V ds N0 W0 Hs w) {k C : Nat} (hk : k ≤ j) (hC : Hs k C = some (.deferred none)) (A : Aside C w w') : HI pr j M Wg e0 γ ph V ds N0 W0 Hs w' := by
  have none_ : ∀ k', k' ≤ j → k' ≠ k → Hs k' C = none := by
    intro k' hk' hne
    cases h2 : Hs k' C with
    | none => rfl
    | some o =>
      exfalso
      have d := I.ap k k' hk hk' (Ne.symm hne) _ _ _ hC h2
      generalize hx : (Obj.deferred none) = x at d
      cases d <;> cases hx
  have nM : C ≠ M := by
    rintro rfl
    rcases I.atM hk with h1 | ⟨E, n, t, s, L, h1, _⟩ <;> rw [h1] at hC <;> cases hC
  have nWg : C ≠ Wg := by
    rintro rfl
    rcases I.atW hk with h1 | ⟨E, n, t, s, L, h1, _⟩ <;> rw [h1] at hC <;> cases hC
  have nP : ∀ b c E, pr.pub γ b = some (c, E) → b ≠ C := by
    rintro b c E hp rfl
    obtain ⟨fr, e, _⟩ := (I.pub b c E hp).2.2.2 k hk _ hC
    cases e
  have C0 : N0 ≤ C := by
    rcases Nat.lt_or_ge C N0 with h | h
    · obtain ⟨c, E, e⟩ := I.old k hk C _ hC h; cases e
    · exact h
  refine ⟨fun k' hk' b o hb => ?_, I.ap, I.hM, I.hW, I.ne, I.nts0, I.ntc, I.dl, ⟨(A.block M (Ne.symm nM)).trans I.at_.1, fun b c E hp => (A.block b (nP b c E hp)).trans (I.at_.2 b c E hp)⟩, I.pub, I.hst, I.ext0, I.byle, ?_, by rw [A.size]; exact I.n0, I.old⟩
  · by_cases e : b = C
    · subst e
      by_cases ek : k' = k
      · subst ek
        rw [hC] at hb
        simp only [Option.some.injEq] at hb
        subst hb
        have hlt := (I.hol k' hk').lt hC
        rw [← A.size] at hlt
        exact ⟨_, Array.getElem?_eq_getElem hlt⟩
      · rw [none_ k' hk' ek] at hb; cases hb
    · rw [A.block b e]; exact I.hol k' hk' b o hb
  · exact ⟨A.os.trans I.bel.os, A.tape.trans I.bel.tape, A.output.trans I.bel.output, by rw [A.size]; exact I.bel.size, fun b hb => (A.block b (by omega)).trans (I.bel.block b hb)⟩
/-- The starter's note at the group turns. -/
theorem HI.phase (I : HI pr j M Wg e0 γ ph V ds N0 W0 Hs w) (ph' V' : Nat) : HI pr j M Wg e0 γ ph' V' ds N0 W0 (upd Hs 0 (hupd (Hs 0) Wg (nG pr ph' V' ds))) w := by
  have hne := I.ne
  have at0 : ∀ b o, hupd (Hs 0) Wg (nG pr ph' V' ds) b = some o → (b = Wg ∧ o = nG pr ph' V' ds) ∨ (b ≠ Wg ∧ Hs 0 b = some o) := by
    intro b o hb
    by_cases e : b = Wg
    · subst e; rw [hupd_same] at hb; simp only [Option.some.injEq] at hb; exact .inl ⟨rfl, hb.symm⟩
    · rw [hupd_ne _ _ e] at hb; exact .inr ⟨e, hb⟩
  have ap0 : ∀ k, k ≤ j → k ≠ 0 → Ap (hupd (Hs 0) Wg (nG pr ph' V' ds)) (Hs k) := by
    intro k hk h0 b o o' hb hb'
    rcases at0 b o hb with ⟨rfl, rfl⟩ | ⟨e, hb⟩
    · rcases I.noteW hk with h1 | ⟨t, a, L, h1, ht⟩
      · rw [h1] at hb'; cases hb'
      · rw [h1] at hb'
        simp only [Option.some.injEq] at hb'
        subst hb'
        exact .note (by omega) (by omega)
    · exact I.ap 0 k (by omega) hk (Ne.symm h0) b o o' hb hb'
  refine ⟨fun k hk b o hb => ?_, fun a b ha hb hab => ?_, ?_, ?_, I.ne, ?_, fun k k1 hk => ?_, I.dl, I.at_, fun b c E hp => ?_, I.hst, I.ext0, I.byle, I.bel, I.n0, fun k hk b o hb hlt => ?_⟩
  · by_cases e : k = 0
    · subst e
      rw [upd_same] at hb
      rcases at0 b o hb with ⟨rfl, rfl⟩ | ⟨e, hb⟩
      · obtain ⟨c, h1, h2, _, h4⟩ := HolO_note.1 (I.hol 0 (by omega) _ _ I.hW)
        exact HolO_note.2 ⟨c, h1, h2, fun h => by omega, fun _ => h4 (by omega)⟩
      · exact I.hol 0 (by omega) b o hb
    · rw [upd_ne _ _ e] at hb; exact I.hol k hk b o hb
  · by_cases ea : a = 0
    · subst ea
      rw [upd_same, upd_ne _ _ (Ne.symm hab)]
      exact ap0 b hb (Ne.symm hab)
    · rw [upd_ne _ _ ea]
      by_cases eb : b = 0
      · subst eb; rw [upd_same]; exact (ap0 a ha hab).symm
      · rw [upd_ne _ _ eb]; exact I.ap a b ha hb hab
  · rw [upd_same, hupd_ne _ _ hne]; exact I.hM
  · rw [upd_same, hupd_same]
  · rw [upd_same]
    intro b o hb hn
    rcases at0 b o hb with ⟨rfl, rfl⟩ | ⟨e, hb⟩
    · exact .inr (.inl rfl)
    · exact I.nts0 b o hb hn
  · rw [upd_ne _ _ (by omega)]; exact I.ntc k k1 hk
  · obtain ⟨n1, n2, n3, n4⟩ := I.pub b c E hp
    refine ⟨n1, n2, n3, fun k hk o hb => ?_⟩
    by_cases e : k = 0
    · subst e
      rw [upd_same] at hb
      rcases at0 b o hb with ⟨rfl, rfl⟩ | ⟨e, hb⟩
      · exact absurd rfl n2
      · exact n4 0 (by omega) o hb
    · rw [upd_ne _ _ e] at hb; exact n4 k hk o hb
  · by_cases e : k = 0
    · subst e
      rw [upd_same] at hb
      rcases at0 b o hb with ⟨rfl, rfl⟩ | ⟨e, hb⟩
      · have := I.Wg0; omega
      · exact I.old 0 (by omega) b o hb hlt
    · rw [upd_ne _ _ e] at hb; exact I.old k hk b o hb hlt

/-- An own block of a party's is put aside: read from now on; parted; given up. -/
theorem HI.aside (I : HI pr j M Wg e0 γ ph V ds N0 W0 Hs w) {k : Nat} (hk : k ≤ j) {b : Nat} {c : Array Value} {E : TypeId} (hb : Hs k b = some (.cells c E)) {o : Obj} (ho : HolO o (some (.cells c E)))
    (hn : noteOf o ≠ none → k = 0 ∧ ∃ E n a L, o = noteO E n 0 a L) : HI pr j M Wg e0 γ ph V ds N0 W0 (upd Hs k (hupd (Hs k) b o)) w := by
  have nM : b ≠ M := by
    rintro rfl
    rcases I.atM hk with h1 | ⟨E, n, t, s, L, h1, _⟩ <;> rw [h1] at hb <;> cases hb
  have nWg : b ≠ Wg := by
    rintro rfl
    rcases I.atW hk with h1 | ⟨E, n, t, s, L, h1, _⟩ <;> rw [h1] at hb <;> cases hb
  have b0 : N0 ≤ b := by
    rcases Nat.lt_or_ge b N0 with h | h
    · obtain ⟨c', E', e⟩ := I.old k hk b _ hb h
      simp [roF] at e
    · exact h
  have hw : w.heap[b]? = some (.cells c E) := (HolO_own (not_isRo0 c)).1 (I.hol k hk b _ hb)
  have at0 : ∀ x y, hupd (Hs k) b o x = some y → (x = b ∧ y = o) ∨ (x ≠ b ∧ Hs k x = some y) := by
    intro x y hx
    by_cases e : x = b
    · subst e; rw [hupd_same] at hx; simp only [Option.some.injEq] at hx; exact .inl ⟨rfl, hx.symm⟩
    · rw [hupd_ne _ _ e] at hx; exact .inr ⟨e, hx⟩
  have apk : ∀ k', k' ≤ j → k' ≠ k → Ap (hupd (Hs k) b o) (Hs k') := by
    intro k' hk' h0 x y y' hx hy
    rcases at0 x y hx with ⟨rfl, rfl⟩ | ⟨e, hx⟩
    · rw [own_ap (I.ap k k' hk hk' (Ne.symm h0)) hb] at hy; cases hy
    · exact I.ap k k' hk hk' (Ne.symm h0) x y y' hx hy
  refine ⟨fun k' hk' x y hx => ?_, fun x y hx hy hab => ?_, ?_, ?_, I.ne, ?_, fun k' k1 hk' x y hx hny => ?_, I.dl, I.at_, fun x c' E' hp => ?_, I.hst, I.ext0, I.byle, I.bel, I.n0, fun k' hk' x y hx hlt => ?_⟩
  · by_cases e : k' = k
    · subst e
      rw [upd_same] at hx
      rcases at0 x y hx with ⟨rfl, rfl⟩ | ⟨e, hx⟩
      · rw [hw]; exact ho
      · exact I.hol k' hk' x y hx
    · rw [upd_ne _ _ e] at hx; exact I.hol k' hk' x y hx
  · by_cases ea : x = k
    · subst ea
      rw [upd_same, upd_ne _ _ (Ne.symm hab)]
      exact apk y hy (Ne.symm hab)
    · rw [upd_ne _ _ ea]
      by_cases eb : y = k
      · subst eb; rw [upd_same]; exact (apk x hx hab).symm
      · rw [upd_ne _ _ eb]; exact I.ap x y hx hy hab
  · by_cases e : k = 0
    · subst e; rw [upd_same, hupd_ne _ _ (Ne.symm nM)]; exact I.hM
    · rw [upd_ne _ _ (Ne.symm e)]; exact I.hM
  · by_cases e : k = 0
    · subst e; rw [upd_same, hupd_ne _ _ (Ne.symm nWg)]; exact I.hW
    · rw [upd_ne _ _ (Ne.symm e)]; exact I.hW
  · intro x y hx hny
    by_cases e : k = 0
    · subst e
      rw [upd_same] at hx
      rcases at0 x y hx with ⟨rfl, rfl⟩ | ⟨e, hx⟩
      · exact .inr (.inr (hn hny).2)
      · exact I.nts0 x y hx hny
    · rw [upd_ne _ _ (Ne.symm e)] at hx; exact I.nts0 x y hx hny
  · by_cases e : k' = k
    · subst e
      rw [upd_same] at hx
      rcases at0 x y hx with ⟨rfl, rfl⟩ | ⟨e, hx⟩
      · have := (hn hny).1; omega
      · exact I.ntc k' k1 hk' x y hx hny
    · rw [upd_ne _ _ e] at hx; exact I.ntc k' k1 hk' x y hx hny
  · obtain ⟨n1, n2, n3, n4⟩ := I.pub x c' E' hp
    refine ⟨n1, n2, n3, fun k' hk' y hx => ?_⟩
    by_cases e : k' = k
    · subst e
      rw [upd_same] at hx
      rcases at0 x y hx with ⟨rfl, rfl⟩ | ⟨e, hx⟩
      · exfalso
        obtain ⟨fr, e, hr⟩ := n4 k' hk' _ hb
        simp only [Obj.cells.injEq] at e
        obtain ⟨rfl, rfl, rfl⟩ := e
        exact not_isRo0 _ hr
      · exact n4 k' hk' y hx
    · rw [upd_ne _ _ e] at hx; exact n4 k' hk' y hx
  · by_cases e : k' = k
    · subst e
      rw [upd_same] at hx
      rcases at0 x y hx with ⟨rfl, rfl⟩ | ⟨e, hx⟩
      · omega
      · exact I.old k' hk' x y hx hlt
    · rw [upd_ne _ _ e] at hx; exact I.old k' hk' x y hx hlt

/-- A go STATEMENT. -/
theorem HI.fork (I : HI pr j M Wg e0 γ ph V ds N0 W0 Hs w) {hc h' : H} {d : Value} (sp : ∀ b, b ≠ Wg → SpO pr (ds.length + 1) (Hs 0 b) (hc b) (h' b)) (hcW : hc Wg = some (nW pr d)) (hW' : h' Wg = some (nG pr 0 0 (ds ++ [d]))) :
    HI pr (j + 1) M Wg e0 γ 0 0 (ds ++ [d]) N0 W0 (upd (upd Hs 0 h') (j + 1) hc) w := by
  have dl := I.dl
  have u0 : upd (upd Hs 0 h') (j + 1) hc 0 = h' := by rw [upd_ne _ _ (by omega), upd_same]
  have uj : upd (upd Hs 0 h') (j + 1) hc (j + 1) = hc := upd_same _ _ _
  have uk : ∀ k, 1 ≤ k → k ≤ j → upd (upd Hs 0 h') (j + 1) hc k = Hs k := fun k h1 h2 => by rw [upd_ne _ _ (by omega), upd_ne _ _ (by omega)]
  have holW := HolO_note.1 (I.hol 0 (by omega) _ _ I.hW)
  -- the child's blocks
  have childB : ∀ b o, hc b = some o → (b = Wg ∧ o = nW pr d) ∨ (b ≠ Wg ∧ ((∃ c E, o = .cells c E ∧ Hs 0 b = some o ∧ h' b = none) ∨ (∃ c E fr, o = .cells c E fr ∧ isRo c fr ∧ Hs 0 b = some o ∧ h' b = some o) ∨
      (∃ E n a L v, L[a]? = some v ∧ a < n ∧ o = oneO a v n E ∧ Hs 0 b = some (noteO E n 0 a L) ∧ h' b = some (noteO E n 0 (a + 1) L)) ∨ (∃ L, o = nM pr (j + 1) L ∧ Hs 0 b = some (nM pr 0 L) ∧ h' b = some (nM pr 0 L)))) := by
    intro b o hb
    by_cases e : b = Wg
    · subst e
      rw [hcW] at hb
      simp only [Option.some.injEq] at hb
      exact .inl ⟨rfl, hb.symm⟩
    · refine .inr ⟨e, ?_⟩
      have s := sp b e
      rw [hb] at s
      generalize hx : Hs 0 b = x at s
      generalize hy : h' b = y at s
      generalize hz : (some o : Option Obj) = z at s
      cases s with
      | mine => cases hz
      | give c E => simp only [Option.some.injEq] at hz; subst hz; exact .inl ⟨c, E, rfl, rfl, rfl⟩
      | copy c E fr hr => simp only [Option.some.injEq] at hz; subst hz; exact .inr (.inl ⟨c, E, fr, rfl, hr, rfl, rfl⟩)
      | part E n a L v hv ha => simp only [Option.some.injEq] at hz; subst hz; exact .inr (.inr (.inl ⟨E, n, a, L, v, hv, ha, rfl, rfl, rfl⟩))
      | note L => simp only [Option.some.injEq] at hz; subst hz; exact .inr (.inr (.inr ⟨L, by rw [dl], rfl, rfl⟩))
  -- the starter's
  have mineB : ∀ b o, h' b = some o → (b = Wg ∧ o = nG pr 0 0 (ds ++ [d])) ∨ (b ≠ Wg ∧ (Hs 0 b = some o ∨ ∃ E n a L, Hs 0 b = some (noteO E n 0 a L) ∧ o = noteO E n 0 (a + 1) L)) := by
    intro b o hb
    by_cases e : b = Wg
    · subst e
      rw [hW'] at hb
      simp only [Option.some.injEq] at hb
      exact .inl ⟨rfl, hb.symm⟩
    · refine .inr ⟨e, ?_⟩
      have s := sp b e
      rw [hb] at s
      generalize hx : Hs 0 b = x at s
      generalize hy : hc b = y at s
      generalize hz : (some o : Option Obj) = z at s
      cases s with
      | mine => exact .inl rfl
      | give c E => cases hz
      | copy c E fr hr => exact .inl rfl
      | part E n a L v hv ha => simp only [Option.some.injEq] at hz; subst hz; exact .inr ⟨E, n, a, L, rfl, rfl⟩
      | note L => exact .inl rfl
  have ap0c : Ap h' hc := by
    intro b o o' hb hb'
    rcases childB b o' hb' with ⟨rfl, rfl⟩ | ⟨e, ⟨c, E, rfl, h1, h2⟩ | ⟨c, E, fr, rfl, hr, h1, h2⟩ | ⟨E, n, a, L, v, hv, ha, rfl, h1, h2⟩ | ⟨L, rfl, h1, h2⟩⟩
    · rw [hW'] at hb; simp only [Option.some.injEq] at hb; subst hb; exact .note (by omega) (by omega)
    · rw [h2] at hb; cases hb
    · rw [h2] at hb; simp only [Option.some.injEq] at hb; subst hb; exact .ro hr hr
    · rw [h2] at hb; simp only [Option.some.injEq] at hb; subst hb; exact .partOne (by omega)
    · rw [h2] at hb; simp only [Option.some.injEq] at hb; subst hb; exact .note (Nat.le_refl _) (Nat.le_refl _)
  have apk0 : ∀ k, 1 ≤ k → k ≤ j → Ap h' (Hs k) := by
    intro k k1 hk b o o' hb hb'
    rcases mineB b o hb with ⟨rfl, rfl⟩ | ⟨e, h1 | ⟨E, n, a, L, h1, rfl⟩⟩
    · rcases I.noteW hk with h1 | ⟨t, a, L, h1, ht⟩
      · rw [h1] at hb'; cases hb'
      · rw [h1] at hb'; simp only [Option.some.injEq] at hb'; subst hb'; exact .note (by omega) (by omega)
    · exact I.ap 0 k (by omega) hk (by omega) b o o' h1 hb'
    · have D := I.ap 0 k (by omega) hk (by omega) b _ o' h1 hb'
      generalize hx : noteO E n 0 a L = x at D
      cases D with
      | ro _ _ => cases hx
      | one _ => cases hx
      | onePart _ => cases hx
      | partOne hi =>
        simp only [noteO, Obj.deferred.injEq, Option.some.injEq, List.cons.injEq, Deferred.mk.injEq, Target.collected.injEq] at hx
        exact .partOne (by omega)
      | note h1 _ =>
        simp only [noteO, Obj.deferred.injEq, Option.some.injEq, List.cons.injEq, Deferred.mk.injEq, Target.collected.injEq] at hx
        omega
  have apkc : ∀ k, 1 ≤ k → k ≤ j → Ap hc (Hs k) := by
    intro k k1 hk b o o' hb hb'
    have ap := I.ap 0 k (by omega) hk (by omega) b
    rcases childB b o hb with ⟨rfl, rfl⟩ | ⟨e, ⟨c, E, rfl, h1, h2⟩ | ⟨c, E, fr, rfl, hr, h1, h2⟩ | ⟨E, n, a, L, v, hv, ha, rfl, h1, h2⟩ | ⟨L, rfl, h1, h2⟩⟩
    · rcases I.noteW hk with h1 | ⟨t, a, L, h1, ht⟩
      · rw [h1] at hb'; cases hb'
      · rw [h1] at hb'; simp only [Option.some.injEq] at hb'; subst hb'; exact .note (by omega) (by omega)
    · exact ap _ o' h1 hb'
    · exact ap _ o' h1 hb'
    · have D := ap _ o' h1 hb'
      generalize hx : noteO E n 0 a L = x at D
      cases D with
      | ro _ _ => cases hx
      | one _ => cases hx
      | onePart _ => cases hx
      | partOne hi =>
        simp only [noteO, Obj.deferred.injEq, Option.some.injEq, List.cons.injEq, Deferred.mk.injEq, Target.collected.injEq] at hx
        exact .one (by omega)
      | note h1 _ =>
        simp only [noteO, Obj.deferred.injEq, Option.some.injEq, List.cons.injEq, Deferred.mk.injEq, Target.collected.injEq] at hx
        omega
    · rcases (I.ap 0 k (by omega) hk (by omega)).note h1 (Nat.le_refl _) with h3 | ⟨E, n, t, s, L', h3, h4⟩
      · rw [h3] at hb'; cases hb'
      · rw [h3] at hb'; simp only [Option.some.injEq] at hb'; subst hb'; exact .note (Nat.le_refl _) h4
  have hol0 : Hol h' w := by
    intro b o hb
    rcases mineB b o hb with ⟨rfl, rfl⟩ | ⟨e, h1 | ⟨E, n, a, L, h1, rfl⟩⟩
    · obtain ⟨c, h1, h2, _, h4⟩ := holW
      exact HolO_note.2 ⟨c, h1, h2, fun h => by omega, fun _ => h4 (by omega)⟩
    · exact I.hol 0 (by omega) b o h1
    · obtain ⟨c, h2, h3, h4, h5⟩ := HolO_note.1 (I.hol 0 (by omega) b _ h1)
      exact HolO_note.2 ⟨c, h2, h3, fun _ i hi => h4 rfl i (by omega), fun h => by omega⟩
  have holc : Hol hc w := by
    intro b o hb
    rcases childB b o hb with ⟨rfl, rfl⟩ | ⟨e, ⟨c, E, rfl, h1, h2⟩ | ⟨c, E, fr, rfl, hr, h1, h2⟩ | ⟨E, n, a, L, v, hv, ha, rfl, h1, h2⟩ | ⟨L, rfl, h1, h2⟩⟩
    · obtain ⟨c, h1, h2, _, h4⟩ := holW
      exact HolO_note.2 ⟨c, h1, h2, fun h => by omega, fun _ => h4 (by omega)⟩
    · exact I.hol 0 (by omega) b _ h1
    · exact I.hol 0 (by omega) b _ h1
    · obtain ⟨c, h2, h3, h4, h5⟩ := HolO_note.1 (I.hol 0 (by omega) b _ h1)
      exact HolO_one.2 ⟨c, h2, h3, by rw [h4 rfl a (Nat.le_refl _)]; exact hv⟩
    · obtain ⟨c, h2, h3, h4, h5⟩ := HolO_note.1 (I.hol 0 (by omega) b _ h1)
      exact HolO_note.2 ⟨c, h2, h3, fun h => by omega, fun h => by omega⟩
  have three : ∀ k, k ≤ j + 1 → k = 0 ∨ (1 ≤ k ∧ k ≤ j) ∨ k = j + 1 := fun k hk => by omega
  refine ⟨fun k hk => ?_, fun a b ha hb hab => ?_, ?_, ?_, I.ne, ?_, fun k k1 hk b o hb hn => ?_, by simp [dl], I.at_, fun b c E hp => ?_, I.hst, I.ext0, fun v hv => Nat.le_succ_of_le (I.byle v hv), I.bel, I.n0, fun k hk b o hb hlt => ?_⟩
  · rcases three k hk with rfl | ⟨h1, h2⟩ | rfl
    · rw [u0]; exact hol0
    · rw [uk k h1 h2]; exact I.hol k h2
    · rw [uj]; exact holc
  · rcases three a ha with rfl | ⟨h1, h2⟩ | rfl
    · rw [u0]
      rcases three b hb with rfl | ⟨h3, h4⟩ | rfl
      · exact absurd rfl hab
      · rw [uk b h3 h4]; exact apk0 b h3 h4
      · rw [uj]; exact ap0c
    · rw [uk a h1 h2]
      rcases three b hb with rfl | ⟨h3, h4⟩ | rfl
      · rw [u0]; exact (apk0 a h1 h2).symm
      · rw [uk b h3 h4]; exact I.ap a b h2 h4 hab
      · rw [uj]; exact (apkc a h1 h2).symm
    · rw [uj]
      rcases three b hb with rfl | ⟨h3, h4⟩ | rfl
      · rw [u0]; exact ap0c.symm
      · rw [uk b h3 h4]; exact apkc b h3 h4
      · exact absurd rfl hab
  · rw [u0]
    have s := sp M I.ne
    rw [I.hM] at s
    generalize hx : (some (nM pr 0 [e0]) : Option Obj) = x at s
    generalize hy : h' M = y at s
    generalize hz : hc M = z at s
    cases s with
    | mine => rfl
    | give c E => cases hx
    | copy c E fr hr => cases hx
    | part E n a L v hv ha => simp [nM, noteO] at hx
    | note L => rfl
  · rw [u0]; exact hW'
  · rw [u0]
    intro b o hb hn
    rcases mineB b o hb with ⟨rfl, rfl⟩ | ⟨e, h1 | ⟨E, n, a, L, h1, rfl⟩⟩
    · exact .inr (.inl rfl)
    · exact I.nts0 b o h1 hn
    · exact .inr (.inr ⟨_, _, _, _, rfl⟩)
  · rcases three k hk with rfl | ⟨h1, h2⟩ | rfl
    · omega
    · rw [uk k h1 h2] at hb
      rcases I.ntc k h1 h2 b o hb hn with h3 | ⟨h3, d', h4, h5⟩
      · exact .inl h3
      · refine .inr ⟨h3, d', ?_, h5⟩
        rw [List.getElem?_append_left (List.getElem?_eq_some_iff.1 h4).1]; exact h4
    · rw [uj] at hb
      rcases childB b o hb with ⟨rfl, rfl⟩ | ⟨e, ⟨c, E, rfl, h1, h2⟩ | ⟨c, E, fr, rfl, hr, h1, h2⟩ | ⟨E, n, a, L, v, hv, ha, rfl, h1, h2⟩ | ⟨L, rfl, h1, h2⟩⟩
      · refine .inr ⟨rfl, d, ?_, rfl⟩
        rw [Nat.add_sub_cancel, ← dl]; simp
      · exact absurd rfl hn
      · exact absurd rfl hn
      · exact absurd rfl hn
      · rcases I.nts0 b _ h1 (noteOf_ne _ _ _ _ _) with rfl | h3 | ⟨E, n, a, L', h3⟩
        · have := I.hM.symm.trans h1
          have := congrArg noteOf (Option.some.inj this)
          simp only [nM, noteOf_noteO, Option.some.injEq, Prod.mk.injEq, true_and] at this
          have hL : L = [e0] := by
            have := congrArg Array.toList this
            simpa using this.symm
          subst hL
          obtain ⟨r, hr, _⟩ := I.ext0
          exact .inl ⟨rfl, _, rfl, r, hr, fun v hv => by have := I.byle v (by rw [hr]; simp [hv]); omega⟩
        · exact absurd h3 e
        · simp [nM, noteO] at h3
  · obtain ⟨n1, n2, n3, n4⟩ := I.pub b c E hp
    refine ⟨n1, n2, n3, fun k hk o hb => ?_⟩
    rcases three k hk with rfl | ⟨h1, h2⟩ | rfl
    · rw [u0] at hb
      rcases mineB b o hb with ⟨rfl, rfl⟩ | ⟨e, h1 | ⟨E', n, a, L, h1, rfl⟩⟩
      · exact absurd rfl n2
      · exact n4 0 (by omega) o h1
      · obtain ⟨fr, e, _⟩ := n4 0 (by omega) _ h1; cases e
    · rw [uk k h1 h2] at hb; exact n4 k h2 o hb
    · rw [uj] at hb
      rcases childB b o hb with ⟨rfl, rfl⟩ | ⟨e, ⟨c', E', rfl, h1, h2⟩ | ⟨c', E', fr, rfl, hr, h1, h2⟩ | ⟨E', n, a, L, v, hv, ha, rfl, h1, h2⟩ | ⟨L, rfl, h1, h2⟩⟩
      · exact absurd rfl n2
      · exact n4 0 (by omega) _ h1
      · exact n4 0 (by omega) _ h1
      · obtain ⟨fr, e, _⟩ := n4 0 (by omega) _ h1; cases e
      · obtain ⟨fr, e, _⟩ := n4 0 (by omega) _ h1; cases e
  · rcases three k hk with rfl | ⟨h1, h2⟩ | rfl
    · rw [u0] at hb
      rcases mineB b o hb with ⟨rfl, rfl⟩ | ⟨e, h1 | ⟨E', n, a, L, h1, rfl⟩⟩
      · have := I.Wg0; omega
      · exact I.old 0 (by omega) b o h1 hlt
      · obtain ⟨c, E, e⟩ := I.old 0 (by omega) b _ h1 hlt; cases e
    · rw [uk k h1 h2] at hb; exact I.old k h2 b o hb hlt
    · rw [uj] at hb
      rcases childB b o hb with ⟨rfl, rfl⟩ | ⟨e, ⟨c', E', rfl, h1, h2⟩ | ⟨c', E', fr, rfl, hr, h1, h2⟩ | ⟨E', n, a, L, v, hv, ha, rfl, h1, h2⟩ | ⟨L, rfl, h1, h2⟩⟩
      · have := I.Wg0; omega
      · exact I.old 0 (by omega) b _ h1 hlt
      · exact I.old 0 (by omega) b _ h1 hlt
      · obtain ⟨c, E, e⟩ := I.old 0 (by omega) b _ h1 hlt; cases e
      · obtain ⟨c, E, e⟩ := I.old 0 (by omega) b _ h1 hlt; cases e
end
end Go.Proofs.Ytojhnclkhiffkaa

/-
  The invariant, the trace: kept by an own step, by a step at the shared cell, by bookkeeping at the group's cells, by a go statement.
-/
namespace Go.Proofs.Ytojhnclkhiffkaa
open Go.Conc Go.RowKit
open Go.ConcN (upd upd_same upd_ne RelBy RelBy.appOther Deaf_still norel_of Deaf_absent)
open Go.ConcR (rd wr mk stA smA WgAt wgBlock KK g_of_ofEvents ofEvent_cell)
set_option linter.unusedVariables false

def ShS (M Wg : Nat) (l : Loc) : Prop := InB M l ∨ InB Wg l
section
variable (pr : Pro)
structure TI (j M Wg : Nat) (γ : List Value) (Hs : Nat → H) (st dfs : Nat → Nat) (t : Trace) (n : Nat) : Prop where
  T : TrI t n j
  p : ∀ k, k ≤ j → (k = 0 ∨ st k = 8) → TP t k (Hs k)
  sk : ∀ k, k ≤ j → ShK (ShS M Wg) t k
  sd : ShSaid (ShS M Wg) t
  pt : PubT (fun b => pr.pub γ b ≠ none) t ⟨M, 0, none⟩
  norel : NoRelease (stA Wg) t
  df : ∀ k, k ≤ j → Deaf t k = dfs k
  rel : ∀ k, 1 ≤ k → k ≤ j → st k ≤ 6 → ∃ r, Rel Wg t k r
end
section
variable {pr : Pro} {j M Wg : Nat} {e0 : Value} {γ : List Value} {ph V : Nat} {ds : List Value} {N0 : Nat} {W0 : World} {Hs : Nat → H} {w w' : World} {st dfs : Nat → Nat} {t : Trace} {n : Nat}
theorem note_noL {h : H} {b : Nat} (hb : h b = none ∨ ∃ E n t s L, h b = some (noteO E n t s L) ∧ 1 ≤ t) {l : Loc} (hl : InB b l) : ¬ OwnL h l ∧ ¬ RdL h l := by
  obtain ⟨a, rfl, rfl⟩ := hl
  rcases hb with hb | ⟨E, n, t, s, L, hb, ht⟩
  · refine ⟨?_, ?_⟩
    · rintro (⟨c, E, fr, h1, _⟩ | ⟨_, v, n, E, h1⟩ | ⟨_, s, n, E, L, h1, _⟩) <;> rw [hb] at h1 <;> cases h1
    · rintro ⟨c, E, fr, h1, _⟩; rw [hb] at h1; cases h1
  · refine ⟨?_, ?_⟩
    · rintro (⟨c, E, fr, h1, _⟩ | ⟨_, v, n, E, h1⟩ | ⟨_, s, n, E, L, h1, _⟩) <;> rw [hb] at h1
      · cases h1
      · cases h1
      · have := congrArg noteOf (Option.some.inj h1)
        simp only [noteOf_noteO, Option.some.injEq, Prod.mk.injEq] at this
        omega
    · rintro ⟨c, E, fr, h1, _⟩; rw [hb] at h1; cases h1
theorem HI.noS (I : HI pr j M Wg e0 γ ph V ds N0 W0 Hs w) {k : Nat} (hk : k ≤ j) {l : Loc} (hl : ShS M Wg l) : ¬ OwnL (Hs k) l ∧ ¬ RdL (Hs k) l := by
  rcases hl with hl | hl
  · exact note_noL (I.atM hk) hl
  · exact note_noL (I.atW hk) hl
theorem HI.noP (I : HI pr j M Wg e0 γ ph V ds N0 W0 Hs w) {k : Nat} (hk : k ≤ j) {ad : Addr} (ho : OwnL (Hs k) (.cell ad)) : ad ≠ ⟨M, 0, none⟩ ∧ ¬ pr.pub γ ad.block ≠ none := by
  refine ⟨?_, fun hp => ?_⟩
  · rintro rfl; exact (I.noS hk (.inl ⟨_, rfl, rfl⟩)).1 ho
  · cases hx : pr.pub γ ad.block with
    | none => exact hp hx
    | some x =>
      obtain ⟨c, E⟩ := x
      have p4 := (I.pub _ c E hx).2.2.2 k hk
      rcases ho with ⟨c', E', fr, h1, h2⟩ | ⟨_, v, n, E', h1⟩ | ⟨_, s, n, E', L, h1, _⟩
      · obtain ⟨fr', e, hr⟩ := p4 _ h1
        simp only [Obj.cells.injEq] at e
        obtain ⟨rfl, rfl, rfl⟩ := e
        exact h2 hr
      · obtain ⟨fr', e, hr⟩ := p4 _ h1; cases e
      · obtain ⟨fr', e, hr⟩ := p4 _ h1; cases e
theorem wi_norel {k : Nat} {h : H} {es : Array Event} (he : ∀ e ∈ es, EvO h e) (Wg : Nat) : ∀ e ∈ es, e.loc ≠ .mark (.release (stA Wg)) := fun e hm => (he e hm).mark.2.2 _
theorem still_of {k : Nat} {fn : FuncId} {pos : String} {es : Array Event} (he : ∀ e ∈ es, e.loc ≠ .mark .disable ∧ e.loc ≠ .mark .enable) : ∀ op ∈ MemOp.ofEvents k fn pos es, op.act ≠ .mark .disable ∧ op.act ≠ .mark .enable := by
  intro op hop
  rw [ofEvents_eq] at hop
  obtain ⟨e, hm, rfl⟩ := Array.mem_map.1 hop
  exact ⟨fun h => (he e hm).1 (Go.ConcR.loc_of_ofEvent h), fun h => (he e hm).2 (Go.ConcR.loc_of_ofEvent h)⟩

/-- AN OWN STEP OF PARTY k. -/
theorem TI.own (X : TI pr j M Wg γ Hs st dfs t w.heap.size) (I : HI pr j M Wg e0 γ ph V ds N0 W0 Hs w) {k : Nat} (hk : k ≤ j) (live : k = 0 ∨ st k = 8) {h1 : H} {es : Array Event} (f : Fra (Hs k) w h1 w' es) (fn : FuncId) (pos : String) :
    TI pr j M Wg γ (upd Hs k h1) st dfs (t ++ MemOp.ofEvents k fn pos es) w'.heap.size := by
  have I' := I.own hk f
  have hu : ∀ op ∈ MemOp.ofEvents k fn pos es, WiOp k h1 op := wi_of f.ev fn pos
  have e1 : upd Hs k h1 k = h1 := upd_same _ _ _
  have noS : ∀ l, ShS M Wg l → ¬ OwnL h1 l ∧ ¬ RdL h1 l := fun l hl => by have := I'.noS hk hl; rwa [e1] at this
  have hf : TP t k h1 := (X.p k hk live).fra X.T f
  refine ⟨X.T.own hf (fun l hl => hl.elim (fun h => h.lt f.hol) (fun h => h.lt f.hol)) f.size hk hu, fun k' hk' lv => ?_, fun k' hk' => (X.sk k' hk').own noS hu, X.sd.own noS hu, ?_, X.norel.app (norel_of (wi_norel (k := k) f.ev Wg)), fun k' hk' => ?_, fun k' h1' hk' hs => ?_⟩
  · by_cases e : k' = k
    · subst e; rw [upd_same]; exact hf.app fun op hop => (hu op hop).1
    · rw [upd_ne _ _ e]
      refine (X.p k' hk' lv).other ?_ hu
      have := I'.ap k k' hk hk' (Ne.symm e)
      rwa [e1, upd_ne _ _ e] at this
  · refine X.pt.app fun op hop x hx hw ad hl => ?_
    rcases (hu op hop).2 x hx with ho | ⟨_, hw'⟩
    · rw [hl] at ho
      have := I'.noP hk (ad := ad) (by rw [e1]; exact ho)
      exact this
    · rw [hw'] at hw; cases hw
  · rw [Deaf_still t k' _ (still_of fun e he => ⟨(f.ev e he).mark.1, (f.ev e he).mark.2.1⟩), X.df k' hk']
  · by_cases e : k' = k
    · subst e
      rcases live with h | h <;> omega
    · obtain ⟨r, R⟩ := X.rel k' h1' hk' hs
      exact ⟨r, R.app (R.rel.appOther g_of_ofEvents (Ne.symm e)) fun op hop hg => absurd ((g_of_ofEvents op hop).symm.trans hg) (Ne.symm e)⟩

/-- BOOKKEEPING OF PARTY k, at the group's cells. -/
theorem TI.book (X : TI pr j M Wg γ Hs st dfs t w.heap.size) (I : HI pr j M Wg e0 γ ph V ds N0 W0 Hs w) {k : Nat} (hk : k ≤ j) {u : Trace} (hu : ∀ op ∈ u, ShOp (InB Wg) k op) {st' dfs' : Nat → Nat}
    (hst : ∀ k', k' ≠ k → st' k' = st k') (hst8 : k = 0 ∨ (st' k = 8 → st k = 8)) (hd : Deaf (t ++ u) k = dfs' k) (hds : ∀ k', k' ≠ k → dfs' k' = dfs k') (hnr : ∀ op ∈ u, op.act ≠ .mark (.release (stA Wg))) (hrel : 1 ≤ k → st' k ≤ 6 → ∃ r, Rel Wg (t ++ u) k r) :
    TI pr j M Wg γ Hs st' dfs' (t ++ u) w.heap.size := by
  have hu' : ∀ op ∈ u, ShOp (ShS M Wg) k op := fun op hop => ⟨(hu op hop).1, fun x hx => let ⟨a, b⟩ := (hu op hop).2 x hx; ⟨.inr a, b⟩⟩
  have hlt : ∀ l, ShS M Wg l → LocLt w.heap.size l := by
    rintro l (⟨a, rfl, rfl⟩ | ⟨a, rfl, rfl⟩)
    · exact (I.hol 0 (by omega)).lt I.hM
    · exact (I.hol 0 (by omega)).lt I.hW
  refine ⟨X.T.sh (X.sk k hk) X.sd hlt hk hu', fun k' hk' lv => ?_, fun k' hk' => (X.sk k' hk').sh hu', X.sd.sh hu', ?_, X.norel.app hnr, fun k' hk' => ?_, fun k' h1 hk' hs => ?_⟩
  · refine (X.p k' hk' ?_).sh (fun l hl => I.noS hk' hl) hu'
    by_cases e : k' = k
    · subst e
      rcases hst8 with h | h
      · exact .inl h
      · exact lv.imp id h
    · rwa [hst k' e] at lv
  · refine X.pt.app fun op hop x hx hw ad hl => ?_
    obtain ⟨⟨a, ha, hb⟩, _⟩ := (hu op hop).2 x hx
    rw [hl] at ha
    cases ha
    refine ⟨fun e => I.ne (by rw [← hb, e]), fun hp => ?_⟩
    cases hx' : pr.pub γ ad.block with
    | none => exact hp hx'
    | some y => exact (I.pub _ y.1 y.2 hx').2.1 hb
  · by_cases e : k' = k
    · subst e; exact hd
    · rw [Deaf_other t (Ne.symm e) _ (fun op hop => (hu op hop).1), X.df k' hk', hds k' e]
  · by_cases e : k' = k
    · subst e; exact hrel h1 hs
    · rw [hst k' e] at hs
      obtain ⟨r, R⟩ := X.rel k' h1 hk' hs
      exact ⟨r, R.app (R.rel.appOther (fun op hop => (hu op hop).1) (Ne.symm e)) fun op hop hg => absurd ((hu op hop).1.symm.trans hg) (Ne.symm e)⟩
/-- What is held turns without a step. -/
theorem TI.sub (X : TI pr j M Wg γ Hs st dfs t n) {Hs' : Nat → H} (hs : ∀ k, k ≤ j → (∀ l, OwnL (Hs' k) l → OwnL (Hs k) l) ∧ ∀ l, RdL (Hs' k) l → RdL (Hs k) l ∨ OwnL (Hs k) l) {st' dfs' : Nat → Nat} (hst : ∀ k, k ≤ j → st' k = 8 → st k = 8) (hdf : ∀ k, k ≤ j → dfs' k = dfs k) (h6 : ∀ k, 1 ≤ k → k ≤ j → st' k ≤ 6 → st k ≤ 6) : TI pr j M Wg γ Hs' st' dfs' t n :=
  ⟨X.T, fun k hk lv => (X.p k hk (lv.imp id (hst k hk))).sub (hs k hk).1 (hs k hk).2, X.sk, X.sd, X.pt, X.norel, fun k hk => (X.df k hk).trans (hdf k hk).symm, fun k h1 hk h => X.rel k h1 hk (h6 k h1 hk h)⟩

/-- A STEP OF A WORKER AT THE SHARED CELL. -/
theorem TI.sh (X : TI pr j M Wg γ Hs st dfs t w.heap.size) (I : HI pr j M Wg e0 γ ph V ds N0 W0 Hs w) {k : Nat} (k1 : 1 ≤ k) (hk : k ≤ j) (live : st k = 8) (hd0 : dfs k = 0) {h' : H} {γ' : List Value} {es : Array Event} (u : pr.Upd M k γ γ' w w' es) (T : pr.Turn M k γ γ' (Hs k) h') (fn : FuncId) (pos : String) :
    TI pr j M Wg γ' (upd Hs k h') st dfs (t ++ MemOp.ofEvents k fn pos es) w'.heap.size := by
  have I' := I.sh k1 hk u T
  obtain ⟨_, _, _, hsz, _, _⟩ := upd_world (E := pr.E) I.at_.1 u
  rw [hsz]
  have hm : Addr := ⟨M, 0, none⟩
  let x : MemOp := { g := k, fn, pos, act := .access ⟨.cell ⟨M, 0, none⟩, false, true⟩ }
  let y : MemOp := { g := k, fn, pos, act := .access ⟨.cell ⟨M, 0, none⟩, true, true⟩ }
  have ops : (γ' = γ ∧ MemOp.ofEvents k fn pos es = #[x]) ∨ MemOp.ofEvents k fn pos es = #[x, y] := by
    rcases u with ⟨h1, _, rfl⟩ | ⟨v, _, _, _, _, rfl⟩
    · left; refine ⟨h1, ?_⟩; rw [ofEvents_eq]; simp [rd, ofEvent_cell, x]
    · right; rw [ofEvents_eq]; simp [rd, wr, ofEvent_cell, x, y]
  have hop : ∀ op ∈ MemOp.ofEvents k fn pos es, op = x ∨ op = y := by
    intro op h
    rcases ops with ⟨_, e⟩ | e <;> rw [e] at h <;> simp at h
    · exact .inl h
    · exact h
  have hu' : ∀ op ∈ MemOp.ofEvents k fn pos es, ShOp (ShS M Wg) k op := by
    intro op h
    rcases hop op h with rfl | rfl
    · refine ⟨rfl, fun z hz => ?_⟩
      simp only [x, MemAct.touch?, Option.some.injEq] at hz
      subst hz
      exact ⟨.inl ⟨_, rfl, rfl⟩, by simp, by simp⟩
    · refine ⟨rfl, fun z hz => ?_⟩
      simp only [y, MemAct.touch?, Option.some.injEq] at hz
      subst hz
      exact ⟨.inl ⟨_, rfl, rfl⟩, by simp, by simp⟩
  have hlt : ∀ l, ShS M Wg l → LocLt w.heap.size l := by
    rintro l (⟨a, rfl, rfl⟩ | ⟨a, rfl, rfl⟩)
    · exact (I.hol 0 (by omega)).lt I.hM
    · exact (I.hol 0 (by omega)).lt I.hW
  have hd : Deaf t k = 0 := (X.df k hk).trans hd0
  have P0 : TP (t ++ MemOp.ofEvents k fn pos es) k (Hs k) := (X.p k hk (.inr live)).app fun op h => (hu' op h).1
  -- the load knows all that was written to what is published
  have knows : ∀ i a ad, touchAt t i = some a → a.loc = .cell ad → pr.pub γ ad.block ≠ none → a.write = true → HappensBefore (t ++ #[x]) i t.size := by
    intro i a ad ha hl hb hw
    obtain ⟨p, h1, h2, h3⟩ := X.pt i a ad ha hl hb hw
    exact (h3.app #[x]).hb (notices (y := x) h1 h2 hd rfl)
  have tsplit : t ++ #[x, y] = (t ++ #[x]) ++ #[y] := by apply Array.ext'; simp
  have ox : ∀ (i : Nat) (a : Touch) (ad : Addr), touchAt (t ++ MemOp.ofEvents k fn pos es) i = some a → a.loc = .cell ad → ad.block ≠ M → touchAt t i = some a := by
    intro i a ad ha hl hne
    obtain ⟨op, ho, hox⟩ := touch_of ha
    rcases getElem?_append_cases ho with ⟨_, hi'⟩ | ⟨_, hiu⟩
    · rw [touchAt_of hi']; exact hox
    · exfalso
      rcases hop op hiu with rfl | rfl <;> simp only [x, y, MemAct.touch?, Option.some.injEq] at hox <;> subst hox <;> cases hl <;> exact hne rfl
  have knows' : ∀ i a ad, touchAt t i = some a → a.loc = .cell ad → pr.pub γ ad.block ≠ none → a.write = true → Knows (t ++ MemOp.ofEvents k fn pos es) k i := by
    intro i a ad ha hl hb hw
    have h := knows i a ad ha hl hb hw
    have hx : (t ++ #[x])[t.size]? = some x := by rw [Array.getElem?_append_right (Nat.le_refl _)]; simp
    rcases ops with ⟨_, e⟩ | e
    · rw [e]; exact ⟨t.size, x, hx, rfl, .inr h⟩
    · rw [e, tsplit]; exact Knows.app #[y] ⟨t.size, x, hx, rfl, .inr h⟩
  refine ⟨X.T.sh (X.sk k hk) X.sd hlt hk hu', fun k' hk' lv => ?_, fun k' hk' => (X.sk k' hk').sh hu', X.sd.sh hu', ?_, X.norel.app fun op h => ?_, fun k' hk' => ?_, fun k' h1 hk' hs => ?_⟩
  · by_cases e : k' = k
    · subst e
      rw [upd_same]
      have ownSub : ∀ l, OwnL h' l → OwnL (Hs k') l := by
        intro l hl
        cases l with
        | cell ad =>
          by_cases hb : ad.block = M
          · have := (I'.noS hk (.inl ⟨ad, rfl, hb⟩)).1
            rw [upd_same] at this
            exact absurd hl this
          · rcases T.same ad.block hb with h0 | ⟨c, E, _, hx, _⟩
            · simp only [OwnL, h0] at hl; exact hl
            · exfalso
              simp only [OwnL, hx] at hl
              rcases hl with ⟨c', E', fr, e1, e2⟩ | ⟨_, v, n, E', e1⟩ | ⟨_, s, n, E', L, e1, _⟩
              · simp only [Option.some.injEq, Obj.cells.injEq] at e1
                obtain ⟨rfl, rfl, rfl⟩ := e1
                exact e2 (isRo_roO c)
              · cases e1
              · cases e1
        | obj r =>
          obtain ⟨o, hb, hm⟩ := hl
          by_cases hr : r = M
          · subst hr; rw [T.note] at hb; simp only [Option.some.injEq] at hb; subst hb; exact hm.elim
          · rcases T.same r hr with h0 | ⟨c, E, _, hx, _⟩
            · rw [h0] at hb; exact ⟨o, hb, hm⟩
            · rw [hx] at hb; simp only [Option.some.injEq] at hb; subst hb; exact hm.elim
        | _ => exact hl.elim
      refine ⟨fun l hl => P0.own l (ownSub l hl), fun l hl => ?_⟩
      cases l with
      | cell ad =>
        obtain ⟨c, E, fr, hb, hr⟩ := hl
        have hbM : ad.block ≠ M := by
          intro e
          rw [e, T.note] at hb; cases hb
        rcases T.same ad.block hbM with h0 | ⟨c', E', hp, hx, hor⟩
        · rw [h0] at hb; exact P0.rd _ ⟨c, E, fr, hb, hr⟩
        · rcases hor with ⟨h1, _⟩ | ⟨_, h1⟩
          · intro i a ha hl hw
            exact knows' i a ad (ox i a ad ha hl hbM) hl (by rw [h1]; simp) hw
          · exact .of (P0.own _ (.inl ⟨c', E', _, h1, not_isRo0 c'⟩))
      | _ => exact hl.elim
    · rw [upd_ne _ _ e]; exact (X.p k' hk' lv).sh (fun l hl => I.noS hk' hl) hu'
  · rcases ops with ⟨rfl, e⟩ | e
    · rw [e]
      refine X.pt.app fun op h z hz hw ad hl => ?_
      simp at h
      subst h
      simp only [x, MemAct.touch?, Option.some.injEq] at hz
      subst hz
      cases hw
    · intro i a ad ha hl hb hw
      have hbM : ad.block ≠ M := by
        intro e'
        cases hx : pr.pub γ' ad.block with
        | none => exact hb hx
        | some z => exact (I'.pub _ z.1 z.2 hx).1 e'
      have ha0 := ox i a ad ha hl hbM
      have hy : (t ++ #[x, y])[(t ++ #[x]).size]? = some y := by rw [tsplit, Array.getElem?_append_right (Nat.le_refl _)]; simp
      rw [e]
      have ysz : (t ++ #[x]).size = t.size + 1 := by simp
      have hdy : Deaf (t ++ #[x]) k = 0 := by
        rw [Deaf_still t k _ (by intro op h; simp at h; subst h; exact ⟨by simp [x], by simp [x]⟩)]; exact hd
      have before : Before (t ++ #[x, y]) i (t ++ #[x]).size := by
        cases hx : pr.pub γ ad.block with
        | some z =>
          have h := knows i a ad ha0 hl (by rw [hx]; simp) hw
          have hxx : (t ++ #[x])[t.size]? = some x := by rw [Array.getElem?_append_right (Nat.le_refl _)]; simp
          have : Knows (t ++ #[x]) k i := ⟨t.size, x, hxx, rfl, .inr h⟩
          have h2 := this.hb_new (u := #[y]) (Nat.le_refl _) (by rw [← tsplit]; exact hy) rfl
          rw [← tsplit] at h2
          exact .inr h2
        | none =>
          obtain ⟨c, E, hp⟩ : ∃ c E, pr.pub γ' ad.block = some (c, E) := by
            cases hx' : pr.pub γ' ad.block with
            | none => exact absurd hx' hb
            | some z => exact ⟨z.1, z.2, rfl⟩
          obtain ⟨h1, _, _⟩ := T.new _ c E hp hx
          have : Knows t k i := (X.p k hk (.inr live)).own (.cell ad) (.inl ⟨c, E, _, h1, not_isRo0 c⟩) i a ha0 hl
          have h2 := (this.app #[x]).hb_new (u := #[y]) (Nat.le_refl _) (by rw [← tsplit]; exact hy) rfl
          rw [← tsplit] at h2
          exact .inr h2
      refine ⟨(t ++ #[x]).size, ?_, ?_, before⟩
      · have := LastWrite.new (t ++ #[x]) ⟨M, 0, none⟩ (y := y) rfl
        rw [← tsplit] at this; exact this
      · refine ⟨k, by rw [Trace.g?, hy, Option.map_some], ?_⟩
        rw [tsplit, deaf_old (Nat.le_refl _)]; exact hdy
  · rcases hop op h with rfl | rfl <;> simp [x, y]
  · by_cases e : k' = k
    · subst e
      rw [Deaf_still t k' _ (by intro op h; rcases hop op h with rfl | rfl <;> simp [x, y]), X.df k' hk']
    · rw [Deaf_other t (Ne.symm e) _ (fun op h => (hu' op h).1), X.df k' hk']
  · by_cases e : k' = k
    · subst e; omega
    · obtain ⟨r, R⟩ := X.rel k' h1 hk' hs
      exact ⟨r, R.app (R.rel.appOther (fun op h => (hu' op h).1) (Ne.symm e)) fun op h hg => absurd ((hu' op h).1.symm.trans hg) (Ne.symm e)⟩

/-- A go STATEMENT. -/
theorem TI.fork (X : TI pr j M Wg γ Hs st dfs t n) (hd0 : dfs 0 = 0) {x y : MemOp} (hx : x.g = 0 ∧ x.act = .go (j + 1)) (hy : y.g = j + 1 ∧ y.act = .start) {hc h' : H}
    (ho : ∀ l, OwnL hc l → OwnL (Hs 0) l) (hr : ∀ l, RdL hc l → RdL (Hs 0) l ∨ OwnL (Hs 0) l) (ho' : ∀ l, OwnL h' l → OwnL (Hs 0) l) (hr' : ∀ l, RdL h' l → RdL (Hs 0) l ∨ OwnL (Hs 0) l)
    {st' dfs' : Nat → Nat} (hst : ∀ k, k ≤ j → st' k = st k) (hdf : ∀ k, 1 ≤ k → k ≤ j → dfs' k = dfs k) (h00 : dfs' 0 = 0) (hj0 : dfs' (j + 1) = 0) (h6 : 6 < st' (j + 1)) : TI pr (j + 1) M Wg γ (upd (upd Hs 0 h') (j + 1) hc) st' dfs' (t ++ #[x, y]) n := by
  have tx : x.act.touch? = none := by rw [hx.2]; rfl
  have ty : y.act.touch? = none := by rw [hy.2]; rfl
  have D0 : Deaf t 0 = 0 := (X.df 0 (by omega)).trans hd0
  have hmem : ∀ op ∈ #[x, y], op = x ∨ op = y := by intro op h; simpa using h
  have hstill : ∀ op ∈ #[x, y], op.act ≠ .mark .disable ∧ op.act ≠ .mark .enable := by
    intro op h
    rcases hmem op h with rfl | rfl
    · rw [hx.2]; exact ⟨by simp, by simp⟩
    · rw [hy.2]; exact ⟨by simp, by simp⟩
  have p0 := X.p 0 (by omega) (.inl rfl)
  refine ⟨X.T.fork hx hy, fun k hk lv => ?_, fun k hk => ?_, X.sd.fork tx ty, X.pt.app fun op h z hz => ?_, X.norel.app fun op h => ?_, fun k hk => ?_, fun k h1 hk hs => ?_⟩
  · by_cases e : k = j + 1
    · subst e
      rw [upd_same]
      exact (p0.fork X.T hx hy D0).sub ho hr
    · rw [upd_ne _ _ e]
      by_cases e0 : k = 0
      · subst e0; rw [upd_same]; exact (p0.forkOld tx ty).sub ho' hr'
      · rw [upd_ne _ _ e0]
        exact (X.p k (by omega) (by rwa [hst k (by omega)] at lv)).forkOld tx ty
  · by_cases e : k = j + 1
    · subst e; exact (X.sk 0 (by omega)).fork X.T hx hy D0
    · exact (X.sk k (by omega)).forkOld tx ty
  · rcases hmem op h with rfl | rfl
    · rw [tx] at hz; cases hz
    · rw [ty] at hz; cases hz
  · rcases hmem op h with rfl | rfl
    · rw [hx.2]; simp
    · rw [hy.2]; simp
  · rw [Deaf_still t k _ hstill]
    by_cases e : k = j + 1
    · subst e; rw [hj0]; exact Deaf_absent fun i op hi e => by have := X.T.gs i op hi; omega
    · rw [X.df k (by omega)]
      by_cases e0 : k = 0
      · subst e0; rw [h00, hd0]
      · rw [hdf k (by omega) (by omega)]
  · by_cases e : k = j + 1
    · subst e; omega
    · rw [hst k (by omega)] at hs
      obtain ⟨r, R⟩ := X.rel k h1 (by omega) hs
      refine ⟨r, R.app (R.rel.appNot fun op h => ?_) fun op h hg => ?_⟩
      · rcases hmem op h with rfl | rfl
        · rw [hx.1]; omega
        · rw [hy.1]; omega
      · rcases hmem op h with rfl | rfl
        · rw [hx.1] at hg; omega
        · rw [hy.1] at hg; omega
end
end Go.Proofs.Ytojhnclkhiffkaa

/-
  The invariant, who stands where. A step of a worker's behind its walk.
-/
namespace Go.Proofs.Ytojhnclkhiffkaa
open Go.Conc Go.RowKit
open Go.ConcN (upd upd_same upd_ne RelBy WSit WgLive PayAt AsideCell RW DWs AtR0 AtK1 AtD1 AtD2 AtD3 AtD4 CTag WD Vc cnt pend isOpen isW3 isFin OpenSt AllQuit Vc_le Vc_upd le_sumTo bk_cell others_uncounted Com get_map_set get_map_set_same deafBehind_idle cell_of_block)
open Go.ConcR (rd wr mk stA smA WgAt wgBlock KK DC0 Bk Payload g_of_ofEvents ofEvent_cell ofEvent_mk ofEvent_loc_mark bk_of_mute loc_of_ofEvent again_blocked)
set_option linter.unusedVariables false

def updC {α : Type 1} (f : Nat → α) (i : Nat) (x : α) : Nat → α := fun a => if a = i then x else f a
theorem updC_same {α : Type 1} (f : Nat → α) (i : Nat) (x : α) : updC f i x i = x := by simp [updC]
theorem updC_ne {α : Type 1} (f : Nat → α) {i a : Nat} (x : α) (h : a ≠ i) : updC f i x a = f a := by simp [updC, h]
def wdf (D : Nat → Ch) (i : Nat) : WD := ⟨min 7 (D (i + 1)).stage, (D (i + 1)).fuel, (D (i + 1)).deaf⟩
theorem wdf_upd (D : Nat → Ch) {k : Nat} (k1 : 1 ≤ k) (c : Ch) : wdf (updC D k c) = upd (wdf D) (k - 1) ⟨min 7 c.stage, c.fuel, c.deaf⟩ := by
  funext i
  by_cases e : i = k - 1
  · subst e
    rw [upd_same, wdf, show k - 1 + 1 = k by omega, updC_same]
  · rw [upd_ne _ _ e, wdf, wdf, updC_ne _ _ (by omega)]
def tagOf (ph V : Nat) (blk : Bool) : CTag :=
  match ph with
  | 0 => .kd
  | 1 => .anch
  | 2 => .sp 0 3
  | 3 => .sp 0 3
  | 4 => .w2 V
  | 5 => if blk then .blk else .w3
  | 6 => .w4
  | _ => .acq
def dph (ph : Nat) : Nat := if ph = 1 ∨ ph = 2 ∨ ph = 4 ∨ ph = 5 ∨ ph = 6 then 1 else 0
def dfsOf (ph : Nat) (D : Nat → Ch) (k : Nat) : Nat := if k = 0 then dph ph else (D k).deaf
def bl (blk : Bool) (a : Goroutine) : Goroutine := if blk then { a with status := .blocked } else a

section
variable (pr : Pro) (P : Program)
/-- Where a worker stands. -/
def Sit (Wg : Nat) (c : Ch) (h : H) (g : Goroutine) (w : World) : Prop :=
  (c.stage = 8 ∧ c.deaf = 0 ∧ TW pr P c.rk g h) ∨
  (c.stage ≤ 7 ∧ @WSit ⟨c.E⟩ P pr.tg Wg c.C 1 noL noL 0 1 c.v c.stage c.fuel c.deaf g w ∧ h c.C = some (.deferred none) ∧ pr.post c.d (hdel h c.C))
structure Cmp (j M Wg : Nat) (e0 : Value) (γ : List Value) (ph V : Nat) (ds : List Value) (N0 : Nat) (W0 : World) (Hs : Nat → H) (D : Nat → Ch) (blk : Bool) (gs : Array Goroutine) (w : World) (t : Trace) : Prop where
  I : HI pr j M Wg e0 γ ph V ds N0 W0 Hs w
  tr : TI pr j M Wg γ Hs (fun k => (D k).stage) (dfsOf ph D) t w.heap.size
  size : gs.size = j + 1
  sit : ∀ k, 1 ≤ k → k ≤ j → ∃ g, gs[k]? = some g ∧ Sit pr P Wg (D k) (Hs k) g w
  dd : ∀ k, 1 ≤ k → k ≤ j → ds[k - 1]? = some (D k).d
  wg : ∃ st sm, WgAt pr.tg Wg w st sm ∧ Go.ConcN.Mode j (wdf D) (tagOf ph V blk) st sm
  bd : ph = 1 → Vc j (wdf D) ≤ V
  jb : j < 2147483647 ∧ ((ph = 2 ∨ ph = 3) ∨ 7 < ph → j < 2147483646 ∧ ph ≤ 7)
end
section
variable {pr : Pro} {P : Program} {j M Wg : Nat} {e0 : Value} {γ : List Value} {ph V : Nat} {ds : List Value} {N0 : Nat} {W0 : World} {Hs : Nat → H} {D : Nat → Ch} {blk : Bool} {gs : Array Goroutine} {w w' : World} {t : Trace}
theorem rw_of {E : TypeId} {C : Nat} (hC : w'.heap[C]? = w.heap[C]?) (hl : WgLive pr.tg Wg w') : @RW ⟨E⟩ pr.tg Wg C 1 0 0 w w' := by
  letI : Payload := ⟨E⟩
  exact ⟨fun b hb => by omega, fun _ => hl, fun ⟨cs, h1, h2⟩ => ⟨cs, hC.trans h1, h2⟩, cell_of_block hC 0⟩
theorem Sit.rely {c : Ch} {h : H} {g : Goroutine} (s : Sit pr P Wg c h g w) (hC : c.stage ≤ 7 → w'.heap[c.C]? = w.heap[c.C]?) (hl : WgLive pr.tg Wg w') : Sit pr P Wg c h g w' := by
  rcases s with s | ⟨h1, h2, h3⟩
  · exact .inl s
  · exact .inr ⟨h1, @WSit.rely ⟨c.E⟩ _ _ _ _ _ _ _ _ _ _ _ _ _ _ _ _ h2 (rw_of (hC h1) hl), h3⟩
theorem TW.running {α : Tr} {g : Goroutine} {h : H} (s : TW pr P α g h) : g.status = .running := by
  cases α with
  | mk ι f =>
    have s' : RobW pr P (fun g h => ∃ i, TW pr P (f i) g h) g h := s
    cases s' <;> assumption
theorem Sit.status {c : Ch} {h : H} {g : Goroutine} (s : Sit pr P Wg c h g w) : g.status = .running ∨ g.status = .finished := by
  rcases s with ⟨_, _, s⟩ | ⟨_, h2, _⟩
  · exact .inl s.running
  · exact @WSit.status ⟨c.E⟩ _ _ _ _ _ _ _ _ _ _ _ _ _ _ _ h2
theorem Sit.woken {c : Ch} {h : H} {g : Goroutine} (s : Sit pr P Wg c h g w) (a a' : Goroutine) (w' : World) : woken P a a' w' g = g := by
  unfold Go.Conc.woken
  split
  · exact again_running _ s.status
  · rfl
theorem Cmp.lastCell (X : Cmp pr P j M Wg e0 γ ph V ds N0 W0 Hs D blk gs w t) {k : Nat} (k1 : 1 ≤ k) (hk : k ≤ j) (h7 : (D k).stage ≤ 7) : Hs k (D k).C = some (.deferred none) := by
  obtain ⟨g, _, s⟩ := X.sit k k1 hk
  rcases s with ⟨h8, _⟩ | ⟨_, _, h, _⟩
  · omega
  · exact h
theorem def_none {h hk : H} (a : Ap h hk) {b : Nat} (hb : hk b = some (.deferred none)) : h b = none := by
  cases h2 : h b with
  | none => rfl
  | some o =>
    exfalso
    have d := a _ _ _ h2 hb
    generalize hx : (Obj.deferred none) = x at d
    cases d <;> cases hx
theorem Cmp.live (X : Cmp pr P j M Wg e0 γ ph V ds N0 W0 Hs D blk gs w t) : WgLive pr.tg Wg w := let ⟨st, sm, h, _⟩ := X.wg; ⟨st, sm, h⟩

/-- THE ASSEMBLY behind a step of worker k. -/
theorem Cmp.asm (X : Cmp pr P j M Wg e0 γ ph V ds N0 W0 Hs D blk gs w t) {k : Nat} (k1 : 1 ≤ k) (hk : k ≤ j) {g g' a : Goroutine} {u : Trace} {c' : Ch} {Hs' : Nat → H} {γ' : List Value} {st' sm' : Int}
    (hg : gs[k]? = some g) (ha : gs[0]? = some (bl blk a)) (har : a.status = .running) (hblk : blk = true → ph = 5 ∧ a.offers = none)
    (I' : HI pr j M Wg e0 γ' ph V ds N0 W0 Hs' w') (tr' : TI pr j M Wg γ' Hs' (fun k' => (updC D k c' k').stage) (dfsOf ph (updC D k c')) (t ++ u) w'.heap.size)
    (hs : Sit pr P Wg c' (Hs' k) g' w') (hoth : ∀ k', k' ≠ k → Hs' k' = Hs k') (hC : ∀ k', 1 ≤ k' → k' ≤ j → k' ≠ k → (D k').stage ≤ 7 → w'.heap[(D k').C]? = w.heap[(D k').C]?) (hd : c'.d = (D k).d)
    (hwg : WgAt pr.tg Wg w' st' sm') (hmode : ∀ blk', (blk' = true → blk = true) → (mayWake P g = true → g'.status = .running → blk' = false) → Go.ConcN.Mode j (wdf (updC D k c')) (tagOf ph V blk') st' sm')
    (hbd : Vc j (wdf (updC D k c')) ≤ Vc j (wdf D)) :
    ∃ blk', Cmp pr P j M Wg e0 γ' ph V ds N0 W0 Hs' (updC D k c') blk' ((gs.map (woken P g g' w')).setIfInBounds k g') w' (t ++ u) ∧ ((gs.map (woken P g g' w')).setIfInBounds k g')[0]? = some (bl blk' a) ∧ (blk' = true → ph = 5 ∧ a.offers = none) := by
  have hl : WgLive pr.tg Wg w' := ⟨_, _, hwg⟩
  have core : ∀ blk', Go.ConcN.Mode j (wdf (updC D k c')) (tagOf ph V blk') st' sm' → Cmp pr P j M Wg e0 γ' ph V ds N0 W0 Hs' (updC D k c') blk' ((gs.map (woken P g g' w')).setIfInBounds k g') w' (t ++ u) := by
    intro blk' hm
    refine ⟨I', tr', by simp [X.size], fun k' h1 h2 => ?_, fun k' h1 h2 => ?_, ⟨st', sm', hwg, hm⟩, fun e => Nat.le_trans hbd (X.bd e), X.jb⟩
    · by_cases e : k' = k
      · subst e
        exact ⟨g', get_map_set_same _ _ _ (by rw [X.size]; omega), by rw [updC_same]; exact hs⟩
      · obtain ⟨x, hx, sx⟩ := X.sit k' h1 h2
        refine ⟨x, by rw [get_map_set _ _ _ _ (Ne.symm e), hx, Option.map_some, sx.woken], ?_⟩
        rw [updC_ne _ _ e, hoth k' e]
        exact sx.rely (hC k' h1 h2 e) hl
    · by_cases e : k' = k
      · subst e; rw [updC_same, hd]; exact X.dd k' h1 h2
      · rw [updC_ne _ _ e]; exact X.dd k' h1 h2
  have h0 : ((gs.map (woken P g g' w')).setIfInBounds k g')[0]? = some (woken P g g' w' (bl blk a)) := by rw [get_map_set _ _ _ _ (by omega), ha]; rfl
  by_cases hw : (mayWake P g && g'.status != .blocked && g'.status != .waiting) = true
  · cases blk with
    | false =>
      refine ⟨false, core false (hmode false id fun _ _ => rfl), ?_, by simp⟩
      rw [h0]
      unfold woken
      rw [if_pos hw]
      exact congrArg some (again_running _ (.inl har))
    | true =>
      refine ⟨false, core false (hmode false (by simp) fun _ _ => rfl), ?_, by simp⟩
      rw [h0]
      unfold woken
      rw [if_pos hw]
      exact congrArg some (again_blocked har (hblk rfl).2 w')
  · refine ⟨blk, core blk (hmode blk id fun h1 h2 => ?_), ?_, hblk⟩
    · exfalso; apply hw; simp [h1, h2]
    · rw [h0]; unfold woken; rw [if_neg hw]

/-- The library's bookkeeping, as operations. -/
theorem shop_of_Bk {k : Nat} {fn : FuncId} {pos : String} {es : Array Event} (h : ∀ e ∈ es, Bk Wg e) : ∀ op ∈ MemOp.ofEvents k fn pos es, ShOp (InB Wg) k op := by
  intro op hop
  rw [ofEvents_eq] at hop
  obtain ⟨e, he, rfl⟩ := Array.mem_map.1 hop
  refine ⟨rfl, fun x hx => ?_⟩
  rcases h e he with h1 | h1 | ⟨a, wr, rfl, ha⟩
  · simp only [ofEvent_loc_mark h1] at hx; cases hx
  · simp only [ofEvent_loc_mark h1] at hx; cases hx
  · simp only [ofEvent_cell, MemAct.touch?, Option.some.injEq] at hx
    subst hx
    exact ⟨⟨a, rfl, ha⟩, by simp, by simp⟩
theorem Rel.new {k : Nat} (hd : Deaf t k = 0) (fn : FuncId) (pos : String) : Rel Wg (t ++ MemOp.ofEvents k fn pos #[Go.ConcR.mk (.releaseMerge (stA Wg))]) k t.size := by
  refine ⟨RelBy.new hd fn pos, fun i x hi hg hx => ?_⟩
  have e1 : MemOp.ofEvents k fn pos #[Go.ConcR.mk (.releaseMerge (stA Wg))] = #[{ g := k, fn, pos, act := .mark (.releaseMerge (stA Wg)) }] := by rw [ofEvents_eq]; simp [ofEvent_mk]
  obtain ⟨op, hop, _⟩ := touch_of hx
  have := lt_size_of_getElem? hop
  rw [e1] at this
  simp at this
  omega
end
end Go.Proofs.Ytojhnclkhiffkaa

/-
  A step of a worker's behind its walk: at its deferred 'Done', to its end.
-/
namespace Go.Proofs.Ytojhnclkhiffkaa
open Go.Conc Go.RowKit
open Go.ConcN (upd upd_same upd_ne RelBy WSit WgLive PayAt AsideCell RW DWs AtR0 AtK1 AtD1 AtD2 AtD3 AtD4 CTag WD Vc cnt pend isOpen isW3 isFin OpenSt AllQuit Vc_le Vc_upd le_sumTo bk_cell others_uncounted get_map_set get_map_set_same deafBehind_idle cell_of_block sumTo)
open Go.ConcR (rd wr mk stA smA WgAt wgBlock KK DC0 Bk Payload g_of_ofEvents ofEvent_cell ofEvent_mk ofEvent_loc_mark bk_of_mute loc_of_ofEvent again_blocked)
set_option linter.unusedVariables false

theorem tagOf_re {ph V : Nat} {blk blk' : Bool} (h : blk' = true → blk = true) : tagOf ph V blk' = tagOf ph V blk ∨ (tagOf ph V blk = .blk ∧ tagOf ph V blk' = .w3) := by
  cases blk <;> cases blk'
  · exact .inl rfl
  · exact absurd (h rfl) (by simp)
  · match ph with
    | 5 => exact .inr ⟨rfl, rfl⟩
    | 0 | 1 | 2 | 3 | 4 | 6 => exact .inl rfl
    | n + 7 => exact .inl rfl
  · exact .inl rfl
theorem tagOf_blk {ph V : Nat} {blk : Bool} (h : tagOf ph V blk = .blk) : blk = true := by
  cases blk with
  | true => rfl
  | false =>
    match ph, h with
    | 0, h | 1, h | 2, h | 3, h | 4, h | 5, h | 6, h => simp [tagOf] at h
    | n + 7, h => simp [tagOf] at h
section
variable {pr : Pro} {P : Program} {j M Wg : Nat} {e0 : Value} {γ : List Value} {ph V : Nat} {ds : List Value} {N0 : Nat} {W0 : World} {Hs : Nat → H} {D : Nat → Ch} {blk : Bool} {gs : Array Goroutine} {w w' : World} {t : Trace}

set_option maxHeartbeats 4000000 in
theorem Cmp.low (X : Cmp pr P j M Wg e0 γ ph V ds N0 W0 Hs D blk gs w t) {k : Nat} (k1 : 1 ≤ k) (hk : k ≤ j) (h7 : (D k).stage ≤ 7) {g a : Goroutine} (hg : gs[k]? = some g) (hrun : g.status = .running)
    (ha : gs[0]? = some (bl blk a)) (har : a.status = .running) (hblk : blk = true → ph = 5 ∧ a.offers = none) :
    ∃ g' w' es c' blk', stepG P false g w = .go g' w' es ∧ Cmp pr P j M Wg e0 γ ph V ds N0 W0 Hs (updC D k c') blk' ((gs.map (woken P g g' w')).setIfInBounds k g') w' (t ++ MemOp.ofEvents k g.frame.fn g.frame.place es) ∧
      ((gs.map (woken P g g' w')).setIfInBounds k g')[0]? = some (bl blk' a) ∧ (blk' = true → ph = 5 ∧ a.offers = none) ∧ c'.rk = (D k).rk ∧ (c'.stage < (D k).stage ∨ (c'.stage = (D k).stage ∧ c'.fuel + 1 = (D k).fuel)) := by
  obtain ⟨g₁, hg₁, hs⟩ := X.sit k k1 hk
  obtain rfl : g = g₁ := by rw [hg] at hg₁; exact Option.some.inj hg₁
  rcases hs with ⟨h8, _⟩ | ⟨_, hs, hC, hp⟩
  · omega
  letI : Payload := ⟨(D k).E⟩
  obtain ⟨st, sm, hwg, hmode⟩ := X.wg
  have hi : k - 1 < j := by omega
  have hki : k - 1 + 1 = k := by omega
  have hdk0 : Deaf t k = (D k).deaf := by
    have := X.tr.df k hk
    rw [this, dfsOf, if_neg (by omega)]
  have hDi : wdf D (k - 1) = ⟨(D k).stage, (D k).fuel, (D k).deaf⟩ := by
    unfold wdf
    rw [hki, Nat.min_eq_right h7]
  generalize hst : (D k).stage = s at hs
  generalize hfu : (D k).fuel = m at hs
  generalize hde : (D k).deaf = dd at hs
  rw [hst, hfu, hde] at hDi
  have hsi : (wdf D (k - 1)).stage = s := by rw [hDi]
  have hdk : Deaf t k = dd := by rw [hdk0, hde]
  have hjb := X.jb
  have hVj := Vc_le j (wdf D)
  have nWC : Wg ≠ (D k).C := by
    rintro e
    rcases X.I.atW hk with h1 | ⟨E, n, t, s, L, h1, _⟩ <;> rw [e] at h1 <;> rw [h1] at hC <;> cases hC
  -- THE ASSEMBLY
  have asm : ∀ {g' : Goroutine} {w' : World} {es : Array Event} {s' m' dd' : Nat} {st' sm' : Int}, stepG P false g w = .go g' w' es → s' ≤ 7 → HI pr j M Wg e0 γ ph V ds N0 W0 Hs w' → WSit P pr.tg Wg (D k).C 1 noL noL 0 1 (D k).v s' m' dd' g' w' →
      TI pr j M Wg γ Hs (fun k' => (updC D k { D k with stage := s', fuel := m', deaf := dd' } k').stage) (dfsOf ph (updC D k { D k with stage := s', fuel := m', deaf := dd' })) (t ++ MemOp.ofEvents k g.frame.fn g.frame.place es) w'.heap.size →
      (∀ k', 1 ≤ k' → k' ≤ j → k' ≠ k → (D k').stage ≤ 7 → w'.heap[(D k').C]? = w.heap[(D k').C]?) → WgAt pr.tg Wg w' st' sm' →
      (∀ tag', (tag' = tagOf ph V blk ∨ (tagOf ph V blk = .blk ∧ tag' = .w3)) → (mayWake P g = true → g'.status = .running → tag' ≠ .blk) → Go.ConcN.Mode j (upd (wdf D) (k - 1) ⟨s', m', dd'⟩) tag' st' sm') →
      ((s' < s ∧ cnt ⟨s', m', dd'⟩ ≤ cnt (wdf D (k - 1))) ∨ (s' = s ∧ m' + 1 = m)) →
      ∃ g' w' es c' blk', stepG P false g w = .go g' w' es ∧ Cmp pr P j M Wg e0 γ ph V ds N0 W0 Hs (updC D k c') blk' ((gs.map (woken P g g' w')).setIfInBounds k g') w' (t ++ MemOp.ofEvents k g.frame.fn g.frame.place es) ∧
        ((gs.map (woken P g g' w')).setIfInBounds k g')[0]? = some (bl blk' a) ∧ (blk' = true → ph = 5 ∧ a.offers = none) ∧ c'.rk = (D k).rk ∧ (c'.stage < s ∨ (c'.stage = s ∧ c'.fuel + 1 = m)) := by
    intro g' w' es s' m' dd' st' sm' hgo hs7 hI hs' htr hCs hwg' hm hlt
    have ewd : wdf (updC D k { D k with stage := s', fuel := m', deaf := dd' }) = upd (wdf D) (k - 1) ⟨s', m', dd'⟩ := by
      rw [wdf_upd D k1]
      simp only [Nat.min_eq_right hs7]
    obtain ⟨blk', c1, c2, c3⟩ := X.asm k1 hk (c' := { D k with stage := s', fuel := m', deaf := dd' }) hg ha har hblk hI htr (.inr ⟨hs7, hs', hC, hp⟩) (fun _ _ => rfl) hCs rfl hwg' (fun blk' h1 h2 => by
      rw [ewd]
      exact hm _ (tagOf_re h1) (fun h3 h4 e => by rw [h2 h3 h4] at e; exact absurd (tagOf_blk e) (by simp))) (by
      rw [ewd]
      have e1 := Vc_upd (wdf D) (⟨s', m', dd'⟩ : WD) hi
      rcases hlt with ⟨_, h⟩ | ⟨h, _⟩
      · omega
      · have : cnt (⟨s', m', dd'⟩ : WD) = cnt (wdf D (k - 1)) := by rw [hDi, h]; rfl
        omega)
    exact ⟨g', w', es, _, blk', hgo, c1, c2, c3, rfl, hlt.imp (fun h => h.1) id⟩
  have hne : ∀ k', k' ≠ k → (updC D k { D k with stage := 0, fuel := 0, deaf := 0 } k').stage = (D k').stage := fun k' e => by rw [updC_ne _ _ e]
  -- BOOKKEEPING: at most the group's block turns
  have bookG : ∀ {g' : Goroutine} {w' : World} {es : Array Event} {s' m' dd' : Nat} {st' sm' : Int}, stepG P false g w = .go g' w' es → Aside Wg w w' → WgAt pr.tg Wg w' st' sm' → (∀ e ∈ es, Bk Wg e) →
      (∀ jx e, es[jx]? = some e → (MemAct.ofEvent e).touch? = none ∨ 0 < deafBehind dd (es.extract 0 jx)) → WSit P pr.tg Wg (D k).C 1 noL noL 0 1 (D k).v s' m' dd' g' w' → deafBehind dd es = dd' → s ≤ 6 → s' ≤ 6 →
      (∀ tag', (tag' = tagOf ph V blk ∨ (tagOf ph V blk = .blk ∧ tag' = .w3)) → (mayWake P g = true → g'.status = .running → tag' ≠ .blk) → Go.ConcN.Mode j (upd (wdf D) (k - 1) ⟨s', m', dd'⟩) tag' st' sm') →
      ((s' < s ∧ cnt ⟨s', m', dd'⟩ ≤ cnt (wdf D (k - 1))) ∨ (s' = s ∧ m' + 1 = m)) →
      ∃ g' w' es c' blk', stepG P false g w = .go g' w' es ∧ Cmp pr P j M Wg e0 γ ph V ds N0 W0 Hs (updC D k c') blk' ((gs.map (woken P g g' w')).setIfInBounds k g') w' (t ++ MemOp.ofEvents k g.frame.fn g.frame.place es) ∧
        ((gs.map (woken P g g' w')).setIfInBounds k g')[0]? = some (bl blk' a) ∧ (blk' = true → ph = 5 ∧ a.offers = none) ∧ c'.rk = (D k).rk ∧ (c'.stage < s ∨ (c'.stage = s ∧ c'.fuel + 1 = m)) := by
    intro g' w' es s' m' dd' st' sm' hgo hAs hwg' hbk hd hs' hdd h6 h6' hm hlt
    have hsh := shop_of_Bk (k := k) (fn := g.frame.fn) (pos := g.frame.place) hbk
    refine asm hgo (by omega) (X.I.wg hAs hwg') hs' ?_ (fun k' h1 h2 h3 h4 => hAs.block _ ?_) hwg' hm hlt
    · rw [hAs.size]
      refine X.tr.book X.I hk hsh (fun k' e => by simp only [updC_ne _ _ e]) (.inr fun h => ?_) ?_ (fun k' e => ?_) (Go.ConcN.norel_of (Go.ConcN.norel_of_Bk hbk)) fun _ _ => ?_
      · simp only [updC_same] at h; omega
      · rw [Deaf_own, hdk, dfsOf, if_neg (by omega), updC_same]; exact hdd
      · unfold dfsOf
        by_cases e0 : k' = 0
        · rw [if_pos e0, if_pos e0]
        · rw [if_neg e0, if_neg e0, updC_ne _ _ e]
      · obtain ⟨r, R⟩ := X.tr.rel k k1 hk (by show (D k).stage ≤ 6; omega)
        exact ⟨r, R.app (R.rel.book hdk _ _ hbk hd) fun op hop _ x hx => ((hsh op hop).2 x hx).1⟩
    · have := X.lastCell h1 h2 h4
      intro e
      rcases X.I.atW h2 with h5 | ⟨E, n, t, s, L, h5, _⟩ <;> rw [e] at this <;> rw [h5] at this <;> cases this
  have book : ∀ {g' : Goroutine} {w' : World} {es : Array Event} {s' m' dd' : Nat} {st' sm' : Int}, stepG P false g w = .go g' w' es → Aside Wg w w' → WgAt pr.tg Wg w' st' sm' → (∀ e ∈ es, Bk Wg e) →
      (∀ jx e, es[jx]? = some e → (MemAct.ofEvent e).touch? = none ∨ 0 < deafBehind dd (es.extract 0 jx)) → WSit P pr.tg Wg (D k).C 1 noL noL 0 1 (D k).v s' m' dd' g' w' → deafBehind dd es = dd' → s ≤ 6 → s' ≤ 6 →
      Go.ConcN.Mode j (upd (wdf D) (k - 1) ⟨s', m', dd'⟩) (tagOf ph V blk) st' sm' → ((s' < s ∧ cnt ⟨s', m', dd'⟩ ≤ cnt (wdf D (k - 1))) ∨ (s' = s ∧ m' + 1 = m)) → _ :=
    fun hgo hAs hwg' hbk hd hs' hdd h6 h6' hm hlt => bookG hgo hAs hwg' hbk hd hs' hdd h6 h6' (fun _ ht _ => hm.retag ht) hlt
  -- AN IDLE STEP BEHIND THE RELEASE
  have idle : ∀ {g' : Goroutine} {m' : Nat}, stepG P false g w = .go g' w #[] → WSit P pr.tg Wg (D k).C 1 noL noL 0 1 (D k).v s m' dd g' w → m' + 1 = m → s ≤ 6 → _ :=
    fun {g'} {m'} hgo hs' hm h6 => book hgo (.refl Wg w) hwg (by simp) (by simp) hs' rfl h6 h6 (by have := hmode.same (i := k - 1) m' dd; rwa [hsi] at this) (.inr ⟨rfl, hm⟩)
  cases hs with
  | r0 h =>
    rcases Goes.cases h with hstop | ⟨m', rfl, hstep⟩
    · obtain ⟨_, _, g', hgo, m₂, hkk⟩ := hstop w (RW.refl w)
      refine asm hgo (by omega) X.I (.k1 hkk) ?_ (fun _ _ _ _ _ => rfl) hwg (fun _ ht _ => (hmode.counted hi (by rw [hsi]; omega) (.inl rfl) _ _).retag ht) (.inl ⟨by omega, by simp [cnt, hsi]⟩)
      refine X.tr.book X.I hk (fun op hop => ?_) (fun k' e => by simp only [updC_ne _ _ e]) (.inr fun h => ?_) ?_ (fun k' e => ?_) (fun op hop => ?_) fun _ _ => ⟨_, Rel.new hdk _ _⟩
      · rw [ofEvents_eq] at hop
        simp only [List.map_toArray, List.map_cons, List.map_nil, List.mem_toArray, List.mem_cons, List.not_mem_nil, or_false] at hop
        subst hop
        exact ⟨rfl, fun x hx => by cases hx⟩
      · simp only [updC_same] at h; omega
      · rw [Deaf_own, hdk, dfsOf, if_neg (by omega), updC_same]; rfl
      · unfold dfsOf
        by_cases e0 : k' = 0
        · rw [if_pos e0, if_pos e0]
        · rw [if_neg e0, if_neg e0, updC_ne _ _ e]
      · rw [ofEvents_eq] at hop
        simp only [List.map_toArray, List.map_cons, List.map_nil, List.mem_toArray, List.mem_cons, List.not_mem_nil, or_false] at hop
        subst hop
        intro h
        rw [show MemAct.ofEvent (Go.ConcR.mk (.releaseMerge (stA Wg))) = .mark (.releaseMerge (stA Wg)) from rfl] at h
        cases h
    · obtain ⟨g', w', es, hgo, ⟨hac, hev⟩, hg'⟩ := hstep w (RW.refl w)
      have hA : Aside (D k).C w w' := ⟨hac.tape, hac.os, hac.output, hac.size, hac.block⟩
      have hwg' : WgAt pr.tg Wg w' st sm := hwg.of_block (hA.block Wg nWC)
      have hsh : ∀ op ∈ MemOp.ofEvents k g.frame.fn g.frame.place es, ShOp (InB Wg) k op := by
        intro op hop
        rw [ofEvents_eq] at hop
        obtain ⟨e, he, rfl⟩ := Array.mem_map.1 hop
        refine ⟨rfl, fun x hx => ?_⟩
        rcases ((hev e he).1 g.frame.fn g.frame.place).2 x hx with ⟨⟨a, h1, h2⟩, h3, h4⟩ | h1 | h1
        · exact ⟨⟨a, h1, h2⟩, h3, fun e => absurd e h4⟩
        · exact h1.elim
        · exact h1.1.elim
      refine asm hgo (by omega) (X.I.cc hk hC hA) (.r0 hg') ?_ (fun k' h1 h2 h3 h4 => hA.block _ ?_) hwg' (fun _ ht _ => Go.ConcN.Mode.retag (by have := hmode.same (i := k - 1) m' 0; rwa [hsi] at this) ht) (.inr ⟨rfl, rfl⟩)
      · rw [hA.size]
        refine X.tr.book X.I hk hsh (fun k' e => by simp only [updC_ne _ _ e]) (.inr fun h => ?_) ?_ (fun k' e => ?_) (Go.ConcN.norel_of fun e he => (hev e he).2.2.2) fun _ h => ?_
        · simp only [updC_same] at h; omega
        · rw [Deaf_own, hdk, dfsOf, if_neg (by omega), updC_same]
          exact deafBehind_idle (fun e he => ⟨(hev e he).2.1, (hev e he).2.2.1⟩) 0
        · unfold dfsOf
          by_cases e0 : k' = 0
          · rw [if_pos e0, if_pos e0]
          · rw [if_neg e0, if_neg e0, updC_ne _ _ e]
        · simp only [updC_same] at h; omega
      · have hc' := X.lastCell h1 h2 h4
        intro e
        have := X.I.ap k' k h2 hk h3 _ _ _ hc' (by rw [e]; exact hC)
        generalize hx : (Obj.deferred none) = x at this
        cases this <;> cases hx
  | k1 h =>
    rcases Goes.cases h with hstop | ⟨m', rfl, hstep⟩
    · obtain ⟨_, g', hgo, m₂, hkk⟩ := hstop w (RW.refl w)
      exact book hgo (.refl Wg w) hwg (by intro e he; simp at he; subst he; exact .inl rfl) (by intro jx e he; exact .inl (by have := Array.mem_of_getElem? he; simp at this; subst this; rfl)) (.d1 hkk) rfl (by omega) (by omega)
        (hmode.counted hi (by rw [hsi]; omega) (.inr rfl) _ _) (.inl ⟨by omega, by simp [cnt, hsi]⟩)
    · obtain ⟨g', w', es, hgo, ⟨rfl, rfl⟩, hg'⟩ := hstep w (RW.refl w)
      exact idle hgo (.k1 hg') rfl (by omega)
  | d1 h =>
    rcases Goes.cases h with hstop | ⟨m', rfl, hstep⟩
    · obtain ⟨_, hall⟩ := hstop w (RW.refl w)
      have hc1 : cnt (wdf D (k - 1)) = 1 := by simp [cnt, hsi]
      have hV1 : 1 ≤ Vc j (wdf D) := by have := le_sumTo (f := fun x => cnt (wdf D x)) hi; simp only [Vc]; omega
      have bk2 : ∀ e ∈ #[rd (stA Wg), wr (stA Wg)], Bk Wg e := by intro e he; simp at he; rcases he with rfl | rfl <;> exact bk_cell _ _ rfl
      have df2 : ∀ jx e, (#[rd (stA Wg), wr (stA Wg)] : Array Event)[jx]? = some e → (MemAct.ofEvent e).touch? = none ∨ 0 < deafBehind 1 ((#[rd (stA Wg), wr (stA Wg)] : Array Event).extract 0 jx) := by
        intro jx e he
        match jx, he with
        | 0, _ => exact .inr (by simp [deafBehind])
        | 1, _ => exact .inr (by simp [deafBehind, rd])
        | jx + 2, he => simp at he
      have hq0 : ∀ q, cnt (⟨1, q, 1⟩ : WD) = 0 := fun _ => rfl
      have opq : ∀ q, OpenSt j (wdf D) → OpenSt j (upd (wdf D) (k - 1) ⟨1, q, 1⟩) := fun q h a ha => by
        by_cases e : a = k - 1
        · subst e; rw [upd_same]; simp
        · rw [upd_ne _ _ e]; exact h a ha
      have hpd : pend (tagOf ph V blk) ≤ 1 ∧ (pend (tagOf ph V blk) = 1 → ph = 2 ∨ ph = 3) := by
        match ph with
        | 0 | 1 | 4 | 6 => simp [tagOf, pend]
        | 2 | 3 => simp [tagOf, pend]
        | 5 => cases blk <;> simp [tagOf, pend]
        | n + 7 => simp [tagOf, pend]
      have hjp : j + pend (tagOf ph V blk) ≤ 2147483647 := by
        obtain ⟨p1, p2⟩ := hpd
        rcases Nat.lt_or_ge (pend (tagOf ph V blk)) 1 with h | h
        · omega
        · have := hjb.2 (.inl (p2 (by omega))); omega
      generalize htag : tagOf ph V blk = tag at hmode book hjp
      cases hmode with
      | opn h1 h2 h3 =>
        obtain ⟨v, hv⟩ : ∃ v, Vc j (wdf D) + pend tag = v + 1 := ⟨Vc j (wdf D) + pend tag - 1, by omega⟩
        rw [hv] at hwg
        have hw1 : WgAt pr.tg Wg w (((v : Nat) + 1) * KK + ((0 : Nat) : Int)) 0 := by simpa using hwg
        obtain ⟨g', hgo, _, hq⟩ := hall v 0 (by omega) (by omega) hw1
        obtain ⟨q, hq⟩ := hq (by omega)
        have hv' : Vc j (upd (wdf D) (k - 1) ⟨1, q, 1⟩) + pend tag = v := by have := Vc_upd (wdf D) (⟨1, q, 1⟩ : WD) hi; have := hq0 q; omega
        refine book hgo (aside_setCell w (stA Wg) _) (hwg.setSt _) bk2 df2 (.quit hq) rfl (by omega) (by omega) ?_ (.inl ⟨by omega, by simp [cnt]⟩)
        have e : ((v : Nat) : Int) * KK + ((0 : Nat) : Int) = ((Vc j (upd (wdf D) (k - 1) ⟨1, q, 1⟩) + pend tag : Nat) : Int) * KK := by rw [hv']; simp
        rw [e]
        exact .opn h1 (opq q h2) (fun vs ev => by have := h3 vs ev; omega)
      | reg h1 h2 h3 =>
        obtain ⟨v, hv⟩ : ∃ v, Vc j (wdf D) = v + 1 := ⟨Vc j (wdf D) - 1, by omega⟩
        rw [hv] at hwg
        have hp0 : pend tag = 0 := by cases tag <;> first | rfl | exact h1.elim
        have hw1 : WgAt pr.tg Wg w (((v : Nat) + 1) * KK + ((1 : Nat) : Int)) 0 := by simpa using hwg
        obtain ⟨g', hgo, hl, hq⟩ := hall v 1 (by omega) (by omega) hw1
        by_cases hv0 : v = 0
        · subst hv0
          obtain ⟨m₂, hkk⟩ := hl ⟨rfl, rfl⟩
          refine book hgo (aside_setCell w (stA Wg) _) (hwg.setSt _) bk2 df2 (.d2 hkk) rfl (by omega) (by omega) ?_ (.inl ⟨by omega, by simp [cnt]⟩)
          have hoth : ∀ a, a < j → a ≠ k - 1 → (wdf D a).stage = 1 := fun a ha e => by
            have c0 := others_uncounted hi hv hc1 a ha e
            have := h2 a ha
            simp only [cnt] at c0
            split at c0 <;> omega
          have := Go.ConcN.Mode.last (j := j) (D := upd (wdf D) (k - 1) ⟨4, m₂, 1⟩) (tag := tag) (k - 1) h1 hi (by rw [upd_same]; simp) (fun a ha e => by rw [upd_ne _ _ e]; exact hoth a ha e)
          rw [upd_same] at this
          simpa using this
        · obtain ⟨q, hq⟩ := hq (by omega)
          have hv' : Vc j (upd (wdf D) (k - 1) ⟨1, q, 1⟩) = v := by have := Vc_upd (wdf D) (⟨1, q, 1⟩ : WD) hi; have := hq0 q; omega
          refine book hgo (aside_setCell w (stA Wg) _) (hwg.setSt _) bk2 df2 (.quit hq) rfl (by omega) (by omega) ?_ (.inl ⟨by omega, by simp [cnt]⟩)
          have e : ((v : Nat) : Int) * KK + ((1 : Nat) : Int) = ((Vc j (upd (wdf D) (k - 1) ⟨1, q, 1⟩) : Nat) : Int) * KK + 1 := by rw [hv']; simp
          rw [e]
          exact .reg h1 (opq q h2) (by omega)
      | last L _ h2 h3 h4 =>
        by_cases e : k - 1 = L
        · subst e; omega
        · have := h4 (k - 1) hi e; omega
      | sema h2 => have := h2 (k - 1) hi; omega
      | fin _ h2 => have := h2 (k - 1) hi; omega
    · obtain ⟨g', w', es, hgo, ⟨rfl, rfl⟩, hg'⟩ := hstep w (RW.refl w)
      exact idle hgo (.d1 hg') rfl (by omega)
  | d2 h =>
    rcases Goes.cases h with hstop | ⟨m', rfl, hstep⟩
    · obtain ⟨_, hx⟩ := hstop w (RW.refl w)
      obtain ⟨hW3, hoth, rfl, rfl⟩ := hmode.isLast hi (by omega)
      simp only [hsi] at hwg
      obtain ⟨g', hgo, m₂, hkk⟩ := hx (by simpa using hwg)
      refine book hgo (.refl Wg w) hwg (by intro e he; simp at he; subst he; exact bk_cell _ _ rfl) (by intro jx e he; match jx, he with | 0, _ => exact .inr (by simp [deafBehind]) | jx + 1, he => simp at he) (.d3 hkk) rfl (by omega) (by omega) ?_ (.inl ⟨by omega, by simp [cnt]⟩)
      have := Go.ConcN.Mode.last (j := j) (D := upd (wdf D) (k - 1) ⟨3, m₂, 1⟩) (tag := tagOf ph V blk) (k - 1) hW3 hi (by rw [upd_same]; simp) (fun a ha e => by rw [upd_ne _ _ e]; exact hoth a ha e)
      rw [upd_same] at this
      simpa using this
    · obtain ⟨g', w', es, hgo, ⟨rfl, rfl⟩, hg'⟩ := hstep w (RW.refl w)
      exact idle hgo (.d2 hg') rfl (by omega)
  | d3 h =>
    rcases Goes.cases h with hstop | ⟨m', rfl, hstep⟩
    · obtain ⟨_, hx⟩ := hstop w (RW.refl w)
      obtain ⟨hW3, hoth, rfl, rfl⟩ := hmode.isLast hi (by omega)
      simp only [hsi] at hwg
      obtain ⟨g', hgo, m₂, hkk⟩ := hx (by simpa using hwg)
      refine book hgo (aside_setCell w (stA Wg) _) (hwg.setSt 0) (by intro e he; simp at he; subst he; exact bk_cell _ _ rfl) (by intro jx e he; match jx, he with | 0, _ => exact .inr (by simp [deafBehind]) | jx + 1, he => simp at he) (.d4 hkk) rfl (by omega) (by omega) ?_ (.inl ⟨by omega, by simp [cnt]⟩)
      have := Go.ConcN.Mode.last (j := j) (D := upd (wdf D) (k - 1) ⟨2, m₂, 1⟩) (tag := tagOf ph V blk) (k - 1) hW3 hi (by rw [upd_same]; simp) (fun a ha e => by rw [upd_ne _ _ e]; exact hoth a ha e)
      rw [upd_same] at this
      simpa using this
    · obtain ⟨g', w', es, hgo, ⟨rfl, rfl⟩, hg'⟩ := hstep w (RW.refl w)
      exact idle hgo (.d3 hg') rfl (by omega)
  | d4 h =>
    rcases Goes.cases h with hstop | ⟨m', rfl, hstep⟩
    · obtain ⟨_, hmw, hx⟩ := hstop w (RW.refl w)
      obtain ⟨hW3, hoth, rfl, rfl⟩ := hmode.isLast hi (by omega)
      simp only [hsi] at hwg
      obtain ⟨g', hgo, q, hq⟩ := hx (by simpa using hwg)
      have hrun' : g'.status = .running := by
        cases q with
        | zero => exact absurd hq.2 (by decide)
        | succ q => exact hq.elim (fun x => absurd x.2 (by decide)) (fun x => x.1)
      refine bookG hgo (aside_setCell w (smA Wg) _) (hwg.setSm 1) (es := semEvents (smA Wg)) ?_ ?_ (.quit hq) (by simp [deafBehind, semEvents]) (by omega) (by omega) ?_ (.inl ⟨by omega, by simp [cnt]⟩)
      · intro e he
        simp [semEvents] at he
        rcases he with rfl | rfl | rfl | rfl
        · exact .inl rfl
        · exact bk_cell _ _ rfl
        · exact bk_cell _ _ rfl
        · exact .inr (.inl rfl)
      · intro jx e he
        match jx, he with
        | 0, he => simp [semEvents] at he; subst he; exact .inl rfl
        | 1, _ => exact .inr (by simp [deafBehind, semEvents])
        | 2, _ => exact .inr (by simp [deafBehind, semEvents])
        | 3, he => simp [semEvents] at he; subst he; exact .inl rfl
        | jx + 4, he => simp [semEvents] at he
      · intro tag' ht hw
        have hnb := hw hmw hrun'
        have e3 : tag' = .w3 := by
          rcases ht with rfl | ⟨_, rfl⟩
          · revert hW3 hnb
            generalize tagOf ph V blk = tg
            cases tg <;> intro hW3 hnb <;> first | rfl | exact hW3.elim | exact absurd rfl hnb
          · rfl
        subst e3
        simp only [if_true]
        exact .sema fun a ha => by
          by_cases e : a = k - 1
          · subst e; rw [upd_same]
          · rw [upd_ne _ _ e]; exact hoth a ha e
    · obtain ⟨g', w', es, hgo, ⟨rfl, rfl⟩, hg'⟩ := hstep w (RW.refl w)
      exact idle hgo (.d4 hg') rfl (by omega)
  | quit h =>
    cases m with
    | zero => rw [h.1] at hrun; cases hrun
    | succ q =>
      rcases h with ⟨hf, _⟩ | ⟨_, g', es, hmute, hstep, hq⟩
      · rw [hf] at hrun; cases hrun
      · have hbk : ∀ e ∈ es, Bk Wg e := fun e he => bk_of_mute (hmute e he)
        have hno : ∀ jx e, es[jx]? = some e → (MemAct.ofEvent e).touch? = none ∨ 0 < deafBehind dd (es.extract 0 jx) := fun jx e he => .inl (by
          rcases bk_of_mute (Wg := Wg) (hmute e (Array.mem_of_getElem? he)) with h1 | h1 | ⟨a, wr, rfl, _⟩
          · rw [ofEvent_loc_mark h1]; rfl
          · rw [ofEvent_loc_mark h1]; rfl
          · have := hmute _ (Array.mem_of_getElem? he); simp [Event.mute] at this)
        exact book (hstep w) (.refl Wg w) hwg hbk hno (.quit hq) rfl (by omega) (by omega) (by have := hmode.same (i := k - 1) q (deafBehind dd es); rwa [hsi] at this) (.inr ⟨rfl, rfl⟩)
end
end Go.Proofs.Ytojhnclkhiffkaa

/-
  A step of a worker's.
-/
namespace Go.Proofs.Ytojhnclkhiffkaa
open Go.Conc Go.RowKit
open Go.ConcN (upd upd_same upd_ne WSit WgLive WD Vc)
open Go.ConcR (rd wr mk stA smA WgAt wgBlock KK Payload)
set_option linter.unusedVariables false

theorem goes_inv {s : GStep} {K : Goroutine → World → Array Event → Prop} (h : s.goes K) : ∃ g w es, s = .go g w es ∧ K g w es := by
  cases s <;> first | exact ⟨_, _, _, rfl, h⟩ | exact h.elim
theorem updC_updC {α : Type 1} (f : Nat → α) (i : Nat) (x y : α) : updC (updC f i x) i y = updC f i y := by
  funext a
  by_cases h : a = i
  · subst h; rw [updC_same, updC_same]
  · rw [updC_ne _ _ h, updC_ne _ _ h, updC_ne _ _ h]
theorem hdel_hupd_self (h : H) (b : Nat) (o : Obj) : hdel (hupd h b o) b = hdel h b := by
  funext x
  unfold hdel hupd
  by_cases e : x = b
  · rw [if_pos e, if_pos e]
  · rw [if_neg e, if_neg e, if_neg e]
section
variable {pr : Pro} {P : Program} {j M Wg : Nat} {e0 : Value} {γ : List Value} {ph V : Nat} {ds : List Value} {N0 : Nat} {W0 : World} {Hs : Nat → H} {D : Nat → Ch} {blk : Bool} {gs : Array Goroutine} {w w' : World} {t : Trace}
/-- An own block that is put aside: nothing is gained. -/
theorem aside_sub {h : H} {b : Nat} {c : Array Value} {E : TypeId} (hb : h b = some (.cells c E)) {o : Obj} (ho : o = .deferred none ∨ (∃ c' E' fr, o = .cells c' E' fr ∧ isRo c' fr) ∨ ∃ E n a L, o = noteO E n 0 a L) :
    (∀ l, OwnL (hupd h b o) l → OwnL h l) ∧ ∀ l, RdL (hupd h b o) l → RdL h l ∨ OwnL h l := by
  have own : ∀ ad : Addr, ad.block = b → OwnL h (.cell ad) := fun ad e => .inl ⟨c, E, _, by rw [e]; exact hb, not_isRo0 c⟩
  refine ⟨fun l hl => ?_, fun l hl => ?_⟩
  · cases l with
    | cell ad =>
      by_cases e : ad.block = b
      · exact own ad e
      · simp only [OwnL, hupd_ne _ _ e] at hl; exact hl
    | obj r =>
      obtain ⟨x, hx, hm⟩ := hl
      by_cases e : r = b
      · subst e
        rw [hupd_same] at hx
        simp only [Option.some.injEq] at hx
        subst hx
        rcases ho with rfl | ⟨c', E', fr, rfl, _⟩ | ⟨E', n, a, L, rfl⟩ <;> exact hm.elim
      · rw [hupd_ne _ _ e] at hx; exact ⟨x, hx, hm⟩
    | _ => exact hl.elim
  · cases l with
    | cell ad =>
      by_cases e : ad.block = b
      · exact .inr (own ad e)
      · simp only [RdL, hupd_ne _ _ e] at hl; exact .inl hl
    | _ => exact hl.elim
theorem note_inj {E E' : TypeId} {n n' t t' a a' : Nat} {L L' : Array Value} (h : noteO E n t a L = noteO E' n' t' a' L') : E = E' ∧ n = n' ∧ t = t' ∧ a = a' ∧ L = L' := by
  have := congrArg noteOf h
  simpa only [noteOf_noteO, Option.some.injEq, Prod.mk.injEq] using this
theorem Cmp.same (X : Cmp pr P j M Wg e0 γ ph V ds N0 W0 Hs D blk gs w t) {k : Nat} (k1 : 1 ≤ k) {c : Ch} (h1 : c.stage = (D k).stage) (h2 : c.fuel = (D k).fuel) (h3 : c.deaf = (D k).deaf) :
    (fun k' => (updC D k c k').stage) = (fun k' => (D k').stage) ∧ dfsOf ph (updC D k c) = dfsOf ph D ∧ wdf (updC D k c) = wdf D := by
  have key : ∀ k', (updC D k c k').stage = (D k').stage ∧ (updC D k c k').fuel = (D k').fuel ∧ (updC D k c k').deaf = (D k').deaf := by
    intro k'
    by_cases e : k' = k
    · subst e; rw [updC_same]; exact ⟨h1, h2, h3⟩
    · rw [updC_ne _ _ e]; exact ⟨rfl, rfl, rfl⟩
  refine ⟨funext fun k' => (key k').1, funext fun k' => ?_, funext fun i => ?_⟩
  · unfold dfsOf; rw [(key k').2.2]
  · unfold wdf; rw [(key _).1, (key _).2.1, (key _).2.2]

theorem Cmp.high (X : Cmp pr P j M Wg e0 γ ph V ds N0 W0 Hs D blk gs w t) {k : Nat} (k1 : 1 ≤ k) (hk : k ≤ j) (h8 : (D k).stage = 8) {g a : Goroutine} (hg : gs[k]? = some g) (hrun : g.status = .running)
    (ha : gs[0]? = some (bl blk a)) (har : a.status = .running) (hblk : blk = true → ph = 5 ∧ a.offers = none) :
    ∃ g' w' es γ' Hs' c' blk', stepG P false g w = .go g' w' es ∧ Cmp pr P j M Wg e0 γ' ph V ds N0 W0 Hs' (updC D k c') blk' ((gs.map (woken P g g' w')).setIfInBounds k g') w' (t ++ MemOp.ofEvents k g.frame.fn g.frame.place es) ∧
      ((gs.map (woken P g g' w')).setIfInBounds k g')[0]? = some (bl blk' a) ∧ (blk' = true → ph = 5 ∧ a.offers = none) ∧ Hs' 0 = Hs 0 ∧ ((c'.stage = 8 ∧ Tr.lt c'.rk (D k).rk) ∨ c'.stage < 8) := by
  obtain ⟨g₁, hg₁, hs⟩ := X.sit k k1 hk
  obtain rfl : g = g₁ := by rw [hg] at hg₁; exact Option.some.inj hg₁
  rcases hs with ⟨_, hdf, hs⟩ | ⟨h7, _⟩
  rotate_left
  · omega
  obtain ⟨st, sm, hwg, hmode⟩ := X.wg
  have hol := X.I.hol k hk
  have lastC : ∀ k', 1 ≤ k' → k' ≤ j → k' ≠ k → (D k').stage ≤ 7 → Hs k (D k').C = none := fun k' h1 h2 h3 h4 => def_none (X.I.ap k k' hk h2 (Ne.symm h3)) (X.lastCell h1 h2 h4)
  generalize hrk : (D k).rk = α at hs
  cases α with
  | mk ι f =>
    have hs' : RobW pr P (fun g h => ∃ i, TW pr P (f i) g h) g (Hs k) := hs
    cases hs' with
    | ord _ st1 =>
      obtain ⟨g', w', es, hgo, h1, F, i, hi⟩ := goes_inv (st1 w hol)
      obtain ⟨s1, s2, s3⟩ := X.same k1 (c := { D k with rk := f i }) rfl rfl rfl
      have hb := fun {b : Nat} (h : Hs k b = none) (hlt : b < w.heap.size) => F.block hlt (.inl h)
      have hwg' : WgAt pr.tg Wg w' st sm := hwg.of_block (F.block ((X.I.hol 0 (by omega)).lt X.I.hW) ((X.I.atW hk).imp id fun ⟨E, n, t, s, L, h, _⟩ => .inr (.inl ⟨E, n, t, s, L, h⟩)))
      obtain ⟨blk', c1, c2, c3⟩ := X.asm k1 hk (c' := { D k with rk := f i }) (u := MemOp.ofEvents k g.frame.fn g.frame.place es) hg ha har hblk (X.I.own hk F) (by rw [s1, s2]; exact X.tr.own X.I hk (.inr h8) F _ _) (.inl ⟨h8, hdf, by rw [upd_same]; exact hi⟩) (fun k' e => upd_ne _ _ e)
        (fun k' h1 h2 h3 h4 => hb (lastC k' h1 h2 h3 h4) ((X.I.hol k' h2).lt (X.lastCell h1 h2 h4))) rfl hwg' (fun blk' h1 _ => by rw [s3]; exact hmode.retag (tagOf_re h1)) (by rw [s3]; exact Nat.le_refl _)
      exact ⟨g', w', es, γ, _, _, blk', hgo, c1, c2, c3, upd_ne _ _ (by omega), .inl ⟨h8, i, rfl⟩⟩
    | sh _ M' k' L hM st1 =>
      rcases X.I.ntc k k1 hk M' _ hM (noteOf_ne _ _ _ _ _) with ⟨rfl, L', e, hext⟩ | ⟨_, d, _, e⟩
      rotate_left
      · have := (note_inj e).2.2.1; omega
      obtain ⟨_, _, _, rfl, eL⟩ := note_inj e
      have eL' : L = L' := by have := congrArg Array.toList eL; simpa using this
      subst eL'
      obtain ⟨g', w', es, h', γ', hgo, hu, hT, i, hi⟩ := st1 w γ hol X.I.at_ hext ⟨e0, X.I.hst⟩ fun b c E hb o ho => (X.I.pub b c E hb).2.2.2 _ hk o ho
      obtain ⟨w1, w2, w3, w4, w5, w6⟩ := upd_world (E := pr.E) X.I.at_.1 hu
      obtain ⟨s1, s2, s3⟩ := X.same k1 (c := { D k' with rk := f i }) rfl rfl rfl
      have hwg' : WgAt pr.tg Wg w' st sm := hwg.of_block (w6 Wg (Ne.symm X.I.ne))
      obtain ⟨blk', c1, c2, c3⟩ := X.asm k1 hk (c' := { D k' with rk := f i }) (u := MemOp.ofEvents k' g.frame.fn g.frame.place es) hg ha har hblk (X.I.sh k1 hk hu hT) (by rw [s1, s2]; exact X.tr.sh X.I k1 hk h8 (by rw [dfsOf, if_neg (by omega)]; exact hdf) hu hT _ _) (.inl ⟨h8, hdf, by rw [upd_same]; exact hi⟩) (fun k'' e => upd_ne _ _ e)
        (fun k'' h1 h2 h3 h4 => w6 _ fun e => by
          have := X.lastCell h1 h2 h4
          rcases X.I.atM h2 with h5 | ⟨E, n, t, s, L, h5, _⟩ <;> rw [e] at this <;> rw [h5] at this <;> cases this) rfl hwg' (fun blk' h1 _ => by rw [s3]; exact hmode.retag (tagOf_re h1)) (by rw [s3]; exact Nat.le_refl _)
      exact ⟨g', w', es, γ', _, _, blk', hgo, c1, c2, c3, upd_ne _ _ (by omega), .inl ⟨h8, i, rfl⟩⟩
    | leaf _ Wg' C E v d hd hC hp st1 =>
      rcases X.I.ntc k k1 hk Wg' _ hd (noteOf_ne _ _ _ _ _) with ⟨_, L', e, hext⟩ | ⟨rfl, d', hd', e⟩
      · have := (note_inj e).2.2.1; omega
      have ed : d = d' := by have := congrArg Array.toList (note_inj e).2.2.2.2; simpa using this
      subst ed
      have edk : d = (D k).d := by have := X.dd k k1 hk; rw [hd'] at this; simpa using this
      obtain ⟨m, hm⟩ := st1 w hol
      let c1 : Ch := { rk := (D k).rk, stage := 7, fuel := m, deaf := 0, d := (D k).d, C := C, E := E, v := v }
      have sub := aside_sub hC (o := .deferred none) (.inl rfl)
      have same : ∀ k', k' ≠ k → (updC D k c1 k') = D k' := fun k' e => updC_ne _ _ e
      have I1 := X.I.aside hk hC (o := .deferred none) ⟨_, rfl⟩ (fun h => absurd rfl h)
      have X1 : Cmp pr P j M Wg' e0 γ ph V ds N0 W0 (upd Hs k (hupd (Hs k) C (.deferred none))) (updC D k c1) blk gs w t := by
        refine ⟨I1, X.tr.sub (fun k' _ => ?_) (fun k' _ h => ?_) (fun k' _ => ?_) (fun k' _ _ h => ?_), X.size, fun k' h1 h2 => ?_, fun k' h1 h2 => ?_, ⟨st, sm, hwg, ?_⟩, fun e => ?_, X.jb⟩
        · by_cases e : k' = k
          · subst e; rw [upd_same]; exact sub
          · rw [upd_ne _ _ e]; exact ⟨fun _ h => h, fun _ h => .inl h⟩
        · by_cases e : k' = k
          · subst e; exact h8
          · simp only [same k' e] at h; exact h
        · unfold dfsOf
          by_cases e0 : k' = 0
          · rw [if_pos e0, if_pos e0]
          · rw [if_neg e0, if_neg e0]
            by_cases e : k' = k
            · subst e; rw [updC_same, hdf]
            · rw [same k' e]
        · by_cases e : k' = k
          · subst e; simp only [updC_same] at h; exact absurd (show (7 : Nat) ≤ 6 from h) (by omega)
          · simp only [same k' e] at h; exact h
        · by_cases e : k' = k
          · subst e
            rw [updC_same, upd_same]
            refine ⟨g, hg, .inr ⟨Nat.le_refl _, @WSit.r0 ⟨E⟩ _ _ _ _ _ _ _ _ _ _ _ _ _ hm, hupd_same _ _ _, ?_⟩⟩
            rw [hdel_hupd_self]
            show pr.post (D k').d _
            rw [← edk]; exact hp
          · rw [same k' e, upd_ne _ _ e]; exact X.sit k' h1 h2
        · by_cases e : k' = k
          · subst e; rw [updC_same]; exact X.dd k' h1 h2
          · rw [same k' e]; exact X.dd k' h1 h2
        · refine hmode.congr fun i _ => ?_
          unfold wdf
          by_cases e : i + 1 = k
          · rw [e, updC_same, h8]; rfl
          · rw [same _ e]
        · have : Vc j (wdf (updC D k c1)) = Vc j (wdf D) := Go.ConcN.sumTo_congr fun i _ => by
            unfold wdf Go.ConcN.cnt
            by_cases e : i + 1 = k
            · rw [e, updC_same, h8]; rfl
            · rw [same _ e]
          rw [this]; exact X.bd e
      obtain ⟨g', w', es, c', blk', hgo, hX, h0, hb, hr, hlt⟩ := X1.low k1 hk (by rw [updC_same]; exact Nat.le_refl _) hg hrun ha har hblk
      rw [updC_updC] at hX
      rw [updC_same] at hlt
      refine ⟨g', w', es, γ, _, c', blk', hgo, hX, h0, hb, upd_ne _ _ (by omega), .inr ?_⟩
      have h77 : c1.stage = 7 := rfl
      rcases hlt with h | ⟨h, _⟩ <;> omega
end
end Go.Proofs.Ytojhnclkhiffkaa

