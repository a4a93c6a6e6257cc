/-
  What several goroutines hold lies apart; an own step of one leaves what another holds; the places that one owns, or may read.
-/
import Derived.Test.YtojhnclkhiffkaaU1
namespace Go.Proofs.Ytojhnclkhiffkaa
open Go.Conc
open Go.ConcR (rd wr mk)
set_option linter.unusedVariables false

/-- Two goroutines hold these of one block. -/
inductive Dj : Obj → Obj → Prop
  | ro {c c' : Array Value} {E E' : TypeId} {fr fr' : Nat × Nat} : isRo c fr → isRo c' fr' → Dj (.cells c E fr) (.cells c' E' fr')
  | one {i i' n n' : Nat} {v v' : Value} {E E' : TypeId} : i ≠ i' → Dj (oneO i v n E) (oneO i' v' n' E')
  | onePart {i n n' a : Nat} {v : Value} {E E' : TypeId} {L : Array Value} : i < a → Dj (oneO i v n E) (noteO E' n' 0 a L)
  | partOne {i n n' a : Nat} {v : Value} {E E' : TypeId} {L : Array Value} : i < a → Dj (noteO E' n' 0 a L) (oneO i v n E)
  | note {t t' n n' a a' : Nat} {E E' : TypeId} {L L' : Array Value} : 1 ≤ t → 1 ≤ t' → Dj (noteO E n t a L) (noteO E' n' t' a' L')
theorem Dj.symm {o o' : Obj} (d : Dj o o') : Dj o' o := by
  cases d with
  | ro h h' => exact .ro h' h
  | one h => exact .one (Ne.symm h)
  | onePart h => exact .partOne h
  | partOne h => exact .onePart h
  | note h h' => exact .note h' h
theorem chO_ro {c : Array Value} {E : TypeId} {fr : Nat × Nat} {o : Obj} (h : chO (.cells c E fr) o) (hr : isRo c fr) : o = .cells c E fr := by
  simp only [chO, oneOf_cells, if_pos hr] at h; exact h
theorem chO_one {i n : Nat} {v : Value} {E : TypeId} {o : Obj} (h : chO (oneO i v n E) o) : ∃ v', o = oneO i v' n E := by
  simp only [chO, oneOf_oneO] at h; exact h
theorem chO_note {E : TypeId} {n t a : Nat} {L : Array Value} {o : Obj} (h : chO (noteO E n t a L) o) : o = noteO E n t a L := by
  simp only [chO, oneOf_noteO] at h; exact h
theorem chO_def {l : Option (List Deferred)} {o : Obj} (h : chO (.deferred l) o) (hp : oneOf (.deferred l) = none) : o = .deferred l := by
  simp only [chO, hp] at h; exact h
theorem Dj.ch {o o' o1 : Obj} (d : Dj o o') (h : chO o o1) : Dj o1 o' := by
  cases d with
  | ro hr hr' => rw [chO_ro h hr]; exact .ro hr hr'
  | one hi => obtain ⟨v, rfl⟩ := chO_one h; exact .one hi
  | onePart hi => obtain ⟨v, rfl⟩ := chO_one h; exact .onePart hi
  | partOne hi => rw [chO_note h]; exact .partOne hi
  | note h1 h2 => rw [chO_note h]; exact .note h1 h2
theorem HolO_one {i n : Nat} {v : Value} {E : TypeId} {x : Option Obj} : HolO (oneO i v n E) x ↔ ∃ c, x = some (.cells c E (0, 0)) ∧ c.size = n ∧ c[i]? = some v := by
  simp only [HolO, oneOf_oneO]
theorem HolO_note {E : TypeId} {n t a : Nat} {L : Array Value} {x : Option Obj} : HolO (noteO E n t a L) x ↔ ∃ c, x = some (.cells c E (0, 0)) ∧ c.size = n ∧ (t = 0 → ∀ i, a ≤ i → c[i]? = L[i]?) ∧ (2 ≤ t → ∃ st sm, c = #[.int .u64 st, .int .u32 sm]) := by
  simp only [HolO, oneOf_noteO, noteOf_noteO]
theorem HolO_ro {c : Array Value} {E : TypeId} {fr : Nat × Nat} {x : Option Obj} (hr : isRo c fr) : HolO (.cells c E fr) x ↔ ∃ fr', x = some (.cells c E fr') ∧ (fr = roO c → fr' = (0, 0)) := by
  simp only [HolO, oneOf_cells, noteOf_cells, if_pos hr]
theorem HolO_own {c : Array Value} {E : TypeId} {fr : Nat × Nat} {x : Option Obj} (hr : ¬ isRo c fr) : HolO (.cells c E fr) x ↔ x = some (.cells c E fr) := by
  simp only [HolO, oneOf_cells, noteOf_cells, if_neg hr]
theorem kpO_one {i n : Nat} {v : Value} {E : TypeId} {x x' : Option Obj} : kpO (some (oneO i v n E)) x x' ↔ ∃ c E f v, x = some (.cells c E f) ∧ x' = some (.cells (c.setIfInBounds i v) E f) := by
  simp only [kpO, oneOf_oneO]
theorem kpO_note {E : TypeId} {n t a : Nat} {L : Array Value} {x x' : Option Obj} : kpO (some (noteO E n t a L)) x x' ↔ x' = x := by
  simp only [kpO, oneOf_noteO]; exact Iff.rfl
theorem kpO_ro {c : Array Value} {E : TypeId} {fr : Nat × Nat} {x x' : Option Obj} (hr : isRo c fr) (h : kpO (some (.cells c E fr)) x x') : x' = x := by
  simp only [kpO, oneOf_cells] at h; exact h hr
theorem Dj.hol {o o' : Obj} (d : Dj o o') {x x' : Option Obj} (h : kpO (some o) x x') (hh : HolO o' x) : HolO o' x' := by
  cases d with
  | ro hr hr' => rw [kpO_ro hr h]; exact hh
  | one hi =>
    obtain ⟨c, E, f, v, rfl, rfl⟩ := kpO_one.1 h
    obtain ⟨c', e1, e2, e3⟩ := HolO_one.1 hh
    simp only [Option.some.injEq, Obj.cells.injEq] at e1
    obtain ⟨rfl, rfl, rfl⟩ := e1
    exact HolO_one.2 ⟨_, rfl, by simpa using e2, by rw [Array.getElem?_setIfInBounds_ne hi]; exact e3⟩
  | onePart hi =>
    obtain ⟨c, E, f, v, rfl, rfl⟩ := kpO_one.1 h
    obtain ⟨c', e1, e2, e3, e4⟩ := HolO_note.1 hh
    simp only [Option.some.injEq, Obj.cells.injEq] at e1
    obtain ⟨rfl, rfl, rfl⟩ := e1
    exact HolO_note.2 ⟨_, rfl, by simpa using e2, fun _ j hj => by rw [Array.getElem?_setIfInBounds_ne (by omega)]; exact e3 rfl j hj, fun h => by omega⟩
  | partOne hi => rw [kpO_note.1 h]; exact hh
  | note h1 h2 => rw [kpO_note.1 h]; exact hh

/-- What two hold lies apart. -/
def Ap (h h' : H) : Prop := ∀ b o o', h b = some o → h' b = some o' → Dj o o'
theorem Ap.symm {h h' : H} (a : Ap h h') : Ap h' h := fun b o o' h1 h2 => (a b o' o h2 h1).symm
section
variable {h h1 hk : H} {w w1 : World} {es : Array Event}
theorem Fra.other (f : Fra h w h1 w1 es) (a : Ap h hk) (hh : Hol hk w) : Hol hk w1 := by
  intro b o' hb
  have hlt := hh.lt hb
  have hk' := f.keep b hlt
  have ho := hh b o' hb
  cases hbb : h b with
  | none =>
    rw [hbb] at hk'
    have : w1.heap[b]? = w.heap[b]? := hk'
    rw [this]; exact ho
  | some o => rw [hbb] at hk'; exact (a b o o' hbb hb).hol hk' ho
theorem Fra.ap (f : Fra h w h1 w1 es) (a : Ap h hk) (hh : Hol hk w) : Ap h1 hk := by
  intro b o1 o' hb hb'
  obtain ⟨o, ho, hc⟩ := f.old b o1 hb (hh.lt hb')
  exact (a b o o' ho hb').ch hc
/-- A block that is held by nobody else but is not among what this one writes. -/
theorem Fra.block (f : Fra h w h1 w1 es) {b : Nat} (hlt : b < w.heap.size) (hb : h b = none ∨ (∃ c E fr, h b = some (.cells c E fr) ∧ isRo c fr) ∨ (∃ E n t a L, h b = some (noteO E n t a L)) ∨ h b = some (.deferred none)) : w1.heap[b]? = w.heap[b]? := by
  have hk' := f.keep b hlt
  rcases hb with hb | ⟨c, E, fr, hb, hr⟩ | ⟨E, n, t, a, L, hb⟩ | hb
  · rw [hb] at hk'; exact hk'
  · rw [hb] at hk'; exact kpO_ro hr hk'
  · rw [hb] at hk'; exact kpO_note.1 hk'
  · rw [hb] at hk'; exact hk'

/-! ### Places -/
/-- Its own places; those that it may read. -/
def OwnL (h : H) : Loc → Prop
  | .cell a => (∃ c E fr, h a.block = some (.cells c E fr) ∧ ¬ isRo c fr) ∨ (a.spot = none ∧ ∃ v n E, h a.block = some (oneO a.off v n E)) ∨ (a.spot = none ∧ ∃ s n E L, h a.block = some (noteO E n 0 s L) ∧ s ≤ a.off)
  | .obj r => ∃ o, h r = some o ∧ (match o with | .map .. | .mapIter .. => True | _ => False)
  | _ => False
def RdL (h : H) : Loc → Prop
  | .cell a => ∃ c E fr, h a.block = some (.cells c E fr) ∧ isRo c fr
  | _ => False
def LocLt (n : Nat) : Loc → Prop
  | .cell a => a.block < n
  | .obj r => r < n
  | _ => True
theorem OwnL.lt (hh : Hol h w) {l : Loc} (ho : OwnL h l) : LocLt w.heap.size l := by
  cases l with
  | cell a =>
    rcases ho with ⟨c, E, fr, hb, _⟩ | ⟨_, v, n, E, hb⟩ | ⟨_, s, n, E, L, hb, _⟩ <;> exact hh.lt hb
  | obj r => obtain ⟨o, hb, _⟩ := ho; exact hh.lt hb
  | _ => exact ho.elim
theorem RdL.lt (hh : Hol h w) {l : Loc} (ho : RdL h l) : LocLt w.heap.size l := by
  cases l with
  | cell a => obtain ⟨c, E, fr, hb, _⟩ := ho; exact hh.lt hb
  | _ => exact ho.elim
/-- What an access touches. -/
theorem EvO.touch {e : Event} (he : EvO h e) {x : Touch} (hx : (MemAct.ofEvent e).touch? = some x) : OwnL h x.loc ∨ (RdL h x.loc ∧ x.write = false) := by
  obtain ⟨loc, wr, sy⟩ := e
  cases loc with
  | cell a =>
    have hx' : some (⟨.cell a, wr, if sy then .atomic else .plain⟩ : Touch) = some x := by rw [← hx]; cases wr <;> cases sy <;> rfl
    simp only [Option.some.injEq] at hx'
    subst hx'
    rcases he with ⟨c, E, fr, hb, hw⟩ | ⟨hs, o, v, n, E, hb, ho⟩
    · by_cases hr : isRo c fr
      · refine .inr ⟨⟨c, E, fr, hb, hr⟩, ?_⟩
        cases hwr : wr with
        | false => rfl
        | true => exact absurd hr (hw hwr)
      · exact .inl (.inl ⟨c, E, fr, hb, hr⟩)
    · rw [oneOf_spec ho] at hb
      exact .inl (.inr (.inl ⟨hs, v, n, E, hb⟩))
  | obj r =>
    have hl : x.loc = .obj r := by
      revert hx
      cases wr <;> cases sy <;> simp [MemAct.ofEvent, MemAct.touch?] <;> (intro hx; subst hx; rfl)
    rw [hl]
    exact .inl he
  | mark m =>
    exfalso
    have hx' : (MemAct.mark m).touch? = some x := hx
    rcases he with he | ⟨f, rfl⟩
    · have := he.touch
      rw [this] at hx'; cases hx'
    · simp [MemAct.touch?] at hx'
  | _ => exact he.elim
theorem EvO.mark {e : Event} (he : EvO h e) : e.loc ≠ .mark .disable ∧ e.loc ≠ .mark .enable ∧ (∀ a, e.loc ≠ .mark (.release a)) := by
  obtain ⟨loc, wr, sy⟩ := e
  cases loc with
  | mark m =>
    rcases he with he | ⟨f, rfl⟩
    · refine ⟨fun h => he.ne_disable (by simpa using h), fun h => he.ne_enable (by simpa using h), fun a h => ?_⟩
      have he : m = .noRoom := he
      subst he
      simp at h
    · simp
  | _ => simp
/-- How one holds a block of which it owns a place. -/
theorem Ap.own (a : Ap h hk) {l : Loc} (ho : OwnL h l) : ¬ OwnL hk l ∧ ¬ RdL hk l := by
  cases l with
  | cell ad =>
    have nro : ∀ {o : Obj} {c : Array Value} {E : TypeId} {fr : Nat × Nat}, h ad.block = some o → hk ad.block = some (.cells c E fr) → ∃ c0 E0 fr0, o = .cells c0 E0 fr0 ∧ isRo c0 fr0 ∧ isRo c fr := by
      intro o c E fr h1 h2
      have d := a _ _ _ h1 h2
      cases d with | ro x y => exact ⟨_, _, _, rfl, x, y⟩
    have own : ∀ {c : Array Value} {E : TypeId} {fr : Nat × Nat}, hk ad.block = some (.cells c E fr) → False := by
      intro c E fr hb'
      rcases ho with ⟨c0, E0, fr0, hb, hr⟩ | ⟨_, v, n, E0, hb⟩ | ⟨_, s, n, E0, L, hb, _⟩
      · obtain ⟨c1, E1, fr1, e, hr1, _⟩ := nro hb hb'
        simp only [Obj.cells.injEq] at e
        obtain ⟨rfl, rfl, rfl⟩ := e
        exact hr hr1
      · obtain ⟨c1, E1, fr1, e, _⟩ := nro hb hb'; cases e
      · obtain ⟨c1, E1, fr1, e, _⟩ := nro hb hb'; cases e
    refine ⟨?_, fun ⟨c', E', fr', hb', hr'⟩ => own hb'⟩
    rintro (⟨c', E', fr', hb', hr'⟩ | ⟨_, v', n', E', hb'⟩ | ⟨_, s', n', E', L', hb', hs'⟩)
    · exact own hb'
    · rcases ho with ⟨c, E, fr, hb, hr⟩ | ⟨_, v, n, E, hb⟩ | ⟨_, s, n, E, L, hb, hs⟩
      · have d := a _ _ _ hb hb'
        generalize hx' : oneO ad.off v' n' E' = x' at d
        cases d with | ro h1 h2 => cases hx'
      · have d := a _ _ _ hb hb'
        generalize hx : oneO ad.off v n E = x at d
        generalize hx' : oneO ad.off v' n' E' = x' at d
        cases d with
        | ro h1 h2 => cases hx
        | one hi => simp only [oneO, Obj.deferred.injEq, Option.some.injEq, List.cons.injEq, Deferred.mk.injEq, Target.collected.injEq] at hx hx'; omega
        | onePart hi => cases hx'
        | partOne hi => cases hx
        | note h1 h2 => cases hx
      · have d := a _ _ _ hb hb'
        generalize hx : noteO E n 0 s L = x at d
        generalize hx' : oneO ad.off v' n' E' = x' at d
        cases d with
        | ro h1 h2 => cases hx
        | one hi => cases hx
        | onePart hi => cases hx
        | partOne hi => simp only [oneO, noteO, Obj.deferred.injEq, Option.some.injEq, List.cons.injEq, Deferred.mk.injEq, Target.collected.injEq] at hx hx'; omega
        | note h1 h2 => cases hx'
    · rcases ho with ⟨c, E, fr, hb, hr⟩ | ⟨_, v, n, E, hb⟩ | ⟨_, s, n, E, L, hb, hs⟩
      · have d := a _ _ _ hb hb'
        generalize hx' : noteO E' n' 0 s' L' = x' at d
        cases d with | ro h1 h2 => cases hx'
      · have d := a _ _ _ hb hb'
        generalize hx : oneO ad.off v n E = x at d
        generalize hx' : noteO E' n' 0 s' L' = x' at d
        cases d with
        | ro h1 h2 => cases hx
        | one hi => cases hx'
        | onePart hi => simp only [oneO, noteO, Obj.deferred.injEq, Option.some.injEq, List.cons.injEq, Deferred.mk.injEq, Target.collected.injEq] at hx hx'; omega
        | partOne hi => cases hx
        | note h1 h2 => cases hx
      · have d := a _ _ _ hb hb'
        generalize hx : noteO E n 0 s L = x at d
        generalize hx' : noteO E' n' 0 s' L' = x' at d
        cases d with
        | ro h1 h2 => cases hx
        | one hi => cases hx
        | onePart hi => cases hx
        | partOne hi => cases hx'
        | note h1 h2 => simp only [noteO, Obj.deferred.injEq, Option.some.injEq, List.cons.injEq, Deferred.mk.injEq, Target.collected.injEq] at hx hx'; omega
  | obj r =>
    refine ⟨?_, id⟩
    rintro ⟨o', hb', hm'⟩
    obtain ⟨o, hb, hm⟩ := ho
    have d := a _ _ _ hb hb'
    cases d <;> first | exact hm | exact hm'
  | _ => exact ho.elim
/-- Behind an own step its places are what they were, or new. -/
theorem Fra.ownL (f : Fra h w h1 w1 es) {l : Loc} (ho : OwnL h1 l) : OwnL h l ∨ ¬ LocLt w.heap.size l := by
  cases l with
  | cell ad =>
    by_cases hlt : ad.block < w.heap.size
    · left
      rcases ho with ⟨c, E, fr, hb, hr⟩ | ⟨hs, v, n, E, hb⟩ | ⟨hs, s, n, E, L, hb, hl⟩
      · obtain ⟨o, hb0, hc⟩ := f.old _ _ hb hlt
        cases o with
        | cells c0 E0 fr0 =>
          refine .inl ⟨c0, E0, fr0, hb0, fun hr0 => ?_⟩
          have := chO_ro hc hr0
          simp only [Obj.cells.injEq] at this
          obtain ⟨rfl, rfl, rfl⟩ := this
          exact hr hr0
        | deferred l =>
          exfalso
          unfold chO at hc
          split at hc
          · obtain ⟨v, hc⟩ := hc; cases hc
          · cases hc
        | _ => simp [chO, oneOf] at hc
      · obtain ⟨o, hb0, hc⟩ := f.old _ _ hb hlt
        refine .inr (.inl ⟨hs, ?_⟩)
        cases o with
        | deferred l =>
          cases hone : oneOf (.deferred l) with
          | some x =>
            obtain ⟨i, v0, n0, E0⟩ := x
            have e0 := oneOf_spec hone
            rw [e0] at hc hb0
            obtain ⟨v1, h1⟩ := chO_one hc
            simp only [oneO, Obj.deferred.injEq, Option.some.injEq, List.cons.injEq, Deferred.mk.injEq, Target.collected.injEq] at h1
            obtain ⟨⟨rfl, _⟩, ⟨rfl, _⟩, ⟨rfl, _⟩, _⟩ := h1
            exact ⟨v0, _, _, hb0⟩
          | none =>
            have := chO_def hc hone
            rw [← this] at hb0
            exact ⟨v, n, E, hb0⟩
        | cells c0 E0 fr0 =>
          exfalso
          simp only [chO, oneOf_cells] at hc
          split at hc
          · cases hc
          · obtain ⟨_, hc, _⟩ := hc; cases hc
        | _ => exfalso; simp [chO, oneOf, oneO] at hc
      · obtain ⟨o, hb0, hc⟩ := f.old _ _ hb hlt
        refine .inr (.inr ⟨hs, s, n, E, L, ?_, hl⟩)
        cases o with
        | deferred l =>
          cases hone : oneOf (.deferred l) with
          | some x =>
            obtain ⟨i, v0, n0, E0⟩ := x
            have e0 := oneOf_spec hone
            rw [e0] at hc
            obtain ⟨v1, h1⟩ := chO_one hc
            cases h1
          | none =>
            have := chO_def hc hone
            rw [← this] at hb0
            exact hb0
        | cells c0 E0 fr0 =>
          exfalso
          simp only [chO, oneOf_cells] at hc
          split at hc
          · cases hc
          · obtain ⟨_, hc, _⟩ := hc; cases hc
        | _ => exfalso; simp [chO, oneOf, noteO] at hc
    · exact .inr hlt
  | obj r =>
    by_cases hlt : r < w.heap.size
    · left
      obtain ⟨o, hb, hm⟩ := ho
      obtain ⟨o0, hb0, hc⟩ := f.old _ _ hb hlt
      refine ⟨o0, hb0, ?_⟩
      cases o0 with
      | map e c => trivial
      | mapIter m s n st => trivial
      | cells c0 E0 fr0 =>
        simp only [chO, oneOf_cells] at hc
        split at hc
        · subst hc; exact hm
        · obtain ⟨_, rfl, _⟩ := hc; exact hm
      | deferred l =>
        unfold chO at hc
        split at hc
        · obtain ⟨v, rfl⟩ := hc; exact hm
        · simp only at hc; subst hc; exact hm
      | _ => simp only [chO, oneOf] at hc; subst hc; exact hm
    · exact .inr hlt
  | _ => exact ho.elim
theorem Fra.rdL (f : Fra h w h1 w1 es) {l : Loc} (ho : RdL h1 l) : RdL h l ∨ ¬ LocLt w.heap.size l := by
  cases l with
  | cell ad =>
    by_cases hlt : ad.block < w.heap.size
    · left
      obtain ⟨c, E, fr, hb, hr⟩ := ho
      obtain ⟨o, hb0, hc⟩ := f.old _ _ hb hlt
      cases o with
      | cells c0 E0 fr0 =>
        by_cases hr0 : isRo c0 fr0
        · exact ⟨c0, E0, fr0, hb0, hr0⟩
        · exfalso
          simp only [chO, oneOf_cells, if_neg hr0] at hc
          obtain ⟨c', hc, hs⟩ := hc
          simp only [Obj.cells.injEq] at hc
          obtain ⟨rfl, rfl, rfl⟩ := hc
          apply hr0
          unfold isRo roF roO at hr ⊢
          rw [← hs]; exact hr
      | deferred l =>
        exfalso
        unfold chO at hc
        split at hc
        · obtain ⟨v, hc⟩ := hc; cases hc
        · cases hc
      | _ => exfalso; simp [chO, oneOf] at hc
    · exact .inr hlt
  | _ => exact ho.elim
end
end Go.Proofs.Ytojhnclkhiffkaa
