/-
  The invariant, what is held: kept by steps at the group's cells, at a worker's last cell; by the starter's notes; by a go statement.
-/
import Derived.Test.YtojhnclkhiffkaaU4
namespace Go.Proofs.Ytojhnclkhiffkaa
open Go.Conc Go.RowKit
open Go.ConcN (upd upd_same upd_ne)
open Go.ConcR (rd wr mk stA smA WgAt wgBlock KK)
set_option linter.unusedVariables false

section
variable {pr : Pro} {j M Wg : Nat} {e0 : Value} {γ : List Value} {ph V : Nat} {ds : List Value} {N0 : Nat} {W0 : World} {Hs : Nat → H} {w w' : World}
theorem HI.M0 (I : HI pr j M Wg e0 γ ph V ds N0 W0 Hs w) : N0 ≤ M := by
  rcases Nat.lt_or_ge M N0 with h | h
  · obtain ⟨c, E, e⟩ := I.old 0 (by omega) M _ I.hM h; cases e
  · exact h
theorem HI.Wg0 (I : HI pr j M Wg e0 γ ph V ds N0 W0 Hs w) : N0 ≤ Wg := by
  rcases Nat.lt_or_ge Wg N0 with h | h
  · obtain ⟨c, E, e⟩ := I.old 0 (by omega) Wg _ I.hW h; cases e
  · exact h
/-- What each has at the group's block. -/
theorem HI.noteW (I : HI pr j M Wg e0 γ ph V ds N0 W0 Hs w) {k : Nat} (hk : k ≤ j) : Hs k Wg = none ∨ ∃ t a L, Hs k Wg = some (noteO pr.tg 2 t a L) ∧ 2 ≤ t := by
  by_cases h0 : k = 0
  · subst h0; exact .inr ⟨_, _, _, I.hW, by omega⟩
  · rcases I.atW hk with h1 | ⟨E, n, t, s, L, h1, _⟩
    · exact .inl h1
    · rcases I.ntc k (by omega) hk Wg _ h1 (noteOf_ne _ _ _ _ _) with ⟨e, _⟩ | ⟨_, d, _, e⟩
      · exact absurd e.symm I.ne
      · exact .inr ⟨2, 0, _, by rw [h1, e]; rfl, Nat.le_refl _⟩
/-- A turn of the group's block. -/
theorem HI.wg (I : HI pr j M Wg e0 γ ph V ds N0 W0 Hs w) (A : Aside Wg w w') {st sm : Int} (hw : WgAt pr.tg Wg w' st sm) : HI pr j M Wg e0 γ ph V ds N0 W0 Hs w' := by
  refine ⟨fun k hk b o hb => ?_, I.ap, I.hM, I.hW, I.ne, I.nts0, I.ntc, I.dl, ⟨(A.block M I.ne).trans I.at_.1, fun b c E hp => (A.block b (I.pub b c E hp).2.1).trans (I.at_.2 b c E hp)⟩, I.pub, I.hst, I.ext0, I.byle, ?_, by rw [A.size]; exact I.n0, I.old⟩
  · by_cases e : b = Wg
    · subst e
      rcases I.noteW hk with h1 | ⟨t, a, L, h1, ht⟩
      · rw [h1] at hb; cases hb
      · rw [h1] at hb
        simp only [Option.some.injEq] at hb
        subst hb
        have hw' : w'.heap[b]? = some (wgBlock pr.tg st sm) := hw
        rw [hw']
        exact HolO_note.2 ⟨_, rfl, rfl, fun h => by omega, fun _ => ⟨st, sm, rfl⟩⟩
    · rw [A.block b e]; exact I.hol k hk b o hb
  · have := I.Wg0
    exact ⟨A.os.trans I.bel.os, A.tape.trans I.bel.tape, A.output.trans I.bel.output, by rw [A.size]; exact I.bel.size, fun b hb => (A.block b (by omega)).trans (I.bel.block b hb)⟩
/-- A turn of a worker's last cell. -/
theorem HI.cc (I : HI pr j M Wg e0 γ ph V ds N0 W0 Hs w) {k C : Nat} (hk : k ≤ j) (hC : Hs k C = some (.deferred none)) (A : Aside C w w') : HI pr j M Wg e0 γ ph V ds N0 W0 Hs w' := by
  have none_ : ∀ k', k' ≤ j → k' ≠ k → Hs k' C = none := by
    intro k' hk' hne
    cases h2 : Hs k' C with
    | none => rfl
    | some o =>
      exfalso
      have d := I.ap k k' hk hk' (Ne.symm hne) _ _ _ hC h2
      generalize hx : (Obj.deferred none) = x at d
      cases d <;> cases hx
  have nM : C ≠ M := by
    rintro rfl
    rcases I.atM hk with h1 | ⟨E, n, t, s, L, h1, _⟩ <;> rw [h1] at hC <;> cases hC
  have nWg : C ≠ Wg := by
    rintro rfl
    rcases I.atW hk with h1 | ⟨E, n, t, s, L, h1, _⟩ <;> rw [h1] at hC <;> cases hC
  have nP : ∀ b c E, pr.pub γ b = some (c, E) → b ≠ C := by
    rintro b c E hp rfl
    obtain ⟨fr, e, _⟩ := (I.pub b c E hp).2.2.2 k hk _ hC
    cases e
  have C0 : N0 ≤ C := by
    rcases Nat.lt_or_ge C N0 with h | h
    · obtain ⟨c, E, e⟩ := I.old k hk C _ hC h; cases e
    · exact h
  refine ⟨fun k' hk' b o hb => ?_, I.ap, I.hM, I.hW, I.ne, I.nts0, I.ntc, I.dl, ⟨(A.block M (Ne.symm nM)).trans I.at_.1, fun b c E hp => (A.block b (nP b c E hp)).trans (I.at_.2 b c E hp)⟩, I.pub, I.hst, I.ext0, I.byle, ?_, by rw [A.size]; exact I.n0, I.old⟩
  · by_cases e : b = C
    · subst e
      by_cases ek : k' = k
      · subst ek
        rw [hC] at hb
        simp only [Option.some.injEq] at hb
        subst hb
        have hlt := (I.hol k' hk').lt hC
        rw [← A.size] at hlt
        exact ⟨_, Array.getElem?_eq_getElem hlt⟩
      · rw [none_ k' hk' ek] at hb; cases hb
    · rw [A.block b e]; exact I.hol k' hk' b o hb
  · exact ⟨A.os.trans I.bel.os, A.tape.trans I.bel.tape, A.output.trans I.bel.output, by rw [A.size]; exact I.bel.size, fun b hb => (A.block b (by omega)).trans (I.bel.block b hb)⟩
/-- The starter's note at the group turns. -/
theorem HI.phase (I : HI pr j M Wg e0 γ ph V ds N0 W0 Hs w) (ph' V' : Nat) : HI pr j M Wg e0 γ ph' V' ds N0 W0 (upd Hs 0 (hupd (Hs 0) Wg (nG pr ph' V' ds))) w := by
  have hne := I.ne
  have at0 : ∀ b o, hupd (Hs 0) Wg (nG pr ph' V' ds) b = some o → (b = Wg ∧ o = nG pr ph' V' ds) ∨ (b ≠ Wg ∧ Hs 0 b = some o) := by
    intro b o hb
    by_cases e : b = Wg
    · subst e; rw [hupd_same] at hb; simp only [Option.some.injEq] at hb; exact .inl ⟨rfl, hb.symm⟩
    · rw [hupd_ne _ _ e] at hb; exact .inr ⟨e, hb⟩
  have ap0 : ∀ k, k ≤ j → k ≠ 0 → Ap (hupd (Hs 0) Wg (nG pr ph' V' ds)) (Hs k) := by
    intro k hk h0 b o o' hb hb'
    rcases at0 b o hb with ⟨rfl, rfl⟩ | ⟨e, hb⟩
    · rcases I.noteW hk with h1 | ⟨t, a, L, h1, ht⟩
      · rw [h1] at hb'; cases hb'
      · rw [h1] at hb'
        simp only [Option.some.injEq] at hb'
        subst hb'
        exact .note (by omega) (by omega)
    · exact I.ap 0 k (by omega) hk (Ne.symm h0) b o o' hb hb'
  refine ⟨fun k hk b o hb => ?_, fun a b ha hb hab => ?_, ?_, ?_, I.ne, ?_, fun k k1 hk => ?_, I.dl, I.at_, fun b c E hp => ?_, I.hst, I.ext0, I.byle, I.bel, I.n0, fun k hk b o hb hlt => ?_⟩
  · by_cases e : k = 0
    · subst e
      rw [upd_same] at hb
      rcases at0 b o hb with ⟨rfl, rfl⟩ | ⟨e, hb⟩
      · obtain ⟨c, h1, h2, _, h4⟩ := HolO_note.1 (I.hol 0 (by omega) _ _ I.hW)
        exact HolO_note.2 ⟨c, h1, h2, fun h => by omega, fun _ => h4 (by omega)⟩
      · exact I.hol 0 (by omega) b o hb
    · rw [upd_ne _ _ e] at hb; exact I.hol k hk b o hb
  · by_cases ea : a = 0
    · subst ea
      rw [upd_same, upd_ne _ _ (Ne.symm hab)]
      exact ap0 b hb (Ne.symm hab)
    · rw [upd_ne _ _ ea]
      by_cases eb : b = 0
      · subst eb; rw [upd_same]; exact (ap0 a ha hab).symm
      · rw [upd_ne _ _ eb]; exact I.ap a b ha hb hab
  · rw [upd_same, hupd_ne _ _ hne]; exact I.hM
  · rw [upd_same, hupd_same]
  · rw [upd_same]
    intro b o hb hn
    rcases at0 b o hb with ⟨rfl, rfl⟩ | ⟨e, hb⟩
    · exact .inr (.inl rfl)
    · exact I.nts0 b o hb hn
  · rw [upd_ne _ _ (by omega)]; exact I.ntc k k1 hk
  · obtain ⟨n1, n2, n3, n4⟩ := I.pub b c E hp
    refine ⟨n1, n2, n3, fun k hk o hb => ?_⟩
    by_cases e : k = 0
    · subst e
      rw [upd_same] at hb
      rcases at0 b o hb with ⟨rfl, rfl⟩ | ⟨e, hb⟩
      · exact absurd rfl n2
      · exact n4 0 (by omega) o hb
    · rw [upd_ne _ _ e] at hb; exact n4 k hk o hb
  · by_cases e : k = 0
    · subst e
      rw [upd_same] at hb
      rcases at0 b o hb with ⟨rfl, rfl⟩ | ⟨e, hb⟩
      · have := I.Wg0; omega
      · exact I.old 0 (by omega) b o hb hlt
    · rw [upd_ne _ _ e] at hb; exact I.old k hk b o hb hlt

/-- An own block of a party's is put aside: read from now on; parted; given up. -/
theorem HI.aside (I : HI pr j M Wg e0 γ ph V ds N0 W0 Hs w) {k : Nat} (hk : k ≤ j) {b : Nat} {c : Array Value} {E : TypeId} (hb : Hs k b = some (.cells c E)) {o : Obj} (ho : HolO o (some (.cells c E)))
    (hn : noteOf o ≠ none → k = 0 ∧ ∃ E n a L, o = noteO E n 0 a L) : HI pr j M Wg e0 γ ph V ds N0 W0 (upd Hs k (hupd (Hs k) b o)) w := by
  have nM : b ≠ M := by
    rintro rfl
    rcases I.atM hk with h1 | ⟨E, n, t, s, L, h1, _⟩ <;> rw [h1] at hb <;> cases hb
  have nWg : b ≠ Wg := by
    rintro rfl
    rcases I.atW hk with h1 | ⟨E, n, t, s, L, h1, _⟩ <;> rw [h1] at hb <;> cases hb
  have b0 : N0 ≤ b := by
    rcases Nat.lt_or_ge b N0 with h | h
    · obtain ⟨c', E', e⟩ := I.old k hk b _ hb h
      simp [roF] at e
    · exact h
  have hw : w.heap[b]? = some (.cells c E) := (HolO_own (not_isRo0 c)).1 (I.hol k hk b _ hb)
  have at0 : ∀ x y, hupd (Hs k) b o x = some y → (x = b ∧ y = o) ∨ (x ≠ b ∧ Hs k x = some y) := by
    intro x y hx
    by_cases e : x = b
    · subst e; rw [hupd_same] at hx; simp only [Option.some.injEq] at hx; exact .inl ⟨rfl, hx.symm⟩
    · rw [hupd_ne _ _ e] at hx; exact .inr ⟨e, hx⟩
  have apk : ∀ k', k' ≤ j → k' ≠ k → Ap (hupd (Hs k) b o) (Hs k') := by
    intro k' hk' h0 x y y' hx hy
    rcases at0 x y hx with ⟨rfl, rfl⟩ | ⟨e, hx⟩
    · rw [own_ap (I.ap k k' hk hk' (Ne.symm h0)) hb] at hy; cases hy
    · exact I.ap k k' hk hk' (Ne.symm h0) x y y' hx hy
  refine ⟨fun k' hk' x y hx => ?_, fun x y hx hy hab => ?_, ?_, ?_, I.ne, ?_, fun k' k1 hk' x y hx hny => ?_, I.dl, I.at_, fun x c' E' hp => ?_, I.hst, I.ext0, I.byle, I.bel, I.n0, fun k' hk' x y hx hlt => ?_⟩
  · by_cases e : k' = k
    · subst e
      rw [upd_same] at hx
      rcases at0 x y hx with ⟨rfl, rfl⟩ | ⟨e, hx⟩
      · rw [hw]; exact ho
      · exact I.hol k' hk' x y hx
    · rw [upd_ne _ _ e] at hx; exact I.hol k' hk' x y hx
  · by_cases ea : x = k
    · subst ea
      rw [upd_same, upd_ne _ _ (Ne.symm hab)]
      exact apk y hy (Ne.symm hab)
    · rw [upd_ne _ _ ea]
      by_cases eb : y = k
      · subst eb; rw [upd_same]; exact (apk x hx hab).symm
      · rw [upd_ne _ _ eb]; exact I.ap x y hx hy hab
  · by_cases e : k = 0
    · subst e; rw [upd_same, hupd_ne _ _ (Ne.symm nM)]; exact I.hM
    · rw [upd_ne _ _ (Ne.symm e)]; exact I.hM
  · by_cases e : k = 0
    · subst e; rw [upd_same, hupd_ne _ _ (Ne.symm nWg)]; exact I.hW
    · rw [upd_ne _ _ (Ne.symm e)]; exact I.hW
  · intro x y hx hny
    by_cases e : k = 0
    · subst e
      rw [upd_same] at hx
      rcases at0 x y hx with ⟨rfl, rfl⟩ | ⟨e, hx⟩
      · exact .inr (.inr (hn hny).2)
      · exact I.nts0 x y hx hny
    · rw [upd_ne _ _ (Ne.symm e)] at hx; exact I.nts0 x y hx hny
  · by_cases e : k' = k
    · subst e
      rw [upd_same] at hx
      rcases at0 x y hx with ⟨rfl, rfl⟩ | ⟨e, hx⟩
      · have := (hn hny).1; omega
      · exact I.ntc k' k1 hk' x y hx hny
    · rw [upd_ne _ _ e] at hx; exact I.ntc k' k1 hk' x y hx hny
  · obtain ⟨n1, n2, n3, n4⟩ := I.pub x c' E' hp
    refine ⟨n1, n2, n3, fun k' hk' y hx => ?_⟩
    by_cases e : k' = k
    · subst e
      rw [upd_same] at hx
      rcases at0 x y hx with ⟨rfl, rfl⟩ | ⟨e, hx⟩
      · exfalso
        obtain ⟨fr, e, hr⟩ := n4 k' hk' _ hb
        simp only [Obj.cells.injEq] at e
        obtain ⟨rfl, rfl, rfl⟩ := e
        exact not_isRo0 _ hr
      · exact n4 k' hk' y hx
    · rw [upd_ne _ _ e] at hx; exact n4 k' hk' y hx
  · by_cases e : k' = k
    · subst e
      rw [upd_same] at hx
      rcases at0 x y hx with ⟨rfl, rfl⟩ | ⟨e, hx⟩
      · omega
      · exact I.old k' hk' x y hx hlt
    · rw [upd_ne _ _ e] at hx; exact I.old k' hk' x y hx hlt

/-- A go STATEMENT. -/
theorem HI.fork (I : HI pr j M Wg e0 γ ph V ds N0 W0 Hs w) {hc h' : H} {d : Value} (sp : ∀ b, b ≠ Wg → SpO pr (ds.length + 1) (Hs 0 b) (hc b) (h' b)) (hcW : hc Wg = some (nW pr d)) (hW' : h' Wg = some (nG pr 0 0 (ds ++ [d]))) :
    HI pr (j + 1) M Wg e0 γ 0 0 (ds ++ [d]) N0 W0 (upd (upd Hs 0 h') (j + 1) hc) w := by
  have dl := I.dl
  have u0 : upd (upd Hs 0 h') (j + 1) hc 0 = h' := by rw [upd_ne _ _ (by omega), upd_same]
  have uj : upd (upd Hs 0 h') (j + 1) hc (j + 1) = hc := upd_same _ _ _
  have uk : ∀ k, 1 ≤ k → k ≤ j → upd (upd Hs 0 h') (j + 1) hc k = Hs k := fun k h1 h2 => by rw [upd_ne _ _ (by omega), upd_ne _ _ (by omega)]
  have holW := HolO_note.1 (I.hol 0 (by omega) _ _ I.hW)
  -- the child's blocks
  have childB : ∀ b o, hc b = some o → (b = Wg ∧ o = nW pr d) ∨ (b ≠ Wg ∧ ((∃ c E, o = .cells c E ∧ Hs 0 b = some o ∧ h' b = none) ∨ (∃ c E fr, o = .cells c E fr ∧ isRo c fr ∧ Hs 0 b = some o ∧ h' b = some o) ∨
      (∃ E n a L v, L[a]? = some v ∧ a < n ∧ o = oneO a v n E ∧ Hs 0 b = some (noteO E n 0 a L) ∧ h' b = some (noteO E n 0 (a + 1) L)) ∨ (∃ L, o = nM pr (j + 1) L ∧ Hs 0 b = some (nM pr 0 L) ∧ h' b = some (nM pr 0 L)))) := by
    intro b o hb
    by_cases e : b = Wg
    · subst e
      rw [hcW] at hb
      simp only [Option.some.injEq] at hb
      exact .inl ⟨rfl, hb.symm⟩
    · refine .inr ⟨e, ?_⟩
      have s := sp b e
      rw [hb] at s
      generalize hx : Hs 0 b = x at s
      generalize hy : h' b = y at s
      generalize hz : (some o : Option Obj) = z at s
      cases s with
      | mine => cases hz
      | give c E => simp only [Option.some.injEq] at hz; subst hz; exact .inl ⟨c, E, rfl, rfl, rfl⟩
      | copy c E fr hr => simp only [Option.some.injEq] at hz; subst hz; exact .inr (.inl ⟨c, E, fr, rfl, hr, rfl, rfl⟩)
      | part E n a L v hv ha => simp only [Option.some.injEq] at hz; subst hz; exact .inr (.inr (.inl ⟨E, n, a, L, v, hv, ha, rfl, rfl, rfl⟩))
      | note L => simp only [Option.some.injEq] at hz; subst hz; exact .inr (.inr (.inr ⟨L, by rw [dl], rfl, rfl⟩))
  -- the starter's
  have mineB : ∀ b o, h' b = some o → (b = Wg ∧ o = nG pr 0 0 (ds ++ [d])) ∨ (b ≠ Wg ∧ (Hs 0 b = some o ∨ ∃ E n a L, Hs 0 b = some (noteO E n 0 a L) ∧ o = noteO E n 0 (a + 1) L)) := by
    intro b o hb
    by_cases e : b = Wg
    · subst e
      rw [hW'] at hb
      simp only [Option.some.injEq] at hb
      exact .inl ⟨rfl, hb.symm⟩
    · refine .inr ⟨e, ?_⟩
      have s := sp b e
      rw [hb] at s
      generalize hx : Hs 0 b = x at s
      generalize hy : hc b = y at s
      generalize hz : (some o : Option Obj) = z at s
      cases s with
      | mine => exact .inl rfl
      | give c E => cases hz
      | copy c E fr hr => exact .inl rfl
      | part E n a L v hv ha => simp only [Option.some.injEq] at hz; subst hz; exact .inr ⟨E, n, a, L, rfl, rfl⟩
      | note L => exact .inl rfl
  have ap0c : Ap h' hc := by
    intro b o o' hb hb'
    rcases childB b o' hb' with ⟨rfl, rfl⟩ | ⟨e, ⟨c, E, rfl, h1, h2⟩ | ⟨c, E, fr, rfl, hr, h1, h2⟩ | ⟨E, n, a, L, v, hv, ha, rfl, h1, h2⟩ | ⟨L, rfl, h1, h2⟩⟩
    · rw [hW'] at hb; simp only [Option.some.injEq] at hb; subst hb; exact .note (by omega) (by omega)
    · rw [h2] at hb; cases hb
    · rw [h2] at hb; simp only [Option.some.injEq] at hb; subst hb; exact .ro hr hr
    · rw [h2] at hb; simp only [Option.some.injEq] at hb; subst hb; exact .partOne (by omega)
    · rw [h2] at hb; simp only [Option.some.injEq] at hb; subst hb; exact .note (Nat.le_refl _) (Nat.le_refl _)
  have apk0 : ∀ k, 1 ≤ k → k ≤ j → Ap h' (Hs k) := by
    intro k k1 hk b o o' hb hb'
    rcases mineB b o hb with ⟨rfl, rfl⟩ | ⟨e, h1 | ⟨E, n, a, L, h1, rfl⟩⟩
    · rcases I.noteW hk with h1 | ⟨t, a, L, h1, ht⟩
      · rw [h1] at hb'; cases hb'
      · rw [h1] at hb'; simp only [Option.some.injEq] at hb'; subst hb'; exact .note (by omega) (by omega)
    · exact I.ap 0 k (by omega) hk (by omega) b o o' h1 hb'
    · have D := I.ap 0 k (by omega) hk (by omega) b _ o' h1 hb'
      generalize hx : noteO E n 0 a L = x at D
      cases D with
      | ro _ _ => cases hx
      | one _ => cases hx
      | onePart _ => cases hx
      | partOne hi =>
        simp only [noteO, Obj.deferred.injEq, Option.some.injEq, List.cons.injEq, Deferred.mk.injEq, Target.collected.injEq] at hx
        exact .partOne (by omega)
      | note h1 _ =>
        simp only [noteO, Obj.deferred.injEq, Option.some.injEq, List.cons.injEq, Deferred.mk.injEq, Target.collected.injEq] at hx
        omega
  have apkc : ∀ k, 1 ≤ k → k ≤ j → Ap hc (Hs k) := by
    intro k k1 hk b o o' hb hb'
    have ap := I.ap 0 k (by omega) hk (by omega) b
    rcases childB b o hb with ⟨rfl, rfl⟩ | ⟨e, ⟨c, E, rfl, h1, h2⟩ | ⟨c, E, fr, rfl, hr, h1, h2⟩ | ⟨E, n, a, L, v, hv, ha, rfl, h1, h2⟩ | ⟨L, rfl, h1, h2⟩⟩
    · rcases I.noteW hk with h1 | ⟨t, a, L, h1, ht⟩
      · rw [h1] at hb'; cases hb'
      · rw [h1] at hb'; simp only [Option.some.injEq] at hb'; subst hb'; exact .note (by omega) (by omega)
    · exact ap _ o' h1 hb'
    · exact ap _ o' h1 hb'
    · have D := ap _ o' h1 hb'
      generalize hx : noteO E n 0 a L = x at D
      cases D with
      | ro _ _ => cases hx
      | one _ => cases hx
      | onePart _ => cases hx
      | partOne hi =>
        simp only [noteO, Obj.deferred.injEq, Option.some.injEq, List.cons.injEq, Deferred.mk.injEq, Target.collected.injEq] at hx
        exact .one (by omega)
      | note h1 _ =>
        simp only [noteO, Obj.deferred.injEq, Option.some.injEq, List.cons.injEq, Deferred.mk.injEq, Target.collected.injEq] at hx
        omega
    · rcases (I.ap 0 k (by omega) hk (by omega)).note h1 (Nat.le_refl _) with h3 | ⟨E, n, t, s, L', h3, h4⟩
      · rw [h3] at hb'; cases hb'
      · rw [h3] at hb'; simp only [Option.some.injEq] at hb'; subst hb'; exact .note (Nat.le_refl _) h4
  have hol0 : Hol h' w := by
    intro b o hb
    rcases mineB b o hb with ⟨rfl, rfl⟩ | ⟨e, h1 | ⟨E, n, a, L, h1, rfl⟩⟩
    · obtain ⟨c, h1, h2, _, h4⟩ := holW
      exact HolO_note.2 ⟨c, h1, h2, fun h => by omega, fun _ => h4 (by omega)⟩
    · exact I.hol 0 (by omega) b o h1
    · obtain ⟨c, h2, h3, h4, h5⟩ := HolO_note.1 (I.hol 0 (by omega) b _ h1)
      exact HolO_note.2 ⟨c, h2, h3, fun _ i hi => h4 rfl i (by omega), fun h => by omega⟩
  have holc : Hol hc w := by
    intro b o hb
    rcases childB b o hb with ⟨rfl, rfl⟩ | ⟨e, ⟨c, E, rfl, h1, h2⟩ | ⟨c, E, fr, rfl, hr, h1, h2⟩ | ⟨E, n, a, L, v, hv, ha, rfl, h1, h2⟩ | ⟨L, rfl, h1, h2⟩⟩
    · obtain ⟨c, h1, h2, _, h4⟩ := holW
      exact HolO_note.2 ⟨c, h1, h2, fun h => by omega, fun _ => h4 (by omega)⟩
    · exact I.hol 0 (by omega) b _ h1
    · exact I.hol 0 (by omega) b _ h1
    · obtain ⟨c, h2, h3, h4, h5⟩ := HolO_note.1 (I.hol 0 (by omega) b _ h1)
      exact HolO_one.2 ⟨c, h2, h3, by rw [h4 rfl a (Nat.le_refl _)]; exact hv⟩
    · obtain ⟨c, h2, h3, h4, h5⟩ := HolO_note.1 (I.hol 0 (by omega) b _ h1)
      exact HolO_note.2 ⟨c, h2, h3, fun h => by omega, fun h => by omega⟩
  have three : ∀ k, k ≤ j + 1 → k = 0 ∨ (1 ≤ k ∧ k ≤ j) ∨ k = j + 1 := fun k hk => by omega
  refine ⟨fun k hk => ?_, fun a b ha hb hab => ?_, ?_, ?_, I.ne, ?_, fun k k1 hk b o hb hn => ?_, by simp [dl], I.at_, fun b c E hp => ?_, I.hst, I.ext0, fun v hv => Nat.le_succ_of_le (I.byle v hv), I.bel, I.n0, fun k hk b o hb hlt => ?_⟩
  · rcases three k hk with rfl | ⟨h1, h2⟩ | rfl
    · rw [u0]; exact hol0
    · rw [uk k h1 h2]; exact I.hol k h2
    · rw [uj]; exact holc
  · rcases three a ha with rfl | ⟨h1, h2⟩ | rfl
    · rw [u0]
      rcases three b hb with rfl | ⟨h3, h4⟩ | rfl
      · exact absurd rfl hab
      · rw [uk b h3 h4]; exact apk0 b h3 h4
      · rw [uj]; exact ap0c
    · rw [uk a h1 h2]
      rcases three b hb with rfl | ⟨h3, h4⟩ | rfl
      · rw [u0]; exact (apk0 a h1 h2).symm
      · rw [uk b h3 h4]; exact I.ap a b h2 h4 hab
      · rw [uj]; exact (apkc a h1 h2).symm
    · rw [uj]
      rcases three b hb with rfl | ⟨h3, h4⟩ | rfl
      · rw [u0]; exact ap0c.symm
      · rw [uk b h3 h4]; exact apkc b h3 h4
      · exact absurd rfl hab
  · rw [u0]
    have s := sp M I.ne
    rw [I.hM] at s
    generalize hx : (some (nM pr 0 [e0]) : Option Obj) = x at s
    generalize hy : h' M = y at s
    generalize hz : hc M = z at s
    cases s with
    | mine => rfl
    | give c E => cases hx
    | copy c E fr hr => cases hx
    | part E n a L v hv ha => simp [nM, noteO] at hx
    | note L => rfl
  · rw [u0]; exact hW'
  · rw [u0]
    intro b o hb hn
    rcases mineB b o hb with ⟨rfl, rfl⟩ | ⟨e, h1 | ⟨E, n, a, L, h1, rfl⟩⟩
    · exact .inr (.inl rfl)
    · exact I.nts0 b o h1 hn
    · exact .inr (.inr ⟨_, _, _, _, rfl⟩)
  · rcases three k hk with rfl | ⟨h1, h2⟩ | rfl
    · omega
    · rw [uk k h1 h2] at hb
      rcases I.ntc k h1 h2 b o hb hn with h3 | ⟨h3, d', h4, h5⟩
      · exact .inl h3
      · refine .inr ⟨h3, d', ?_, h5⟩
        rw [List.getElem?_append_left (List.getElem?_eq_some_iff.1 h4).1]; exact h4
    · rw [uj] at hb
      rcases childB b o hb with ⟨rfl, rfl⟩ | ⟨e, ⟨c, E, rfl, h1, h2⟩ | ⟨c, E, fr, rfl, hr, h1, h2⟩ | ⟨E, n, a, L, v, hv, ha, rfl, h1, h2⟩ | ⟨L, rfl, h1, h2⟩⟩
      · refine .inr ⟨rfl, d, ?_, rfl⟩
        rw [Nat.add_sub_cancel, ← dl]; simp
      · exact absurd rfl hn
      · exact absurd rfl hn
      · exact absurd rfl hn
      · rcases I.nts0 b _ h1 (noteOf_ne _ _ _ _ _) with rfl | h3 | ⟨E, n, a, L', h3⟩
        · have := I.hM.symm.trans h1
          have := congrArg noteOf (Option.some.inj this)
          simp only [nM, noteOf_noteO, Option.some.injEq, Prod.mk.injEq, true_and] at this
          have hL : L = [e0] := by
            have := congrArg Array.toList this
            simpa using this.symm
          subst hL
          obtain ⟨r, hr, _⟩ := I.ext0
          exact .inl ⟨rfl, _, rfl, r, hr, fun v hv => by have := I.byle v (by rw [hr]; simp [hv]); omega⟩
        · exact absurd h3 e
        · simp [nM, noteO] at h3
  · obtain ⟨n1, n2, n3, n4⟩ := I.pub b c E hp
    refine ⟨n1, n2, n3, fun k hk o hb => ?_⟩
    rcases three k hk with rfl | ⟨h1, h2⟩ | rfl
    · rw [u0] at hb
      rcases mineB b o hb with ⟨rfl, rfl⟩ | ⟨e, h1 | ⟨E', n, a, L, h1, rfl⟩⟩
      · exact absurd rfl n2
      · exact n4 0 (by omega) o h1
      · obtain ⟨fr, e, _⟩ := n4 0 (by omega) _ h1; cases e
    · rw [uk k h1 h2] at hb; exact n4 k h2 o hb
    · rw [uj] at hb
      rcases childB b o hb with ⟨rfl, rfl⟩ | ⟨e, ⟨c', E', rfl, h1, h2⟩ | ⟨c', E', fr, rfl, hr, h1, h2⟩ | ⟨E', n, a, L, v, hv, ha, rfl, h1, h2⟩ | ⟨L, rfl, h1, h2⟩⟩
      · exact absurd rfl n2
      · exact n4 0 (by omega) _ h1
      · exact n4 0 (by omega) _ h1
      · obtain ⟨fr, e, _⟩ := n4 0 (by omega) _ h1; cases e
      · obtain ⟨fr, e, _⟩ := n4 0 (by omega) _ h1; cases e
  · rcases three k hk with rfl | ⟨h1, h2⟩ | rfl
    · rw [u0] at hb
      rcases mineB b o hb with ⟨rfl, rfl⟩ | ⟨e, h1 | ⟨E', n, a, L, h1, rfl⟩⟩
      · have := I.Wg0; omega
      · exact I.old 0 (by omega) b o h1 hlt
      · obtain ⟨c, E, e⟩ := I.old 0 (by omega) b _ h1 hlt; cases e
    · rw [uk k h1 h2] at hb; exact I.old k h2 b o hb hlt
    · rw [uj] at hb
      rcases childB b o hb with ⟨rfl, rfl⟩ | ⟨e, ⟨c', E', rfl, h1, h2⟩ | ⟨c', E', fr, rfl, hr, h1, h2⟩ | ⟨E', n, a, L, v, hv, ha, rfl, h1, h2⟩ | ⟨L, rfl, h1, h2⟩⟩
      · have := I.Wg0; omega
      · exact I.old 0 (by omega) b _ h1 hlt
      · exact I.old 0 (by omega) b _ h1 hlt
      · obtain ⟨c, E, e⟩ := I.old 0 (by omega) b _ h1 hlt; cases e
      · obtain ⟨c, E, e⟩ := I.old 0 (by omega) b _ h1 hlt; cases e
end
end Go.Proofs.Ytojhnclkhiffkaa
