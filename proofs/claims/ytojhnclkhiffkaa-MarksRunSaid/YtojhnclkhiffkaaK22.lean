/-
  Own lists of data: an element written, append with the new block's place.
-/
import Derived.Test.YtojhnclkhiffkaaK21
namespace Go.Proofs.Ytojhnclkhiffkaa
set_option linter.unusedVariables false
set_option linter.unusedSimpArgs false
section
variable {S : Nat → Prop} {t : Ty} {O O' : Nat → Prop} {h h' : H} {E : TypeId} {v : Value} {xs : List t.D}
/-- What is not there is none of its data's. -/
theorem OwL.avoid (s : OwL S t O h E v xs) : OwL (fun y => S y ∨ h y = none) t O h E v xs := by
  obtain ⟨rows, h1, h2, h3⟩ := s
  refine ⟨rows, h1, h2, fun i r x hr hx => (h3 i r x hr hx).mono ?_⟩
  rintro y o hy (hs | hs | hs)
  · exact .inl hs
  · exact .inr hs
  · rw [hs] at hy; cases hy
theorem OwL.k (s : OwL S t O h E v xs) : ∃ rows, OwK t.sz O h E v rows := by obtain ⟨rows, h1, _⟩ := s; exact ⟨rows, h1⟩
theorem OwL.tyno {y T : Nat} {c : Array Value} {fr : Nat × Nat} (s : OwL S t O h E v xs) (hy : h y = some (.cells c T fr)) (hT : T ≠ E) : ¬ isAt v y := by
  obtain ⟨rows, h1, _⟩ := s; exact h1.tyno hy hT
/-- append of one datum. -/
theorem OwL.push2 {bytes : Nat} {z : Array Value} {row : List Value} {x : t.D} {V : Nat → Value → H → Prop} (k : Nat) (hk : t.sz = k) (hs : OwL S t O h E v xs) (hO : ∀ b, h b = none → O b) (hx : Rep (fun y => isAt v y ∨ S y) t h row x) (hz : z.size = k)
    (hlen : 2 * ((xs.length + 1) * bytes) ≤ 281474976710656) (hlen' : xs.length + 1 ≤ 9223372036854775807)
    (hV : ∀ (b : Nat) s' h', h b = none → OwL S t O h' E s' (xs ++ [x]) → Fr (fun y => O y ∧ isAt v y) h h' → (∀ y, isAt s' y → isAt v y ∨ h y = none) → V b s' h') :
    ∀ b, h b = none → appM E k bytes z v (.slice (some ⟨b, 0, none⟩) 1 1) (hupd h b (.cells row.toArray E)) (V b) := by
  subst hk
  obtain ⟨rows, h1, h2, h3⟩ := hs
  refine pushk h1 hO hx.len hz hx.cells (by rw [h2]; exact hlen) (by rw [h2]; exact hlen') ?_
  intro c s' h' hc ho hf hat
  have hrep : ∀ r y, Rep (fun y => isAt v y ∨ S y) t h r y → Rep (fun y => isAt s' y ∨ S y) t h' r y := by
    intro r y hr
    have h4 : Rep (fun z => isAt v z ∨ h z = none ∨ S z) t h r y := by
      refine (hr.mono (T := fun z => isAt v z ∨ h z = none ∨ S z) ?_)
      rintro z o hz (h1 | h1 | h1)
      · exact .inl h1
      · rw [h1] at hz; cases hz
      · exact .inr h1
    have h5 : Rep (fun z => isAt v z ∨ h z = none ∨ S z) t h' r y := h4.fr hf fun z hz => .inl hz.2
    exact h5.mono fun z o _ hz => hz.elim (fun h1 => (hat z h1).elim .inl fun h2 => .inr (.inl h2)) fun h1 => .inr (.inr h1)
  refine hV c s' h' hc ⟨_, ho, by simp [h2], ?_⟩ hf hat
  intro i r y hr hy
  by_cases hi : i < rows.length
  · rw [List.getElem?_append_left hi] at hr
    rw [List.getElem?_append_left (by omega)] at hy
    exact hrep _ _ (h3 i r y hr hy)
  · rw [List.getElem?_append_right (by omega)] at hr
    rw [List.getElem?_append_right (by omega)] at hy
    rw [h2] at hr
    generalize i - xs.length = j at hr hy
    cases j with
    | zero =>
      simp only [List.getElem?_cons_zero, Option.some.injEq] at hr hy
      subst hr hy
      exact hrep _ _ hx
    | succ j => simp at hr
/-- Cells of an element written. -/
theorem OwL.set (s : OwL S t O h E v xs) {i : Nat} (hi : i < xs.length) (kk : IntKind) (k : Nat) (hk : t.sz = k) :
    ∃ b o cs, idxV1 k v (.int kk (i : Int)) = some (.pointer (some ⟨b, o, none⟩)) ∧ isAt v b ∧ O b ∧ (∀ j (hj : j < k), cellAt h ⟨b, o + j, none⟩ = cs[j]?) ∧ Rep (fun y => isAt v y ∨ S y) t h cs xs[i] ∧
      ∀ (j : Nat) (new : List Value) (x' : t.D) (K : H → Prop), j + new.length ≤ k → new.all isCell = true → Rep (fun y => isAt v y ∨ S y) t h (cs.take j ++ new ++ cs.drop (j + new.length)) x' →
        (∀ h', OwL S t O h' E v (xs.set i x') → Fr (fun y => y = b) h h' → K h') → storeH h ⟨b, o + j, none⟩ new K := by
  subst hk
  obtain ⟨rows, h1, h2, h3⟩ := s
  have hir : i < rows.length := by omega
  obtain ⟨b, o, g1, g2, g3, g4⟩ := OwK.put h1 (i := i) hir kk
  obtain ⟨b', o', q1, q2, q3, q4⟩ := h1.s0.row (i := i) hir kk
  rw [g1] at q1
  simp only [Option.some.injEq, Value.pointer.injEq, Addr.mk.injEq, and_true] at q1
  obtain ⟨rfl, rfl⟩ := q1
  refine ⟨b, o, rows[i], g1, g3, g2, q3, h3 i _ _ (by simp) (by simp [hi]), ?_⟩
  intro j new x' K hj hc hr hK
  refine g4 j new K hj hc fun h' k1 k2 => hK h' ⟨_, k1, by simp [h2], ?_⟩ k2
  intro m r x hr' hx'
  rw [List.getElem?_set] at hr' hx'
  have hT : ∀ y, y = b → (isAt v y ∨ S y) := fun y hy => .inl (hy ▸ g3)
  by_cases hm : i = m
  · subst hm
    rw [if_pos rfl, if_pos (by omega)] at hr' hx'
    simp only [Option.some.injEq] at hr' hx'
    subst hr' hx'
    exact hr.fr k2 hT
  · rw [if_neg hm] at hr' hx'
    exact (h3 m r x hr' hx').fr k2 hT
end
/-- Data goes along: the blocks it avoids may change. -/
theorem Rep.move {t : Ty} {S S' T : Nat → Prop} {h h' : H} {cs : List Value} {x : t.D} (r : Rep S t h cs x) (f : Fr T h h') (hT : ∀ y, T y → S y) (hS : ∀ y, S' y → S y ∨ h y = none) : Rep S' t h' cs x := by
  have r1 : Rep (fun y => S y ∨ h y = none) t h cs x := r.mono fun y o hy hs => hs.elim id fun hn => by rw [hn] at hy; cases hy
  exact (r1.fr f fun y hy => .inl (hT y hy)).mono fun y _ _ hy => hS y hy
end Go.Proofs.Ytojhnclkhiffkaa
