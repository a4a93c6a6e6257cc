/-
  sort: rows, two of them changed for one another. (No program in sight.)
-/
import Derived.Test.YthhofmjhnjkcfaaSo
namespace Go.Proofs.Ythhofmjhnjkcfaa.so
open Go.Proofs.Ythhofmjhnjkcfaa
set_option linter.unusedVariables false
set_option linter.unusedSimpArgs false
def gt (xs : List Row) (i : Nat) : Row := xs.getD i []
theorem gt_of {xs : List Row} {i : Nat} (h : i < xs.length) : gt xs i = xs[i] := by
  rw [gt, List.getD_eq_getElem?_getD, List.getElem?_eq_getElem h]; rfl
theorem gt_mem {xs : List Row} {i : Nat} (h : i < xs.length) : gt xs i ∈ xs := by rw [gt_of h]; exact List.getElem_mem h
def swp (xs : List Row) (i j : Nat) : List Row := (xs.set i (gt xs j)).set j (gt xs i)
theorem swp_len {xs : List Row} {i j : Nat} : (swp xs i j).length = xs.length := by simp [swp]
theorem gt_swp {xs : List Row} {i j : Nat} (hi : i < xs.length) (hj : j < xs.length) (k : Nat) : gt (swp xs i j) k = if k = j then gt xs i else if k = i then gt xs j else gt xs k := by
  simp only [swp, gt, List.getD_eq_getElem?_getD, List.getElem?_set, List.length_set]
  by_cases h1 : k = j
  · subst h1; simp [hj]
  · by_cases h2 : k = i
    · subst h2; simp [hi, h1, Ne.symm h1]
    · simp [h1, h2, Ne.symm h1, Ne.symm h2]
theorem swp_perm {xs : List Row} {i j : Nat} (hi : i < xs.length) (hj : j < xs.length) : (swp xs i j).Perm xs := by
  rw [swp, gt_of hi, gt_of hj]
  exact List.set_set_perm hi hj
/-- Rows between two places changed about. -/
structure Rg (a b : Nat) (xs ys : List Row) : Prop where
  perm : ys.Perm xs
  out : ∀ k, k < a ∨ b ≤ k → gt ys k = gt xs k
  ins : ∀ k, a ≤ k → k < b → ∃ k', a ≤ k' ∧ k' < b ∧ gt ys k = gt xs k'
section
variable {a b a' b' : Nat} {xs ys zs : List Row}
theorem Rg.len (r : Rg a b xs ys) : ys.length = xs.length := r.perm.length_eq
theorem Rg.refl (a b : Nat) (xs : List Row) : Rg a b xs xs := ⟨.refl _, fun _ _ => rfl, fun k h1 h2 => ⟨k, h1, h2, rfl⟩⟩
theorem Rg.trans (r : Rg a b xs ys) (s : Rg a b ys zs) : Rg a b xs zs := ⟨s.perm.trans r.perm, fun k h => (s.out k h).trans (r.out k h), fun k h1 h2 => by
  obtain ⟨k', h3, h4, h5⟩ := s.ins k h1 h2
  obtain ⟨k2, h6, h7, h8⟩ := r.ins k' h3 h4
  exact ⟨k2, h6, h7, h5.trans h8⟩⟩
theorem Rg.mono (r : Rg a b xs ys) (ha : a' ≤ a) (hb : b ≤ b') : Rg a' b' xs ys := ⟨r.perm, fun k h => r.out k (by omega), fun k h1 h2 => by
  by_cases h : a ≤ k ∧ k < b
  · obtain ⟨k', h3, h4, h5⟩ := r.ins k h.1 h.2
    exact ⟨k', by omega, by omega, h5⟩
  · exact ⟨k, h1, h2, r.out k (by omega)⟩⟩
theorem Rg.swp {i j : Nat} (hb : b ≤ xs.length) (hi : a ≤ i) (hi2 : i < b) (hj : a ≤ j) (hj2 : j < b) : Rg a b xs (swp xs i j) := by
  refine ⟨swp_perm (by omega) (by omega), fun k h => ?_, fun k h1 h2 => ?_⟩
  · rw [gt_swp (by omega) (by omega), if_neg (by omega), if_neg (by omega)]
  · rw [gt_swp (by omega) (by omega)]
    by_cases h : k = j
    · exact ⟨i, hi, hi2, by rw [if_pos h]⟩
    · rw [if_neg h]
      by_cases h : k = i
      · exact ⟨j, hj, hj2, by rw [if_pos h]⟩
      · exact ⟨k, h1, h2, by rw [if_neg h]⟩
end
/-- No row is ahead of itself; le is an order. -/
abbrev le (r s : Row) : Prop := ¬ lt s r
theorem le_refl (r : Row) : le r r := fun h => lt_asym h h
theorem le_of_lt {r s : Row} (h : lt r s) : le r s := lt_asym h
theorem le_tr {r s t : Row} (h1 : le r s) (h2 : le s t) : le r t := lt_ntr h1 h2
theorem lt_le {r s t : Row} (h1 : lt r s) (h2 : le s t) : lt r t := Decidable.not_not.1 fun h => lt_ntr h2 h h1
/-- Sorted between two places. -/
def Srt (a b : Nat) (ys : List Row) : Prop := ∀ i j, a ≤ i → i < j → j < b → le (gt ys i) (gt ys j)
/-- What stands ahead of the two places is not behind what stands between them. -/
def Pre (a b : Nat) (xs : List Row) : Prop := 0 < a → ∀ k, a ≤ k → k < b → le (gt xs (a - 1)) (gt xs k)
theorem Pre.rg {a b : Nat} {xs ys : List Row} (p : Pre a b xs) (r : Rg a b xs ys) : Pre a b ys := fun h k h1 h2 => by
  obtain ⟨k', h3, h4, h5⟩ := r.ins k h1 h2
  rw [r.out (a - 1) (by omega), h5]
  exact p h k' h3 h4
/-! ### Insertion -/
/-- Between a and i (and at i) sorted, but for what stands at j, which goes to its place. -/
structure Ins (a i j : Nat) (ys : List Row) : Prop where
  s : ∀ p q, a ≤ p → p < q → q ≤ i → q ≠ j → le (gt ys p) (gt ys q)
theorem Ins.start {a i : Nat} {ys : List Row} (h : Srt a i ys) : Ins a i i ys := ⟨fun p q h1 h2 h3 h4 => h p q h1 h2 (by omega)⟩
theorem Ins.step {a i j : Nat} {ys : List Row} (h : Ins a i j ys) (hj : a < j) (hji : j ≤ i) (hi : i < ys.length) (hlt : lt (gt ys j) (gt ys (j - 1))) : Ins a i (j - 1) (swp ys j (j - 1)) := by
  refine ⟨fun p q h1 h2 h3 h4 => ?_⟩
  rw [gt_swp (by omega) (by omega), gt_swp (by omega) (by omega)]
  by_cases hq : q = j
  · subst hq
    rw [if_neg h4, if_pos rfl]
    by_cases hp : p = q - 1
    · rw [if_pos hp]; exact le_of_lt hlt
    · rw [if_neg hp, if_neg (by omega)]; exact h.s p (q - 1) h1 (by omega) (by omega) (by omega)
  · rw [if_neg h4, if_neg hq]
    by_cases hp : p = j - 1
    · rw [if_pos hp]; exact h.s j q (by omega) (by omega) h3 (by omega)
    · rw [if_neg hp]
      by_cases hp2 : p = j
      · rw [if_pos hp2]; exact h.s (j - 1) q (by omega) (by omega) h3 (by omega)
      · rw [if_neg hp2]; exact h.s p q h1 h2 h3 (by omega)
theorem Ins.done {a i j : Nat} {ys : List Row} (h : Ins a i j ys) (hj : j ≤ a ∨ le (gt ys (j - 1)) (gt ys j)) : Srt a (i + 1) ys := fun p q h1 h2 h3 => by
  by_cases hq : q = j
  · subst hq
    rcases hj with hj | hj
    · omega
    · by_cases hp : p = q - 1
      · rw [hp]; exact hj
      · exact le_tr (h.s p (q - 1) h1 (by omega) (by omega) (by omega)) hj
  · exact h.s p q h1 h2 (by omega) hq
end Go.Proofs.Ythhofmjhnjkcfaa.so
