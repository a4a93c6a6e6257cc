/-
  sort: SortFunc.
-/
import Derived.Test.YthhofmjhnjkcfaaS9
namespace Go.Proofs.Ythhofmjhnjkcfaa.so
open Go.Proofs.Ythhofmjhnjkcfaa
set_option linter.unusedVariables false
set_option linter.unusedSimpArgs false
theorem SortF_ok {h : H} {sv : Value} {xs : List Row} (d : DX h h sv xs) (hl : xs.length ≤ 65535) (hd : Dist xs) :
    Ok Try.prog 72 #[sv, lessV] h fun _ h' => ∃ ys, DX h h' sv ys ∧ ys.Perm xs ∧ Srt 0 xs.length ys := by
  obtain ⟨a, c, rfl⟩ := d.ow.s0.len
  refine c72_ok (args := [_, _]) (by simp) ?_
  simp (disch := omega) only [dm_t, wS, simprocAttr, IntKind.bits]
  refine (Len_ok (n := xs.length) (by omega)).k ?_
  rintro _ _ ⟨⟨k, rfl, hk, _⟩, rfl⟩
  have t := Pdq_ih (.slice a xs.length c) (xs.length + 1) 0 xs.length (k : Int) h xs (by omega) d (by omega) (Nat.le_refl _) hl (fun h => absurd h (by omega)) hd (by omega) (by omega)
  simp (disch := omega) only [dm_t, wS, simprocAttr, IntKind.bits]
  refine t.k ?_
  intro v g hS
  obtain ⟨ys, D, R, S⟩ := hS
  simp (disch := omega) only [dm_t, wS, simprocAttr, IntKind.bits]
  exact ⟨ys, D, R.perm, S⟩
/-- Rows that are sorted, and the same but for their places, are the same. -/
theorem sorted_eq {xs ys : List Row} (p : ys.Perm xs) (hx : xs.Pairwise lt) (hy : Srt 0 ys.length ys) : ys = xs := by
  refine List.Perm.eq_of_pairwise (le := fun r s => le r s) ?_ ?_ (hx.imp fun h => le_of_lt h) p
  · intro r s hr hs h1 h2
    obtain ⟨i, hi, rfl⟩ := List.getElem_of_mem (p.subset hr)
    obtain ⟨j, hj, rfl⟩ := List.getElem_of_mem hs
    by_cases hij : i = j
    · subst hij; rfl
    · rcases Nat.lt_or_gt_of_ne hij with h | h
      · exact absurd (List.pairwise_iff_getElem.1 hx i j hi hj h) h2
      · exact absurd (List.pairwise_iff_getElem.1 hx j i hj hi h) h1
  · refine List.pairwise_iff_getElem.2 fun i j hi hj hij => ?_
    have := hy i j (by omega) hij hj
    rwa [gt_of hi, gt_of hj] at this
theorem dist_of {xs : List Row} (hx : xs.Pairwise lt) : Dist xs := hx.imp fun h => .inl h
end Go.Proofs.Ythhofmjhnjkcfaa.so
namespace Go.Proofs.Ythhofmjhnjkcfaa.so
open Go.Proofs.Ythhofmjhnjkcfaa
set_option linter.unusedVariables false
set_option linter.unusedSimpArgs false
theorem splice_all {c : Array Value} {vs : List Value} (hl : vs.length = c.size) : splice c 0 vs = vs.toArray := by
  have h1 := at_splice (c := c) (p := 0) (new := vs) (by omega)
  apply Array.ext'
  apply List.ext_getElem?
  intro i
  rw [Array.getElem?_toList]
  by_cases hi : i < vs.length
  · have := h1 i hi
    rw [Nat.zero_add] at this
    rw [this]; simp [hi]
  · rw [Array.getElem?_eq_none (by rw [size_splice]; omega)]
    simp; omega
end Go.Proofs.Ythhofmjhnjkcfaa.so
