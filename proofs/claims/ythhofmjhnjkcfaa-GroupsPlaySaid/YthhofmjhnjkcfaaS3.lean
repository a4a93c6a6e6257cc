/-
  sort: insertionSortCmpFunc.
-/
import Derived.Test.YthhofmjhnjkcfaaS2
namespace Go.Proofs.Ythhofmjhnjkcfaa.so
open Go.Proofs.Ythhofmjhnjkcfaa
set_option linter.unusedVariables false
set_option linter.unusedSimpArgs false
theorem Ins_ok {h : H} {sv : Value} {xs : List Row} {a b : Nat} (d : DX h h sv xs) (hab : a ≤ b) (hb : b ≤ xs.length) (hl : xs.length ≤ 4611686018427387904) :
    Ok Try.prog 88 #[sv, .int .i64 (a : Int), .int .i64 (b : Int), lessV] h fun _ h' => ∃ ys, DX h h' sv ys ∧ Rg a b xs ys ∧ Srt a b ys := by
  refine c88_ok (args := [_, _, _, _]) (by simp) ?_
  simp (disch := omega) only [dm_t, wS, simprocAttr, IntKind.bits]
  refine vc_loop1 (fun vi g => ∃ (i : Nat) (ys : List Row), vi = .int .i64 (i : Int) ∧ a < i ∧ (i ≤ b ∨ i = a + 1) ∧ DX h g sv ys ∧ Rg a b xs ys ∧ Srt a i ys) (fun vi _ => b - m1 vi) ?_ ?_
  · simp (disch := omega) only [dm_t, wS, simprocAttr, IntKind.bits]
    exact ⟨a + 1, xs, by simp, by omega, by omega, d, Rg.refl _ _ _, fun i j h1 h2 h3 => by omega⟩
  rintro _ g ⟨i, ys, rfl, hai, hib, D, R, s⟩
  have hlen := R.len
  by_cases hi : i < b
  · generalize hQ0 : lq1 _ _ _ _ _ _ _ = Q0
    simp (disch := omega) only [dm_t, wS, simprocAttr, IntKind.bits]
    refine vc_loop1 (fun vj g => ∃ (j : Nat) (ys : List Row), vj = .int .i64 (j : Int) ∧ a ≤ j ∧ j ≤ i ∧ DX h g sv ys ∧ Rg a b xs ys ∧ Ins a i j ys) (fun vj _ => m1 vj) ?_ ?_
    · simp (disch := omega) only [dm_t, wS, simprocAttr, IntKind.bits]
      exact ⟨i, ys, rfl, by omega, by omega, D, R, Ins.start s⟩
    clear D R s
    rintro _ g2 ⟨j, zs, rfl, haj, hji, D, R, I⟩
    have hlen := R.len
    by_cases hja : a < j
    · obtain ⟨b1, o1, i1, t1⟩ := D.at (i := j) (by omega) rfl
      obtain ⟨b2, o2, i2, t2⟩ := D.at (i := j - 1) (by omega) (e := (j : Int) - 1) (by omega)
      simp (disch := omega) only [dm_t, wS, simprocAttr, IntKind.bits, i1, t1, i2, t2]
      refine ⟨by kernel_rfl, (less_ok g2 (D.gd (i := j) (by omega)) (D.gd (i := j - 1) (by omega))).k ?_⟩
      rintro _ g3 ⟨⟨c, rfl, hc⟩, e3⟩
      have D3 := D.ext e3
      have t1' := cellsAt_ext e3 t1
      have t2' := cellsAt_ext e3 t2
      by_cases hc0 : c < 0
      · have hlt := hc.1 hc0
        simp (disch := omega) only [dm_t, wS, simprocAttr, IntKind.bits, i1, t1', i2, t2']
        refine ⟨(D3.gd (i := j - 1) (by omega)).len, D3.st (i := j) (by omega) rfl i1 (D3.gd (i := j - 1) (by omega)) fun g4 D4 => ?_⟩
        simp (disch := omega) only [dm_t, wS, simprocAttr, IntKind.bits, i1, i2]
        refine ⟨(D3.gd (i := j) (by omega)).len, D4.st (i := j - 1) (by rw [List.length_set]; omega) (by omega) i2 (D3.gd (i := j) (by omega)) fun g5 D5 => ?_⟩
        simp (disch := omega) only [dm_t, wS, simprocAttr, IntKind.bits]
        exact ⟨⟨j - 1, _, by congr 1; omega, by omega, by omega, D5, R.trans (Rg.swp (by omega) (by omega) (by omega) (by omega) (by omega)), I.step hja (by omega) (by omega) hlt⟩, by simp [m1]; omega⟩
      · simp (disch := omega) only [dm_t, wS, simprocAttr, IntKind.bits, i1, t1', i2, t2']
        rw [← hQ0]
        simp (disch := omega) only [dm_t, wS, simprocAttr, IntKind.bits]
        exact ⟨⟨i + 1, zs, by simp, by omega, by omega, D3, R, I.done (.inr fun h => hc0 (hc.2 h))⟩, by simp [m1]; omega⟩
    · simp (disch := omega) only [dm_t, wS, simprocAttr, IntKind.bits]
      rw [← hQ0]
      simp (disch := omega) only [dm_t, wS, simprocAttr, IntKind.bits]
      exact ⟨⟨i + 1, zs, by simp, by omega, by omega, D, R, I.done (.inl (by omega))⟩, by simp [m1]; omega⟩
  · simp (disch := omega) only [dm_t, wS, simprocAttr, IntKind.bits]
    exact ⟨ys, D, R, fun p q h1 h2 h3 => s p q h1 h2 (by omega)⟩
end Go.Proofs.Ythhofmjhnjkcfaa.so
