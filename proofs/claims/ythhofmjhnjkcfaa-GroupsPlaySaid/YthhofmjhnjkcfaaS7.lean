/-
  sort: partialInsertionSort.
-/
import Derived.Test.YthhofmjhnjkcfaaS2
namespace Go.Proofs.Ythhofmjhnjkcfaa.so
open Go.Proofs.Ythhofmjhnjkcfaa
set_option linter.unusedVariables false
set_option linter.unusedSimpArgs false
theorem Srt.more {a i : Nat} {ys : List Row} (s : Srt a i ys) (hai : a < i) (h : le (gt ys (i - 1)) (gt ys i)) : Srt a (i + 1) ys := fun p q h1 h2 h3 => by
  by_cases hq : q = i
  · subst hq
    by_cases hp : p = q - 1
    · rw [hp]; exact h
    · exact le_tr (s p (q - 1) h1 (by omega) (by omega)) h
  · exact s p q h1 h2 (by omega)
theorem Srt.keep {a i u v : Nat} {ys : List Row} (s : Srt a i ys) (hu : i ≤ u) (hv : i ≤ v) (hu2 : u < ys.length) (hv2 : v < ys.length) : Srt a i (swp ys u v) := fun p q h1 h2 h3 => by
  rw [gt_swp hu2 hv2, gt_swp hu2 hv2, if_neg (by omega), if_neg (by omega), if_neg (by omega), if_neg (by omega)]
  exact s p q h1 h2 h3
section
variable {h : H} {sv : Value} {xs : List Row} {a b : Nat} {Q0 : Post}
/-- What a round of the outer loop ends with. -/
def RN (Q0 : Post) (h : H) (sv : Value) (xs : List Row) (a b i k : Nat) : Prop := ∀ (g : H) (zs : List Row), DX h g sv zs → Rg a b xs zs → Srt a i zs → vc Try.prog c93_s18 Q0 [(0, sv), (1, .int .i64 (a : Int)), (2, .int .i64 (b : Int)), (3, lessV), (9, .int .i64 (i : Int)), (10, .int .i64 (k : Int))] g
theorem PI_right {i k : Nat} (N : RN Q0 h sv xs a b i k) (hb : b ≤ xs.length) (hl : xs.length ≤ 1152921504606846976) (hai : a < i) (hib : i < b) {g : H} {zs : List Row} (D : DX h g sv zs) (R : Rg a b xs zs) (S : Srt a i zs) :
    vc Try.prog c93_s13 (blockQ 1 (seqQ Try.prog [0, 1, 2, 3, 9, 10] c93_s18 Q0)) [(0, sv), (1, .int .i64 (a : Int)), (2, .int .i64 (b : Int)), (3, lessV), (9, .int .i64 (i : Int)), (10, .int .i64 (k : Int))] g := by
  by_cases h2 : (b : Int) - (i : Int) ≥ 2
  · simp (disch := omega) only [dm_t, wS, simprocAttr, IntKind.bits]
    refine vc_loop1 (fun vj g => ∃ (j : Nat) (zs : List Row), vj = .int .i64 (j : Int) ∧ i < j ∧ j ≤ b ∧ DX h g sv zs ∧ Rg a b xs zs ∧ Srt a i zs) (fun vj _ => b - m1 vj) ?_ ?_
    · simp (disch := omega) only [dm_t, wS, simprocAttr, IntKind.bits]
      exact ⟨i + 1, zs, by simp, by omega, by omega, D, R, S⟩
    clear D R S
    rintro _ g ⟨j, zs, rfl, hij, hjb, D, R, S⟩
    have hlen := R.len
    by_cases hj : j < b
    · obtain ⟨b1, o1, i1, t1⟩ := D.at (i := j) (by omega) rfl
      obtain ⟨b2, o2, i2, t2⟩ := D.at (i := j - 1) (by omega) (e := (j : Int) - 1) (by omega)
      simp (disch := omega) only [dm_t, wS, simprocAttr, IntKind.bits, i1, t1, i2, t2]
      refine ⟨by kernel_rfl, (less_ok g (D.gd (i := j) (by omega)) (D.gd (i := j - 1) (by omega))).k ?_⟩
      rintro _ g3 ⟨⟨c, rfl, hc⟩, e3⟩
      have D3 := D.ext e3
      have t1' := cellsAt_ext e3 t1
      have t2' := cellsAt_ext e3 t2
      by_cases hc0 : c < 0
      · simp (disch := omega) only [dm_t, wS, simprocAttr, IntKind.bits, i1, t1', i2, t2']
        refine ⟨(D3.gd (i := j - 1) (by omega)).len, D3.st (i := j) (by omega) rfl i1 (D3.gd (i := j - 1) (by omega)) fun g4 D4 => ?_⟩
        simp (disch := omega) only [dm_t, wS, simprocAttr, IntKind.bits, i1, i2]
        refine ⟨(D3.gd (i := j) (by omega)).len, D4.st (i := j - 1) (by rw [List.length_set]; omega) (by omega) i2 (D3.gd (i := j) (by omega)) fun g5 D5 => ?_⟩
        simp (disch := omega) only [dm_t, wS, simprocAttr, IntKind.bits]
        exact ⟨⟨j + 1, _, by simp, by omega, by omega, D5, R.trans (Rg.swp (by omega) (by omega) (by omega) (by omega) (by omega)), S.keep (by omega) (by omega) (by omega) (by omega)⟩, by simp [m1]; omega⟩
      · have t := N g3 zs D3 R S
        revert t
        simp (disch := omega) only [dm_t, wS, simprocAttr, IntKind.bits, i1, t1', i2, t2']
        exact id
    · have t := N g zs D R S
      revert t
      simp (disch := omega) only [dm_t, wS, simprocAttr, IntKind.bits]
      exact id
  · have t := N g zs D R S
    revert t
    simp (disch := omega) only [dm_t, wS, simprocAttr, IntKind.bits]
    exact id
theorem PI_left {i k : Nat} (N : RN Q0 h sv xs a b i k) (hp : Pre a b xs) (hb : b ≤ xs.length) (hl : xs.length ≤ 1152921504606846976) (hai : a < i) (hib : i < b) {g : H} {zs : List Row} (D : DX h g sv zs) (R : Rg a b xs zs) (S : Srt a (i - 1) zs) :
    vc Try.prog c93_s8 (blockQ 1 (seqQ Try.prog [0, 1, 2, 3, 9, 10] c93_s18 Q0)) [(0, sv), (1, .int .i64 (a : Int)), (2, .int .i64 (b : Int)), (3, lessV), (9, .int .i64 (i : Int)), (10, .int .i64 (k : Int))] g := by
  by_cases h2 : (i : Int) - (a : Int) ≥ 2
  · simp (disch := omega) only [dm_t, wS, simprocAttr, IntKind.bits]
    refine vc_loop1 (fun vj g => ∃ (j : Nat) (zs : List Row), vj = .int .i64 (j : Int) ∧ a ≤ j ∧ j < i ∧ DX h g sv zs ∧ Rg a b xs zs ∧ Ins a (i - 1) j zs) (fun vj _ => m1 vj) ?_ ?_
    · simp (disch := omega) only [dm_t, wS, simprocAttr, IntKind.bits]
      exact ⟨i - 1, zs, by congr 1; omega, by omega, by omega, D, R, Ins.start S⟩
    clear D R S
    rintro _ g ⟨j, zs, rfl, haj, hji, D, R, I⟩
    have hlen := R.len
    have e1 : i - 1 + 1 = i := by omega
    by_cases hj : 1 ≤ j
    · obtain ⟨b1, o1, i1, t1⟩ := D.at (i := j) (by omega) rfl
      obtain ⟨b2, o2, i2, t2⟩ := D.at (i := j - 1) (by omega) (e := (j : Int) - 1) (by omega)
      simp (disch := omega) only [dm_t, wS, simprocAttr, IntKind.bits, i1, t1, i2, t2]
      refine ⟨by kernel_rfl, (less_ok g (D.gd (i := j) (by omega)) (D.gd (i := j - 1) (by omega))).k ?_⟩
      rintro _ g3 ⟨⟨c, rfl, hc⟩, e3⟩
      have D3 := D.ext e3
      have t1' := cellsAt_ext e3 t1
      have t2' := cellsAt_ext e3 t2
      by_cases hc0 : c < 0
      · have hlt := hc.1 hc0
        have hja : a < j := by
          by_cases hja : j = a
          · subst hja
            exact absurd hlt ((hp.rg R) hj j (Nat.le_refl _) (by omega))
          · omega
        simp (disch := omega) only [dm_t, wS, simprocAttr, IntKind.bits, i1, t1', i2, t2']
        refine ⟨(D3.gd (i := j - 1) (by omega)).len, D3.st (i := j) (by omega) rfl i1 (D3.gd (i := j - 1) (by omega)) fun g4 D4 => ?_⟩
        simp (disch := omega) only [dm_t, wS, simprocAttr, IntKind.bits, i1, i2]
        refine ⟨(D3.gd (i := j) (by omega)).len, D4.st (i := j - 1) (by rw [List.length_set]; omega) (by omega) i2 (D3.gd (i := j) (by omega)) fun g5 D5 => ?_⟩
        simp (disch := omega) only [dm_t, wS, simprocAttr, IntKind.bits]
        exact ⟨⟨j - 1, _, by congr 1; omega, by omega, by omega, D5, R.trans (Rg.swp (by omega) (by omega) (by omega) (by omega) (by omega)), I.step hja (by omega) (by omega) hlt⟩, by simp [m1]; omega⟩
      · have t := PI_right N hb hl hai hib D3 R (e1 ▸ I.done (.inr fun h => hc0 (hc.2 h)))
        revert t
        simp (disch := omega) only [dm_t, wS, simprocAttr, IntKind.bits, i1, t1', i2, t2']
        exact id
    · have t := PI_right N hb hl hai hib D R (e1 ▸ I.done (.inl (by omega)))
      revert t
      simp (disch := omega) only [dm_t, wS, simprocAttr, IntKind.bits]
      exact id
  · have t := PI_right N hb hl hai hib D R (fun p q h1 h2 h3 => by omega)
    revert t
    simp (disch := omega) only [dm_t, wS, simprocAttr, IntKind.bits]
    exact id
end
theorem PI_ok {h : H} {sv : Value} {xs : List Row} {a b : Nat} (d : DX h h sv xs) (hab : a < b) (hb : b ≤ xs.length) (hl : xs.length ≤ 1152921504606846976) (hp : Pre a b xs) :
    Ok Try.prog 93 #[sv, .int .i64 (a : Int), .int .i64 (b : Int), lessV] h fun v h' => ∃ (r : Bool) (ys : List Row), v = .bool r ∧ DX h h' sv ys ∧ Rg a b xs ys ∧ (r = true → Srt a b ys) := by
  refine c93_ok (args := [_, _, _, _]) (by simp) ?_
  simp (disch := omega) only [dm_t, wS, simprocAttr, IntKind.bits]
  refine vc_loop2 (fun vi vk g => ∃ (i k : Nat) (zs : List Row), vi = .int .i64 (i : Int) ∧ vk = .int .i64 (k : Int) ∧ k ≤ 5 ∧ a < i ∧ i ≤ b ∧ DX h g sv zs ∧ Rg a b xs zs ∧ Srt a i zs) (fun _ vk _ => 5 - m1 vk) ?_ ?_
  · simp (disch := omega) only [dm_t, wS, simprocAttr, IntKind.bits]
    exact ⟨a + 1, 0, xs, by simp, rfl, by omega, by omega, by omega, d, Rg.refl _ _ _, fun p q h1 h2 h3 => by omega⟩
  rintro _ _ g ⟨i, k, zs, rfl, rfl, hk, hai, hib, D, R, S⟩
  by_cases hk5 : k < 5
  · generalize hQ0 : lq2 _ _ _ _ _ _ _ _ = Q0
    have N : ∀ i, a < i → i ≤ b → RN Q0 h sv xs a b i k := by
      intro i hai hib g zs D R S
      rw [← hQ0]
      simp (disch := omega) only [dm_t, wS, simprocAttr, IntKind.bits]
      exact ⟨⟨i, k + 1, zs, rfl, by simp, by omega, hai, hib, D, R, S⟩, by simp [m1]; omega⟩
    simp (disch := omega) only [dm_t, wS, simprocAttr, IntKind.bits]
    refine vc_loop1 (fun vi g => ∃ (i : Nat) (zs : List Row), vi = .int .i64 (i : Int) ∧ a < i ∧ i ≤ b ∧ DX h g sv zs ∧ Rg a b xs zs ∧ Srt a i zs) (fun vi _ => b - m1 vi) ?_ ?_
    · simp (disch := omega) only [dm_t, wS, simprocAttr, IntKind.bits]
      exact ⟨i, zs, rfl, hai, hib, D, R, S⟩
    clear D R S hai hib
    rintro _ g ⟨i, zs, rfl, hai, hib, D, R, S⟩
    have hlen := R.len
    by_cases hi : i < b
    · obtain ⟨b1, o1, i1, t1⟩ := D.at (i := i) (by omega) rfl
      obtain ⟨b2, o2, i2, t2⟩ := D.at (i := i - 1) (by omega) (e := (i : Int) - 1) (by omega)
      simp (disch := omega) only [dm_t, wS, simprocAttr, IntKind.bits, i1, t1, i2, t2]
      refine ⟨by kernel_rfl, (less_ok g (D.gd (i := i) (by omega)) (D.gd (i := i - 1) (by omega))).k ?_⟩
      rintro _ g3 ⟨⟨c, rfl, hc⟩, e3⟩
      have D3 := D.ext e3
      have t1' := cellsAt_ext e3 t1
      have t2' := cellsAt_ext e3 t2
      by_cases hc0 : c < 0
      · by_cases h50 : (b : Int) - (a : Int) < 50
        · simp (disch := omega) only [dm_t, wS, simprocAttr, IntKind.bits, i1, t1', i2, t2']
          rw [← hQ0]
          simp (disch := omega) only [dm_t, wS, simprocAttr, IntKind.bits]
          exact ⟨_, zs, rfl, D3, R, fun h => by cases h⟩
        · simp (disch := omega) only [dm_t, wS, simprocAttr, IntKind.bits, i1, t1', i2, t2']
          refine ⟨(D3.gd (i := i - 1) (by omega)).len, D3.st (i := i) (by omega) rfl i1 (D3.gd (i := i - 1) (by omega)) fun g4 D4 => ?_⟩
          simp (disch := omega) only [dm_t, wS, simprocAttr, IntKind.bits, i1, i2]
          refine ⟨(D3.gd (i := i) (by omega)).len, D4.st (i := i - 1) (by rw [List.length_set]; omega) (by omega) i2 (D3.gd (i := i) (by omega)) fun g5 D5 => ?_⟩
          have S5 : Srt a (i - 1) (swp zs i (i - 1)) := Srt.keep (fun p q h1 h2 h3 => S p q h1 h2 (by omega)) (by omega) (by omega) (by omega) (by omega)
          have t := PI_left (N i hai hib) hp hb hl hai hi D5 (R.trans (Rg.swp (by omega) (by omega) (by omega) (by omega) (by omega))) S5
          revert t
          simp (disch := omega) only [dm_t, wS, simprocAttr, IntKind.bits]
          exact id
      · simp (disch := omega) only [dm_t, wS, simprocAttr, IntKind.bits, i1, t1', i2, t2']
        exact ⟨⟨i + 1, zs, by simp, by omega, by omega, D3, R, S.more hai fun h => hc0 (hc.2 h)⟩, by simp [m1]; omega⟩
    · obtain rfl : i = b := by omega
      simp (disch := omega) only [dm_t, wS, simprocAttr, IntKind.bits]
      rw [← hQ0]
      simp (disch := omega) only [dm_t, wS, simprocAttr, IntKind.bits]
      exact ⟨_, zs, rfl, D, R, fun _ => S⟩
  · simp (disch := omega) only [dm_t, wS, simprocAttr, IntKind.bits]
    exact ⟨_, zs, rfl, D, R, fun h => by cases h⟩
end Go.Proofs.Ythhofmjhnjkcfaa.so
