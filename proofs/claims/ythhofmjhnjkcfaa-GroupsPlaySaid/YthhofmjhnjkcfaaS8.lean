/-
  sort: partition.
-/
import Derived.Test.YthhofmjhnjkcfaaS2
namespace Go.Proofs.Ythhofmjhnjkcfaa.so
open Go.Proofs.Ythhofmjhnjkcfaa
set_option linter.unusedVariables false
set_option linter.unusedSimpArgs false
/-- Ahead of i less than the first, behind j not less. -/
structure PT (a b i j : Nat) (zs : List Row) : Prop where
  l : ∀ k, a < k → k < i → lt (gt zs k) (gt zs a)
  r : ∀ k, j < k → k < b → le (gt zs a) (gt zs k)
  ai : a < i
  ij : i ≤ j + 1
  jb : j < b
/-- Parted at m. -/
structure Parted (a b m : Nat) (ys : List Row) : Prop where
  am : a ≤ m
  mb : m < b
  l : ∀ k, a ≤ k → k < m → lt (gt ys k) (gt ys m)
  r : ∀ k, m < k → k < b → le (gt ys m) (gt ys k)
section
variable {a b i j : Nat} {zs : List Row}
theorem PT.start (h : a + 1 < b) : PT a b (a + 1) (b - 1) zs := ⟨fun k h1 h2 => by omega, fun k h1 h2 => by omega, by omega, by omega, by omega⟩
theorem PT.li (p : PT a b i j zs) (hij : i ≤ j) (h : lt (gt zs i) (gt zs a)) : PT a b (i + 1) j zs := ⟨fun k h1 h2 => by
  by_cases hk : k = i
  · rw [hk]; exact h
  · exact p.l k h1 (by omega), p.r, by have := p.ai; omega, by omega, p.jb⟩
theorem PT.rj (p : PT a b i j zs) (hij : i ≤ j) (h : le (gt zs a) (gt zs j)) : PT a b i (j - 1) zs := ⟨p.l, fun k h1 h2 => by
  by_cases hk : k = j
  · rw [hk]; exact h
  · exact p.r k (by omega) h2, p.ai, by have := p.ai; omega, by have := p.jb; omega⟩
theorem PT.sw (p : PT a b i j zs) (hb : b ≤ zs.length) (hij : i ≤ j) (h1 : le (gt zs a) (gt zs i)) (h2 : lt (gt zs j) (gt zs a)) : i < j ∧ PT a b (i + 1) (j - 1) (swp zs i j) := by
  have hne : i ≠ j := fun e => by rw [e] at h1; exact h1 h2
  obtain ⟨p1, p2, p3, p4, p5⟩ := p
  have hk := gt_swp (xs := zs) (i := i) (j := j) (by omega) (by omega)
  refine ⟨by omega, fun k q1 q2 => ?_, fun k q1 q2 => ?_, by omega, by omega, by omega⟩
  · rw [hk, hk, if_neg (by omega), if_neg (show ¬ a = j by omega), if_neg (show ¬ a = i by omega)]
    by_cases e : k = i
    · rw [if_pos e]; exact h2
    · rw [if_neg e]; exact p1 k q1 (by omega)
  · rw [hk, hk, if_neg (show ¬ a = j by omega), if_neg (show ¬ a = i by omega)]
    by_cases e : k = j
    · rw [if_pos e]; exact h1
    · rw [if_neg e, if_neg (by omega)]; exact p2 k (by omega) q2
theorem PT.fin (p : PT a b i j zs) (hb : b ≤ zs.length) (hij : j < i) : Parted a b j (swp zs j a) := by
  obtain ⟨p1, p2, p3, p4, p5⟩ := p
  have hk := gt_swp (xs := zs) (i := j) (j := a) (by omega) (by omega)
  have hj : gt (swp zs j a) j = gt zs a := by
    rw [hk]
    by_cases e : j = a
    · rw [if_pos e, e]
    · rw [if_neg e, if_pos rfl]
  refine ⟨by omega, p5, fun k q1 q2 => ?_, fun k q1 q2 => ?_⟩
  · rw [hj, hk]
    by_cases e : k = a
    · rw [if_pos e]; exact p1 j (by omega) (by omega)
    · rw [if_neg e, if_neg (by omega)]; exact p1 k (by omega) (by omega)
  · rw [hj, hk, if_neg (by omega), if_neg (by omega)]; exact p2 k q1 q2
end
def PartR (h : H) (sv : Value) (xs : List Row) (a b : Nat) (v : Value) (h' : H) : Prop := ∃ (m : Nat) (ys : List Row) (f : Bool), v = .tuple #[.int .i64 (m : Int), .bool f] ∧ DX h h' sv ys ∧ Rg a b xs ys ∧ Parted a b m ys
section
variable {h : H} {sv : Value} {xs : List Row} {a b : Nat}
/-- The last swap. -/
theorem Part_end {g : H} {i j : Nat} {zs : List Row} (D : DX h g sv zs) (R : Rg a b xs zs) (P : PT a b i j zs) (hb : b ≤ xs.length) (hl : xs.length ≤ 1152921504606846976) (hij : j < i) :
    vc Try.prog c95_s19 (retQ [10, 11] (okR (PartR h sv xs a b))) [(0, sv), (1, .int .i64 (a : Int)), (13, .int .i64 (j : Int))] g := by
  have hlen := R.len
  have hjb := P.jb
  have haj := P.ij
  have hai := P.ai
  obtain ⟨b1, o1, i1, t1⟩ := D.at (i := j) (by omega) rfl
  obtain ⟨b2, o2, i2, t2⟩ := D.at (i := a) (by omega) rfl
  simp (disch := omega) only [dm_t, wS, simprocAttr, IntKind.bits, i1, t1, i2, t2]
  refine ⟨(D.gd (i := a) (by omega)).len, D.st (i := j) (by omega) rfl i1 (D.gd (i := a) (by omega)) fun g4 D4 => ?_⟩
  simp (disch := omega) only [dm_t, wS, simprocAttr, IntKind.bits, i1, i2]
  refine ⟨(D.gd (i := j) (by omega)).len, D4.st (i := a) (by rw [List.length_set]; omega) (by omega) i2 (D.gd (i := j) (by omega)) fun g5 D5 => ?_⟩
  simp (disch := omega) only [dm_t, wS, simprocAttr, IntKind.bits]
  exact ⟨j, _, _, rfl, D5, R.trans (Rg.swp (by omega) (by omega) (by omega) (by omega) (by omega)), P.fin (by omega) hij⟩
/-- The rounds. -/
theorem Part_loop {g : H} {i j : Nat} {zs : List Row} (D : DX h g sv zs) (R : Rg a b xs zs) (P : PT a b i j zs) (hb : b ≤ xs.length) (hl : xs.length ≤ 1152921504606846976) :
    vc Try.prog c95_s11 (retQ [10, 11] (okR (PartR h sv xs a b))) [(0, sv), (1, .int .i64 (a : Int)), (4, lessV), (12, .int .i64 (i : Int)), (13, .int .i64 (j : Int))] g := by
  simp (disch := omega) only [dm_t, wS, simprocAttr, IntKind.bits]
  refine vc_loop2 (fun vi vj g => ∃ (i j : Nat) (zs : List Row), vi = .int .i64 (i : Int) ∧ vj = .int .i64 (j : Int) ∧ DX h g sv zs ∧ Rg a b xs zs ∧ PT a b i j zs) (fun vi vj _ => m1 vj + 1 - m1 vi) ?_ ?_
  · simp (disch := omega) only [dm_t, wS, simprocAttr, IntKind.bits]
    exact ⟨i, j, zs, rfl, rfl, D, R, P⟩
  clear D R P
  rintro _ _ g ⟨i, j, zs, rfl, rfl, D, R, P⟩
  generalize hQ0 : lq2 _ _ _ _ _ _ _ _ = Q0
  simp (disch := omega) only [dm_t, wS, simprocAttr, IntKind.bits]
  refine vc_loop1 (fun vi' g => ∃ (i' : Nat), vi' = .int .i64 (i' : Int) ∧ i ≤ i' ∧ DX h g sv zs ∧ PT a b i' j zs) (fun vi _ => j + 1 - m1 vi) ?_ ?_
  · simp (disch := omega) only [dm_t, wS, simprocAttr, IntKind.bits]
    exact ⟨i, rfl, by omega, D, P⟩
  clear D P
  rintro _ g ⟨i', rfl, hii, D, P⟩
  have hlen := R.len
  have hjb := P.jb
  have hij1 := P.ij
  have hai := P.ai
  -- behind the first loop
  have k1 : ∀ g, DX h g sv zs → (i' ≤ j → le (gt zs a) (gt zs i')) → vc Try.prog c95_s13 (blockQ 5 Q0) [(0, sv), (1, .int .i64 (a : Int)), (4, lessV), (12, .int .i64 (i' : Int)), (13, .int .i64 (j : Int))] g := by
    intro g D hle
    simp (disch := omega) only [dm_t, wS, simprocAttr, IntKind.bits]
    refine vc_loop1 (fun vj' g => ∃ (j' : Nat), vj' = .int .i64 (j' : Int) ∧ j' ≤ j ∧ DX h g sv zs ∧ PT a b i' j' zs) (fun vj _ => m1 vj) ?_ ?_
    · simp (disch := omega) only [dm_t, wS, simprocAttr, IntKind.bits]
      exact ⟨j, rfl, by omega, D, P⟩
    clear D P hjb hij1 hai
    rintro _ g ⟨j', rfl, hjj, D, P⟩
    have hjb := P.jb
    have hij1 := P.ij
    have hai := P.ai
    by_cases hij : i' ≤ j'
    · obtain ⟨b1, o1, i1, t1⟩ := D.at (i := j') (by omega) rfl
      obtain ⟨b2, o2, i2, t2⟩ := D.at (i := a) (by omega) rfl
      obtain ⟨b3, o3, i3, t3⟩ := D.at (i := i') (by omega) rfl
      simp (disch := omega) only [dm_t, wS, simprocAttr, IntKind.bits, i1, t1, i2, t2]
      refine ⟨by kernel_rfl, (less_ok g (D.gd (i := j') (by omega)) (D.gd (i := a) (by omega))).k ?_⟩
      rintro _ g3 ⟨⟨c, rfl, hc⟩, e3⟩
      have D3 := D.ext e3
      have t1' := cellsAt_ext e3 t1
      have t2' := cellsAt_ext e3 t2
      have t3' := cellsAt_ext e3 t3
      by_cases hc0 : c < 0
      · obtain ⟨hlt, P3⟩ := P.sw (by omega) hij (hle (by omega)) (hc.1 hc0)
        simp (disch := omega) only [dm_t, wS, simprocAttr, IntKind.bits, i1, t1', i2, t2', i3, t3']
        refine ⟨(D3.gd (i := j') (by omega)).len, D3.st (i := i') (by omega) rfl i3 (D3.gd (i := j') (by omega)) fun g4 D4 => ?_⟩
        simp (disch := omega) only [dm_t, wS, simprocAttr, IntKind.bits, i1, i3]
        refine ⟨(D3.gd (i := i') (by omega)).len, D4.st (i := j') (by rw [List.length_set]; omega) (by omega) i1 (D3.gd (i := i') (by omega)) fun g5 D5 => ?_⟩
        simp (disch := omega) only [dm_t, wS, simprocAttr, IntKind.bits]
        rw [← hQ0]
        simp (disch := omega) only [dm_t, wS, simprocAttr, IntKind.bits]
        exact ⟨⟨i' + 1, j' - 1, _, by simp, by congr 1; omega, D5, R.trans (Rg.swp (by omega) (by omega) (by omega) (by omega) (by omega)), P3⟩, by simp [m1]; omega⟩
      · simp (disch := omega) only [dm_t, wS, simprocAttr, IntKind.bits, i1, t1', i2, t2']
        exact ⟨⟨j' - 1, by congr 1; omega, by omega, D3, P.rj hij fun h => hc0 (hc.2 h)⟩, by simp [m1]; omega⟩
    · have t := Part_end D R P hb hl (by omega)
      revert t
      simp (disch := omega) only [dm_t, wS, simprocAttr, IntKind.bits]
      rw [← hQ0]
      simp (disch := omega) only [dm_t, wS, simprocAttr, IntKind.bits]
      exact id
  by_cases hij : i' ≤ j
  · obtain ⟨b1, o1, i1, t1⟩ := D.at (i := i') (by omega) rfl
    obtain ⟨b2, o2, i2, t2⟩ := D.at (i := a) (by omega) rfl
    simp (disch := omega) only [dm_t, wS, simprocAttr, IntKind.bits, i1, t1, i2, t2]
    refine ⟨by kernel_rfl, (less_ok g (D.gd (i := i') (by omega)) (D.gd (i := a) (by omega))).k ?_⟩
    rintro _ g3 ⟨⟨c, rfl, hc⟩, e3⟩
    have D3 := D.ext e3
    have t1' := cellsAt_ext e3 t1
    have t2' := cellsAt_ext e3 t2
    by_cases hc0 : c < 0
    · simp (disch := omega) only [dm_t, wS, simprocAttr, IntKind.bits, i1, t1', i2, t2']
      exact ⟨⟨i' + 1, by simp, by omega, D3, P.li hij (hc.1 hc0)⟩, by simp [m1]; omega⟩
    · have t := k1 g3 D3 fun _ h => hc0 (hc.2 h)
      revert t
      simp (disch := omega) only [dm_t, wS, simprocAttr, IntKind.bits, i1, t1', i2, t2']
      exact id
  · have t := k1 g D fun h => absurd h hij
    revert t
    simp (disch := omega) only [dm_t, wS, simprocAttr, IntKind.bits]
    exact id
end
theorem Part_ok {h : H} {sv : Value} {xs : List Row} {a b p : Nat} (d : DX h h sv xs) (hab : a + 1 < b) (hb : b ≤ xs.length) (hl : xs.length ≤ 1152921504606846976) (hp1 : a ≤ p) (hp2 : p < b) :
    Ok Try.prog 95 #[sv, .int .i64 (a : Int), .int .i64 (b : Int), .int .i64 (p : Int), lessV] h (PartR h sv xs a b) := by
  refine c95_ok (args := [_, _, _, _, _]) (by simp) ?_
  obtain ⟨b1, o1, i1, t1⟩ := d.at (i := a) (by omega) rfl
  obtain ⟨b2, o2, i2, t2⟩ := d.at (i := p) (by omega) rfl
  simp (disch := omega) only [dm_t, wS, simprocAttr, IntKind.bits, i1, t1, i2, t2]
  refine ⟨(d.gd (i := p) (by omega)).len, d.st (i := a) (by omega) rfl i1 (d.gd (i := p) (by omega)) fun g4 D4 => ?_⟩
  simp (disch := omega) only [dm_t, wS, simprocAttr, IntKind.bits, i1, i2]
  refine ⟨(d.gd (i := a) (by omega)).len, D4.st (i := p) (by rw [List.length_set]; omega) (by omega) i2 (d.gd (i := a) (by omega)) fun g5 D5 => ?_⟩
  have R0 : Rg a b xs (swp xs a p) := Rg.swp (by omega) (by omega) (by omega) (by omega) (by omega)
  have P0 : PT a b (a + 1) (b - 1) (swp xs a p) := PT.start hab
  have eb : (b : Int) - 1 = ((b - 1 : Nat) : Int) := by omega
  have D0 : DX h g5 sv (swp xs a p) := D5
  generalize swp xs a p = zs at R0 P0 D0
  have hlen := R0.len
  clear D4 D5
  simp (disch := omega) only [dm_t, wS, simprocAttr, IntKind.bits, eb]
  refine vc_loop1 (fun vi' g => ∃ (i' : Nat), vi' = .int .i64 (i' : Int) ∧ DX h g sv zs ∧ PT a b i' (b - 1) zs) (fun vi _ => b - m1 vi) ?_ ?_
  · simp (disch := omega) only [dm_t, wS, simprocAttr, IntKind.bits]
    exact ⟨a + 1, by simp, D0, P0⟩
  clear D0 P0
  rintro _ g ⟨i', rfl, D, P⟩
  generalize hQ0 : lq1 _ _ _ _ _ _ _ = Q0
  have hij1 := P.ij
  have hai := P.ai
  have fin : ∀ (g : H) (j : Nat), DX h g sv zs → PT a b i' j zs → (i' ≤ j → le (gt zs a) (gt zs i')) → (i' ≤ j → lt (gt zs j) (gt zs a)) → vc Try.prog c95_s6 (retQ [10, 11] (okR (PartR h sv xs a b))) [(0, sv), (1, .int .i64 (a : Int)), (4, lessV), (12, .int .i64 (i' : Int)), (13, .int .i64 (j : Int))] g := by
    intro g j D P hle hlt
    have hjb := P.jb
    have hij1 := P.ij
    by_cases hij : j < i'
    · obtain ⟨b1, o1, i1, t1⟩ := D.at (i := j) (by omega) rfl
      obtain ⟨b2, o2, i2, t2⟩ := D.at (i := a) (by omega) rfl
      simp (disch := omega) only [dm_t, wS, simprocAttr, IntKind.bits, i1, t1, i2, t2]
      refine ⟨(D.gd (i := a) (by omega)).len, D.st (i := j) (by omega) rfl i1 (D.gd (i := a) (by omega)) fun g4 D4 => ?_⟩
      simp (disch := omega) only [dm_t, wS, simprocAttr, IntKind.bits, i1, i2]
      refine ⟨(D.gd (i := j) (by omega)).len, D4.st (i := a) (by rw [List.length_set]; omega) (by omega) i2 (D.gd (i := j) (by omega)) fun g5 D5 => ?_⟩
      simp (disch := omega) only [dm_t, wS, simprocAttr, IntKind.bits]
      exact ⟨j, _, _, rfl, D5, R0.trans (Rg.swp (by omega) (by omega) (by omega) (by omega) (by omega)), P.fin (by omega) hij⟩
    · obtain ⟨b1, o1, i1, t1⟩ := D.at (i := i') (by omega) rfl
      obtain ⟨b2, o2, i2, t2⟩ := D.at (i := j) (by omega) rfl
      obtain ⟨hlt2, P3⟩ := P.sw (by omega) (by omega) (hle (by omega)) (hlt (by omega))
      simp (disch := omega) only [dm_t, wS, simprocAttr, IntKind.bits, i1, t1, i2, t2]
      refine ⟨(D.gd (i := j) (by omega)).len, D.st (i := i') (by omega) rfl i1 (D.gd (i := j) (by omega)) fun g4 D4 => ?_⟩
      simp (disch := omega) only [dm_t, wS, simprocAttr, IntKind.bits, i1, i2]
      refine ⟨(D.gd (i := i') (by omega)).len, D4.st (i := j) (by rw [List.length_set]; omega) (by omega) i2 (D.gd (i := i') (by omega)) fun g5 D5 => ?_⟩
      have t := Part_loop D5 (R0.trans (Rg.swp (i := i') (j := j) (by omega) (by omega) (by omega) (by omega) (by omega))) P3 hb hl
      have e1 : ((i' + 1 : Nat) : Int) = (i' : Int) + 1 := by omega
      have e2 : ((j - 1 : Nat) : Int) = (j : Int) - 1 := by omega
      rw [e1, e2] at t
      revert t
      simp (disch := omega) only [dm_t, wS, simprocAttr, IntKind.bits]
      exact id
  -- behind the first loop
  have k1 : ∀ g, DX h g sv zs → (i' ≤ b - 1 → le (gt zs a) (gt zs i')) → vc Try.prog c95_s4 (retQ [10, 11] (okR (PartR h sv xs a b))) [(0, sv), (1, .int .i64 (a : Int)), (4, lessV), (12, .int .i64 (i' : Int)), (13, .int .i64 ((b - 1 : Nat) : Int))] g := by
    intro g D hle
    simp (disch := omega) only [dm_t, wS, simprocAttr, IntKind.bits]
    refine vc_loop1 (fun vj' g => ∃ (j' : Nat), vj' = .int .i64 (j' : Int) ∧ j' ≤ b - 1 ∧ DX h g sv zs ∧ PT a b i' j' zs) (fun vj _ => m1 vj) ?_ ?_
    · simp (disch := omega) only [dm_t, wS, simprocAttr, IntKind.bits]
      exact ⟨b - 1, rfl, by omega, D, P⟩
    clear D P hij1 hai
    rintro _ g ⟨j', rfl, hjj, D, P⟩
    have hjb := P.jb
    have hij1 := P.ij
    have hai := P.ai
    by_cases hij : i' ≤ j'
    · obtain ⟨b1, o1, i1, t1⟩ := D.at (i := j') (by omega) rfl
      obtain ⟨b2, o2, i2, t2⟩ := D.at (i := a) (by omega) rfl
      simp (disch := omega) only [dm_t, wS, simprocAttr, IntKind.bits, i1, t1, i2, t2]
      refine ⟨by kernel_rfl, (less_ok g (D.gd (i := j') (by omega)) (D.gd (i := a) (by omega))).k ?_⟩
      rintro _ g3 ⟨⟨c, rfl, hc⟩, e3⟩
      have D3 := D.ext e3
      have t1' := cellsAt_ext e3 t1
      have t2' := cellsAt_ext e3 t2
      by_cases hc0 : c < 0
      · have t := fin g3 j' D3 P (fun h => hle (by omega)) fun _ => hc.1 hc0
        revert t
        simp (disch := omega) only [dm_t, wS, simprocAttr, IntKind.bits, i1, t1', i2, t2']
        exact id
      · simp (disch := omega) only [dm_t, wS, simprocAttr, IntKind.bits, i1, t1', i2, t2']
        exact ⟨⟨j' - 1, by congr 1; omega, by omega, D3, P.rj hij fun h => hc0 (hc.2 h)⟩, by simp [m1]; omega⟩
    · have t := fin g j' D P (fun h => absurd h hij) fun h => absurd h hij
      revert t
      simp (disch := omega) only [dm_t, wS, simprocAttr, IntKind.bits]
      exact id
  by_cases hij : i' ≤ b - 1
  · obtain ⟨b1, o1, i1, t1⟩ := D.at (i := i') (by omega) rfl
    obtain ⟨b2, o2, i2, t2⟩ := D.at (i := a) (by omega) rfl
    simp (disch := omega) only [dm_t, wS, simprocAttr, IntKind.bits, i1, t1, i2, t2]
    refine ⟨by kernel_rfl, (less_ok g (D.gd (i := i') (by omega)) (D.gd (i := a) (by omega))).k ?_⟩
    rintro _ g3 ⟨⟨c, rfl, hc⟩, e3⟩
    have D3 := D.ext e3
    have t1' := cellsAt_ext e3 t1
    have t2' := cellsAt_ext e3 t2
    rw [← hQ0]
    by_cases hc0 : c < 0
    · simp (disch := omega) only [dm_t, wS, simprocAttr, IntKind.bits, i1, t1', i2, t2']
      exact ⟨⟨i' + 1, by simp, D3, P.li hij (hc.1 hc0)⟩, by simp [m1]; omega⟩
    · have t := k1 g3 D3 fun _ h => hc0 (hc.2 h)
      revert t
      simp (disch := omega) only [dm_t, wS, simprocAttr, IntKind.bits, i1, t1', i2, t2']
      exact id
  · have t := k1 g D fun h => absurd h hij
    revert t
    rw [← hQ0]
    simp (disch := omega) only [dm_t, wS, simprocAttr, IntKind.bits]
    exact id
end Go.Proofs.Ythhofmjhnjkcfaa.so
