/-
  sort: reverseRange, order2, median, choosePivot.
-/
import Derived.Test.YthhofmjhnjkcfaaS2
namespace Go.Proofs.Ythhofmjhnjkcfaa.so
open Go.Proofs.Ythhofmjhnjkcfaa
set_option linter.unusedVariables false
set_option linter.unusedSimpArgs false
theorem Rev_ok {h : H} {sv cv : Value} {xs : List Row} {a b : Nat} (d : DX h h sv xs) (hab : a < b) (hb : b ≤ xs.length) (hl : xs.length ≤ 4611686018427387904) :
    Ok Try.prog 92 #[sv, .int .i64 (a : Int), .int .i64 (b : Int), cv] h fun _ h' => ∃ ys, DX h h' sv ys ∧ Rg a b xs ys := by
  refine c92_ok (args := [_, _, _, _]) (by simp) ?_
  simp (disch := omega) only [dm_t, wS, simprocAttr, IntKind.bits]
  refine vc_loop2 (fun vi vj g => ∃ (i j : Nat) (ys : List Row), vi = .int .i64 (i : Int) ∧ vj = .int .i64 (j : Int) ∧ a ≤ i ∧ j < b ∧ a ≤ j + 1 ∧ i ≤ b ∧ DX h g sv ys ∧ Rg a b xs ys) (fun vi _ _ => b - m1 vi) ?_ ?_
  · simp (disch := omega) only [dm_t, wS, simprocAttr, IntKind.bits]
    exact ⟨a, b - 1, xs, rfl, by congr 1; omega, by omega, by omega, by omega, by omega, d, Rg.refl _ _ _⟩
  rintro _ _ g ⟨i, j, ys, rfl, rfl, hai, hjb, haj, hib, D, R⟩
  have hlen := R.len
  by_cases hij : i < j
  · obtain ⟨b1, o1, i1, t1⟩ := D.at (i := i) (by omega) rfl
    obtain ⟨b2, o2, i2, t2⟩ := D.at (i := j) (by omega) rfl
    simp (disch := omega) only [dm_t, wS, simprocAttr, IntKind.bits, i1, t1, i2, t2]
    refine ⟨(D.gd (i := j) (by omega)).len, D.st (i := i) (by omega) rfl i1 (D.gd (i := j) (by omega)) fun g4 D4 => ?_⟩
    simp (disch := omega) only [dm_t, wS, simprocAttr, IntKind.bits, i1, i2]
    refine ⟨(D.gd (i := i) (by omega)).len, D4.st (i := j) (by rw [List.length_set]; omega) rfl i2 (D.gd (i := i) (by omega)) fun g5 D5 => ?_⟩
    simp (disch := omega) only [dm_t, wS, simprocAttr, IntKind.bits]
    exact ⟨⟨i + 1, j - 1, _, by simp, by congr 1; omega, by omega, by omega, by omega, by omega, D5, R.trans (Rg.swp (by omega) (by omega) (by omega) (by omega) (by omega))⟩, by simp [m1]; omega⟩
  · simp (disch := omega) only [dm_t, wS, simprocAttr, IntKind.bits]
    exact ⟨ys, D, R⟩
/-- One of two. -/
def Two2 (a b x y : Nat) : Prop := (x = a ∧ y = b) ∨ (x = b ∧ y = a)
theorem Ord2_ok {h g : H} {sv : Value} {xs : List Row} {a b p : Nat} {n : Int} (d : DX h g sv xs) (ha : a < xs.length) (hb : b < xs.length) (hl : xs.length ≤ 4611686018427387904)
    (hp : g p = some (.cells #[.int .i64 n] 3)) : Ok Try.prog 104 #[sv, .int .i64 (a : Int), .int .i64 (b : Int), .pointer (some ⟨p, 0, none⟩), lessV] g
      fun v g' => ∃ (x y : Nat) (n' : Int), v = .tuple #[.int .i64 (x : Int), .int .i64 (y : Int)] ∧ Two2 a b x y ∧ g' p = some (.cells #[.int .i64 n'] 3) ∧ Fr (fun z => z = p) g g' := by
  refine c104_ok (args := [_, _, _, _, _]) (by simp) ?_
  obtain ⟨b1, o1, i1, t1⟩ := d.at (i := b) hb rfl
  obtain ⟨b2, o2, i2, t2⟩ := d.at (i := a) ha rfl
  simp (disch := omega) only [dm_t, wS, simprocAttr, IntKind.bits, i1, t1, i2, t2]
  refine ⟨by kernel_rfl, (less_ok g (d.gd hb) (d.gd ha)).k ?_⟩
  rintro _ g3 ⟨⟨c, rfl, hc⟩, e3⟩
  have t1' := cellsAt_ext e3 t1
  have t2' := cellsAt_ext e3 t2
  have hp3 := e3.at hp
  by_cases hc0 : c < 0
  · simp (disch := omega) only [dm_t, wS, simprocAttr, IntKind.bits, i1, t1', i2, t2', cellAt_of hp3, storeH_0 hp3]
    exact ⟨b, a, _, rfl, .inr ⟨rfl, rfl⟩, hupd_same _ _ _, fun y o hy hn => by rw [hupd_ne _ _ hn]; exact e3 y o hy id⟩
  · simp (disch := omega) only [dm_t, wS, simprocAttr, IntKind.bits, i1, t1', i2, t2']
    exact ⟨a, b, n, rfl, .inl ⟨rfl, rfl⟩, hp3, fun y o hy hn => e3 y o hy id⟩
theorem DX.at' {h g g' : H} {sv : Value} {xs : List Row} {p : Nat} (d : DX h g sv xs) (hp : ¬ isAt sv p) (f : Fr (fun z => z = p) g g') (hn : h p = none) : DX h g' sv xs :=
  ⟨d.ow.fr f fun x hx _ => hx ▸ hp, d.good, fun y o hy hs => f y o (d.fr y o hy hs) fun h => by rw [h, hn] at hy; cases hy⟩
theorem Med_ok {h g : H} {sv : Value} {xs : List Row} {a b c p : Nat} {n : Int} (d : DX h g sv xs) (ha : a < xs.length) (hb : b < xs.length) (hc : c < xs.length) (hl : xs.length ≤ 4611686018427387904)
    (hn : h p = none) (hps : ¬ isAt sv p) (hp : g p = some (.cells #[.int .i64 n] 3)) : Ok Try.prog 103 #[sv, .int .i64 (a : Int), .int .i64 (b : Int), .int .i64 (c : Int), .pointer (some ⟨p, 0, none⟩), lessV] g
      fun v g' => ∃ (x : Nat) (n' : Int), v = .int .i64 (x : Int) ∧ (x = a ∨ x = b ∨ x = c) ∧ g' p = some (.cells #[.int .i64 n'] 3) ∧ DX h g' sv xs ∧ Fr (fun z => z = p) g g' := by
  refine c103_ok (args := [_, _, _, _, _, _]) (by simp) ?_
  simp (disch := omega) only [dm_t, wS, simprocAttr, IntKind.bits]
  refine (Ord2_ok d ha hb hl hp).k ?_
  rintro _ g1 ⟨x1, y1, n1, rfl, k1, q1, f1⟩
  have d1 := d.at' hps f1 hn
  have hx1 : (x1 = a ∧ y1 = b) ∨ (x1 = b ∧ y1 = a) := k1
  simp (disch := omega) only [dm_t, wS, simprocAttr, IntKind.bits]
  refine (Ord2_ok d1 (a := y1) (b := c) (by omega) hc hl q1).k ?_
  rintro _ g2 ⟨x2, y2, n2, rfl, k2, q2, f2⟩
  have d2 := d1.at' hps f2 hn
  have hx2 : (x2 = y1 ∧ y2 = c) ∨ (x2 = c ∧ y2 = y1) := k2
  simp (disch := omega) only [dm_t, wS, simprocAttr, IntKind.bits]
  refine (Ord2_ok d2 (a := x1) (b := x2) (by omega) (by omega) hl q2).k ?_
  rintro _ g3 ⟨x3, y3, n3, rfl, k3, q3, f3⟩
  have d3 := d2.at' hps f3 hn
  have hx3 : (x3 = x1 ∧ y3 = x2) ∨ (x3 = x2 ∧ y3 = x1) := k3
  simp (disch := omega) only [dm_t, wS, simprocAttr, IntKind.bits]
  exact ⟨y3, n3, rfl, by omega, q3, d3, (f1.trans f2).trans f3⟩
theorem Adj_ok {h g : H} {sv : Value} {xs : List Row} {a p : Nat} {n : Int} (d : DX h g sv xs) (ha0 : 0 < a) (ha : a + 1 < xs.length) (hl : xs.length ≤ 4611686018427387904)
    (hn : h p = none) (hps : ¬ isAt sv p) (hp : g p = some (.cells #[.int .i64 n] 3)) : Ok Try.prog 102 #[sv, .int .i64 (a : Int), .pointer (some ⟨p, 0, none⟩), lessV] g
      fun v g' => ∃ (x : Nat) (n' : Int), v = .int .i64 (x : Int) ∧ (x + 1 = a ∨ x = a ∨ x = a + 1) ∧ g' p = some (.cells #[.int .i64 n'] 3) ∧ DX h g' sv xs ∧ Fr (fun z => z = p) g g' := by
  refine c102_ok (args := [_, _, _, _]) (by simp) ?_
  have e1 : ((a : Int) - 1) = ((a - 1 : Nat) : Int) := by omega
  simp (disch := omega) only [dm_t, wS, simprocAttr, IntKind.bits, e1]
  refine (Med_ok d (a := a - 1) (b := a) (c := a + 1) (by omega) (by omega) (by omega) hl hn hps hp).k ?_
  rintro _ g1 ⟨x, n1, rfl, hx, q1, d1, f1⟩
  simp (disch := omega) only [dm_t, wS, simprocAttr, IntKind.bits]
  exact ⟨x, n1, rfl, by omega, q1, d1, f1⟩
theorem Piv_ok {h : H} {sv : Value} {xs : List Row} {a b : Nat} (d : DX h h sv xs) (hab : a + 12 < b) (hb : b ≤ xs.length) (hl : xs.length ≤ 4611686018427387904) :
    Ok Try.prog 91 #[sv, .int .i64 (a : Int), .int .i64 (b : Int), lessV] h fun v h' => ∃ (p : Nat) (t : Int), v = .tuple #[.int .i64 (p : Int), .int .i64 t] ∧ a ≤ p ∧ p < b ∧ Ext h h' := by
  refine c91_ok (args := [_, _, _, _]) (by simp) ?_
  simp (disch := omega) only [dm_t, wS, simprocAttr, IntKind.bits]
  intro p hp
  generalize hG : hupd h p _ = g1
  obtain ⟨e1, q1⟩ := new_ext hG hp
  clear hG
  have hps : ¬ isAt sv p := fun hy => d.ow.there hy hp
  have d1 := d.ext e1
  have fin : ∀ g, Fr (fun z => z = p) h g → Ext h g := fun g f y o hy _ => f y o hy fun hh => by rw [hh, hp] at hy; cases hy
  obtain ⟨l, hlb⟩ : ∃ l, l = b - a := ⟨_, rfl⟩
  have hl1 : (b : Int) - (a : Int) = (l : Int) := by omega
  have key : ∀ (g : H) (x : Nat) (n : Int), a ≤ x → x < b → Fr (fun z => z = p) h g → g p = some (.cells #[.int .i64 n] 3) → vc Try.prog c91_s9 (retQ [8, 9] (okR fun v h' => ∃ (p : Nat) (t : Int), v = .tuple #[.int .i64 (p : Int), .int .i64 t] ∧ a ≤ p ∧ p < b ∧ Ext h h')) [(11, .pointer (some ⟨p, 0, none⟩)), (13, .int .i64 (x : Int))] g := by
    intro g x n h1 h2 f q
    by_cases hn0 : n = 0
    · simp (disch := omega) only [dm_t, wS, simprocAttr, IntKind.bits, cellAt_of q]
      exact ⟨x, _, rfl, h1, h2, fin g f⟩
    by_cases hn12 : n = 12
    · simp (disch := omega) only [dm_t, wS, simprocAttr, IntKind.bits, cellAt_of q]
      exact ⟨x, _, rfl, h1, h2, fin g f⟩
    · simp (disch := omega) only [dm_t, wS, simprocAttr, IntKind.bits, cellAt_of q]
      exact ⟨x, _, rfl, h1, h2, fin g f⟩
  have mid : ∀ (g : H) (i j k : Nat) (n : Int), a ≤ i → i < b → a ≤ j → j < b → a ≤ k → k < b → DX h g sv xs → Fr (fun z => z = p) h g → g p = some (.cells #[.int .i64 n] 3) → vc Try.prog c91_s8 (seqQ Try.prog [11, 13] c91_s9 (retQ [8, 9] (okR fun v h' => ∃ (p : Nat) (t : Int), v = .tuple #[.int .i64 (p : Int), .int .i64 t] ∧ a ≤ p ∧ p < b ∧ Ext h h'))) [(0, sv), (3, lessV), (11, .pointer (some ⟨p, 0, none⟩)), (12, .int .i64 (i : Int)), (13, .int .i64 (j : Int)), (14, .int .i64 (k : Int))] g := by
    intro g i j k n h1 h2 h3 h4 h5 h6 D f q
    simp (disch := omega) only [dm_t, wS, simprocAttr, IntKind.bits]
    refine (Med_ok D (a := i) (b := j) (c := k) (by omega) (by omega) (by omega) hl hp hps q).k ?_
    rintro _ g2 ⟨x, n2, rfl, hx, q2, d2, f2⟩
    have t := key g2 x n2 (by omega) (by omega) (f.trans f2) q2
    revert t
    simp (disch := omega) only [dm_t, wS, simprocAttr, IntKind.bits]
    exact id
  have f1 : Fr (fun z => z = p) h g1 := fun y o hy hn => e1 y o hy id
  have hq1 : (a : Int) + ((l : Int) / 4) * 1 = ((a + l / 4 : Nat) : Int) := by omega
  have hq2 : (a : Int) + ((l : Int) / 4) * 2 = ((a + l / 4 * 2 : Nat) : Int) := by omega
  have hq3 : (a : Int) + ((l : Int) / 4) * 3 = ((a + l / 4 * 3 : Nat) : Int) := by omega
  have hm1 : a ≤ a + l / 4 ∧ a + l / 4 + 1 < b ∧ 0 < a + l / 4 := by omega
  have hm2 : a + l / 4 * 2 + 1 < b ∧ 0 < a + l / 4 * 2 := by omega
  have hm3 : a + l / 4 * 3 < b ∧ 0 < a + l / 4 * 3 ∧ (50 ≤ l → a + l / 4 * 3 + 1 < b) := by omega
  by_cases h50 : 50 ≤ l
  · have h50' := hm3.2.2 h50
    simp (disch := omega) only [dm_t, wS, simprocAttr, IntKind.bits, hl1, hq1, hq2, hq3]
    refine (Adj_ok d1 (a := a + l / 4) (by omega) (by omega) hl hp hps q1).k ?_
    rintro _ g2 ⟨x1, n1, rfl, hx1, q2, d2, f2⟩
    simp (disch := omega) only [dm_t, wS, simprocAttr, IntKind.bits]
    refine (Adj_ok d2 (a := a + l / 4 * 2) (by omega) (by omega) hl hp hps q2).k ?_
    rintro _ g3 ⟨x2, n2, rfl, hx2, q3, d3, f3⟩
    simp (disch := omega) only [dm_t, wS, simprocAttr, IntKind.bits]
    refine (Adj_ok d3 (a := a + l / 4 * 3) (by omega) (by omega) hl hp hps q3).k ?_
    rintro _ g4 ⟨x3, n3, rfl, hx3, q4, d4, f4⟩
    have t := mid g4 x1 x2 x3 n3 (by omega) (by omega) (by omega) (by omega) (by omega) (by omega) d4 (((f1.trans f2).trans f3).trans f4) q4
    revert t
    simp (disch := omega) only [dm_t, wS, simprocAttr, IntKind.bits]
    exact id
  · have t := mid g1 (a + l / 4) (a + l / 4 * 2) (a + l / 4 * 3) 0 (by omega) (by omega) (by omega) (by omega) (by omega) (by omega) d1 f1 q1
    revert t
    simp (disch := omega) only [dm_t, wS, simprocAttr, IntKind.bits, hl1, hq1, hq2, hq3]
    exact id
end Go.Proofs.Ythhofmjhnjkcfaa.so
