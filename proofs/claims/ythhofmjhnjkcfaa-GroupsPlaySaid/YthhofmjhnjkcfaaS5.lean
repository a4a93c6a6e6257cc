/-
  sort: bits.Len, xorshift, breakPatterns.
-/
import Derived.Test.YthhofmjhnjkcfaaS4
namespace Go.Proofs.Ythhofmjhnjkcfaa.so
open Go.Proofs.Ythhofmjhnjkcfaa
set_option linter.unusedVariables false
set_option linter.unusedSimpArgs false
def tab : ByteArray := ⟨#[0, 1, 2, 2, 3, 3, 3, 3, 4, 4, 4, 4, 4, 4, 4, 4, 5, 5, 5, 5, 5, 5, 5, 5, 5, 5, 5, 5, 5, 5, 5, 5, 6, 6, 6, 6, 6, 6, 6, 6, 6, 6, 6, 6, 6, 6, 6, 6, 6, 6, 6, 6, 6, 6, 6, 6, 6, 6, 6, 6, 6, 6, 6, 6, 7, 7, 7, 7, 7, 7, 7, 7, 7, 7, 7, 7, 7, 7, 7, 7, 7, 7, 7, 7, 7, 7, 7, 7, 7, 7, 7, 7, 7, 7, 7, 7, 7, 7, 7, 7, 7, 7, 7, 7, 7, 7, 7, 7, 7, 7, 7, 7, 7, 7, 7, 7, 7, 7, 7, 7, 7, 7, 7, 7, 7, 7, 7, 7, 8, 8, 8, 8, 8, 8, 8, 8, 8, 8, 8, 8, 8, 8, 8, 8, 8, 8, 8, 8, 8, 8, 8, 8, 8, 8, 8, 8, 8, 8, 8, 8, 8, 8, 8, 8, 8, 8, 8, 8, 8, 8, 8, 8, 8, 8, 8, 8, 8, 8, 8, 8, 8, 8, 8, 8, 8, 8, 8, 8, 8, 8, 8, 8, 8, 8, 8, 8, 8, 8, 8, 8, 8, 8, 8, 8, 8, 8, 8, 8, 8, 8, 8, 8, 8, 8, 8, 8, 8, 8, 8, 8, 8, 8, 8, 8, 8, 8, 8, 8, 8, 8, 8, 8, 8, 8, 8, 8, 8, 8, 8, 8, 8, 8, 8, 8, 8, 8, 8, 8, 8, 8, 8, 8, 8, 8, 8, 8]⟩
theorem tab_ok : ∀ n : Fin 256, (tab[n.val]?).map (fun b => decide (b.toNat ≤ 8 ∧ n.val < 2 ^ b.toNat ∧ 2 ^ b.toNat ≤ 2 * n.val + 1)) = some true := by decide +kernel
theorem tab_at {n : Nat} (hn : n < 256) : ∃ k : Nat, (tab[n]?).map (fun b => Value.int .u8 (b.toNat : Int)) = some (.int .u8 (k : Int)) ∧ k ≤ 8 ∧ n < 2 ^ k ∧ 2 ^ k ≤ 2 * n + 1 := by
  have h := tab_ok ⟨n, hn⟩
  simp only at h
  cases hb : tab[n]? with
  | none => rw [hb] at h; cases h
  | some b =>
    rw [hb] at h
    simp only [Option.map_some, Option.some.injEq, decide_eq_true_eq] at h
    exact ⟨b.toNat, rfl, h⟩
set_option maxRecDepth 20000 in
theorem Len64_ok {h : H} {n : Nat} (hn : n < 65536) : Ok Try.prog 97 #[.int .u64 (n : Int)] h fun v h' => (∃ k : Nat, v = .int .i64 (k : Int) ∧ k ≤ 16 ∧ n < 2 ^ k ∧ 2 ^ k ≤ 2 * n + 1) ∧ h = h' := by
  refine c97_ok (args := [_]) (by simp) ?_
  by_cases h1 : n < 256
  · obtain ⟨k, hk, hk1, hk2, hk3⟩ := tab_at h1
    simp (disch := omega) only [dm_t, wS, simprocAttr, IntKind.bits]
    change opt (Option.map _ tab[n]?) h _
    rw [hk]
    simp (disch := omega) only [dm_t, wS, simprocAttr, IntKind.bits]
    exact ⟨k, by simp, by omega, hk2, hk3⟩
  · obtain ⟨m, hm⟩ : ∃ m, m = n / 256 := ⟨_, rfl⟩
    obtain ⟨k, hk, hk1, hk2, hk3⟩ := tab_at (n := m) (by omega)
    have hd : (n : Int) / 2 ^ 8 = (m : Int) := by omega
    have hd2 : (n : Int) / 256 = (m : Int) := by omega
    simp (disch := omega) only [dm_t, wS, simprocAttr, IntKind.bits, hd, hd2]
    change opt (Option.map _ tab[m]?) h _
    rw [hk]
    simp (disch := omega) only [dm_t, wS, simprocAttr, IntKind.bits]
    obtain ⟨k', rfl⟩ : ∃ k', k = k' + 1 := by
      cases k with
      | zero => simp at hk2; omega
      | succ k' => exact ⟨k', rfl⟩
    rw [Nat.pow_succ] at hk2 hk3
    refine ⟨k' + 1 + 8, by congr 1; omega, by omega, ?_, ?_⟩
    · rw [Nat.pow_add, Nat.pow_succ]; omega
    · rw [Nat.pow_add, Nat.pow_succ]; omega
theorem Len_ok {h : H} {n : Nat} (hn : n < 65536) : Ok Try.prog 84 #[.int .u64 (n : Int)] h fun v h' => (∃ k : Nat, v = .int .i64 (k : Int) ∧ k ≤ 16 ∧ n < 2 ^ k ∧ 2 ^ k ≤ 2 * n + 1) ∧ h = h' := by
  refine c84_ok (args := [_]) (by simp) ?_
  simp (disch := omega) only [dm_t, wS, simprocAttr, IntKind.bits]
  refine (Len64_ok hn).k ?_
  rintro _ _ ⟨⟨k, rfl, h1⟩, rfl⟩
  simp (disch := omega) only [dm_t, wS, simprocAttr, IntKind.bits]
  exact ⟨k, rfl, h1⟩
theorem P2_ok {h : H} {n : Nat} (hn : n < 65536) : Ok Try.prog 100 #[.int .i64 (n : Int)] h fun v h' => (∃ k : Nat, v = .int .u64 ((2 ^ k : Nat) : Int) ∧ k ≤ 16 ∧ n < 2 ^ k ∧ 2 ^ k ≤ 2 * n + 1) ∧ h = h' := by
  refine c100_ok (args := [_]) (by simp) ?_
  simp (disch := omega) only [dm_t, wS, simprocAttr, IntKind.bits]
  refine (Len_ok hn).k ?_
  rintro _ _ ⟨⟨k, rfl, h1, h2, h3⟩, rfl⟩
  have hk : k = 0 ∨ k = 1 ∨ k = 2 ∨ k = 3 ∨ k = 4 ∨ k = 5 ∨ k = 6 ∨ k = 7 ∨ k = 8 ∨ k = 9 ∨ k = 10 ∨ k = 11 ∨ k = 12 ∨ k = 13 ∨ k = 14 ∨ k = 15 ∨ k = 16 := by omega
  simp (disch := omega) only [dm_t, wS, simprocAttr, IntKind.bits]
  refine ⟨k, ?_, h1, h2, h3⟩
  rcases hk with rfl | rfl | rfl | rfl | rfl | rfl | rfl | rfl | rfl | rfl | rfl | rfl | rfl | rfl | rfl | rfl | rfl <;> rfl
theorem Next_ok {g : H} {p : Nat} {n : Int} (hp : g p = some (.cells #[.int .u64 n] 154)) (hn : 0 ≤ n ∧ n < 18446744073709551616) : Ok Try.prog 101 #[.pointer (some ⟨p, 0, none⟩)] g fun v g' => ∃ m : Nat, v = .int .u64 (m : Int) ∧ m < 18446744073709551616 ∧ g' p = some (.cells #[.int .u64 (m : Int)] 154) ∧ Fr (fun z => z = p) g g' := by
  refine c101_ok (args := [_]) (by simp) ?_
  simp (disch := omega) only [dm_t, wS, simprocAttr, IntKind.bits, cellAt_of hp, storeH_0 hp, cellAt_same, storeH_same]
  exact ⟨_, rfl, BitVec.isLt _, hupd_same _ _ _, Fr.upd (S := fun z => z = p) rfl _⟩
theorem and_mod (m : Nat) {k : Nat} (hk : k ≤ 16) (hm : m < 18446744073709551616) : ∃ r : Nat, (((BitVec.ofInt 64 (m : Int) &&& BitVec.ofInt 64 (((2 ^ k : Nat) : Int) - 1)).toNat : Nat) : Int) = (r : Int) ∧ r < 2 ^ k := by
  refine ⟨_, rfl, ?_⟩
  have h2 : (BitVec.ofInt 64 (((2 ^ k : Nat) : Int) - 1)).toNat = 2 ^ k - 1 := by
    have hk' : k = 0 ∨ k = 1 ∨ k = 2 ∨ k = 3 ∨ k = 4 ∨ k = 5 ∨ k = 6 ∨ k = 7 ∨ k = 8 ∨ k = 9 ∨ k = 10 ∨ k = 11 ∨ k = 12 ∨ k = 13 ∨ k = 14 ∨ k = 15 ∨ k = 16 := by omega
    rcases hk' with rfl | rfl | rfl | rfl | rfl | rfl | rfl | rfl | rfl | rfl | rfl | rfl | rfl | rfl | rfl | rfl | rfl <;> rfl
  rw [BitVec.toNat_and, h2]
  have := Nat.and_le_right (n := (BitVec.ofInt 64 (m : Int)).toNat) (m := 2 ^ k - 1)
  have : 0 < 2 ^ k := Nat.two_pow_pos k
  omega
theorem Brk_ok {h : H} {sv cv : Value} {xs : List Row} {a b : Nat} (d : DX h h sv xs) (hab : a + 12 < b) (hb : b ≤ xs.length) (hl : xs.length ≤ 65535) :
    Ok Try.prog 90 #[sv, .int .i64 (a : Int), .int .i64 (b : Int), cv] h fun _ h' => ∃ ys, DX h h' sv ys ∧ Rg a b xs ys := by
  refine c90_ok (args := [_, _, _, _]) (by simp) ?_
  obtain ⟨l, hlb⟩ : ∃ l, l = b - a := ⟨_, rfl⟩
  have hl1 : (b : Int) - (a : Int) = (l : Int) := by omega
  simp (disch := omega) only [dm_t, wS, simprocAttr, IntKind.bits, hl1]
  intro p hp
  simp (disch := omega) only [dm_t, wS, simprocAttr, IntKind.bits, storeH_same]
  generalize hG : hupd h p _ = g1
  obtain ⟨e1, q1⟩ := new_ext hG hp
  clear hG
  have hps : ¬ isAt sv p := fun hy => d.ow.there hy hp
  have d1 := d.ext e1
  refine (P2_ok (n := l) (by omega)).k ?_
  rintro _ _ ⟨⟨k, rfl, hk1, hk2, hk3⟩, rfl⟩
  simp (disch := omega) only [dm_t, wS, simprocAttr, IntKind.bits]
  refine vc_loop1 (fun vi g => ∃ (i m : Nat) (ys : List Row), vi = .int .i64 (i : Int) ∧ a + l / 4 * 2 ≤ i + 1 ∧ i ≤ a + l / 4 * 2 + 2 ∧ m < 18446744073709551616 ∧ g p = some (.cells #[.int .u64 (m : Int)] 154) ∧ DX h g sv ys ∧ Rg a b xs ys) (fun vi _ => a + l + 2 - m1 vi) ?_ ?_
  · simp (disch := omega) only [dm_t, wS, simprocAttr, IntKind.bits]
    exact ⟨a + l / 4 * 2 - 1, l, xs, by congr 1; omega, by omega, by omega, by omega, q1, d1, Rg.refl _ _ _⟩
  rintro _ g ⟨i, m, ys, rfl, hi1, hi2, hm, q, D, R⟩
  have hlen := R.len
  by_cases hi : i ≤ a + l / 4 * 2 + 1
  · simp (disch := omega) only [dm_t, wS, simprocAttr, IntKind.bits]
    refine (Next_ok q (by omega)).k ?_
    rintro _ g2 ⟨m2, rfl, hm2, q2, f2⟩
    have d2 := D.at' hps f2 hp
    obtain ⟨r, hr, hr2⟩ := and_mod m2 hk1 hm2
    have hr' : (((BitVec.ofInt (IntKind.bits .u64) (m2 : Int) &&& BitVec.ofInt (IntKind.bits .u64) (((2 ^ k : Nat) : Int) - 1)).toNat : Nat) : Int) = (r : Int) := hr
    simp only [IntKind.bits] at hr'
    have h2k : 2 ^ k ≤ 2 * l := by
      cases k with
      | zero => simp at hk2; omega
      | succ k' => rw [Nat.pow_succ] at hk3 ⊢; omega
    generalize hQ0 : lq1 _ _ _ _ _ _ _ = Q0
    have fin : ∀ o : Nat, o < l → vc Try.prog c90_s6 (blockQ 1 (seqQ Try.prog [0, 1, 8, 9, 10, 11] c90_s7 Q0)) [(0, sv), (1, .int .i64 (a : Int)), (8, .int .i64 (l : Int)), (9, .pointer (some ⟨p, 0, none⟩)), (10, .int .u64 ((2 ^ k : Nat) : Int)), (11, .int .i64 (i : Int)), (12, .int .i64 (o : Int))] g2 := by
      intro o ho
      rw [← hQ0]
      obtain ⟨b1, o1, i1, t1⟩ := d2.at (i := i) (by omega) rfl
      obtain ⟨b2, o2, i2, t2⟩ := d2.at (i := a + o) (by omega) (e := (a : Int) + (o : Int)) (by omega)
      simp (disch := omega) only [dm_t, wS, simprocAttr, IntKind.bits, i1, t1, i2, t2]
      refine ⟨(d2.gd (i := a + o) (by omega)).len, d2.st2 (i := i) (by omega) rfl i1 (d2.gd (i := a + o) (by omega)) fun g4 D4 f4 => ?_⟩
      simp (disch := omega) only [dm_t, wS, simprocAttr, IntKind.bits, i1, i2]
      refine ⟨(d2.gd (i := i) (by omega)).len, D4.st2 (i := a + o) (by rw [List.length_set]; omega) (by omega) i2 (d2.gd (i := i) (by omega)) fun g5 D5 f5 => ?_⟩
      simp (disch := omega) only [dm_t, wS, simprocAttr, IntKind.bits]
      exact ⟨⟨i + 1, m2, _, by simp, by omega, by omega, hm2, f5 _ _ (f4 _ _ q2 hps) hps, D5, R.trans (Rg.swp (by omega) (by omega) (by omega) (by omega) (by omega))⟩, by simp [m1]; omega⟩
    by_cases hrl : r < l
    · have t := fin r hrl
      revert t
      simp (disch := omega) only [dm_t, wS, simprocAttr, IntKind.bits, hr']
      exact id
    · have t := fin (r - l) (by omega)
      have e : ((r - l : Nat) : Int) = (r : Int) - (l : Int) := by omega
      revert t
      rw [e]
      simp (disch := omega) only [dm_t, wS, simprocAttr, IntKind.bits, hr']
      exact id
  · simp (disch := omega) only [dm_t, wS, simprocAttr, IntKind.bits]
    exact ⟨ys, D, R⟩
end Go.Proofs.Ythhofmjhnjkcfaa.so
