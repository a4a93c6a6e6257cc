/-
  groups: the reader's calls; numbers as the document reads and writes them.
-/
import Derived.Test.YthhofmjhnjkcfaaWi1
import Derived.Test.YthhofmjhnjkcfaaKM
namespace Go.Proofs.Ythhofmjhnjkcfaa.wi
open Go.Proofs.Ythhofmjhnjkcfaa
set_option linter.unusedVariables false
set_option linter.unusedSimpArgs false
/-- A reader in memory: its block, its slice, its bytes, where it stands. -/
structure Rd (h : H) (b : Nat) (s : Value) (l : List UInt8) (at' : Nat) : Prop where
  obj : h b = some (.cells #[s, .int .i64 at', .bool true] 123)
  sl : By (fun y => y = b) h s l
  le : at' ≤ l.length
  big : l.length ≤ 140737488355328
theorem Rd.ext {h h' : H} {b : Nat} {s : Value} {l : List UInt8} {k : Nat} (r : Rd h b s l k) (e : Ext h h') : Rd h' b s l k := ⟨e.at r.1, r.2.ext e, r.3, r.4⟩
/-- What was done since it was there touched nothing of it but where it stands. -/
theorem Rd.step {h h' h'' : H} {b : Nat} {s : Value} {l : List UInt8} {k k0 : Nat} {T : Nat → Prop} (r0 : Rd h b s l k0) (r : Rd h' b s l k) (f : Fr (fun y => y = b) h h'') (g : Fr T h' h'') (hb : ¬ T b) : Rd h'' b s l k :=
  ⟨g _ _ r.1 hb, r0.2.fr f fun _ h => h, r.3, r.4⟩
theorem Rd.there {h : H} {b : Nat} {s : Value} {l : List UInt8} {k : Nat} (r : Rd h b s l k) : h b ≠ none := by rw [r.1]; simp
/-- It stands elsewhere. -/
theorem Rd.move {h : H} {b : Nat} {l : List UInt8} {k k' : Nat} {s : Value} (hb : h b = some (.cells #[s, .int .i64 k, .bool true] 123)) (hs : By (fun y => y = b) h s l) (hk : k' ≤ l.length) (hl : l.length ≤ 140737488355328) (v : Int) (hv : v = k') :
    Rd (hupd h b (.cells #[s, .int .i64 v, .bool true] 123)) b s l k' := by
  subst hv
  exact ⟨hupd_same _ _ _, hs.fr (Fr.upd (S := fun y => y = b) rfl _) fun _ h => h, hk, hl⟩
theorem none_ok {h : H} {b : Nat} {s : Value} {k : Int} (r : h b = some (.cells #[s, .int .i64 k, .bool true] 123)) : Ok Try.prog 81 #[.pointer (some ⟨b, 0, none⟩)] h fun v h' => v = .bool false ∧ h = h' := by
  refine c81_ok (args := [_]) (by simp) ?_
  simp (disch := omega) only [dm_t, wS, simprocAttr, IntKind.bits, cellAt_of r]
theorem number_ok {h : H} {b : Nat} {s : Value} {l : List UInt8} {k : Nat} (r : Rd h b s l k) (n : Nat) (hn : n ≤ 8) (hl : k + n ≤ l.length) :
    Ok Try.prog 70 #[.pointer (some ⟨b, 0, none⟩), .int .i64 (n : Int)] h fun v h' => v = .tuple #[.int .u64 (num ((l.drop k).take n) : Nat), .int .i64 0] ∧ Rd h' b s l (k + n) ∧ Fr (fun y => y = b) h h' := by
  obtain ⟨r1, r2, r3, r4⟩ := r
  obtain ⟨sa, sc, rfl⟩ := r2.len
  refine c70_ok (args := [_, _]) (by simp) ?_
  simp (disch := omega) only [dm_t, wS, simprocAttr, IntKind.bits]
  refine (none_ok r1).k ?_
  rintro _ _ ⟨rfl, rfl⟩
  simp (disch := omega) only [dm_t, wS, simprocAttr, IntKind.bits, cellAt_of r1]
  have hw : ((l.drop k).take n).length = n := by rw [List.length_take, List.length_drop]; omega
  refine vc_loop2 (fun vx vi h' => h' = h ∧ ∃ i : Nat, i ≤ n ∧ vx = .int .u64 (num (((l.drop k).take n).drop i) : Nat) ∧ vi = .int .i64 ((i : Int) - 1)) (fun _ vi _ => mp vi) ?_ ?_
  · simp (disch := omega) only [dm_t, wS, simprocAttr, IntKind.bits]
    exact ⟨n, by omega, by rw [List.drop_eq_nil_of_le (by omega)]; rfl, rfl⟩
  rintro _ _ _ ⟨rfl, i, hi, rfl, rfl⟩
  by_cases hi0 : 0 < i
  · obtain ⟨j, rfl⟩ : ∃ j, i = j + 1 := ⟨i - 1, by omega⟩
    have hnum : num (((l.drop k).take n).drop j) = l[k + j].toNat + 256 * num (((l.drop k).take n).drop (j + 1)) := by
      rw [List.drop_eq_getElem_cons (by omega), num]
      simp
    have hx := num_lt (((l.drop k).take n).drop (j + 1))
    have hlen : (((l.drop k).take n).drop (j + 1)).length ≤ 7 := by rw [List.length_drop]; omega
    have hx7 : num (((l.drop k).take n).drop (j + 1)) < 256 ^ 7 := Nat.lt_of_lt_of_le hx (Nat.pow_le_pow_right (by decide) hlen)
    have hbl := (l[k + j]).toNat_lt
    generalize num (((l.drop k).take n).drop (j + 1)) = x at hnum hx7 ⊢
    simp (disch := omega) only [dm_t, wS, simprocAttr, IntKind.bits, cellAt_of r1]
    refine r2.at (k + j) (by omega) (by omega) ?_
    intro pb po g2
    simp (disch := omega) only [dm_t, wS, simprocAttr, IntKind.bits, g2]
    refine ⟨⟨j, by omega, by rw [hnum]; exact congrArg (fun n : Nat => Value.int .u64 (n : Int)) (or_byte x _ hbl hx7), by simp⟩, by simp [mp]⟩
  · obtain rfl : i = 0 := by omega
    simp (disch := omega) only [dm_t, wS, simprocAttr, IntKind.bits, cellAt_of r1, storeH_0 r1]
    refine ⟨rfl, Rd.move r1 r2 (by omega) r4 _ (by simp), Fr.upd (S := fun y => y = b) rfl _⟩
theorem U16_ok {h : H} {b : Nat} {s : Value} {l : List UInt8} {k : Nat} (r : Rd h b s l k) (hl : k + 2 ≤ l.length) :
    Ok Try.prog 40 #[.pointer (some ⟨b, 0, none⟩)] h fun v h' => v = .tuple #[.int .u16 (num ((l.drop k).take 2) : Nat), .int .i64 0] ∧ Rd h' b s l (k + 2) ∧ Fr (fun y => y = b) h h' := by
  refine c40_ok (args := [_]) (by simp) ?_
  have hx := num_lt ((l.drop k).take 2)
  have hw : ((l.drop k).take 2).length = 2 := by rw [List.length_take, List.length_drop]; omega
  rw [hw] at hx
  simp (disch := omega) only [dm_t, wS, simprocAttr, IntKind.bits]
  refine (number_ok r 2 (by omega) hl).k ?_
  rintro _ h' ⟨rfl, h1, h2⟩
  simp (disch := omega) only [dm_t, wS, simprocAttr, IntKind.bits]
  exact ⟨h1, h2⟩
/-- A number of 64 bits with a sign, of its bits. -/
def sgn64 (x : Nat) : Int := if x < 9223372036854775808 then (x : Int) else (x : Int) - 18446744073709551616
theorem wrap_sgn (x : Nat) (hx : x < 2 ^ 64) : IntKind.i64.wrap (x : Int) = sgn64 x := by
  rw [wrap64i, sgn64]; split <;> split <;> omega
theorem bits_wrap (x : Nat) (hx : x < 2 ^ 64) : bits64 (IntKind.i64.wrap (x : Int)) = x := by
  rw [wrap64i]; unfold bits64; split <;> omega
theorem bits_sgn (x : Nat) (hx : x < 2 ^ 64) : bits64 (sgn64 x) = x := by rw [← wrap_sgn x hx, bits_wrap x hx]
theorem I64_ok {h : H} {b : Nat} {s : Value} {l : List UInt8} {k : Nat} (r : Rd h b s l k) (hl : k + 8 ≤ l.length) :
    Ok Try.prog 41 #[.pointer (some ⟨b, 0, none⟩)] h fun v h' => v = .tuple #[.int .i64 (sgn64 (num ((l.drop k).take 8))), .int .i64 0] ∧ Rd h' b s l (k + 8) ∧ Fr (fun y => y = b) h h' := by
  refine c41_ok (args := [_]) (by simp) ?_
  have hx := num_lt ((l.drop k).take 8)
  have hw : ((l.drop k).take 8).length = 8 := by rw [List.length_take, List.length_drop]; omega
  rw [hw] at hx
  simp (disch := omega) only [dm_t, wS, simprocAttr, IntKind.bits]
  refine (number_ok r 8 (by omega) hl).k ?_
  rintro _ h' ⟨rfl, h1, h2⟩
  simp (disch := omega) only [dm_t, wS, simprocAttr, IntKind.bits, wrap_sgn _ hx]
  exact ⟨h1, h2⟩
theorem New_ok {h : H} {v : Value} {l : List UInt8} (hv : By nos h v l) (hl : l.length ≤ 140737488355328) :
    Ok Try.prog 39 #[v] h fun v h' => ∃ c s, v = .pointer (some ⟨c, 0, none⟩) ∧ h c = none ∧ Rd h' c s l 0 ∧ Ext h h' := by
  refine c39_ok (args := [_]) (by simp) ?_
  simp (disch := omega) only [dm_t, wS, simprocAttr, IntKind.bits]
  refine (clone_ok hv hl).k ?_
  rintro w h1 ⟨ho, e⟩
  obtain ⟨sa, sc, rfl⟩ := ho.s0.len
  simp (disch := omega) only [dm_t, wS, simprocAttr, IntKind.bits]
  intro c hc
  have hs := ho.s0.mono (T := fun y => y = c) (fun x o hx hxc => by rw [hxc, hc] at hx; cases hx)
  exact ⟨c, _, rfl, e.bk hc, ⟨hupd_same _ _ _, hs.fr (Fr.upd (S := fun y => y = c) rfl _) fun _ h => h, by omega, hl⟩, e.trans (Ext.new hc _)⟩
theorem Number_ok {S : Nat → Prop} {h : H} {b : Value} {l : List UInt8} (hb : By S h b l) (hl : l.length ≤ 8) : Ok Try.prog 42 #[b] h fun v h' => v = .int .u64 (num l : Nat) ∧ h = h' := by
  obtain ⟨ba, bc, rfl⟩ := hb.len
  refine c42_ok (args := [_]) (by simp) ?_
  simp (disch := omega) only [dm_t, wS, simprocAttr, IntKind.bits]
  refine vc_loop2 (fun vx vi h' => h' = h ∧ ∃ i : Nat, i ≤ l.length ∧ vx = .int .u64 (num (l.drop i) : Nat) ∧ vi = .int .i64 ((i : Int) - 1)) (fun _ vi _ => mp vi) ?_ ?_
  · simp (disch := omega) only [dm_t, wS, simprocAttr, IntKind.bits]
    exact ⟨l.length, by omega, by rw [List.drop_eq_nil_of_le (by omega)]; rfl, rfl⟩
  rintro _ _ _ ⟨rfl, i, hi, rfl, rfl⟩
  by_cases hi0 : 0 < i
  · obtain ⟨j, rfl⟩ : ∃ j, i = j + 1 := ⟨i - 1, by omega⟩
    have hnum : num (l.drop j) = l[j].toNat + 256 * num (l.drop (j + 1)) := by
      rw [List.drop_eq_getElem_cons (by omega), num]
    have hx := num_lt (l.drop (j + 1))
    have hlen : (l.drop (j + 1)).length ≤ 7 := by rw [List.length_drop]; omega
    have hx7 : num (l.drop (j + 1)) < 256 ^ 7 := Nat.lt_of_lt_of_le hx (Nat.pow_le_pow_right (by decide) hlen)
    have hbl := (l[j]).toNat_lt
    generalize num (l.drop (j + 1)) = x at hnum hx7 ⊢
    simp (disch := omega) only [dm_t, wS, simprocAttr, IntKind.bits]
    refine hb.at j (by omega) (by omega) ?_
    intro pb po g2
    simp (disch := omega) only [dm_t, wS, simprocAttr, IntKind.bits, g2]
    refine ⟨⟨j, by omega, by rw [hnum]; congr 1; omega, by simp⟩, by simp [mp]⟩
  · obtain rfl : i = 0 := by omega
    simp (disch := omega) only [dm_t, wS, simprocAttr, IntKind.bits]
    simp
theorem low_n (h : H) (x n : Nat) (hx : x < 2 ^ 64) (hn : n ≤ 8) : Ok Try.prog 47 #[.int .u64 (x : Int), .int .i64 (n : Int)] h fun v h' => OwB (fun y => h y = none) h' 5 v (low n x) ∧ Ext h h' := by
  refine c47_ok (args := [_, _]) (by simp) ?_
  simp (disch := omega) only [dm_t, wS, simprocAttr, IntKind.bits]
  refine vc_loop3 (fun vx vb vi h' => ∃ k : Nat, k ≤ n ∧ vx = .int .u64 ((x / 256 ^ k : Nat) : Int) ∧ vi = .int .i64 k ∧ OwB (fun y => h y = none) h' 5 vb (low k x) ∧ Ext h h') (fun _ _ vi _ => n - m1 vi) ?_ ?_
  · simp (disch := omega) only [dm_t, wS, simprocAttr, IntKind.bits]
    exact ⟨0, by omega, by simp, rfl, OwK.nil, Fr.refl _ _⟩
  rintro _ vb _ h2 ⟨k, hk, rfl, rfl, ho2, e2⟩
  have hxk : x / 256 ^ k ≤ x := Nat.div_le_self _ _
  have hls := low_succ k x
  have hps : x / 256 ^ (k + 1) = x / 256 ^ k / 256 := by rw [Nat.pow_succ, ← Nat.div_div_eq_div_mul]
  generalize x / 256 ^ k = y at hxk hls hps
  by_cases hlt : k < n
  · simp (disch := omega) only [dm_t, wS, simprocAttr, IntKind.bits]
    refine pushB (UInt8.ofNat y) ho2 (fun y hy => e2.bk hy) ?_ (by simp [low_len]; omega) ?_
    · exact byte_of _
    intro _ v h3 _ ho3 hf3
    simp (disch := omega) only [dm_t, wS, simprocAttr, IntKind.bits]
    refine ⟨⟨k + 1, by omega, ?_, by simp, ?_, e2.step hf3⟩, by simp [m1]; omega⟩
    · rw [hps]; rfl
    · rw [hls]; exact ho3
  · simp (disch := omega) only [dm_t, wS, simprocAttr, IntKind.bits]
    obtain rfl : k = n := by omega
    exact ⟨ho2, e2⟩
theorem Low_ok (h : H) (x : Int) (n : Nat) (hx : 0 ≤ x ∧ x ≤ 18446744073709551615) (hn : n ≤ 8) : Ok Try.prog 47 #[.int .u64 x, .int .i64 (n : Int)] h fun v h' => OwB (fun y => h y = none) h' 5 v (low n x.toNat) ∧ Ext h h' := by
  obtain ⟨m, rfl⟩ : ∃ m : Nat, x = m := ⟨x.toNat, by omega⟩
  exact low_n h m n (by omega) hn
theorem bits_pos {x : Int} (h : 0 ≤ x) (h' : x ≤ 9223372036854775807) : bits64 x = x.toNat := by unfold bits64; omega
end Go.Proofs.Ythhofmjhnjkcfaa.wi
