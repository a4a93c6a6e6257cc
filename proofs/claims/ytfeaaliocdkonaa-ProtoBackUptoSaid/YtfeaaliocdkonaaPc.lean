/-
  wire: what a reader's calls do.
-/
import Derived.Test.YtfeaaliocdkonaaWi1
import Derived.Test.YtfeaaliocdkonaaKE
namespace Go.Proofs.Ytfeaaliocdkonaa.wi
open Go.Proofs.Ytfeaaliocdkonaa
set_option linter.unusedVariables false
set_option linter.unusedSimpArgs false

/-- A reader in memory: its block, its slice, its bytes, where it stands. -/
structure Rd (h : H) (b : Nat) (s : Value) (l : List UInt8) (at' : Nat) : Prop where
  obj : h b = some (.cells #[s, .int .i64 at', .bool true] 134)
  sl : By (fun y => y = b) h s l
  le : at' ≤ l.length
  big : l.length ≤ 140737488355328
theorem Rd.ext {h h' : H} {b : Nat} {s : Value} {l : List UInt8} {k : Nat} (r : Rd h b s l k) (e : Ext h h') : Rd h' b s l k := ⟨e.at r.1, r.2.ext e, r.3, r.4⟩
/-- What was done since it was there touched nothing of it but where it stands. -/
theorem Rd.step {h h' h'' : H} {b : Nat} {s : Value} {l : List UInt8} {k k0 : Nat} {T : Nat → Prop} (r0 : Rd h b s l k0) (r : Rd h' b s l k) (f : Fr (fun y => y = b) h h'') (g : Fr T h' h'') (hb : ¬ T b) : Rd h'' b s l k :=
  ⟨g _ _ r.1 hb, r0.2.fr f fun _ h => h, r.3, r.4⟩
theorem Rd.there {h : H} {b : Nat} {s : Value} {l : List UInt8} {k : Nat} (r : Rd h b s l k) : h b ≠ none := by rw [r.1]; simp
/-- It stands elsewhere. -/
theorem Rd.move {h : H} {b : Nat} {l : List UInt8} {k k' : Nat} {s : Value} (hb : h b = some (.cells #[s, .int .i64 k, .bool true] 134)) (hs : By (fun y => y = b) h s l) (hk : k' ≤ l.length) (hl : l.length ≤ 140737488355328) (v : Int) (hv : v = k') :
    Rd (hupd h b (.cells #[s, .int .i64 v, .bool true] 134)) b s l k' := by
  subst hv
  exact ⟨hupd_same _ _ _, hs.fr (Fr.upd (S := fun y => y = b) rfl _) fun _ h => h, hk, hl⟩
/-- There is none. -/
def NoRd (h : H) (v : Value) : Prop := v = .pointer none ∨ ∃ b s a, v = .pointer (some ⟨b, 0, none⟩) ∧ h b = some (.cells #[s, a, .bool false] 134)
theorem NoRd.ext {h h' : H} {v : Value} (r : NoRd h v) (e : Ext h h') : NoRd h' v := r.imp id fun ⟨b, s, a, h1, h2⟩ => ⟨b, s, a, h1, e.at h2⟩

theorem none_ok {h : H} {b : Nat} {s : Value} {k : Int} (r : h b = some (.cells #[s, .int .i64 k, .bool true] 134)) : Ok Try.prog 87 #[.pointer (some ⟨b, 0, none⟩)] h fun v h' => v = .bool false ∧ h = h' := by
  refine c87_ok (args := [_]) (by simp) ?_
  simp (disch := omega) only [dm_t, wS, simprocAttr, IntKind.bits, cellAt_of r]
theorem none_no {h : H} {v : Value} (r : NoRd h v) : Ok Try.prog 87 #[v] h fun v h' => v = .bool true ∧ h = h' := by
  rcases r with rfl | ⟨b, s, a, rfl, r⟩
  · refine c87_ok (args := [_]) (by simp) ?_
    simp (disch := omega) only [dm_t, wS, simprocAttr, IntKind.bits]
  · refine c87_ok (args := [_]) (by simp) ?_
    simp (disch := omega) only [dm_t, wS, simprocAttr, IntKind.bits, cellAt_of r]

theorem number_ok {h : H} {b : Nat} {s : Value} {l : List UInt8} {k : Nat} (r : Rd h b s l k) (n : Nat) (hn : n ≤ 8) (hl : k + n ≤ l.length) :
    Ok Try.prog 78 #[.pointer (some ⟨b, 0, none⟩), .int .i64 (n : Int)] h fun v h' => v = .tuple #[.int .u64 (num ((l.drop k).take n) : Nat), .int .i64 0] ∧ Rd h' b s l (k + n) ∧ Fr (fun y => y = b) h h' := by
  obtain ⟨r1, r2, r3, r4⟩ := r
  obtain ⟨sa, sc, rfl⟩ := r2.len
  refine c78_ok (args := [_, _]) (by simp) ?_
  simp (disch := omega) only [dm_t, wS, simprocAttr, IntKind.bits]
  refine (none_ok r1).k ?_
  rintro _ _ ⟨rfl, rfl⟩
  simp (disch := omega) only [dm_t, wS, simprocAttr, IntKind.bits, cellAt_of r1]
  have hw : ((l.drop k).take n).length = n := by rw [List.length_take, List.length_drop]; omega
  refine vc_loop2 (fun vx vi h' => h' = h ∧ ∃ i : Nat, i ≤ n ∧ vx = .int .u64 (num (((l.drop k).take n).drop i) : Nat) ∧ vi = .int .i64 ((i : Int) - 1)) (fun _ vi _ => mp vi) ?_ ?_
  · simp (disch := omega) only [dm_t, wS, simprocAttr, IntKind.bits]
    exact ⟨n, by omega, by rw [List.drop_eq_nil_of_le (by omega)]; rfl, rfl⟩
  rintro _ _ _ ⟨rfl, i, hi, rfl, rfl⟩
  by_cases hi0 : 0 < i
  · obtain ⟨j, rfl⟩ : ∃ j, i = j + 1 := ⟨i - 1, by omega⟩
    have hnum : num (((l.drop k).take n).drop j) = l[k + j].toNat + 256 * num (((l.drop k).take n).drop (j + 1)) := by
      rw [List.drop_eq_getElem_cons (by omega), num]
      simp
    have hx := num_lt (((l.drop k).take n).drop (j + 1))
    have hlen : (((l.drop k).take n).drop (j + 1)).length ≤ 7 := by rw [List.length_drop]; omega
    have hx7 : num (((l.drop k).take n).drop (j + 1)) < 256 ^ 7 := Nat.lt_of_lt_of_le hx (Nat.pow_le_pow_right (by decide) hlen)
    have hbl := (l[k + j]).toNat_lt
    generalize num (((l.drop k).take n).drop (j + 1)) = x at hnum hx7 ⊢
    simp (disch := omega) only [dm_t, wS, simprocAttr, IntKind.bits, cellAt_of r1]
    refine r2.at (k + j) (by omega) (by omega) ?_
    intro pb po g2
    simp (disch := omega) only [dm_t, wS, simprocAttr, IntKind.bits, g2]
    refine ⟨⟨j, by omega, by rw [hnum]; exact congrArg (fun n : Nat => Value.int .u64 (n : Int)) (or_byte x _ hbl hx7), by simp⟩, by simp [mp]⟩
  · obtain rfl : i = 0 := by omega
    simp (disch := omega) only [dm_t, wS, simprocAttr, IntKind.bits, cellAt_of r1, storeH_0 r1]
    refine ⟨rfl, Rd.move r1 r2 (by omega) r4 _ (by simp), Fr.upd (S := fun y => y = b) rfl _⟩
theorem number_more {h : H} {b : Nat} {s : Value} {l : List UInt8} {k : Nat} (r : Rd h b s l k) (n : Nat) (hn : n ≤ 8) (hl : l.length < k + n) :
    Ok Try.prog 78 #[.pointer (some ⟨b, 0, none⟩), .int .i64 (n : Int)] h fun v h' => v = .tuple #[.int .u64 0, .int .i64 111] ∧ h = h' := by
  obtain ⟨r1, r2, r3, r4⟩ := r
  obtain ⟨sa, sc, rfl⟩ := r2.len
  refine c78_ok (args := [_, _]) (by simp) ?_
  simp (disch := omega) only [dm_t, wS, simprocAttr, IntKind.bits]
  refine (none_ok r1).k ?_
  rintro _ _ ⟨rfl, rfl⟩
  simp (disch := omega) only [dm_t, wS, simprocAttr, IntKind.bits, cellAt_of r1]
theorem number_no {h : H} {v : Value} (r : NoRd h v) (n : Value) : Ok Try.prog 78 #[v, n] h fun v h' => v = .tuple #[.int .u64 0, .int .i64 1] ∧ h = h' := by
  refine c78_ok (args := [_, _]) (by simp) ?_
  simp (disch := omega) only [dm_t, wS, simprocAttr, IntKind.bits]
  refine (none_no r).k ?_
  rintro _ _ ⟨rfl, rfl⟩
  simp (disch := omega) only [dm_t, wS, simprocAttr, IntKind.bits]

theorem U8_ok {h : H} {b : Nat} {s : Value} {l : List UInt8} {k : Nat} (r : Rd h b s l k) (hl : k + 1 ≤ l.length) :
    Ok Try.prog 62 #[.pointer (some ⟨b, 0, none⟩)] h fun v h' => v = .tuple #[.int .u8 (num ((l.drop k).take 1) : Nat), .int .i64 0] ∧ Rd h' b s l (k + 1) ∧ Fr (fun y => y = b) h h' := by
  refine c62_ok (args := [_]) (by simp) ?_
  have hx := num_lt ((l.drop k).take 1)
  have hw : ((l.drop k).take 1).length = 1 := by rw [List.length_take, List.length_drop]; omega
  rw [hw] at hx
  simp (disch := omega) only [dm_t, wS, simprocAttr, IntKind.bits]
  refine (number_ok r 1 (by omega) hl).k ?_
  rintro _ h' ⟨rfl, h1, h2⟩
  simp (disch := omega) only [dm_t, wS, simprocAttr, IntKind.bits]
  exact ⟨h1, h2⟩
theorem U8_more {h : H} {b : Nat} {s : Value} {l : List UInt8} {k : Nat} (r : Rd h b s l k) (hl : l.length < k + 1) :
    Ok Try.prog 62 #[.pointer (some ⟨b, 0, none⟩)] h fun v h' => v = .tuple #[.int .u8 0, .int .i64 111] ∧ h = h' := by
  refine c62_ok (args := [_]) (by simp) ?_
  simp (disch := omega) only [dm_t, wS, simprocAttr, IntKind.bits]
  refine (number_more r 1 (by omega) hl).k ?_
  rintro _ _ ⟨rfl, rfl⟩
  simp (disch := omega) only [dm_t, wS, simprocAttr, IntKind.bits]
theorem U8_no {h : H} {v : Value} (r : NoRd h v) : Ok Try.prog 62 #[v] h fun v h' => v = .tuple #[.int .u8 0, .int .i64 1] ∧ h = h' := by
  refine c62_ok (args := [_]) (by simp) ?_
  simp (disch := omega) only [dm_t, wS, simprocAttr, IntKind.bits]
  refine (number_no r _).k ?_
  rintro _ _ ⟨rfl, rfl⟩
  simp (disch := omega) only [dm_t, wS, simprocAttr, IntKind.bits]

theorem U16_ok {h : H} {b : Nat} {s : Value} {l : List UInt8} {k : Nat} (r : Rd h b s l k) (hl : k + 2 ≤ l.length) :
    Ok Try.prog 65 #[.pointer (some ⟨b, 0, none⟩)] h fun v h' => v = .tuple #[.int .u16 (num ((l.drop k).take 2) : Nat), .int .i64 0] ∧ Rd h' b s l (k + 2) ∧ Fr (fun y => y = b) h h' := by
  refine c65_ok (args := [_]) (by simp) ?_
  have hx := num_lt ((l.drop k).take 2)
  have hw : ((l.drop k).take 2).length = 2 := by rw [List.length_take, List.length_drop]; omega
  rw [hw] at hx
  simp (disch := omega) only [dm_t, wS, simprocAttr, IntKind.bits]
  refine (number_ok r 2 (by omega) hl).k ?_
  rintro _ h' ⟨rfl, h1, h2⟩
  simp (disch := omega) only [dm_t, wS, simprocAttr, IntKind.bits]
  exact ⟨h1, h2⟩
theorem U16_more {h : H} {b : Nat} {s : Value} {l : List UInt8} {k : Nat} (r : Rd h b s l k) (hl : l.length < k + 2) :
    Ok Try.prog 65 #[.pointer (some ⟨b, 0, none⟩)] h fun v h' => v = .tuple #[.int .u16 0, .int .i64 111] ∧ h = h' := by
  refine c65_ok (args := [_]) (by simp) ?_
  simp (disch := omega) only [dm_t, wS, simprocAttr, IntKind.bits]
  refine (number_more r 2 (by omega) hl).k ?_
  rintro _ _ ⟨rfl, rfl⟩
  simp (disch := omega) only [dm_t, wS, simprocAttr, IntKind.bits]
theorem U16_no {h : H} {v : Value} (r : NoRd h v) : Ok Try.prog 65 #[v] h fun v h' => v = .tuple #[.int .u16 0, .int .i64 1] ∧ h = h' := by
  refine c65_ok (args := [_]) (by simp) ?_
  simp (disch := omega) only [dm_t, wS, simprocAttr, IntKind.bits]
  refine (number_no r _).k ?_
  rintro _ _ ⟨rfl, rfl⟩
  simp (disch := omega) only [dm_t, wS, simprocAttr, IntKind.bits]

theorem U32_ok {h : H} {b : Nat} {s : Value} {l : List UInt8} {k : Nat} (r : Rd h b s l k) (hl : k + 4 ≤ l.length) :
    Ok Try.prog 54 #[.pointer (some ⟨b, 0, none⟩)] h fun v h' => v = .tuple #[.int .u32 (num ((l.drop k).take 4) : Nat), .int .i64 0] ∧ Rd h' b s l (k + 4) ∧ Fr (fun y => y = b) h h' := by
  refine c54_ok (args := [_]) (by simp) ?_
  have hx := num_lt ((l.drop k).take 4)
  have hw : ((l.drop k).take 4).length = 4 := by rw [List.length_take, List.length_drop]; omega
  rw [hw] at hx
  simp (disch := omega) only [dm_t, wS, simprocAttr, IntKind.bits]
  refine (number_ok r 4 (by omega) hl).k ?_
  rintro _ h' ⟨rfl, h1, h2⟩
  simp (disch := omega) only [dm_t, wS, simprocAttr, IntKind.bits]
  exact ⟨h1, h2⟩
theorem U32_more {h : H} {b : Nat} {s : Value} {l : List UInt8} {k : Nat} (r : Rd h b s l k) (hl : l.length < k + 4) :
    Ok Try.prog 54 #[.pointer (some ⟨b, 0, none⟩)] h fun v h' => v = .tuple #[.int .u32 0, .int .i64 111] ∧ h = h' := by
  refine c54_ok (args := [_]) (by simp) ?_
  simp (disch := omega) only [dm_t, wS, simprocAttr, IntKind.bits]
  refine (number_more r 4 (by omega) hl).k ?_
  rintro _ _ ⟨rfl, rfl⟩
  simp (disch := omega) only [dm_t, wS, simprocAttr, IntKind.bits]
theorem U32_no {h : H} {v : Value} (r : NoRd h v) : Ok Try.prog 54 #[v] h fun v h' => v = .tuple #[.int .u32 0, .int .i64 1] ∧ h = h' := by
  refine c54_ok (args := [_]) (by simp) ?_
  simp (disch := omega) only [dm_t, wS, simprocAttr, IntKind.bits]
  refine (number_no r _).k ?_
  rintro _ _ ⟨rfl, rfl⟩
  simp (disch := omega) only [dm_t, wS, simprocAttr, IntKind.bits]

def sgn64 (x : Nat) : Int := if x < 9223372036854775808 then (x : Int) else (x : Int) - 18446744073709551616
theorem wrap_sgn (x : Nat) (hx : x < 2 ^ 64) : IntKind.i64.wrap (x : Int) = sgn64 x := by
  rw [wrap64i, sgn64]; split <;> split <;> omega
theorem bits_wrap (x : Nat) (hx : x < 2 ^ 64) : bits64 (IntKind.i64.wrap (x : Int)) = x := by
  rw [wrap64i]; unfold bits64; split <;> omega
theorem bits_sgn (x : Nat) (hx : x < 2 ^ 64) : bits64 (sgn64 x) = x := by rw [← wrap_sgn x hx, bits_wrap x hx]
theorem I64_ok {h : H} {b : Nat} {s : Value} {l : List UInt8} {k : Nat} (r : Rd h b s l k) (hl : k + 8 ≤ l.length) :
    Ok Try.prog 68 #[.pointer (some ⟨b, 0, none⟩)] h fun v h' => v = .tuple #[.int .i64 (sgn64 (num ((l.drop k).take 8))), .int .i64 0] ∧ Rd h' b s l (k + 8) ∧ Fr (fun y => y = b) h h' := by
  refine c68_ok (args := [_]) (by simp) ?_
  have hx := num_lt ((l.drop k).take 8)
  have hw : ((l.drop k).take 8).length = 8 := by rw [List.length_take, List.length_drop]; omega
  rw [hw] at hx
  simp (disch := omega) only [dm_t, wS, simprocAttr, IntKind.bits]
  refine (number_ok r 8 (by omega) hl).k ?_
  rintro _ h' ⟨rfl, h1, h2⟩
  simp (disch := omega) only [dm_t, wS, simprocAttr, IntKind.bits, wrap_sgn _ hx]
  exact ⟨h1, h2⟩
theorem I64_more {h : H} {b : Nat} {s : Value} {l : List UInt8} {k : Nat} (r : Rd h b s l k) (hl : l.length < k + 8) :
    Ok Try.prog 68 #[.pointer (some ⟨b, 0, none⟩)] h fun v h' => v = .tuple #[.int .i64 0, .int .i64 111] ∧ h = h' := by
  refine c68_ok (args := [_]) (by simp) ?_
  simp (disch := omega) only [dm_t, wS, simprocAttr, IntKind.bits]
  refine (number_more r 8 (by omega) hl).k ?_
  rintro _ _ ⟨rfl, rfl⟩
  simp (disch := omega) only [dm_t, wS, simprocAttr, IntKind.bits]
theorem I64_no {h : H} {v : Value} (r : NoRd h v) : Ok Try.prog 68 #[v] h fun v h' => v = .tuple #[.int .i64 0, .int .i64 1] ∧ h = h' := by
  refine c68_ok (args := [_]) (by simp) ?_
  simp (disch := omega) only [dm_t, wS, simprocAttr, IntKind.bits]
  refine (number_no r _).k ?_
  rintro _ _ ⟨rfl, rfl⟩
  simp (disch := omega) only [dm_t, wS, simprocAttr, IntKind.bits]

theorem End_ok {h : H} {b : Nat} {s : Value} {l : List UInt8} {k : Nat} (r : Rd h b s l k) :
    Ok Try.prog 82 #[.pointer (some ⟨b, 0, none⟩)] h fun v h' => v = .int .i64 (if k = l.length then 0 else 112) ∧ h = h' := by
  obtain ⟨r1, r2, r3, r4⟩ := r
  obtain ⟨sa, sc, rfl⟩ := r2.len
  refine c82_ok (args := [_]) (by simp) ?_
  simp (disch := omega) only [dm_t, wS, simprocAttr, IntKind.bits]
  refine (none_ok r1).k ?_
  rintro _ _ ⟨rfl, rfl⟩
  by_cases hk : k = l.length
  · simp (disch := omega) only [dm_t, wS, simprocAttr, IntKind.bits, cellAt_of r1, hk]
  · simp (disch := omega) only [dm_t, wS, simprocAttr, IntKind.bits, cellAt_of r1, hk]
theorem End_no {h : H} {v : Value} (r : NoRd h v) : Ok Try.prog 82 #[v] h fun v h' => v = .int .i64 1 ∧ h = h' := by
  refine c82_ok (args := [_]) (by simp) ?_
  simp (disch := omega) only [dm_t, wS, simprocAttr, IntKind.bits]
  refine (none_no r).k ?_
  rintro _ _ ⟨rfl, rfl⟩
  simp (disch := omega) only [dm_t, wS, simprocAttr, IntKind.bits]
theorem New_ok {h : H} {v : Value} {l : List UInt8} (hv : By nos h v l) (hl : l.length ≤ 140737488355328) :
    Ok Try.prog 53 #[v] h fun v h' => ∃ c s, v = .pointer (some ⟨c, 0, none⟩) ∧ h c = none ∧ Rd h' c s l 0 ∧ Ext h h' := by
  refine c53_ok (args := [_]) (by simp) ?_
  simp (disch := omega) only [dm_t, wS, simprocAttr, IntKind.bits]
  refine (clone_ok hv hl).k ?_
  rintro w h1 ⟨ho, e⟩
  obtain ⟨sa, sc, rfl⟩ := ho.s0.len
  simp (disch := omega) only [dm_t, wS, simprocAttr, IntKind.bits]
  intro c hc
  have hs := ho.s0.mono (T := fun y => y = c) (fun x o hx hxc => by rw [hxc, hc] at hx; cases hx)
  exact ⟨c, _, rfl, e.bk hc, ⟨hupd_same _ _ _, hs.fr (Fr.upd (S := fun y => y = c) rfl _) fun _ h => h, by omega, hl⟩, e.trans (Ext.new hc _)⟩
/-- What stands at a place, read as a string: its bytes and what is behind, or an error. -/
def rdStr (l : List UInt8) (k : Nat) (most : Int) : Except Int (List UInt8 × Nat) :=
  if l.length < k + 4 then .error 111
  else if most < num ((l.drop k).take 4) then .error 110
  else if l.length < k + 4 + num ((l.drop k).take 4) then .error 111
  else .ok ((l.drop (k + 4)).take (num ((l.drop k).take 4)), k + 4 + num ((l.drop k).take 4))
-- @if String
theorem String_no {h : H} {v : Value} (r : NoRd h v) (n : Value) : Ok Try.prog 84 #[v, n] h fun v h' => v = .tuple #[.slice none 0 0, .int .i64 1] ∧ h = h' := by
  refine c84_ok (args := [_, _]) (by simp) ?_
  simp (disch := omega) only [dm_t, wS, simprocAttr, IntKind.bits]
  refine (none_no r).k ?_
  rintro _ _ ⟨rfl, rfl⟩
  simp (disch := omega) only [dm_t, wS, simprocAttr, IntKind.bits]
theorem String_neg {h : H} {b : Nat} {s : Value} {l : List UInt8} {k : Nat} (r : Rd h b s l k) (most : Int) (hm : most < 0) :
    Ok Try.prog 84 #[.pointer (some ⟨b, 0, none⟩), .int .i64 most] h fun v h' => v = .tuple #[.slice none 0 0, .int .i64 2] ∧ h = h' := by
  obtain ⟨r1, r2, r3, r4⟩ := r
  refine c84_ok (args := [_, _]) (by simp) ?_
  simp (disch := omega) only [dm_t, wS, simprocAttr, IntKind.bits]
  refine (none_ok r1).k ?_
  rintro _ _ ⟨rfl, rfl⟩
  simp (disch := omega) only [dm_t, wS, simprocAttr, IntKind.bits]
theorem String_ok {h : H} {b : Nat} {s : Value} {l : List UInt8} {k : Nat} (r : Rd h b s l k) (most : Int) (hm : 0 ≤ most) (hm' : most ≤ 9223372036854775807) :
    Ok Try.prog 84 #[.pointer (some ⟨b, 0, none⟩), .int .i64 most] h fun v h' => (match rdStr l k most with
      | .ok (x, k') => ∃ w, v = .tuple #[w, .int .i64 0] ∧ OwB (fun y => h y = none) h' 5 w x ∧ Rd h' b s l k'
      | .error e => v = .tuple #[.slice none 0 0, .int .i64 e] ∧ Rd h' b s l k) ∧ Fr (fun y => y = b) h h' := by
  have r0 := r
  obtain ⟨r1, r2, r3, r4⟩ := r
  obtain ⟨sa, sc, rfl⟩ := r2.len
  have hsc := r2.cap
  refine c84_ok (args := [_, _]) (by simp) ?_
  simp (disch := omega) only [dm_t, wS, simprocAttr, IntKind.bits]
  refine (none_ok r1).k ?_
  rintro _ _ ⟨rfl, rfl⟩
  simp (disch := omega) only [dm_t, wS, simprocAttr, IntKind.bits, cellAt_of r1]
  by_cases h4 : l.length < k + 4
  · refine (number_more r0 4 (by omega) h4).k ?_
    rintro _ _ ⟨rfl, rfl⟩
    simp (disch := omega) only [dm_t, wS, simprocAttr, IntKind.bits]
    rw [rdStr, if_pos h4]
    exact ⟨⟨rfl, r0⟩, Fr.refl _ _⟩
  refine (number_ok r0 4 (by omega) (by omega)).k ?_
  rintro _ h1 ⟨rfl, q0, f1⟩
  have hx := num_lt ((l.drop k).take 4)
  rw [show ((l.drop k).take 4).length = 4 by rw [List.length_take, List.length_drop]; omega] at hx
  rw [rdStr, if_neg h4]
  generalize num ((l.drop k).take 4) = n at hx ⊢
  obtain ⟨q1, q2, q3, q4⟩ := q0
  by_cases h5 : most < n
  · simp (disch := omega) only [dm_t, wS, simprocAttr, IntKind.bits, cellAt_of q1, storeH_0 q1]
    rw [if_pos h5]
    exact ⟨⟨rfl, Rd.move q1 q2 r3 q4 _ rfl⟩, f1.trans (Fr.upd (S := fun y => y = b) rfl _)⟩
  rw [if_neg h5]
  by_cases h6 : l.length < k + 4 + n
  · simp (disch := omega) only [dm_t, wS, simprocAttr, IntKind.bits, cellAt_of q1, storeH_0 q1]
    rw [if_pos h6]
    exact ⟨⟨rfl, Rd.move q1 q2 r3 q4 _ rfl⟩, f1.trans (Fr.upd (S := fun y => y = b) rfl _)⟩
  rw [if_neg h6]
  simp (disch := omega) only [dm_t, wS, simprocAttr, IntKind.bits, cellAt_of q1, storeH_0 q1]
  have q5 := Rd.move (k' := k + 4 + n) q1 q2 (by omega) q4 (((k + 4 : Nat) : Int) + n) (by simp)
  have f2 := f1.trans (Fr.upd (h := h1) (S := fun y => y = b) rfl (.cells #[.slice sa l.length sc, .int .i64 (((k + 4 : Nat) : Int) + n), .bool true] 134))
  have q2' := q2.fr (Fr.upd (h := h1) (S := fun y => y = b) rfl (.cells #[.slice sa l.length sc, .int .i64 (((k + 4 : Nat) : Int) + n), .bool true] 134)) fun _ h => h
  simp (disch := omega) only [dm_t, wS, simprocAttr, IntKind.bits, cellAt_same]
  refine By.cutK q2' (k + 4) (k + 4 + n) (k + 4 + n) (by omega) (by omega) (by omega) (by omega) (.inl rfl) ?_
  intro w hw
  rw [Nat.add_sub_cancel_left] at hw
  simp (disch := omega) only [dm_t, wS, simprocAttr, IntKind.bits, cellAt_same]
  refine (clone_ok hw.nos (by rw [List.length_take, List.length_drop]; omega)).k ?_
  rintro w' h3 ⟨ho, e3⟩
  simp (disch := omega) only [dm_t, wS, simprocAttr, IntKind.bits, cellAt_of (e3.at (hupd_same _ _ _))]
  refine ⟨⟨_, rfl, ho.mono fun x o _ hx => f2.back hx ?_, q5.ext e3⟩, f2.trans (e3.mono fun _ h => h.elim)⟩
  rintro y rfl
  rw [hupd_same]; simp
/-- Strings behind one another. -/
def rdStrs (l : List UInt8) (most : Int) : Nat → Nat → Except Int (List (List UInt8) × Nat)
  | 0, k => .ok ([], k)
  | n + 1, k => match rdStr l k most with
    | .error e => .error e
    | .ok (s, k') => match rdStrs l most n k' with
      | .error e => .error e
      | .ok (r, k'') => .ok (s :: r, k'')
def rdList (l : List UInt8) (k : Nat) (items most : Int) : Except Int (List (List UInt8) × Nat) :=
  if l.length < k + 4 then .error 111
  else if items < num ((l.drop k).take 4) then .error 110
  else rdStrs l most (num ((l.drop k).take 4)) (k + 4)
end Go.Proofs.Ytfeaaliocdkonaa.wi
