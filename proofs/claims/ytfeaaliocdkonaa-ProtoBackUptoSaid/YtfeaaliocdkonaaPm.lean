/-
  proto: the first frame of bytes: plain, the program's walk, the document's.
-/
import Derived.Test.YtfeaaliocdkonaaPl
namespace Go.Proofs.Ytfeaaliocdkonaa.pr
open Go.Proofs.Ytfeaaliocdkonaa rr wi
set_option linter.unusedVariables false
set_option linter.unusedSimpArgs false
def splitB (b : List UInt8) : List UInt8 := (b.drop 8).take (num (b.take 4) - 4)
def splitN (b : List UInt8) : Nat := num (b.take 4) + 4
def splitE (b : List UInt8) : Int :=
  if b.length < 4 then 111
  else if num (b.take 4) < 5 ∨ 1048572 < num (b.take 4) then 300
  else if b.length < num (b.take 4) + 4 then 111
  else if ¬ num ((b.drop 4).take 4) = (sumB (splitB b)).toNat then 300 else 0
theorem splitE_ok {b : List UInt8} (h : splitE b = 0) : 4 ≤ b.length ∧ 5 ≤ num (b.take 4) ∧ num (b.take 4) ≤ 1048572 ∧ num (b.take 4) + 4 ≤ b.length ∧ num ((b.drop 4).take 4) = (sumB (splitB b)).toNat := by
  unfold splitE at h
  split at h
  · cases h
  split at h
  · cases h
  split at h
  · cases h
  split at h
  · cases h
  · rename_i h1 h2 h3 h4
    exact ⟨by omega, by omega, by omega, by omega, Classical.not_not.1 h4⟩
theorem splitB_len {b : List UInt8} (h : splitE b = 0) : (splitB b).length + 8 = splitN b ∧ splitN b ≤ b.length ∧ splitN b ≤ 1048576 ∧ 1 ≤ (splitB b).length := by
  obtain ⟨h1, h2, h3, h4, _⟩ := splitE_ok h
  have : (splitB b).length = num (b.take 4) - 4 := by rw [splitB, List.length_take, List.length_drop]; omega
  rw [this, splitN]
  omega
theorem num4 (b : List UInt8) : num (b.take 4) < 4294967296 := by
  refine Nat.lt_of_lt_of_le (num_lt _) (Nat.pow_le_pow_right (by decide) (?_ : _ ≤ 4)); rw [List.length_take]; omega
theorem Number_ok {S : Nat → Prop} {h : H} {b : Value} {l : List UInt8} (hb : By S h b l) (hl : l.length ≤ 8) : Ok Try.prog 80 #[b] h fun v h' => v = .int .u64 (num l : Nat) ∧ h = h' := by
  obtain ⟨ba, bc, rfl⟩ := hb.len
  refine c80_ok (args := [_]) (by simp) ?_
  simp (disch := omega) only [dm_t, wS, simprocAttr, IntKind.bits]
  refine vc_loop2 (fun vx vi h' => h' = h ∧ ∃ i : Nat, i ≤ l.length ∧ vx = .int .u64 (num (l.drop i) : Nat) ∧ vi = .int .i64 ((i : Int) - 1)) (fun _ vi _ => mp vi) ?_ ?_
  · simp (disch := omega) only [dm_t, wS, simprocAttr, IntKind.bits]
    exact ⟨l.length, by omega, by rw [List.drop_eq_nil_of_le (by omega)]; rfl, rfl⟩
  rintro _ _ _ ⟨rfl, i, hi, rfl, rfl⟩
  by_cases hi0 : 0 < i
  · obtain ⟨j, rfl⟩ : ∃ j, i = j + 1 := ⟨i - 1, by omega⟩
    have hnum : num (l.drop j) = l[j].toNat + 256 * num (l.drop (j + 1)) := by
      rw [List.drop_eq_getElem_cons (by omega), num]
    have hx := num_lt (l.drop (j + 1))
    have hlen : (l.drop (j + 1)).length ≤ 7 := by rw [List.length_drop]; omega
    have hx7 : num (l.drop (j + 1)) < 256 ^ 7 := Nat.lt_of_lt_of_le hx (Nat.pow_le_pow_right (by decide) hlen)
    have hbl := (l[j]).toNat_lt
    generalize num (l.drop (j + 1)) = x at hnum hx7 ⊢
    simp (disch := omega) only [dm_t, wS, simprocAttr, IntKind.bits]
    refine hb.at j (by omega) (by omega) ?_
    intro pb po g2
    simp (disch := omega) only [dm_t, wS, simprocAttr, IntKind.bits, g2]
    refine ⟨⟨j, by omega, by rw [hnum]; congr 1; omega, by simp⟩, by simp [mp]⟩
  · obtain rfl : i = 0 := by omega
    simp (disch := omega) only [dm_t, wS, simprocAttr, IntKind.bits]
    simp
/-- What Split answers. -/
def SpR (S : Nat → Prop) (h' : H) (r : Value) (b : List UInt8) : Prop :=
  (splitE b = 0 ∧ ∃ w, r = .tuple #[w, .int .i64 (splitN b : Nat), .int .i64 0] ∧ By S h' w (splitB b)) ∨ (¬ splitE b = 0 ∧ r = .tuple #[.slice none 0 0, .int .i64 0, .int .i64 (splitE b)])
theorem DSplit_ok {S : Nat → Prop} {h : H} {v : Value} {b : List UInt8} (hb : By S h v b) (hl : b.length ≤ 140737488355328) : Ok Try.prog 57 #[v] h fun r h' => SpR S h r b ∧ h = h' := by
  obtain ⟨sa, sc, rfl⟩ := hb.len
  obtain ⟨_, _, hsc⟩ := hb.cap
  refine c57_ok (args := [_]) (by simp) ?_
  by_cases h4 : b.length < 4
  · simp (disch := omega) only [dm_t, wS, simprocAttr, IntKind.bits]
    have he : splitE b = 111 := by rw [splitE, if_pos h4]
    exact .inr ⟨by rw [he]; decide, by rw [he]⟩
  simp (disch := omega) only [dm_t, wS, simprocAttr, IntKind.bits]
  refine slc_pre 4 rfl rfl (by omega) ?_
  simp (disch := omega) only [dm_t, wS, simprocAttr, IntKind.bits]
  refine (Number_ok (By.pre hb (m := 4) (by omega)) (by rw [List.length_take]; omega)).k ?_
  rintro _ _ ⟨rfl, rfl⟩
  have hn4 := num4 b
  by_cases h5 : num (b.take 4) < 5 ∨ 1048572 < num (b.take 4)
  · have he : splitE b = 300 := by rw [splitE, if_neg h4, if_pos h5]
    generalize num (b.take 4) = n at *
    rcases h5 with h5 | h5
    · simp (disch := omega) only [dm_t, wS, simprocAttr, IntKind.bits]
      exact .inr ⟨by rw [he]; decide, by rw [he]⟩
    · simp (disch := omega) only [dm_t, wS, simprocAttr, IntKind.bits]
      exact .inr ⟨by rw [he]; decide, by rw [he]⟩
  by_cases h6 : b.length < num (b.take 4) + 4
  · have he : splitE b = 111 := by rw [splitE, if_neg h4, if_neg h5, if_pos h6]
    generalize num (b.take 4) = n at *
    simp (disch := omega) only [dm_t, wS, simprocAttr, IntKind.bits]
    exact .inr ⟨by rw [he]; decide, by rw [he]⟩
  have he : splitE b = if ¬ num ((b.drop 4).take 4) = (sumB (splitB b)).toNat then 300 else 0 := by rw [splitE, if_neg h4, if_neg h5, if_neg h6]
  have hN : splitN b = num (b.take 4) + 4 := rfl
  have hB : splitB b = (b.drop 8).take (num (b.take 4) - 4) := rfl
  generalize hn : num (b.take 4) = n at *
  simp (disch := omega) only [dm_t, wS, simprocAttr, IntKind.bits]
  refine By.cutK hb 4 8 sc (by rfl) (by rfl) rfl (by omega) (.inr rfl) ?_
  intro w1 s1
  simp only [Nat.reduceSub] at s1
  simp (disch := omega) only [dm_t, wS, simprocAttr, IntKind.bits]
  refine By.cutK hb 8 (n + 4) sc (by rfl) (by simp) rfl (by omega) (.inr rfl) ?_
  intro w2 s2
  rw [show n + 4 - 8 = n - 4 by omega, ← hB] at s2
  simp (disch := omega) only [dm_t, wS, simprocAttr, IntKind.bits]
  refine (Number_ok s1 (by rw [List.length_take]; omega)).k ?_
  rintro _ _ ⟨rfl, rfl⟩
  simp (disch := omega) only [dm_t, wS, simprocAttr, IntKind.bits]
  refine (RSum_ok s2 (by rw [hB, List.length_take, List.length_drop]; omega)).k ?_
  rintro _ _ ⟨rfl, rfl⟩
  have hx := (sumB (splitB b)).isLt
  have hy : num ((b.drop 4).take 4) < 4294967296 := by
    refine Nat.lt_of_lt_of_le (num_lt _) (Nat.pow_le_pow_right (by decide) (?_ : _ ≤ 4)); rw [List.length_take]; omega
  obtain ⟨y, hy'⟩ : ∃ y, y = (sumB (splitB b)).toNat := ⟨_, rfl⟩
  have hbw : bw (sumB (splitB b)) = .int .u32 (y : Int) := by rw [hy']
  rw [hbw]
  rw [← hy'] at hx he
  generalize num ((b.drop 4).take 4) = m at hy he ⊢
  by_cases h7 : m = y
  · rw [if_neg (fun hn => hn h7)] at he
    rw [h7]
    simp (disch := omega) only [dm_t, wS, simprocAttr, IntKind.bits]
    refine By.cutK hb 8 (n + 4) sc (by rfl) (by simp) rfl (by omega) (.inr rfl) ?_
    intro w3 s3
    rw [show n + 4 - 8 = n - 4 by omega, ← hB] at s3
    simp (disch := omega) only [dm_t, wS, simprocAttr, IntKind.bits]
    exact .inl ⟨he, w3, by rw [hN]; rfl, s3⟩
  · rw [if_pos h7] at he
    simp (disch := omega) only [dm_t, wS, simprocAttr, IntKind.bits]
    exact .inr ⟨by rw [he]; decide, by rw [he]⟩
/-- .. the program's: the body is its own. -/
def SpO (h h' : H) (r : Value) (b : List UInt8) : Prop :=
  (splitE b = 0 ∧ ∃ w, r = .tuple #[w, .int .i64 (splitN b : Nat), .int .i64 0] ∧ OwB (fun y => h y = none) h' 5 w (splitB b)) ∨ (¬ splitE b = 0 ∧ r = .tuple #[.slice none 0 0, .int .i64 0, .int .i64 (splitE b)])
theorem Split_ok {S : Nat → Prop} {h : H} {v : Value} {b : List UInt8} (hb : By S h v b) (hl : b.length ≤ 140737488355328) : Ok Try.prog 21 #[v] h fun r h' => SpO h h' r b ∧ Ext h h' := by
  obtain ⟨sa, sc, rfl⟩ := hb.len
  obtain ⟨_, _, hsc⟩ := hb.cap
  refine c21_ok (args := [_]) (by simp) ?_
  have hmin : (min (b.length : Int) 8) = ((min b.length 8 : Nat) : Int) := by omega
  simp (disch := omega) only [dm_t, wS, simprocAttr, IntKind.bits]
  refine slc_pre (min b.length 8) hmin rfl (by omega) ?_
  simp (disch := omega) only [dm_t, wS, simprocAttr, IntKind.bits]
  refine (New_ok (By.pre hb.nos (m := min b.length 8) (by omega)) (by rw [List.length_take]; omega)).k ?_
  rintro _ g1 ⟨c, s, rfl, hc, r1, e1⟩
  have hl8 : (b.take (min b.length 8)).length = min b.length 8 := by rw [List.length_take]; omega
  simp (disch := omega) only [dm_t, wS, simprocAttr, IntKind.bits]
  have hn4 := num4 b
  by_cases h4 : b.length < 4
  · refine (U32_more r1 (by rw [hl8]; omega)).k ?_
    rintro _ _ ⟨rfl, rfl⟩
    simp (disch := omega) only [dm_t, wS, simprocAttr, IntKind.bits]
    have he : splitE b = 111 := by rw [splitE, if_pos h4]
    exact ⟨.inr ⟨by rw [he]; decide, by rw [he]⟩, e1⟩
  have hnn : num (((b.take (min b.length 8)).drop 0).take 4) = num (b.take 4) := by rw [List.drop_zero, List.take_take]; congr 2; omega
  refine (U32_ok r1 (by rw [hl8]; omega)).k ?_
  rintro _ g2 ⟨rfl, r2, f2⟩
  rw [hnn]
  have e2 : Ext h g2 := Ext.step' e1 f2 fun y hy => by rw [hy]; exact hc
  by_cases h5 : num (b.take 4) < 5 ∨ 1048572 < num (b.take 4)
  · have he : splitE b = 300 := by rw [splitE, if_neg h4, if_pos h5]
    generalize num (b.take 4) = n at *
    rcases h5 with h5 | h5
    · simp (disch := omega) only [dm_t, wS, simprocAttr, IntKind.bits]
      exact ⟨.inr ⟨by rw [he]; decide, by rw [he]⟩, e2⟩
    · simp (disch := omega) only [dm_t, wS, simprocAttr, IntKind.bits]
      exact ⟨.inr ⟨by rw [he]; decide, by rw [he]⟩, e2⟩
  by_cases h6 : b.length < num (b.take 4) + 4
  · have he : splitE b = 111 := by rw [splitE, if_neg h4, if_neg h5, if_pos h6]
    generalize num (b.take 4) = n at *
    simp (disch := omega) only [dm_t, wS, simprocAttr, IntKind.bits]
    exact ⟨.inr ⟨by rw [he]; decide, by rw [he]⟩, e2⟩
  have he : splitE b = if ¬ num ((b.drop 4).take 4) = (sumB (splitB b)).toNat then 300 else 0 := by rw [splitE, if_neg h4, if_neg h5, if_neg h6]
  have hN : splitN b = num (b.take 4) + 4 := rfl
  have hB : splitB b = (b.drop 8).take (num (b.take 4) - 4) := rfl
  generalize hn : num (b.take 4) = n at *
  have hmm : num (((b.take (min b.length 8)).drop (0 + 4)).take 4) = num ((b.drop 4).take 4) := by
    rw [List.drop_take, List.take_take]; congr 2; omega
  simp (disch := omega) only [dm_t, wS, simprocAttr, IntKind.bits]
  refine (U32_ok r2 (by rw [hl8]; omega)).k ?_
  rintro _ g3 ⟨rfl, r3, f3⟩
  rw [hmm]
  have e3 : Ext h g3 := Ext.step' e2 f3 fun y hy => by rw [hy]; exact hc
  simp (disch := omega) only [dm_t, wS, simprocAttr, IntKind.bits]
  refine By.cutK (SlK.ext hb e3) 8 (n + 4) sc (by rfl) (by simp) rfl (by omega) (.inr rfl) ?_
  intro w2 s2
  rw [show n + 4 - 8 = n - 4 by omega, ← hB] at s2
  obtain ⟨wa, wc, rfl⟩ := By.len s2
  simp (disch := omega) only [dm_t, wS, simprocAttr, IntKind.bits]
  intro lb hlb
  have s4 : S1 nos (hupd g3 lb (.cells #[.slice wa (splitB b).length wc] 30)) (.slice (some ⟨lb, 0, none⟩) 1 1) [.slice wa (splitB b).length wc] := slit1 [_] rfl
  generalize hG : hupd g3 lb _ = g4 at s4 ⊢
  obtain ⟨e4, q4⟩ := new_ext hG hlb
  clear hG
  simp (disch := omega) only [dm_t, wS, simprocAttr, IntKind.bits]
  refine (Sum_ok s4 (SlK.ext s2 e4) (by rw [hB, List.length_take, List.length_drop]; omega)).k ?_
  rintro _ g5 ⟨rfl, e5⟩
  have E := (e3.trans e4).trans e5
  have hx := (sumB (splitB b)).isLt
  have hy : num ((b.drop 4).take 4) < 4294967296 := by
    refine Nat.lt_of_lt_of_le (num_lt _) (Nat.pow_le_pow_right (by decide) (?_ : _ ≤ 4)); rw [List.length_take]; omega
  obtain ⟨y, hy'⟩ : ∃ y, y = (sumB (splitB b)).toNat := ⟨_, rfl⟩
  have hbw : bw (sumB (splitB b)) = .int .u32 (y : Int) := by rw [hy']
  rw [hbw]
  rw [← hy'] at hx he
  generalize num ((b.drop 4).take 4) = m at hy he ⊢
  by_cases h7 : m = y
  · rw [if_neg (fun hn => hn h7)] at he
    rw [h7]
    simp (disch := omega) only [dm_t, wS, simprocAttr, IntKind.bits]
    refine By.cutK (SlK.ext hb E) 8 (n + 4) sc (by rfl) (by simp) rfl (by omega) (.inr rfl) ?_
    intro w3 s3
    rw [show n + 4 - 8 = n - 4 by omega, ← hB] at s3
    simp (disch := omega) only [dm_t, wS, simprocAttr, IntKind.bits]
    refine (clone_ok s3.nos (by rw [hB, List.length_take, List.length_drop]; omega)).k ?_
    rintro w6 g6 ⟨o6, e6⟩
    simp (disch := omega) only [dm_t, wS, simprocAttr, IntKind.bits]
    exact ⟨.inl ⟨he, w6, by rw [hN]; rfl, OwK.mono o6 fun y _ _ hn => E.bk hn⟩, E.trans e6⟩
  · rw [if_pos h7] at he
    simp (disch := omega) only [dm_t, wS, simprocAttr, IntKind.bits]
    exact ⟨.inr ⟨by rw [he]; decide, by rw [he]⟩, E⟩
end Go.Proofs.Ytfeaaliocdkonaa.pr
