/-
  Batches' bytes: plain laws. What was put is read back; what is read was put.
-/
import Derived.Test.YtbnjhgfpfajnoaaRg
namespace Go.Proofs.Ytbnjhgfpfajnoaa.rr
open Go.Proofs.Ytbnjhgfpfajnoaa
set_option linter.unusedVariables false
set_option linter.unusedSimpArgs false
theorem take_app {α : Type} {a b : List α} {n : Nat} (h : a.length = n) : (a ++ b).take n = a := by subst h; simp
theorem drop_app {α : Type} {a b : List α} {n : Nat} (h : a.length = n) : (a ++ b).drop n = b := by subst h; simp
theorem num_low' {n x : Nat} (h : x < 256 ^ n) : num (low n x) = x := by rw [num_low, Nat.mod_eq_of_lt h]
theorem prs1_put {r : rc.D} (hm : may r = true) (z : List UInt8) : prs1 (recB r ++ z) = some (r, z) := by
  obtain ⟨m1, m2, m3, m4⟩ := may_len hm
  have ht : Int.toNat r.1 ≤ 9007199254740992 := Int.toNat_le.2 m2
  have htc : ((Int.toNat r.1 : Nat) : Int) = r.1 := Int.toNat_of_nonneg m1
  clear m1 m2 hm
  have e1 : recB r ++ z = low 8 (Int.toNat r.1) ++ (low 2 r.2.1.length ++ (low 2 r.2.2.length ++ (r.2.1 ++ (r.2.2 ++ z)))) := by simp only [recB, List.append_assoc]
  have hl : (recB r ++ z).length = size r + z.length := by rw [List.length_append, recB_len]
  have hsz : size r = 12 + r.2.1.length + r.2.2.length := rfl
  suffices H : ∀ (t : Nat) (k v b : List UInt8) (r1 : Int), t ≤ 9007199254740992 → (t : Int) = r1 → k.length ≤ 256 → v.length ≤ 4096 → b = low 8 t ++ (low 2 k.length ++ (low 2 v.length ++ (k ++ (v ++ z)))) → prs1 b = some (((r1, k, v) : rc.D), z) from
    H _ _ _ _ _ ht htc m3 m4 e1
  clear hsz hl e1 htc ht m3 m4
  intro t k v b r1 ht htc hk hv e1
  have hl : b.length = 12 + k.length + v.length + z.length := by rw [e1]; simp only [List.length_append, low_len]; omega
  have t8 : b.take 8 = low 8 t := by rw [e1, take_app (low_len _ _)]
  have d8 : b.drop 8 = low 2 k.length ++ (low 2 v.length ++ (k ++ (v ++ z))) := by rw [e1, drop_app (low_len _ _)]
  have d10 : b.drop 10 = low 2 v.length ++ (k ++ (v ++ z)) := by rw [show 10 = 8 + 2 from rfl, ← List.drop_drop, d8, drop_app (low_len _ _)]
  have d12 : b.drop 12 = k ++ (v ++ z) := by rw [show 12 = 10 + 2 from rfl, ← List.drop_drop, d10, drop_app (low_len _ _)]
  have n8 : num (b.take 8) = t := by rw [t8, num_low' (by omega)]
  have nk : num ((b.drop 8).take 2) = k.length := by rw [d8, take_app (low_len _ _), num_low' (by omega)]
  have nv : num ((b.drop 10).take 2) = v.length := by rw [d10, take_app (low_len _ _), num_low' (by omega)]
  have d12k : b.drop (12 + k.length) = v ++ z := by rw [← List.drop_drop, d12, drop_app rfl]
  have dend : b.drop (12 + (k.length + v.length)) = z := by rw [← Nat.add_assoc, ← List.drop_drop, d12k, drop_app rfl]
  rw [prs1, if_neg (by omega), n8, nk, nv, if_neg (by omega), d12, take_app rfl, d12k, take_app rfl, dend, htc]
theorem prs_put {l : List rc.D} (hm : l.all may = true) (z : List UInt8) : prs l.length (recsB l ++ z) = some (l, z) := by
  induction l with
  | nil => rfl
  | cons r t ih =>
    simp only [List.all_cons, Bool.and_eq_true] at hm
    show prs (t.length + 1) _ = _
    rw [recsB, List.flatMap_cons, List.append_assoc, prs, prs1_put hm.1]
    have := ih hm.2
    rw [recsB] at this
    simp only [Option.bind_some, this, Option.map_some]
/-- What a batch that may be is. -/
theorem put0 {base : Int} {l : List rc.D} (h : putE base l = 0) : fitsE l = 0 ∧ 0 ≤ base ∧ base ≤ 9007199254740992 ∧ base + (l.length : Int) - 1 ≤ 9007199254740992 := by
  unfold putE at h
  by_cases hw : wrongB base l
  · rw [if_pos hw] at h; cases h
  · rw [if_neg hw] at h
    refine ⟨h, ?_, ?_, ?_⟩
    · exact Int.not_lt.1 fun h => hw (.inr (.inl h))
    · exact Int.not_lt.1 fun h => hw (.inr (.inr (.inl h)))
    · exact Int.not_lt.1 fun h => hw (.inr (.inr (.inr h)))
theorem bytesB_len {base : Int} {l : List rc.D} : (bytesB base l).length = 20 + sizes l := by
  rw [bytesB, List.length_append, List.length_append, low_len, low_len, bodyB_len]; omega
theorem sizes_pos {l : List rc.D} (h : l ≠ []) : 12 ≤ sizes l := by
  cases l with
  | nil => exact absurd rfl h
  | cons r t => simp only [sizes, size]; omega
structure Cut (b : List UInt8) (base : Int) (l : List rc.D) : Prop where
  n : num (b.take 4) = 16 + sizes l
  len : 20 + sizes l ≤ b.length
  body : bodyP b = bodyB base l
  sum : num ((b.drop 4).take 4) = (sumB (bodyB base l)).toNat
theorem cut_put {base : Int} {l : List rc.D} (h : putE base l = 0) (z : List UInt8) : Cut (bytesB base l ++ z) base l := by
  obtain ⟨f, h1, h2, h3⟩ := put0 h
  obtain ⟨g1, g2, g3, g4⟩ := fits0 f
  have e1 : bytesB base l ++ z = low 4 (16 + sizes l) ++ (low 4 (sumB (bodyB base l)).toNat ++ (bodyB base l ++ z)) := by simp only [bytesB, List.append_assoc]
  have hn : num ((bytesB base l ++ z).take 4) = 16 + sizes l := by rw [e1, take_app (low_len _ _), num_low' (by omega)]
  have d4 : (bytesB base l ++ z).drop 4 = low 4 (sumB (bodyB base l)).toNat ++ (bodyB base l ++ z) := by rw [e1, drop_app (low_len _ _)]
  refine ⟨hn, by rw [List.length_append, bytesB_len]; omega, ?_, ?_⟩
  · rw [bodyP, hn, show 8 = 4 + 4 from rfl, ← List.drop_drop, d4, drop_app (low_len _ _)]
    exact take_app (by rw [bodyB_len]; omega)
  · have := (sumB (bodyB base l)).isLt
    rw [d4, take_app (low_len _ _), num_low' (by omega)]
theorem read_put {base : Int} {l : List rc.D} (h : putE base l = 0) (z : List UInt8) : readP (bytesB base l ++ z) = ⟨base, l, ((20 + sizes l : Nat) : Int), 0⟩ := by
  obtain ⟨f, h1, h2, h3⟩ := put0 h
  obtain ⟨g1, g2, g3, g4⟩ := fits0 f
  have hs := sizes_pos g1
  have c := cut_put h z
  have hl0 : l.length ≠ 0 := fun h => g1 (List.length_eq_zero_iff.1 h)
  have eb : bodyB base l = low 8 base.toNat ++ (low 4 l.length ++ recsB l) := by rw [bodyB, List.append_assoc]
  have nb : num ((bodyB base l).take 8) = base.toNat := by rw [eb, take_app (low_len _ _), num_low' (by omega)]
  have nc : num (((bodyB base l).drop 8).take 4) = l.length := by rw [eb, drop_app (low_len _ _), take_app (low_len _ _), num_low' (by omega)]
  have d12 : (bodyB base l).drop 12 = recsB l := by rw [show 12 = 8 + 4 from rfl, ← List.drop_drop, eb, drop_app (low_len _ _), drop_app (low_len _ _)]
  have hlen := c.len
  rw [readP, if_neg (by omega), if_neg (by omega), c.n, if_neg (by omega), readQ, c.n, if_neg (by omega), c.body, c.sum, if_neg (by simp), readS, c.body, nb, nc, if_neg (by omega), finP, c.body, nb, nc, d12, c.n]
  have hp := prs_put g2 []
  rw [List.append_nil] at hp
  rw [hp]
  simp only [RB.mk.injEq, and_true, true_and]
  omega
/-- Each beginning is torn. -/
theorem read_torn {base : Int} {l : List rc.D} (h : putE base l = 0) {k : Nat} (h1 : 0 < k) (h2 : k < (bytesB base l).length) : readP ((bytesB base l).take k) = badR 151 := by
  obtain ⟨f, -, -, -⟩ := put0 h
  obtain ⟨g1, g2, g3, g4⟩ := fits0 f
  have hs := sizes_pos g1
  have c := cut_put h []
  rw [List.append_nil] at c
  have hl : ((bytesB base l).take k).length = k := by rw [List.length_take]; omega
  rw [readP, if_neg (by omega)]
  by_cases h4 : k < 4
  · rw [if_pos (by omega)]
  · have ht : ((bytesB base l).take k).take 4 = (bytesB base l).take 4 := by rw [List.take_take]; congr 1; omega
    rw [bytesB_len] at h2
    rw [if_neg (by omega), ht, c.n, if_neg (by omega), readQ, ht, c.n, if_pos (by omega)]
end Go.Proofs.Ytbnjhgfpfajnoaa.rr
