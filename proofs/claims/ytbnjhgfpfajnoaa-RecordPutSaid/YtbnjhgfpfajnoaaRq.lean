/-
  Batches' bytes: what is read was put (plain).
-/
import Derived.Test.YtbnjhgfpfajnoaaRp
namespace Go.Proofs.Ytbnjhgfpfajnoaa.rr
open Go.Proofs.Ytbnjhgfpfajnoaa
set_option linter.unusedVariables false
set_option linter.unusedSimpArgs false
theorem low_num' {x : List UInt8} {k : Nat} (h : x.length = k) : low k (num x) = x := by subst h; exact low_num x
theorem prs1_inv {b z : List UInt8} {r : rc.D} (h : prs1 b = some (r, z)) : may r = true ∧ b = recB r ++ z := by
  unfold prs1 at h
  by_cases h1 : b.length < 12
  · rw [if_pos h1] at h; cases h
  rw [if_neg h1] at h
  generalize ht : num (b.take 8) = t at h
  generalize hk : num ((b.drop 8).take 2) = k at h
  generalize hv : num ((b.drop 10).take 2) = v at h
  by_cases h2 : 9007199254740992 < t ∨ 256 < k ∨ 4096 < v ∨ b.length < 12 + (k + v)
  · rw [if_pos h2] at h; cases h
  rw [if_neg h2] at h
  have hh := Option.some.inj h
  clear h
  have hr : ((t : Int), (b.drop 12).take k, (b.drop (12 + k)).take v) = r := congrArg Prod.fst hh
  have hz : b.drop (12 + (k + v)) = z := congrArg Prod.snd hh
  clear hh
  have lk : ((b.drop 12).take k).length = k := by rw [List.length_take, List.length_drop]; omega
  have lv : ((b.drop (12 + k)).take v).length = v := by rw [List.length_take, List.length_drop]; omega
  have f8 : low 8 t = b.take 8 := by rw [← ht]; exact low_num' (by rw [List.length_take]; omega)
  have fk : low 2 k = (b.drop 8).take 2 := by rw [← hk]; exact low_num' (by rw [List.length_take, List.length_drop]; omega)
  have fv : low 2 v = (b.drop 10).take 2 := by rw [← hv]; exact low_num' (by rw [List.length_take, List.length_drop]; omega)
  subst hr hz
  refine ⟨?_, ?_⟩
  · simp only [may, Bool.and_eq_true, decide_eq_true_eq, lk, lv]
    refine ⟨Int.natCast_nonneg t, ?_, by omega, by omega⟩
    show (t : Int) ≤ 9007199254740992
    omega
  · simp only [recB, lk, lv, Int.toNat_natCast, f8, fk, fv, List.append_assoc]
    have s1 : b = b.take 8 ++ b.drop 8 := (List.take_append_drop _ _).symm
    have s2 : b.drop 8 = (b.drop 8).take 2 ++ b.drop 10 := by have := (List.take_append_drop 2 (b.drop 8)).symm; rw [List.drop_drop] at this; exact this
    have s3 : b.drop 10 = (b.drop 10).take 2 ++ b.drop 12 := by have := (List.take_append_drop 2 (b.drop 10)).symm; rw [List.drop_drop] at this; exact this
    have s4 : b.drop 12 = (b.drop 12).take k ++ b.drop (12 + k) := by have := (List.take_append_drop k (b.drop 12)).symm; rw [List.drop_drop] at this; exact this
    have s5 : b.drop (12 + k) = (b.drop (12 + k)).take v ++ b.drop (12 + (k + v)) := by have := (List.take_append_drop v (b.drop (12 + k))).symm; rw [List.drop_drop, Nat.add_assoc] at this; exact this
    rw [← s5, ← s4, ← s3, ← s2, ← s1]
theorem prs_inv {n : Nat} : ∀ {b z : List UInt8} {l : List rc.D}, prs n b = some (l, z) → l.length = n ∧ l.all may = true ∧ b = recsB l ++ z := by
  induction n with
  | zero =>
    intro b z l h
    have hh := Option.some.inj h
    obtain rfl : [] = l := congrArg Prod.fst hh
    obtain rfl : b = z := congrArg Prod.snd hh
    exact ⟨rfl, rfl, rfl⟩
  | succ n ih =>
    intro b z l h
    rw [prs] at h
    cases h1 : prs1 b with
    | none => rw [h1] at h; cases h
    | some p =>
      obtain ⟨r, b'⟩ := p
      rw [h1, Option.bind_some] at h
      cases h2 : prs n b' with
      | none => simp only [h2, Option.map_none] at h; cases h
      | some q =>
        obtain ⟨t, z'⟩ := q
        simp only [h2, Option.map_some] at h
        have hh := Option.some.inj h
        obtain rfl : r :: t = l := congrArg Prod.fst hh
        obtain rfl : z' = z := congrArg Prod.snd hh
        obtain ⟨i1, i2, i3⟩ := ih h2
        obtain ⟨j1, j2⟩ := prs1_inv h1
        refine ⟨by rw [List.length_cons, i1], by rw [List.all_cons, j1, i2]; rfl, ?_⟩
        rw [recsB, List.flatMap_cons, List.append_assoc, j2]
        congr 1
theorem read_bad {b : List UInt8} (h : (readP b).e ≠ 0) : readP b = badR (readP b).e := by
  have fin : (finP b).e ≠ 0 → finP b = badR (finP b).e := by
    unfold finP
    split
    · intro h; exact absurd rfl h
    · intro _; rfl
  have s : (readS b).e ≠ 0 → readS b = badR (readS b).e := by
    unfold readS
    split
    · intro _; rfl
    · exact fin
  have q : (readQ b).e ≠ 0 → readQ b = badR (readQ b).e := by
    unfold readQ
    split
    · intro _; rfl
    split
    · intro _; rfl
    · exact s
  revert h
  unfold readP
  split
  · intro _; rfl
  split
  · intro _; rfl
  split
  · intro _; rfl
  · exact q
theorem read_inv {b : List UInt8} (h : (readP b).e = 0) : putE (readP b).base (readP b).recs = 0 ∧ (readP b).size = ((20 + sizes (readP b).recs : Nat) : Int) ∧ 20 + sizes (readP b).recs ≤ b.length ∧ bytesB (readP b).base (readP b).recs = b.take (20 + sizes (readP b).recs) := by
  have h0 := h
  unfold readP at h
  by_cases c1 : b.length = 0
  · rw [if_pos c1] at h; cases h
  rw [if_neg c1] at h
  by_cases c2 : b.length < 4
  · rw [if_pos c2] at h; cases h
  rw [if_neg c2] at h
  by_cases c3 : num (b.take 4) < 28 ∨ 65532 < num (b.take 4)
  · rw [if_pos c3] at h; cases h
  rw [if_neg c3, readQ] at h
  by_cases c4 : b.length < num (b.take 4) + 4
  · rw [if_pos c4] at h; cases h
  rw [if_neg c4] at h
  by_cases c5 : (sumB (bodyP b)).toNat ≠ num ((b.drop 4).take 4)
  · rw [if_pos c5] at h; cases h
  rw [if_neg c5, readS] at h
  by_cases c6 : 9007199254740992 < num ((bodyP b).take 8) ∨ num (((bodyP b).drop 8).take 4) < 1 ∨ 256 < num (((bodyP b).drop 8).take 4) ∨ 9007199254740992 < num ((bodyP b).take 8) + num (((bodyP b).drop 8).take 4) - 1
  · rw [if_pos c6] at h; cases h
  rw [if_neg c6] at h
  have hR : readP b = finP b := by
    rw [readP, if_neg c1, if_neg c2, if_neg c3, readQ, if_neg c4, if_neg c5, readS, if_neg c6]
  rw [hR]
  clear h0 hR
  have hbl : (bodyP b).length = num (b.take 4) - 4 := by rw [bodyP, List.length_take, List.length_drop]; omega
  generalize hN : num (b.take 4) = N at *
  generalize hB : bodyP b = B at *
  generalize hbase : num (B.take 8) = base at *
  generalize hcnt : num ((B.drop 8).take 4) = cnt at *
  have hF : finP b = match prs cnt (B.drop 12) with
      | some (l, []) => ⟨(base : Int), l, (N : Int) + 4, 0⟩
      | _ => badR 152 := by rw [finP, hB, hbase, hcnt, hN]; rfl
  rw [hF] at h ⊢
  cases hp : prs cnt (B.drop 12) with
  | none => simp only [hp] at h; cases h
  | some q =>
    obtain ⟨l, z⟩ := q
    cases z with
    | cons x t => simp only [hp] at h; cases h
    | nil =>
      simp only
      obtain ⟨p1, p2, p3⟩ := prs_inv hp
      rw [List.append_nil] at p3
      have hs : sizes l = N - 16 := by
        have := congrArg List.length p3
        rw [List.length_drop, recsB_len, hbl] at this
        omega
      have fE : fitsE l = 0 := by
        unfold fitsE
        rw [if_neg (by intro hl; rw [hl] at p1; simp at p1; omega), if_neg (by rw [p2]; decide), if_neg (by omega), if_neg (by omega)]
      have nW : ¬ wrongB (base : Int) l := by
        rintro (w | w | w | w)
        · rw [fE] at w; cases w
        · omega
        · omega
        · omega
      have hbody : bodyB (base : Int) l = B := by
        have s1 : B = B.take 8 ++ B.drop 8 := (List.take_append_drop _ _).symm
        have s2 : B.drop 8 = (B.drop 8).take 4 ++ B.drop 12 := by have := (List.take_append_drop 4 (B.drop 8)).symm; rw [List.drop_drop] at this; exact this
        have f8 : low 8 base = B.take 8 := by rw [← hbase]; exact low_num' (by rw [List.length_take]; omega)
        have f4 : low 4 cnt = (B.drop 8).take 4 := by rw [← hcnt]; exact low_num' (by rw [List.length_take, List.length_drop]; omega)
        rw [bodyB, Int.toNat_natCast, p1, f8, f4, ← p3, List.append_assoc, ← s2, ← s1]
      refine ⟨by rw [putE, if_neg nW, fE], by omega, by omega, ?_⟩
      have g4 : low 4 N = b.take 4 := by rw [← hN]; exact low_num' (by rw [List.length_take]; omega)
      have gs : low 4 (num ((b.drop 4).take 4)) = (b.drop 4).take 4 := low_num' (by rw [List.length_take, List.length_drop]; omega)
      have hsum : (sumB B).toNat = num ((b.drop 4).take 4) := by omega
      rw [bytesB, hbody, hsum, gs, show 16 + sizes l = N by omega, g4, ← hB, bodyP, hN, hs, show 20 + (N - 16) = 4 + (4 + (N - 4)) by omega]
      rw [List.take_add, List.take_add, List.drop_drop, List.append_assoc]
end Go.Proofs.Ytbnjhgfpfajnoaa.rr
