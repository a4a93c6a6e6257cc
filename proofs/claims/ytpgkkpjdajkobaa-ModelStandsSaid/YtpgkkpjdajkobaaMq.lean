/-
  model: ModelStands, plain laws.
-/
import Derived.Test.YtpgkkpjdajkobaaMo
namespace Go.Proofs.Ytpgkkpjdajkobaa.mo
open Go.Proofs.Ytpgkkpjdajkobaa rr
set_option linter.unusedVariables false
set_option linter.unusedSimpArgs false
theorem fits_self (ps : List (List rc.D)) (x : callT.D) : fitsP ps x (tryP ps x) := by
  unfold fitsP
  split
  · rename_i hc
    obtain ⟨h1, h2⟩ := hc
    have ht : tryP ps x = prodP ps x := by rw [tryP, if_pos h2]
    rw [ht] at h1 ⊢
    unfold prodP at h1 ⊢
    split at h1
    · split at h1
      · rcases h1 with h1 | h1 <;> cases h1
      · rw [if_pos ‹_›, if_neg ‹_›]; exact ⟨rfl, rfl⟩
    · rw [if_neg ‹_›]; exact ⟨rfl, rfl⟩
  · rfl
/-- A call that puts. -/
structure PutC (ps : List (List rc.D)) (x : callT.D) (i : Nat) (a : List rc.D) : Prop where
  lt : i < ps.length
  ix : @Eq Int x.2.1 (i : Int)
  at' : ps[i]? = some a
  do' : doP ps x = ps.set i (a ++ x.2.2.1)
  re : tryP ps x = ((0 : Int), (a.length : Int), ([] : List rc.D))
theorem mkPut {ps : List (List rc.D)} {x : callT.D} (h1 : @Eq Int x.1 1) (h2 : @Eq Int (tryP ps x).1 0) : ∃ i a, PutC ps x i a := by
  have ht : tryP ps x = prodP ps x := by rw [tryP, if_pos h1]
  have hin : inP ps x.2.1 := by
    rw [ht, prodP] at h2
    by_cases hp : inP ps x.2.1
    · exact hp
    · rw [if_neg hp] at h2; cases h2
  have hf : fitsE x.2.2.1 = 0 := by
    rw [ht, prodP, if_pos hin] at h2
    by_cases hf : fitsE x.2.2.1 = 0
    · exact hf
    · rw [if_neg hf] at h2; cases h2
  obtain ⟨i, hi⟩ : ∃ i : Nat, @Eq Int x.2.1 (i : Int) := ⟨Int.toNat x.2.1, by have := hin.1; omega⟩
  have hil : i < ps.length := by have := hin.2; rw [hi] at this; omega
  have hto : Int.toNat x.2.1 = i := by rw [hi]; rfl
  have hg : ps.getD (Int.toNat x.2.1) [] = ps[i] := by rw [hto]; simp [List.getD_eq_getElem?_getD, hil]
  refine ⟨i, ps[i], hil, hi, List.getElem?_eq_getElem hil, ?_, ?_⟩
  · rw [doP, if_pos ⟨h1, h2⟩, hg, hto]
  · rw [ht, prodP, if_pos hin, if_pos hf, hg]
section
variable {ps : List (List rc.D)} {x : callT.D} {i : Nat} {a : List rc.D}
theorem PutC.getD (P : PutC ps x i a) : ps.getD i [] = a := by rw [List.getD_eq_getElem?_getD, P.at']; rfl
theorem PutC.getD' (P : PutC ps x i a) : (doP ps x).getD i [] = a ++ x.2.2.1 := by
  rw [P.do', List.getD_eq_getElem?_getD, List.getElem?_set_self P.lt]; rfl
theorem PutC.len (P : PutC ps x i a) : (doP ps x).length = ps.length := doP_len _ _
theorem PutC.fetch (P : PutC ps x i a) (h : x.2.2.1.length ≤ 1000) : tryP (doP ps x) (((2 : Int), (i : Int), ([] : List rc.D), (a.length : Int), (1000 : Int)) : callT.D) = ((0 : Int), ((a ++ x.2.2.1).length : Int), x.2.2.1) := by
  have hin : inP (doP ps x) (i : Int) := ⟨by omega, by rw [P.len]; have := P.lt; omega⟩
  have hg : (doP ps x).getD (Int.toNat (i : Int)) [] = a ++ x.2.2.1 := P.getD'
  rw [tryP, if_neg (show ¬ ((2 : Int) = 1) by decide), if_pos rfl, fetchP, if_neg (show ¬ ((1000 : Int) < 0) by decide), if_pos hin, hg, if_neg]
  · show ((0 : Int), _, (List.drop (Int.toNat (a.length : Int)) _).take (Int.toNat 1000)) = _
    rw [Int.toNat_natCast, List.drop_left, show Int.toNat 1000 = 1000 from rfl, List.take_of_length_le h]
  · show ¬ ((a.length : Int) < 0 ∨ ((a ++ x.2.2.1).length : Int) < (a.length : Int))
    rw [List.length_append]; omega
theorem PutC.cut (P : PutC ps x i a) : (doP ps x).set i ((a ++ x.2.2.1).take a.length) = ps := by
  rw [P.do', List.set_set, List.take_left]
  apply List.ext_getElem?
  intro j
  by_cases hj : i = j
  · subst hj; rw [List.getElem?_set_self P.lt, P.at']
  · rw [List.getElem?_set_ne hj]
end
end Go.Proofs.Ytpgkkpjdajkobaa.mo
