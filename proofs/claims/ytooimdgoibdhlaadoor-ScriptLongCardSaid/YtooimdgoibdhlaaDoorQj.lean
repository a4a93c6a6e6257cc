/-
  What is read back from a text, plain.
-/
import Derived.Test.YtooimdgoibdhlaaDoorQi
import Derived.Test.YtooimdgoibdhlaaDoorQe
namespace Go.Proofs.YtooimdgoibdhlaaDoor.sc
open Go Go.Proofs.YtooimdgoibdhlaaDoor Go.RowKit
set_option linter.unusedVariables false
set_option linter.unusedSimpArgs false
theorem no_jn : ∀ {ws : List (List UInt8)}, (∀ w ∈ ws, no10 w) → no10 (jn ws)
  | [], _ => by intro c hc; simp [jn] at hc
  | [w], h => by simpa [jn] using h w (by simp)
  | w :: x :: t, h => by
    rw [jn_cons w (by simp)]
    intro c hc
    have ih := no_jn (ws := x :: t) fun y hy => h y (List.mem_cons_of_mem _ hy)
    simp only [List.mem_append] at hc
    rcases hc with hc | hc
    · exact h w (by simp) c hc
    · rcases List.mem_cons.1 hc with rfl | hc
      · decide
      · exact ih c hc
theorem no_k {w : List UInt8} (h : (w.all fun c => decide (c.toNat ≠ 10)) = true) : no10 w := by
  intro c hc
  simpa using List.all_eq_true.1 h c hc
theorem no_dz (n : Int) : no10 (dz n) := fun c hc => by have := dec_dg hc; unfold isDg at this; omega
theorem no_hexd (l : List UInt8) : no10 (hexd l) := by
  unfold hexd; split
  · intro c hc; simp only [List.mem_cons, List.not_mem_nil, or_false] at hc; subst hc; decide
  · exact fun c hc => (hexs_mem hc).2.2.2
theorem no_ln (x : St) : no10 (ln x) := by
  refine no_jn ?_
  have hs := no_k (w := kSend) (by decide); have hp := no_k (w := kPick) (by decide); have hf := no_k (w := kFate) (by decide); have hst := no_k (w := kStop) (by decide)
  have ho := no_k (w := kOpen) (by decide); have hg := no_k (w := kGood) (by decide); have hfa := no_k (w := kFail) (by decide); have hfu := no_k (w := kFull) (by decide)
  intro w hw
  unfold wl at hw
  split at hw
  · simp only [List.mem_cons, List.not_mem_nil, or_false] at hw
    rcases hw with rfl | rfl | rfl
    · exact hs
    · exact no_dz _
    · exact no_hexd _
  split at hw
  · simp only [List.mem_cons, List.not_mem_nil, or_false] at hw
    rcases hw with rfl | rfl
    · exact hp
    · exact no_dz _
  split at hw
  · split at hw
    · simp only [List.mem_cons, List.not_mem_nil, or_false] at hw
      rcases hw with rfl | rfl
      · exact hf
      · exact hg
    · simp only [List.mem_cons, List.not_mem_nil, or_false] at hw
      rcases hw with rfl | rfl | rfl
      · exact hf
      · split
        · exact hfa
        · exact hfu
      · exact no_dz _
  split at hw
  · rcases List.mem_cons.1 hw with rfl | hw
    · exact hst
    · obtain ⟨n, -, rfl⟩ := List.mem_map.1 hw
      exact no_dz _
  · simp only [List.mem_cons, List.not_mem_nil, or_false] at hw
    rcases hw with rfl | rfl
    · exact ho
    · exact no_dz _
theorem txt_cons (x : St) (l : List St) : txt (x :: l) = ln x ++ 10 :: txt l := by simp [txt]
theorem nls_txt : ∀ l : List St, nls (txt l) = l.length
  | [] => nls_nil
  | x :: l => by rw [txt_cons, nls_cut (no_ln x), nls_txt l, List.length_cons]; omega
theorem scn_txt : ∀ (n : Nat) (l : List St), l.length ≤ n → (∀ x ∈ l, May x) → (txt l).length ≤ 1048576 → scn n (txt l) = (l, [])
  | 0, l, h, _, _ => by
    have : l = [] := List.length_eq_zero_iff.1 (by omega)
    subst this; rfl
  | n + 1, [], _, _, _ => rfl
  | n + 1, x :: l, h, hm, hl => by
    rw [txt_cons] at hl ⊢
    have hr : rdS (ln x) = (x, 0) := rdS_yes (by simp at hl; omega) (hm x (by simp)) rfl
    rw [scn_yes (cut10_app (no_ln x)) (by rw [hr]), hr, scn_txt n l (by simpa using h) (fun y hy => hm y (by simp [hy])) (by simp at hl; omega)]
theorem prs_txt {l : List St} (h : l.length ≤ 65536) (hm : ∀ x ∈ l, May x) (hl : (txt l).length ≤ 1048576) : prs (txt l) = (l, (l.length : Int), 0) := by
  unfold prs
  rw [nls_txt, if_neg (by omega), scn_txt _ _ h hm hl, if_pos rfl]
theorem bad_all {l : List St} (hm : ∀ x ∈ l, mayS x = true) : bad l = l.length := bad_no fun j hj => hm _ (List.getElem_mem hj)
theorem TX_may {l : List St} (h : l.length ≤ 65536) (hm : ∀ x ∈ l, mayS x = true) : TX l = if 1048576 < (txt l).length then ([], 0, 3) else (txt l, (l.length : Int), 0) := by
  unfold TX
  rw [bad_all hm, if_neg (by omega), if_neg (by omega)]
theorem rdS_back {line : List UInt8} (h : (rdS line).2 = 0) : May (rdS line).1 ∧ ln (rdS line).1 = line := by
  by_cases hl : line.length ≤ 1048576
  · by_cases he : ∃ t, May t ∧ ln t = line
    · obtain ⟨t, m, ht⟩ := he
      rw [rdS_yes hl m ht]; exact ⟨m, ht⟩
    · rw [rdS_no hl fun t m ht => he ⟨t, m, ht⟩] at h; cases h
  · rw [rdS_long (by omega)] at h; cases h
end Go.Proofs.YtooimdgoibdhlaaDoor.sc
