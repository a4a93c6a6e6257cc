/-
  proto: the stream that was put aside; bytes spoilt.
-/
import Derived.Test.YtfeaaliocdkonaaQc
namespace Go.Proofs.Ytfeaaliocdkonaa.pr
open Go.Proofs.Ytfeaaliocdkonaa rr wi
set_option linter.unusedVariables false
set_option linter.unusedSimpArgs false
theorem DNext_el {S O : Nat → Prop} {h : H} {vw : Value} {ws : List stT.D} {i : Nat} (W : OwL S stT O h 61 vw ws) (hi : i < ws.length) (hl : (ws[i]).1.length ≤ 140737488355328) {a : Addr} (ha : idxV1 2 vw (.int .i64 (i : Int)) = some (.pointer (some a))) :
    Ok Try.prog 25 #[.pointer (some a)] h fun v h' => ∃ w, v = .tuple #[w, .int .i64 (nE (ws[i]).1 (ws[i]).2)] ∧ By S h' w (nB (ws[i]).1 (ws[i]).2) ∧ OwL S stT O h' 61 vw (ws.set i (nL (ws[i]).1 (ws[i]).2, nM (ws[i]).1 (ws[i]).2)) ∧ Fr (fun y => O y ∧ isAt vw y) h h' := by
  obtain ⟨b, o, cs, i1, hat, hO, hc, hr, hst⟩ := OwL.set W hi .i64 2 rfl
  rw [ha] at i1
  obtain rfl : a = ⟨b, o, none⟩ := by simpa using i1
  obtain ⟨s, rfl, hs⟩ := rep_st.1 hr
  obtain ⟨sa, sc, rfl⟩ := By.len hs
  have c0 : cellAt h ⟨b, o, none⟩ = some (.slice sa (ws[i]).1.length sc) := by simpa using hc 0 (by omega)
  have c1 : cellAt h ⟨b, o + 1, none⟩ = some (.bool (ws[i]).2) := by simpa using hc 1 (by omega)
  have hself : ws.set i (ws[i]) = ws := by simp
  generalize hx : ws[i] = x at *
  obtain ⟨l, met⟩ := x
  simp only at *
  refine c25_ok (args := [_]) (by simp) ?_
  cases met with
  | true =>
    simp (disch := omega) only [dm_t, wS, simprocAttr, IntKind.bits, c0, c1]
    refine ⟨.slice none 0 0, rfl, By.nil, ?_, Fr.refl _ _⟩
    rw [show nL l true = l from rfl, show nM l true = true from rfl, hself]
    exact W
  | false =>
    simp (disch := omega) only [dm_t, wS, simprocAttr, IntKind.bits, c0, c1]
    refine (DSplit_ok hs hl).k ?_
    rintro _ _ ⟨hsp, rfl⟩
    have hT : ∀ y, y = b → isAt vw y ∨ S y := fun y hy => .inl (by rw [hy]; exact hat)
    rcases hsp with ⟨he, w, rfl, sw⟩ | ⟨he, rfl⟩
    · obtain ⟨_, hN, _, _⟩ := splitB_len he
      have hcc := (SlK.cap hs).2.2
      rw [one_len, bvs_len] at hcc
      simp (disch := omega) only [dm_t, wS, simprocAttr, IntKind.bits]
      refine hst 1 [.bool false] (l, false) _ (by simp) rfl (rep_st.2 ⟨_, rfl, hs⟩) ?_
      intro h1 W1 f1
      have hi1 : i < (ws.set i (l, false)).length := by rw [List.length_set]; exact hi
      obtain ⟨b2, o2, cs2, i2, hat2, hO2, hc2, hr2, hst2⟩ := OwL.set W1 hi1 .i64 2 rfl
      rw [ha] at i2
      obtain ⟨rfl, rfl⟩ : b = b2 ∧ o = o2 := by simpa using i2
      have hg : (ws.set i (l, false))[i] = (l, false) := by simp
      rw [hg] at hr2
      obtain ⟨s2, rfl, hs2⟩ := rep_st.1 hr2
      simp only at hs2
      have c02 : cellAt h1 ⟨b, o, none⟩ = some s2 := by simpa using hc2 0 (by omega)
      obtain ⟨sa2, sc2, rfl⟩ := By.len hs2
      have hcc2 := (SlK.cap hs2).2.2
      rw [one_len, bvs_len] at hcc2
      simp (disch := omega) only [dm_t, wS, simprocAttr, IntKind.bits, c02]
      refine By.cutK hs2 (splitN l) l.length sc2 rfl rfl rfl (by omega) (.inr rfl) ?_
      intro w2 s3
      have hdl : (l.drop (splitN l)).take (l.length - splitN l) = l.drop (splitN l) := List.take_of_length_le (by rw [List.length_drop]; omega)
      rw [hdl] at s3
      have hw2 : [w2].all isCell = true := by obtain ⟨_, _, rfl⟩ := By.len s3; rfl
      simp (disch := omega) only [dm_t, wS, simprocAttr, IntKind.bits]
      have hst2' := hst2 0 [w2] (l.drop (splitN l), false)
      simp only [Nat.add_zero] at hst2'
      refine hst2' _ (by simp) hw2 (rep_st.2 ⟨_, rfl, s3⟩) ?_
      intro h3 W3 f3
      simp (disch := omega) only [dm_t, wS, simprocAttr, IntKind.bits]
      rw [List.set_set] at W3
      refine ⟨w, by rw [show nE l false = splitE l from rfl, he], ?_, ?_, ?_⟩
      · rw [show nB l false = splitB l from if_pos he]
        exact SlK.mono (SlK.fr (SlK.fr sw f1 hT) f3 hT) fun y o _ hy => .inr hy
      · rw [show nL l false = l.drop (splitN l) from if_pos he, show nM l false = decide (splitE l = 300) from rfl, he]
        exact W3
      · exact (f1.mono fun y hy => by rw [hy]; exact ⟨hO, hat⟩).trans (f3.mono fun y hy => by rw [hy]; exact ⟨hO, hat⟩)
    · simp (disch := omega) only [dm_t, wS, simprocAttr, IntKind.bits]
      refine hst 1 [.bool (decide (splitE l = 300))] (l, decide (splitE l = 300)) _ (by simp) rfl (rep_st.2 ⟨_, rfl, hs⟩) ?_
      intro h1 W1 f1
      simp (disch := omega) only [dm_t, wS, simprocAttr, IntKind.bits]
      refine ⟨.slice none 0 0, rfl, ?_, ?_, f1.mono fun y hy => by rw [hy]; exact ⟨hO, hat⟩⟩
      · rw [show nB l false = [] from if_neg he]; exact By.nil
      · rw [show nL l false = l from if_neg he]; exact W1
/-! ### Bytes turned over -/
theorem bv8 (y : BitVec 8) : ((y.toNat : Nat) : Int) = ((UInt8.ofNat y.toNat).toNat : Int) := by
  have hy := y.isLt
  rw [UInt8.toNat_ofNat']; omega
theorem stp0 {own : Nat → Nat} {g g' : H} {y : Nat} (h : stp own g g' 0 y ≠ 0) : own y ≠ 0 := by
  by_cases hg : g y = none
  · rw [stp_new hg (stp_al h)] at h; exact absurd rfl h
  · rwa [stp_old hg (stp_al h)] at h
end Go.Proofs.Ytfeaaliocdkonaa.pr
