/-
  A script's text: the program's, the document's.
-/
import Derived.Test.YtooimdgoibdhlaaDoorQh
import Derived.Test.YtooimdgoibdhlaaDoorQe
namespace Go.Proofs.YtooimdgoibdhlaaDoor.sc
open Go Go.Proofs.YtooimdgoibdhlaaDoor Go.RowKit
set_option linter.unusedVariables false
set_option linter.unusedSimpArgs false
def txt (l : List St) : List UInt8 := l.flatMap fun x => ln x ++ [10]
theorem txt_snoc (l : List St) (x : St) : txt (l ++ [x]) = txt l ++ (ln x ++ [10]) := by simp [txt]
theorem txt_app (l m : List St) : txt (l ++ m) = txt l ++ txt m := by simp [txt]
theorem txt_pre {l : List St} {i : Nat} : (txt (l.take i)).length ≤ (txt l).length := by
  have := congrArg List.length (txt_app (l.take i) (l.drop i))
  rw [List.take_append_drop, List.length_append] at this
  omega
/-- The first that may not be. -/
def bad (l : List St) : Nat := l.findIdx fun x => !mayS x
def TX (l : List St) : List UInt8 × Int × Int :=
  if 65536 < l.length then ([], 0, 3) else if bad l < l.length then ([], (bad l : Int), 2) else
  if 1048576 < (txt l).length then ([], 0, 3) else (txt l, (l.length : Int), 0)
theorem bad_at {l : List St} {i : Nat} (hi : i < l.length) (h : ∀ j (hj : j < l.length), j < i → mayS l[j] = true) (hb : mayS l[i] = false) : bad l = i := by
  unfold bad
  rw [List.findIdx_eq hi]
  exact ⟨by simp [hb], fun j hj => by simp [h j (by omega) hj]⟩
theorem bad_no {l : List St} (h : ∀ j (hj : j < l.length), mayS l[j] = true) : bad l = l.length := by
  unfold bad
  rw [List.findIdx_eq_length]
  intro x hx
  obtain ⟨j, hj, rfl⟩ := List.getElem_of_mem hx
  simp [h j hj]
theorem may_of {l : List St} (h : ¬ bad l < l.length) {i : Nat} (hi : i < l.length) : mayS l[i] = true := by
  have hb : bad l = l.length := Nat.le_antisymm List.findIdx_le_length (by omega)
  unfold bad at hb
  rw [List.findIdx_eq_length] at hb
  simpa using hb _ (List.getElem_mem hi)
section
variable {S : Nat → Prop} {h : H}
theorem T1_ok {cs : List Value} {x : St} (hx : Rep S stT h cs x) (hl : x.2.2.2.2.2.length ≤ 4611686018427387904) : Ok Tryd.prog 57 #[.agg cs.toArray] h fun v h' => v = .bool (!mayS x) ∧ Ext h h' := by
  have hc := Rep.cells hx
  obtain ⟨v, w, rfl, hb, hv, hw⟩ := rep_st.1 hx
  refine c57_ok (args := [_]) (by simp) ?_
  simp (disch := omega) only [dm_t, wS, simprocAttr, IntKind.bits]
  intro p hp
  generalize hG : hupd h p _ = g1
  obtain ⟨e1, qp⟩ := new_ext hG hp
  clear hG
  simp (disch := omega) only [dm_t, wS, simprocAttr, IntKind.bits, cellsAt_all qp 7 rfl]
  refine (Check_ok (hx.ext e1) hl).k ?_
  rintro _ g2 ⟨rfl, e2⟩
  cases hm : mayS x
  · simp (disch := omega) only [dm_t, wS, simprocAttr, IntKind.bits, hm]
    exact e1.trans e2
  · simp (disch := omega) only [dm_t, wS, simprocAttr, IntKind.bits, hm]
    exact e1.trans e2
theorem IxF_ok {v : Value} {l : List St} (r : RepL S stT h v l) (hl : l.length ≤ 4611686018427387904) (hp : ∀ x ∈ l, x.2.2.2.2.2.length ≤ 4611686018427387904) :
    Ok Tryd.prog 56 #[v, .func (.func 57) #[] #[]] h fun v h' => v = .int .i64 (if bad l < l.length then (bad l : Int) else -1) ∧ Ext h h' := by
  obtain ⟨va, vc', rfl⟩ := r.len
  refine c56_ok (args := [_, _]) (by simp) ?_
  simp (disch := omega) only [dm_t, wS, simprocAttr, IntKind.bits]
  refine vc_loop1 (fun vi h' => Ext h h' ∧ ∃ i : Nat, vi = .int .i64 (i : Int) ∧ i ≤ l.length ∧ ∀ j (hj : j < l.length), j < i → mayS l[j] = true) (fun vi _ => l.length - m1 vi) ?_ ?_
  · simp (disch := omega) only [dm_t, wS, simprocAttr, IntKind.bits]
    exact ⟨Ext.refl _, 0, rfl, by omega, fun j hj h => by omega⟩
  rintro _ g ⟨e, i, rfl, hi, hall⟩
  by_cases hil : i < l.length
  · obtain ⟨b, o, vb, vp, i1, -, t1, hs, hb, hpk⟩ := step_at (r.ext e) hil .i64
    simp (disch := omega) only [dm_t, wS, simprocAttr, IntKind.bits, i1, t1]
    refine ⟨by kernel_rfl, (T1_ok (rep_st.2 ⟨_, _, rfl, hs, hb, hpk⟩) (hp _ (List.getElem_mem hil))).k ?_⟩
    rintro _ g2 ⟨rfl, e2⟩
    cases hm : mayS l[i] with
    | true =>
      simp (disch := omega) only [dm_t, wS, simprocAttr, IntKind.bits]
      refine ⟨⟨e.trans e2, i + 1, by simp, by omega, fun j hj hji => ?_⟩, by simp [m1] <;> omega⟩
      by_cases hji' : j = i
      · subst hji'; exact hm
      · exact hall j hj (by omega)
    | false =>
      have hb := bad_at hil hall hm
      simp (disch := omega) only [dm_t, wS, simprocAttr, IntKind.bits]
      rw [hb, if_pos hil]
      exact ⟨rfl, e.trans e2⟩
  · have hb := bad_no (l := l) fun j hj => hall j hj (by omega)
    simp (disch := omega) only [dm_t, wS, simprocAttr, IntKind.bits]
    rw [hb, if_neg (Nat.lt_irrefl _)]
    exact ⟨rfl, e⟩
theorem Text_ok (G : GL h) {v : Value} {l : List St} (r : RepL S stT h v l) (hl : l.length ≤ 4611686018427387904) (hp : ∀ x ∈ l, x.2.2.2.2.2.length ≤ 4611686018427387904) :
    Ok Tryd.prog 28 #[v] h fun v h' => v = .tuple #[sv (TX l).1, .int .i64 (TX l).2.1, .int .i64 (TX l).2.2] ∧ Ext h h' := by
  obtain ⟨va, vc', rfl⟩ := r.len
  refine c28_ok (args := [_]) (by simp) ?_
  by_cases hbig : 65536 < l.length
  · have ht : TX l = ([], 0, 3) := if_pos hbig
    rw [ht]
    simp (disch := omega) only [dm_t, wS, simprocAttr, IntKind.bits]
    exact Ext.refl _
  have ht : TX l = if bad l < l.length then ([], (bad l : Int), 2) else if 1048576 < (txt l).length then ([], 0, 3) else (txt l, (l.length : Int), 0) := if_neg hbig
  rw [ht]
  simp (disch := omega) only [dm_t, wS, simprocAttr, IntKind.bits]
  refine (IxF_ok r hl hp).k ?_
  rintro _ g1 ⟨rfl, e1⟩
  by_cases hb : bad l < l.length
  · rw [if_pos hb, if_pos hb]
    simp (disch := omega) only [dm_t, wS, simprocAttr, IntKind.bits]
    exact e1
  rw [if_neg hb, if_neg hb]
  simp (disch := omega) only [dm_t, wS, simprocAttr, IntKind.bits]
  intro tb htb
  generalize hG : hupd g1 tb _ = g2
  obtain ⟨e2, qt⟩ := new_ext hG htb
  clear hG
  have htb0 : h tb = none := e1.bk htb
  simp (disch := omega) only [dm_t, wS, simprocAttr, IntKind.bits]
  refine vc_loop1 (fun vi g => ∃ (i : Nat) (w : Value), vi = .int .i64 (i : Int) ∧ i ≤ l.length ∧ (txt (l.take i)).length ≤ 1048576 ∧ BO (fun y => h y = none ∧ y ≠ tb) g tb w (txt (l.take i)) ∧ Ext h g) (fun vi _ => l.length - m1 vi) ?_ ?_
  · simp (disch := omega) only [dm_t, wS, simprocAttr, IntKind.bits]
    exact ⟨0, _, by simp, by omega, by simp [txt], ⟨⟨_, qt, .inl rfl⟩, OwK.nil, fun _ => rfl⟩, e1.trans e2⟩
  rintro _ g ⟨i, w, rfl, hi, hlen, B, e⟩
  by_cases hil : i < l.length
  case neg =>
    obtain rfl : i = l.length := by omega
    rw [List.take_length] at hlen B
    rw [if_neg (by omega)]
    simp (disch := omega) only [dm_t, wS, simprocAttr, IntKind.bits]
    refine (BS_ok B (by omega)).k ?_
    rintro _ g3 ⟨rfl, f3⟩
    simp (disch := omega) only [dm_t, wS, simprocAttr, IntKind.bits]
    exact Ext.step' e f3 fun y hy => hy.1.1
  obtain ⟨b, o, vb, vp, i1, -, t1, hs, hbb, hpk⟩ := step_at (r.ext e) hil .i64
  have hm := may_of hb hil
  have m := (may_iff _).1 hm
  have hll := ln_len m
  have hcells := Rep.cells (rep_st.2 ⟨vb, vp, rfl, hs, hbb, hpk⟩ : Rep S stT g (sCs l[i] vb vp) l[i])
  simp (disch := omega) only [dm_t, wS, simprocAttr, IntKind.bits, i1, t1]
  intro sb hsb
  simp (disch := omega) only [dm_t, wS, simprocAttr, IntKind.bits]
  refine storeH_all (vs := sCs l[i] vb vp) (hupd_same _ _ _) rfl hcells ?_
  rw [hupd_hupd]
  generalize hG : hupd g sb _ = g3
  obtain ⟨e3, q3⟩ := new_ext hG hsb
  clear hG
  simp (disch := omega) only [dm_t, wS, simprocAttr, IntKind.bits, cellsAt_all q3 7 rfl]
  refine (Line_ok (G.ext (e.trans e3)) (rep_st.2 ⟨vb, vp, rfl, hs, hbb.ext e3, hpk.ext e3⟩) (hp _ (List.getElem_mem hil))).k ?_
  rintro _ g4 ⟨rfl, e4⟩
  rw [hm]
  simp only [if_true]
  simp (disch := omega) only [dm_t, wS, simprocAttr, IntKind.bits, mk_append, size_mk, List.length_cons, List.length_nil]
  have e34 := e3.trans e4
  obtain ⟨pa, q, hpa⟩ := B.q
  have B4 : BO (fun y => h y = none ∧ y ≠ tb) g4 tb w (txt (l.take i)) := ⟨⟨pa, e34.at q, hpa⟩, OwK.ext B.ow e34, B.ne⟩
  have hsn : txt (l.take (i + 1)) = txt (l.take i) ++ (ln l[i] ++ [10]) := by rw [List.take_succ_eq_append_getElem hil, txt_snoc]
  refine (WS_ok B4 (fun y hy => ⟨(e.trans e34).bk hy, fun h => by subst h; rw [e34.at q] at hy; cases hy⟩) (.inr trivial) (ln l[i] ++ [10]) (by simp) (by simp; omega)).k ?_
  rintro _ g5 ⟨⟨w5, B5⟩, f5⟩
  rw [← hsn] at B5
  have e5 : Ext h g5 := Ext.step' (e.trans e34) f5 fun y hy => hy.elim (fun hy => by rw [hy]; exact htb0) fun hy => hy.1.1
  simp (disch := omega) only [dm_t, wS, simprocAttr, IntKind.bits]
  refine (BL_ok B5).k ?_
  rintro _ _ ⟨rfl, rfl⟩
  have hpre := @txt_pre l (i + 1)
  have hln2 : (txt (l.take (i + 1))).length = (txt (l.take i)).length + ((ln l[i]).length + 1) := by rw [hsn]; simp
  by_cases hbg : 1048576 < (txt (l.take (i + 1))).length
  · rw [if_pos (by omega)]
    simp (disch := omega) only [dm_t, wS, simprocAttr, IntKind.bits]
    exact e5
  · simp (disch := omega) only [dm_t, wS, simprocAttr, IntKind.bits]
    exact ⟨⟨i + 1, w5, by simp, by omega, by omega, B5, e5⟩, by simp [m1] <;> omega⟩
theorem DText_ok (G : GL h) {v : Value} {l : List St} (r : RepL S stT h v l) (hl : l.length ≤ 4611686018427387904) (hp : ∀ x ∈ l, x.2.2.2.2.2.length ≤ 4611686018427387904) :
    Ok Tryd.prog 29 #[v] h fun v h' => v = .tuple #[sv (TX l).1, .int .i64 (TX l).2.1, .int .i64 (TX l).2.2] ∧ Ext h h' := by
  obtain ⟨va, vc', rfl⟩ := r.len
  refine c29_ok (args := [_]) (by simp) ?_
  by_cases hbig : 65536 < l.length
  · have ht : TX l = ([], 0, 3) := if_pos hbig
    rw [ht]
    simp (disch := omega) only [dm_t, wS, simprocAttr, IntKind.bits]
    exact Ext.refl _
  have ht : TX l = if bad l < l.length then ([], (bad l : Int), 2) else if 1048576 < (txt l).length then ([], 0, 3) else (txt l, (l.length : Int), 0) := if_neg hbig
  rw [ht]
  simp (disch := omega) only [dm_t, wS, simprocAttr, IntKind.bits]
  refine vc_loop1 (fun vi h' => Ext h h' ∧ ∃ i : Nat, vi = .int .i64 (i : Int) ∧ i ≤ l.length ∧ ∀ j (hj : j < l.length), j < i → mayS l[j] = true) (fun vi _ => l.length - m1 vi) ?_ ?_
  · simp (disch := omega) only [dm_t, wS, simprocAttr, IntKind.bits]
    exact ⟨Ext.refl _, 0, rfl, by omega, fun j hj h => by omega⟩
  rintro _ g ⟨e, i, rfl, hi, hall⟩
  by_cases hil : i < l.length
  · obtain ⟨b, o, vb, vp, i1, -, t1, hs, hb, hpk⟩ := step_at (r.ext e) hil .i64
    simp (disch := omega) only [dm_t, wS, simprocAttr, IntKind.bits, i1, t1]
    refine (DMay_ok (rep_st.2 ⟨_, _, rfl, hs, hb, hpk⟩) (hp _ (List.getElem_mem hil))).k ?_
    rintro _ g2 ⟨rfl, e2⟩
    cases hm : mayS l[i] with
    | true =>
      simp (disch := omega) only [dm_t, wS, simprocAttr, IntKind.bits]
      refine ⟨⟨e.trans e2, i + 1, by simp, by omega, fun j hj hji => ?_⟩, by simp [m1] <;> omega⟩
      by_cases hji' : j = i
      · subst hji'; exact hm
      · exact hall j hj (by omega)
    | false =>
      have hb := bad_at hil hall hm
      rw [hb, if_pos hil]
      simp (disch := omega) only [dm_t, wS, simprocAttr, IntKind.bits]
      exact e.trans e2
  have hb := bad_no (l := l) fun j hj => hall j hj (by omega)
  rw [hb, if_neg (Nat.lt_irrefl _)]
  simp (disch := omega) only [dm_t, wS, simprocAttr, IntKind.bits]
  refine vc_loop2 (fun vs vi g' => ∃ (i : Nat), vs = sv (txt (l.take i)) ∧ vi = .int .i64 (i : Int) ∧ i ≤ l.length ∧ (txt (l.take i)).length ≤ 1048576 ∧ Ext h g') (fun _ vi _ => l.length - m1 vi) ?_ ?_
  · simp (disch := omega) only [dm_t, wS, simprocAttr, IntKind.bits]
    exact ⟨0, by simp [txt], by simp, by omega, by simp [txt], e⟩
  rintro _ _ g3 ⟨k, rfl, rfl, hk, hlen, e3⟩
  by_cases hkl : k < l.length
  case neg =>
    obtain rfl : k = l.length := by omega
    rw [List.take_length] at hlen
    rw [if_neg (by omega)]
    simp (disch := omega) only [dm_t, wS, simprocAttr, IntKind.bits, List.take_length]
    exact e3
  obtain ⟨b, o, vb, vp, i1, -, t1, hs, hbb, hpk⟩ := step_at (r.ext e3) hkl .i64
  have hm := hall k hkl (by omega)
  have m := (may_iff _).1 hm
  have hll := ln_len m
  simp (disch := omega) only [dm_t, wS, simprocAttr, IntKind.bits, i1, t1]
  refine (DLine_ok (G.ext e3) (rep_st.2 ⟨vb, vp, rfl, hs, hbb, hpk⟩) m).k ?_
  rintro _ g4 ⟨rfl, e4⟩
  have hsn : txt (l.take (k + 1)) = txt (l.take k) ++ ln l[k] ++ [10] := by rw [List.take_succ_eq_append_getElem hkl, txt_snoc, List.append_assoc]
  have hpre := @txt_pre l (k + 1)
  have hln2 : (txt (l.take (k + 1))).length = (txt (l.take k)).length + (ln l[k]).length + 1 := by rw [hsn]; simp; omega
  by_cases hbg : 1048576 < (txt (l.take k)).length + (ln l[k]).length + 1
  · rw [if_pos (by omega)]
    simp (disch := omega) only [dm_t, wS, simprocAttr, IntKind.bits, mk_append, size_mk, List.length_append, List.length_cons, List.length_nil]
    exact e3.trans e4
  · simp (disch := omega) only [dm_t, wS, simprocAttr, IntKind.bits, mk_append, size_mk, List.length_append, List.length_cons, List.length_nil]
    exact ⟨⟨k + 1, by rw [hsn], by simp, by omega, by omega, e3.trans e4⟩, by simp [m1] <;> omega⟩
end
end Go.Proofs.YtooimdgoibdhlaaDoor.sc
namespace Go.Proofs.YtooimdgoibdhlaaDoor.sc
open Go Go.Proofs.YtooimdgoibdhlaaDoor Go.RowKit
set_option linter.unusedVariables false
set_option linter.unusedSimpArgs false
theorem no_jn : ∀ {ws : List (List UInt8)}, (∀ w ∈ ws, no10 w) → no10 (jn ws)
  | [], _ => by intro c hc; simp [jn] at hc
  | [w], h => by simpa [jn] using h w (by simp)
  | w :: x :: t, h => by
    rw [jn_cons w (by simp)]
    intro c hc
    have ih := no_jn (ws := x :: t) fun y hy => h y (List.mem_cons_of_mem _ hy)
    simp only [List.mem_append] at hc
    rcases hc with hc | hc
    · exact h w (by simp) c hc
    · rcases List.mem_cons.1 hc with rfl | hc
      · decide
      · exact ih c hc
theorem no_k {w : List UInt8} (h : (w.all fun c => decide (c.toNat ≠ 10)) = true) : no10 w := by
  intro c hc
  simpa using List.all_eq_true.1 h c hc
theorem no_dz (n : Int) : no10 (dz n) := fun c hc => by have := dec_dg hc; unfold isDg at this; omega
theorem no_hexd (l : List UInt8) : no10 (hexd l) := by
  unfold hexd; split
  · intro c hc; simp only [List.mem_cons, List.not_mem_nil, or_false] at hc; subst hc; decide
  · exact fun c hc => (hexs_mem hc).2.2.2
theorem no_ln (x : St) : no10 (ln x) := by
  refine no_jn ?_
  have hs := no_k (w := kSend) (by decide); have hp := no_k (w := kPick) (by decide); have hf := no_k (w := kFate) (by decide); have hst := no_k (w := kStop) (by decide)
  have ho := no_k (w := kOpen) (by decide); have hg := no_k (w := kGood) (by decide); have hfa := no_k (w := kFail) (by decide); have hfu := no_k (w := kFull) (by decide)
  intro w hw
  unfold wl at hw
  split at hw
  · simp only [List.mem_cons, List.not_mem_nil, or_false] at hw
    rcases hw with rfl | rfl | rfl
    · exact hs
    · exact no_dz _
    · exact no_hexd _
  split at hw
  · simp only [List.mem_cons, List.not_mem_nil, or_false] at hw
    rcases hw with rfl | rfl
    · exact hp
    · exact no_dz _
  split at hw
  · split at hw
    · simp only [List.mem_cons, List.not_mem_nil, or_false] at hw
      rcases hw with rfl | rfl
      · exact hf
      · exact hg
    · simp only [List.mem_cons, List.not_mem_nil, or_false] at hw
      rcases hw with rfl | rfl | rfl
      · exact hf
      · split
        · exact hfa
        · exact hfu
      · exact no_dz _
  split at hw
  · rcases List.mem_cons.1 hw with rfl | hw
    · exact hst
    · obtain ⟨n, -, rfl⟩ := List.mem_map.1 hw
      exact no_dz _
  · simp only [List.mem_cons, List.not_mem_nil, or_false] at hw
    rcases hw with rfl | rfl
    · exact ho
    · exact no_dz _
theorem txt_cons (x : St) (l : List St) : txt (x :: l) = ln x ++ 10 :: txt l := by simp [txt]
theorem nls_txt : ∀ l : List St, nls (txt l) = l.length
  | [] => nls_nil
  | x :: l => by rw [txt_cons, nls_cut (no_ln x), nls_txt l, List.length_cons]; omega
theorem scn_txt : ∀ (n : Nat) (l : List St), l.length ≤ n → (∀ x ∈ l, May x) → (txt l).length ≤ 1048576 → scn n (txt l) = (l, [])
  | 0, l, h, _, _ => by
    have : l = [] := List.length_eq_zero_iff.1 (by omega)
    subst this; rfl
  | n + 1, [], _, _, _ => rfl
  | n + 1, x :: l, h, hm, hl => by
    rw [txt_cons] at hl ⊢
    have hr : rdS (ln x) = (x, 0) := rdS_yes (by simp at hl; omega) (hm x (by simp)) rfl
    rw [scn_yes (cut10_app (no_ln x)) (by rw [hr]), hr, scn_txt n l (by simpa using h) (fun y hy => hm y (by simp [hy])) (by simp at hl; omega)]
theorem prs_txt {l : List St} (h : l.length ≤ 65536) (hm : ∀ x ∈ l, May x) (hl : (txt l).length ≤ 1048576) : prs (txt l) = (l, (l.length : Int), 0) := by
  unfold prs
  rw [nls_txt, if_neg (by omega), scn_txt _ _ h hm hl, if_pos rfl]
theorem bad_all {l : List St} (hm : ∀ x ∈ l, mayS x = true) : bad l = l.length := bad_no fun j hj => hm _ (List.getElem_mem hj)
theorem TX_may {l : List St} (h : l.length ≤ 65536) (hm : ∀ x ∈ l, mayS x = true) : TX l = if 1048576 < (txt l).length then ([], 0, 3) else (txt l, (l.length : Int), 0) := by
  unfold TX
  rw [bad_all hm, if_neg (by omega), if_neg (by omega)]
theorem rdS_back {line : List UInt8} (h : (rdS line).2 = 0) : May (rdS line).1 ∧ ln (rdS line).1 = line := by
  by_cases hl : line.length ≤ 1048576
  · by_cases he : ∃ t, May t ∧ ln t = line
    · obtain ⟨t, m, ht⟩ := he
      rw [rdS_yes hl m ht]; exact ⟨m, ht⟩
    · rw [rdS_no hl fun t m ht => he ⟨t, m, ht⟩] at h; cases h
  · rw [rdS_long (by omega)] at h; cases h
end Go.Proofs.YtooimdgoibdhlaaDoor.sc
