/-
  The statement on what is read back (ScriptBack), walked.
-/
import Derived.Test.YtooimdgoibdhlaaDoorQi
namespace Go.Proofs.YtooimdgoibdhlaaDoor.sc
open Go Go.Proofs.YtooimdgoibdhlaaDoor Go.RowKit
set_option linter.unusedVariables false
set_option linter.unusedSimpArgs false
theorem cut_k (cut : Int) (n : Nat) : ∃ k : Nat, k ≤ n ∧ ((cut.tmod ((n : Int) + 1) + (n : Int) + 1).tmod ((n : Int) + 1)) = (k : Int) ∧ ((cut.tmod ((n : Int) + 1) + (n : Int) + 1) % ((n : Int) + 1)) = (k : Int) ∧ -(n : Int) ≤ cut.tmod ((n : Int) + 1) ∧ cut.tmod ((n : Int) + 1) ≤ (n : Int) := by
  have h1 := Int.tmod_lt_of_pos cut (b := (n : Int) + 1) (by omega)
  have h2 := Int.lt_tmod_of_pos cut (b := (n : Int) + 1) (by omega)
  have h0 : 0 ≤ cut.tmod ((n : Int) + 1) + (n : Int) + 1 := by omega
  have h3 := Int.tmod_nonneg ((n : Int) + 1) h0
  have h4 := Int.tmod_lt_of_pos (cut.tmod ((n : Int) + 1) + (n : Int) + 1) (b := (n : Int) + 1) (by omega)
  have h5 := Int.tmod_eq_emod_of_nonneg (b := (n : Int) + 1) h0
  exact ⟨((cut.tmod ((n : Int) + 1) + (n : Int) + 1).tmod ((n : Int) + 1)).toNat, by omega, by omega, by omega, by omega, by omega⟩
section
variable {h : H}
/-- What stands behind: the line. -/
theorem SB_s12 (G : GL h) {g : H} (e : Ext h g) (line : List UInt8) (hl : line.length ≤ 9223372036854775807) : vc Tryd.prog c5_s12 (retQ [6] (okR fun v h' => v = .bool true ∧ Ext h h')) [(2, sv line)] g := by
  simp (disch := omega) only [dm_t, wS, simprocAttr, IntKind.bits]
  refine (Read_ok (G.ext e) line hl).k ?_
  rintro _ g2 hrd
  obtain ⟨vb, vp, rfl, cb, cp, hB, ob, op, hi, e2⟩ := hrd.cells
  simp (disch := omega) only [dm_t, wS, simprocAttr, IntKind.bits]
  intro xb hxb
  simp (disch := omega) only [dm_t, wS, simprocAttr, IntKind.bits]
  refine storeH_all (vs := sCs (rdS line).1 vb vp) (hupd_same _ _ _) rfl (cells_sCs cb cp) ?_
  rw [hupd_hupd]
  generalize hG : hupd g2 xb _ = g3
  obtain ⟨e3, qx⟩ := new_ext hG hxb
  clear hG
  have E3 := e.trans (e2.trans e3)
  simp (disch := omega) only [dm_t, wS, simprocAttr, IntKind.bits]
  refine (Num_ok g3 _).k ?_
  rintro _ _ ⟨rfl, rfl⟩
  by_cases he : (rdS line).2 = 0
  case neg =>
    simp (disch := omega) only [dm_t, wS, simprocAttr, IntKind.bits, he]
    refine (works_ok (G.ext E3)).k ?_
    rintro _ g4 ⟨rfl, e4⟩
    simp (disch := omega) only [dm_t, wS, simprocAttr, IntKind.bits]
    exact E3.trans e4
  obtain ⟨m, hln⟩ := rdS_back he
  have hpl := rdS_pl line
  have hm := (may_iff _).2 m
  simp (disch := omega) only [dm_t, wS, simprocAttr, IntKind.bits, he, cellsAt_all qx 7 rfl]
  refine (Line_ok (G.ext E3) (rep_st.2 ⟨vb, vp, rfl, hB, (OwK.ext ob e3).s0, iRep (OwK.ext op e3).s0 hi⟩) (by omega)).k ?_
  rintro _ g4 ⟨rfl, e4⟩
  rw [hm]
  simp only [if_true]
  rw [hln]
  simp (disch := omega) only [dm_t, wS, simprocAttr, IntKind.bits, toList_mk]
  refine (Num_ok g4 0).k ?_
  rintro _ _ ⟨rfl, rfl⟩
  simp (disch := omega) only [dm_t, wS, simprocAttr, IntKind.bits]
  refine (works_ok (G.ext (E3.trans e4))).k ?_
  rintro _ g5 ⟨rfl, e5⟩
  simp (disch := omega) only [dm_t, wS, simprocAttr, IntKind.bits]
  exact (E3.trans e4).trans e5
theorem SB_s6 (G : GL h) {g : H} (e : Ext h g) (line : List UInt8) (hl : line.length ≤ 9223372036854775807) (cut : Int) {v : Value} {l : List St} (r : RepL nos stT g v l) (hn : l.length ≤ 60) (hm : ∀ x ∈ l, mayS x = true) (hp : ∀ x ∈ l, x.2.2.2.2.2.length ≤ 500) :
    vc Tryd.prog c5_s6 (retQ [6] (okR fun v h' => v = .bool true ∧ Ext h h')) [(1, .int .i64 cut), (2, sv line), (7, v)] g := by
  obtain ⟨va, vc', rfl⟩ := r.len
  obtain ⟨k, hkn, hk, hk0, hk1, hk2⟩ := cut_k cut l.length
  have hcap := RepL.cap r
  have ht := TX_may (by omega) hm
  have ht2 := TX_may (l := l.take k) (by rw [List.length_take]; omega) fun x hx => hm x (List.mem_of_mem_take hx)
  have hkl : (l.take k).length = k := by rw [List.length_take]; omega
  have hpre := @txt_pre l k
  rw [hkl] at ht2
  have hsl := slcV_pre 7 va l.length vc' k (by omega)
  obtain ⟨v', hs', rk⟩ := RepL.cut r 7 rfl (m3 := false) (l := 0) (u := k) (m := vc') rfl rfl rfl (by omega) (by omega) (by omega) (by omega) (.inr rfl)
  rw [show ((0 : Nat) : Int) = 0 from rfl, hsl] at hs'
  injection hs' with hs'
  subst hs'
  rw [List.drop_zero, Nat.sub_zero] at rk
  simp (disch := omega) only [dm_t, wS, simprocAttr, IntKind.bits, hk, hk0]
  refine (Text_ok (G.ext e) r (by omega) fun x hx => by have := hp x hx; omega).k ?_
  rintro _ g2 ⟨rfl, e2⟩
  simp (disch := omega) only [dm_t, wS, simprocAttr, IntKind.bits, hsl]
  refine (Text_ok (G.ext (e.trans e2)) (rk.ext e2) (by omega) fun x hx => by have := hp x (List.mem_of_mem_take hx); omega).k ?_
  rintro _ g3 ⟨rfl, e3⟩
  have E3 := (e.trans e2).trans e3
  simp (disch := omega) only [dm_t, wS, simprocAttr, IntKind.bits]
  refine (Num_ok g3 _).k ?_
  rintro _ _ ⟨rfl, rfl⟩
  by_cases hbg : 1048576 < (txt l).length
  · have ht' : TX l = ([], 0, 3) := by rw [ht, if_pos hbg]
    rw [ht']
    simp (disch := omega) only [dm_t, wS, simprocAttr, IntKind.bits]
    refine (Num_ok g3 3).k ?_
    rintro _ _ ⟨rfl, rfl⟩
    simp (disch := omega) only [dm_t, wS, simprocAttr, IntKind.bits]
    refine (works_ok (G.ext E3)).k ?_
    rintro _ g4 ⟨rfl, e4⟩
    simp (disch := omega) only [dm_t, wS, simprocAttr, IntKind.bits]
    exact E3.trans e4
  have ht' : TX l = (txt l, (l.length : Int), 0) := by rw [ht, if_neg hbg]
  have ht2' : TX (l.take k) = (txt (l.take k), (k : Int), 0) := by rw [ht2, if_neg (by omega)]
  rw [ht', ht2']
  simp (disch := omega) only [dm_t, wS, simprocAttr, IntKind.bits]
  refine (Num_ok g3 0).k ?_
  rintro _ _ ⟨rfl, rfl⟩
  simp (disch := omega) only [dm_t, wS, simprocAttr, IntKind.bits]
  refine (Parse_ok (G.ext E3) (txt (l.take k)) (by omega)).k ?_
  have hpr := prs_txt (l := l.take k) (by omega) (fun x hx => (may_iff x).1 (hm x (List.mem_of_mem_take hx))) (by omega)
  rw [hkl] at hpr
  rw [hpr]
  rintro _ g4 ⟨w, rfl, r4, e4⟩
  have E4 := E3.trans e4
  have hpx : ((txt l).take (txt (l.take k)).length) = txt (l.take k) := by
    have h1 : txt l = txt (l.take k) ++ txt (l.drop k) := by rw [← txt_app, List.take_append_drop]
    rw [h1, List.take_left]
  simp (disch := omega) only [dm_t, wS, simprocAttr, IntKind.bits, size_mk, ext_mk, toList_mk, hpx, List.drop_zero]
  refine (Num_ok g4 0).k ?_
  rintro _ _ ⟨rfl, rfl⟩
  simp (disch := omega) only [dm_t, wS, simprocAttr, IntKind.bits, hsl]
  refine (lists_ok r4 ((rk.ext e2).ext (e3.trans e4)) (by show (l.take k).length ≤ _; omega) fun x hx => by have := hp x (List.mem_of_mem_take hx); omega).k ?_
  rintro _ g5 ⟨rfl, e5⟩
  have k12 := SB_s12 G (E4.trans e5) line hl
  revert k12
  simp (disch := omega) only [dm_t, wS, simprocAttr, IntKind.bits]
  exact id
theorem SB_ok (G : GL h) {v : Value} {l : List St} (r : RepL nos stT h v l) (hl : l.length ≤ 4611686018427387904) (cut : Int) (hcut : inI cut) (line : List UInt8) (hline : line.length ≤ 9223372036854775807) :
    Ok Tryd.prog 5 #[v, .int .i64 cut, sv line] h fun v h' => v = .bool true ∧ Ext h h' := by
  obtain ⟨va, vc', rfl⟩ := r.len
  refine c5_ok (args := [_, _, _]) (by simp) ?_
  by_cases hbig : 60 < l.length
  · simp (disch := omega) only [dm_t, wS, simprocAttr, IntKind.bits]
    refine (works_ok G).k ?_
    rintro _ g ⟨rfl, e⟩
    simp (disch := omega) only [dm_t, wS, simprocAttr, IntKind.bits]
    exact e
  simp (disch := omega) only [dm_t, wS, simprocAttr, IntKind.bits]
  refine (long_ok r hl).k ?_
  rintro _ _ ⟨rfl, rfl⟩
  cases hlng : l.any lng with
  | true =>
    simp (disch := omega) only [dm_t, wS, simprocAttr, IntKind.bits]
    refine (works_ok G).k ?_
    rintro _ g ⟨rfl, e⟩
    simp (disch := omega) only [dm_t, wS, simprocAttr, IntKind.bits]
    exact e
  | false =>
  have hlim := not_long hlng
  by_cases hlb : 40000 < line.length
  · simp (disch := omega) only [dm_t, wS, simprocAttr, IntKind.bits, size_mk]
    refine (works_ok G).k ?_
    rintro _ g ⟨rfl, e⟩
    simp (disch := omega) only [dm_t, wS, simprocAttr, IntKind.bits]
    exact e
  simp (disch := omega) only [dm_t, wS, simprocAttr, IntKind.bits, size_mk]
  refine vc_loop2 (fun vs vi g => ∃ (i : Nat), vi = .int .i64 (i : Int) ∧ i ≤ l.length ∧ OwL (fun y => h y = none) stT (fun y => h y = none) g 31 vs ((l.take i).filter mayS) ∧ Ext h g) (fun _ vi _ => l.length - m1 vi) ?_ ?_
  · simp (disch := omega) only [dm_t, wS, simprocAttr, IntKind.bits]
    exact ⟨0, rfl, by omega, OwL.nil, Ext.refl _⟩
  rintro vs _ g ⟨i, rfl, hi, ho, e⟩
  by_cases hil : i < l.length
  case neg =>
    obtain rfl : i = l.length := by omega
    rw [List.take_length] at ho
    have k6 := SB_s6 G e line hline cut ho.rep (Nat.le_trans (List.length_filter_le _ _) (by omega)) (fun x hx => (List.mem_filter.1 hx).2) fun x hx => (hlim x (List.mem_filter.1 hx).1).2
    revert k6
    simp (disch := omega) only [dm_t, wS, simprocAttr, IntKind.bits]
    exact id
  obtain ⟨b, o, vb, vp, i1, -, t1, hs, hb, hpk⟩ := step_at (r.ext e) hil .i64
  have hx := hlim _ (List.getElem_mem hil)
  simp (disch := omega) only [dm_t, wS, simprocAttr, IntKind.bits, i1, t1]
  refine (Check_ok (rep_st.2 ⟨_, _, rfl, hs, hb, hpk⟩) (by omega)).k ?_
  rintro _ g2 ⟨rfl, e2⟩
  simp (disch := omega) only [dm_t, wS, simprocAttr, IntKind.bits]
  refine (Num_ok g2 _).k ?_
  rintro _ _ ⟨rfl, rfl⟩
  have htk : l.take (i + 1) = l.take i ++ [l[i]] := List.take_succ_eq_append_getElem hil
  cases hm : mayS l[i] with
  | false =>
    have hf : (l.take (i + 1)).filter mayS = (l.take i).filter mayS := by rw [htk, List.filter_append]; simp [hm]
    simp (disch := omega) only [dm_t, wS, simprocAttr, IntKind.bits]
    exact ⟨⟨i + 1, by simp, by omega, by rw [hf]; exact ho.ext e2, e.trans e2⟩, by simp [m1] <;> omega⟩
  | true =>
    have hf : (l.take (i + 1)).filter mayS = (l.take i).filter mayS ++ [l[i]] := by rw [htk, List.filter_append]; simp [hm]
    have hfl : ((l.take i).filter mayS).length ≤ 60 := Nat.le_trans (List.length_filter_le _ _) (by rw [List.length_take]; omega)
    obtain ⟨sa, sc, rfl⟩ := ho.len
    obtain ⟨b', o', vb', vp', i1', -, t1', hs', hb', hpk'⟩ := step_at (r.fresh.ext (e.trans e2)) hil .i64
    have hrow : Rep (fun y => isAt (.slice sa ((l.take i).filter mayS).length sc) y ∨ h y = none) stT g2 (sCs l[i] vb' vp') l[i] := by
      exact Rep.mono (rep_st.2 ⟨vb', vp', rfl, hs', hb', hpk'⟩) fun y o _ hy => hy.elim (fun hy => ho.own hy) id
    simp (disch := omega) only [dm_t, wS, simprocAttr, IntKind.bits, i1', t1']
    intro bl hbl
    simp (disch := omega) only [dm_t, wS, simprocAttr, IntKind.bits]
    refine OwL.push (V := fun _ => _) (bytes := 88) (z := z7.toArray) 7 rfl (ho.ext e2) (fun y hy => (e.trans e2).bk hy) hrow (by rfl) (by omega) (by omega) ?_ bl hbl
    intro _ s' g6 _ o6 f6
    rw [← hf] at o6
    simp (disch := omega) only [dm_t, wS, simprocAttr, IntKind.bits]
    exact ⟨⟨i + 1, by simp, by omega, o6, Ext.step (e.trans e2) f6⟩, by simp [m1] <;> omega⟩
end
end Go.Proofs.YtooimdgoibdhlaaDoor.sc
