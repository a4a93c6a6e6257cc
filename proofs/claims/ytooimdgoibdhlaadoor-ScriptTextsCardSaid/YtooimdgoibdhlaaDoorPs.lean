/-
  A line read: the program's answer, whole.
-/
import Derived.Test.YtooimdgoibdhlaaDoorPp
namespace Go.Proofs.YtooimdgoibdhlaaDoor.sc
open Go Go.Proofs.YtooimdgoibdhlaaDoor Go.RowKit
set_option linter.unusedVariables false
set_option linter.unusedSimpArgs false
theorem Read_ok {h : H} (G : GL h) (line : List UInt8) (hl63 : line.length ≤ 9223372036854775807) : Ok Tryd.prog 13 #[sv line] h (RD h line) := by
  refine c13_ok (args := [_]) (by simp) ?_
  simp (disch := omega) only [dm_t, wS, simprocAttr, IntKind.bits, wG]
  intro p2 hp2
  generalize hG : hupd h p2 _ = g1
  obtain ⟨e1, q2⟩ := new_ext hG hp2
  clear hG
  by_cases hl : line.length ≤ 1048576
  case neg =>
    have hr : rdS line = (z0, 3) := rdS_long (by omega)
    simp (disch := omega) only [dm_t, wS, simprocAttr, IntKind.bits, wG, size_mk]
    refine storeH_all q2 rfl rfl ?_
    have k : cellsAt (hupd g1 p2 (.cells z7.toArray 31)) ⟨p2, 0, none⟩ 7 = some z7.toArray := cellsAt_all (hupd_same _ _ _) 7 rfl
    simp (disch := omega) only [dm_t, wS, simprocAttr, IntKind.bits, wG, k]
    exact RD_zero (Ext.step' e1 (Fr.upd (S := fun y => y = p2) rfl _) fun y hy => by rw [hy]; exact hp2) hr
  simp (disch := omega) only [dm_t, wS, simprocAttr, IntKind.bits, wG, size_mk]
  intro ps hps
  generalize hG : hupd g1 ps _ = g2
  obtain ⟨e2, qs⟩ := new_ext hG hps
  clear hG
  have hne : p2 ≠ ps := fun he => by rw [← he, q2] at hps; cases hps
  simp (disch := omega) only [dm_t, wS, simprocAttr, IntKind.bits, wG]
  have E2 := e1.trans e2
  refine (Split_ok (G.ext E2) line hl).k ?_
  rintro vw g3 ⟨ow, e3⟩
  have E3 := E2.trans e3
  have hw : S1 (fun y => y = ps ∨ g3 y = none) g3 vw ((wds line).map sv) := OwK.sl (OwK.mono ow (O' := fun y => g2 y = none ∧ g3 y ≠ none) fun y o hy hn => ⟨hn, by rw [hy]; simp⟩) fun y hy hh => by
    rcases hh with hh | hh
    · rw [hh, qs] at hy; cases hy.1
    · exact hy.2 hh
  have hwle : (wds line).length ≤ 1048577 := by
    have h1 := wds_len line
    have h2 : cnt 32 line ≤ line.length := List.countP_le_length
    omega
  have q23 := e3.at (e2.at q2)
  have qs3 := e3.at qs
  obtain ⟨w0, ws, hws⟩ : ∃ w0 ws, wds line = w0 :: ws := by
    cases h : wds line with
    | nil => exact absurd h (wds_ne line)
    | cons a t => exact ⟨a, t, rfl⟩
  obtain ⟨aw, cw, hvw⟩ := S1.len hw
  rw [List.length_map] at hvw
  subst hvw
  obtain ⟨bw, o0, i0, t0⟩ := S1.ldA hw (i := 0) (w := w0) (by rw [hws]; rfl) .i64
  replace i0 : idxV1 1 (.slice aw (wds line).length cw) (.int .i64 0) = some (.pointer (some ⟨bw, o0, none⟩)) := i0
  simp (disch := omega) only [dm_t, wS, simprocAttr, IntKind.bits, wG]
  intro pw hpw
  refine (stn_new (vs := [.slice aw (wds line).length cw]) rfl (by rfl) rfl ?_).2
  generalize hG : hupd g3 pw _ = g4
  obtain ⟨e4, qw⟩ := new_ext hG hpw
  clear hG
  simp (disch := omega) only [dm_t, wS, simprocAttr, IntKind.bits, wG]
  intro pat hpat
  refine (stn_new (vs := [.int .i64 1]) rfl (by rfl) rfl ?_).2
  generalize hG : hupd g4 pat _ = g5
  obtain ⟨e5, qat⟩ := new_ext hG hpat
  clear hG
  simp (disch := omega) only [dm_t, wS, simprocAttr, IntKind.bits, wG]
  intro pn hpn
  refine (stn_new (vs := [.func (.func 38) #[] #[.pointer (some ⟨pat, 0, none⟩), .pointer (some ⟨pw, 0, none⟩)]]) rfl (by rfl) rfl ?_).2
  generalize hG : hupd g5 pn _ = g6
  obtain ⟨e6, qn⟩ := new_ext hG hpn
  clear hG
  have e36 := (e4.trans e5).trans e6
  have L : LS (fun y => y = ps ∨ g3 y = none) h g3 (.slice aw (wds line).length cw) line p2 ps pat pw pn g6 1 z7 :=
    ⟨⟨G, E3, hw, e36.mono fun _ h => h.elim, e6.at qat, e6.at (e5.at qw), qn, by rw [hws]; simp, hwle, fun w hw => Nat.le_trans (wds_le line w hw) hl, .inr (e4.bk hpat), fun y hy => by
        rcases hy with hy | hy
        · rw [hy]; exact e1.bk hps
        · exact E3.bk hy, fun y hy => .inr hy⟩, e36.at q23, e36.at qs3, hne, hp2, .inl rfl, hl⟩
  have cw6 : cellAt g6 ⟨pw, 0, none⟩ = some (.slice aw (wds line).length cw) := by rw [cellAt_of (e6.at (e5.at qw))]; rfl
  have c0 := t0 g6 (e36.mono fun _ h => h.elim)
  have cq := L.qs
  by_cases k1 : w0 = kSend
  · subst k1
    have k := Read_j0 (T := []) L hws
    revert k
    simp (disch := omega) only [dm_t, wS, simprocAttr, IntKind.bits, wG, cw6, i0, c0, toList_mk]
    exact id
  by_cases k2 : w0 = kPick
  · subst k2
    simp (disch := omega) only [dm_t, wS, simprocAttr, IntKind.bits, wG, cw6, i0, c0, toList_mk]
    refine ⟨by kernel_rfl, (num_ok L.R).k ?_⟩
    rintro _ g7 ⟨⟨q, rfl, hq, hqm⟩, ⟨i', R1, hi'⟩, f1⟩
    have s1 := L.call R1 f1
    have qs1 := s1.qs
    simp (disch := omega) only [dm_t, wS, simprocAttr, IntKind.bits, wG, storeH_0 qs1, storeH_same, hupd_hupd]
    generalize hG : hupd g7 ps _ = g8
    have s2 := s1.put (cells' := [.int .i64 2, .int .i64 0, .slice none 0 0, .int .i64 q, .int .i64 0, .int .i64 0, .slice none 0 0]) hG
    clear hG
    have k := s2.told0 (T := []) (x := (2, 0, [], q, (0, 0), [])) rfl ⟨in2, in0, hq, in0, in0⟩ rfl rfl fun t mt ht => by
      obtain ⟨h1, h2⟩ := wl_2 mt (ht.trans hws)
      have a1 : (wds line).getD 1 [] = dz t.2.2.2.1 := by rw [hws, h2]; rfl
      rw [a1] at hqm
      rw [h1, dz_num mt.pk hqm]
    revert k
    simp (disch := omega) only [dm_t, wS, simprocAttr, IntKind.bits, wG]
    exact id
  by_cases k3 : w0 = kFate
  · subst k3
    have k := Read_j2 L hws
    revert k
    simp (disch := omega) only [dm_t, wS, simprocAttr, IntKind.bits, wG, cw6, i0, c0, toList_mk]
    exact id
  by_cases k4 : w0 = kStop
  · subst k4
    have k := Read_j3 L hws
    revert k
    simp (disch := omega) only [dm_t, wS, simprocAttr, IntKind.bits, wG, cw6, i0, c0, toList_mk, nss]
    exact id
  by_cases k5 : w0 = kOpen
  · subst k5
    simp (disch := omega) only [dm_t, wS, simprocAttr, IntKind.bits, wG, cw6, i0, c0, toList_mk]
    refine ⟨by kernel_rfl, (num_ok L.R).k ?_⟩
    rintro _ g7 ⟨⟨q, rfl, hq, hqm⟩, ⟨i', R1, hi'⟩, f1⟩
    have s1 := L.call R1 f1
    have qs1 := s1.qs
    simp (disch := omega) only [dm_t, wS, simprocAttr, IntKind.bits, wG, storeH_0 qs1, storeH_same, hupd_hupd]
    generalize hG : hupd g7 ps _ = g8
    have s2 := s1.put (cells' := [.int .i64 5, .int .i64 q, .slice none 0 0, .int .i64 0, .int .i64 0, .int .i64 0, .slice none 0 0]) hG
    clear hG
    have k := s2.told0 (T := []) (x := (5, q, [], 0, (0, 0), [])) rfl ⟨in5, hq, in0, in0, in0⟩ rfl rfl fun t mt ht => by
      obtain ⟨h1, h2⟩ := wl_5 mt (ht.trans hws)
      have a1 : (wds line).getD 1 [] = dz t.2.1 := by rw [hws, h2]; rfl
      rw [a1] at hqm
      rw [h1, dz_num ⟨mt.cl.1, by have := mt.cl.2; simp only [huge]; omega⟩ hqm]
    revert k
    simp (disch := omega) only [dm_t, wS, simprocAttr, IntKind.bits, wG]
    exact id
  have hr : rdS line = (z0, 390) := rdS_no hl fun t mt ht => by
    have hwl : wl t = w0 :: ws := by rw [← wds_ln t, ht, hws]
    rcases wl_0 mt hwl with h | h | h | h | h
    · exact k1 h
    · exact k2 h
    · exact k3 h
    · exact k4 h
    · exact k5 h
  simp (disch := omega) only [dm_t, wS, simprocAttr, IntKind.bits, wG, cw6, i0, c0, toList_mk, k1, k2, k3, k4, k5]
  refine storeH_all L.q2 rfl rfl ?_
  have k : cellsAt (hupd g6 p2 (.cells z7.toArray 31)) ⟨p2, 0, none⟩ 7 = some z7.toArray := cellsAt_all (hupd_same _ _ _) 7 rfl
  simp (disch := omega) only [dm_t, wS, simprocAttr, IntKind.bits, wG, k]
  exact RD_zero (Ext.step' L.R.E (Fr.upd (S := fun y => y = p2) rfl _) fun y hy => by rw [hy]; exact hp2) hr
end Go.Proofs.YtooimdgoibdhlaaDoor.sc
