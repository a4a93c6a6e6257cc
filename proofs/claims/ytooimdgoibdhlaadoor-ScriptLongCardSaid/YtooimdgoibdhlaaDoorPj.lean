/-
  A step's line: the program's answer, the document's.
-/
import Derived.Test.YtooimdgoibdhlaaDoorPi
namespace Go.Proofs.YtooimdgoibdhlaaDoor.sc
open Go Go.Proofs.YtooimdgoibdhlaaDoor Go.RowKit
set_option linter.unusedVariables false
set_option linter.unusedSimpArgs false
section
variable {S T : Nat → Prop} {h : H}
theorem Itoa_dz {g : H} (G : GL g) {n : Int} (hn : 0 ≤ n ∧ n ≤ huge) : Ok Tryd.prog 35 #[.int .i64 n] g fun v h' => v = sv (dz n) ∧ Ext g h' := by
  have h2 := hn.2
  simp only [huge] at h2
  have := Itoa_ok G n.toNat (by omega)
  rwa [Int.toNat_of_nonneg hn.1] at this
/-- The words joined. -/
theorem Line_s13 {g : H} {x : St} {v : Value} (m : May x) (hs : S1 S g v ((wl x).map sv)) (E : Ext h g) :
    vc Tryd.prog c12_s13 (retQ [2, 3] (okR fun v h' => v = .tuple #[sv (if mayS x = true then ln x else []), .int .i64 (if mayS x = true then 0 else 2)] ∧ Ext h h')) [(4, v)] g := by
  have hl := ln_len m
  have hn : (wl x).length ≤ 4097 := by
    have := m.pl
    unfold wl
    repeat' split
    all_goals simp
    all_goals omega
  have hm : mayS x = true := (may_iff x).2 m
  simp (disch := omega) only [dm_t, wS, simprocAttr, IntKind.bits]
  refine (Join_ok hs (by omega) (by show (ln x).length ≤ _; omega)).k ?_
  rintro _ g2 ⟨rfl, e2⟩
  simp (disch := omega) only [dm_t, wS, simprocAttr, IntKind.bits]
  exact ⟨by rw [if_pos hm, if_pos hm]; rfl, E.trans e2⟩
theorem Line_ok {cs : List Value} {x : St} (G : GL h) (hx : Rep S stT h cs x) (hl : x.2.2.2.2.2.length ≤ 4611686018427387904) : Ok Tryd.prog 12 #[.agg cs.toArray] h fun v h' => v = .tuple #[sv (if mayS x = true then ln x else []), .int .i64 (if mayS x = true then 0 else 2)] ∧ Ext h h' := by
  obtain ⟨v, w, rfl, hb, hv, hw⟩ := rep_st.1 hx
  have wv := Rep.cells (repB.2 hv)
  have ww := Rep.cells hw
  refine c12_ok (args := [_]) (by simp) ?_
  simp (disch := omega) only [dm_t, wS, simprocAttr, IntKind.bits]
  intro pa hpa
  generalize hG : hupd h pa _ = g1
  obtain ⟨e1, qa⟩ := new_ext hG hpa
  clear hG
  have A := V7.mk' qa
  have aa := A.all
  simp (disch := omega) only [dm_t, wS, simprocAttr, IntKind.bits, aa]
  refine (Check_ok (hx.ext e1) hl).k ?_
  rintro _ g2 ⟨rfl, e2⟩
  have E := e1.trans e2
  have A2 := A.ext e2
  cases hm : mayS x with
  | false =>
    simp only [Bool.false_eq_true, if_false]
    simp (disch := omega) only [dm_t, wS, simprocAttr, IntKind.bits]
    exact E
  | true =>
    have m := (may_iff x).1 hm
    have fin := fun {g : H} {v : Value} (S) => Line_s13 (S := S) (h := h) (g := g) (v := v) m
    rw [hm] at fin
    simp only [if_true] at fin ⊢
    have a1 := m.k1; have a5 := m.k5
    have G2 := G.ext E
    have c0 := A2.c0; have c1 := A2.c1; have c2 := A2.c2; have c3 := A2.c3; have c4 := A2.c4; have c5 := A2.c5; have c6 := A2.c6
    have hv2 := hv.ext E
    have hw2 := hw.ext E
    obtain ⟨x1, x2, x3, x4, ⟨x5, x6⟩, x7⟩ := x
    have mcl := m.cl; have mby := m.by'; have mpk := m.pk; have mfk := m.fk; have mfp := m.fp; have mpl := m.pl; have mpa := m.pa
    simp only at c0 c1 c2 c3 c4 c5 c6 hv2 hw2 a1 a5 mcl mby mpk mfk mfp mpl mpa
    have cx : x1 = 1 ∨ x1 = 2 ∨ x1 = 3 ∨ x1 = 4 ∨ x1 = 5 := by omega
    have hcl : 0 ≤ x2 ∧ x2 ≤ huge := ⟨mcl.1, by have := mcl.2; simp only [huge]; omega⟩
    rcases cx with rfl | rfl | rfl | rfl | rfl
    · simp (disch := omega) only [dm_t, wS, simprocAttr, IntKind.bits, c0, c1, c2]
      refine (told_ok hv2 mby).k ?_
      rintro _ g3 ⟨rfl, e3⟩
      have d1 := cellAt_ext e3 c1
      by_cases hx3 : x3 = []
      · subst hx3
        simp (disch := omega) only [dm_t, wS, simprocAttr, IntKind.bits, d1, hexs, toList_mk]
        refine (Itoa_dz (G2.ext e3) hcl).k ?_
        rintro _ g4 ⟨rfl, e4⟩
        simp (disch := omega) only [dm_t, wS, simprocAttr, IntKind.bits]
        intro pb hpb
        generalize hG : hupd g4 pb _ = g5
        have e5 : Ext g4 g5 := hG ▸ Ext.new hpb _
        have k := fin nos (g := g5) (v := .slice (some ⟨pb, 0, none⟩) 3 3) (by rw [← hG]; exact slit1 [sv kSend, sv (dz x2), sv [45]] rfl) (((E.trans e3).trans e4).trans e5)
        revert k
        simp (disch := omega) only [dm_t, wS, simprocAttr, IntKind.bits]
        exact id
      · have hne := hexs_ne hx3
        simp (disch := omega) only [dm_t, wS, simprocAttr, IntKind.bits, d1, toList_mk, hne]
        refine (Itoa_dz (G2.ext e3) hcl).k ?_
        rintro _ g4 ⟨rfl, e4⟩
        simp (disch := omega) only [dm_t, wS, simprocAttr, IntKind.bits]
        intro pb hpb
        generalize hG : hupd g4 pb _ = g5
        have e5 : Ext g4 g5 := hG ▸ Ext.new hpb _
        have k := fin nos (g := g5) (v := .slice (some ⟨pb, 0, none⟩) 3 3) (by rw [← hG]; have := slit1 (h := g4) (b := pb) (E := 9) [sv kSend, sv (dz x2), sv (hexs x3)] (n := 3) rfl; simpa [wl, hexd, hx3] using this) (((E.trans e3).trans e4).trans e5)
        revert k
        simp (disch := omega) only [dm_t, wS, simprocAttr, IntKind.bits]
        exact id
    · simp (disch := omega) only [dm_t, wS, simprocAttr, IntKind.bits, c0, c3]
      refine (Itoa_dz G2 mpk).k ?_
      rintro _ g4 ⟨rfl, e4⟩
      simp (disch := omega) only [dm_t, wS, simprocAttr, IntKind.bits]
      intro pb hpb
      generalize hG : hupd g4 pb _ = g5
      have e5 : Ext g4 g5 := hG ▸ Ext.new hpb _
      have k := fin nos (g := g5) (v := .slice (some ⟨pb, 0, none⟩) 2 2) (by rw [← hG]; exact slit1 [sv kPick, sv (dz x4)] rfl) ((E.trans e4).trans e5)
      revert k
      simp (disch := omega) only [dm_t, wS, simprocAttr, IntKind.bits]
      exact id
    · have cf : x5 = 0 ∨ x5 = 1 ∨ x5 = 2 := by omega
      rcases cf with rfl | rfl | rfl
      · simp (disch := omega) only [dm_t, wS, simprocAttr, IntKind.bits, c0, c4, c5]
        intro pb hpb
        generalize hG : hupd g2 pb _ = g5
        have e5 : Ext g2 g5 := hG ▸ Ext.new hpb _
        have d4 := cellAt_ext e5 c4
        have k := fin nos (g := g5) (v := .slice (some ⟨pb, 0, none⟩) 2 2) (by rw [← hG]; exact slit1 [sv kFate, sv kGood] rfl) (E.trans e5)
        revert k
        simp (disch := omega) only [dm_t, wS, simprocAttr, IntKind.bits, d4]
        exact id
      · simp (disch := omega) only [dm_t, wS, simprocAttr, IntKind.bits, c0, c4, c5]
        intro pb hpb
        have hlit : O1 (fun y => h y = none) (hupd g2 pb (.cells #[sv kFate, sv kFail] 9)) 9 (.slice (some ⟨pb, 0, none⟩) 2 2) [sv kFate, sv kFail] := olit1 [sv kFate, sv kFail] rfl (E.bk hpb)
        have d4 : cellAt (hupd g2 pb (.cells #[sv kFate, sv kFail] 9)) ⟨pa, 4, none⟩ = some (.int .i64 1) := cellAt_ext (Ext.new hpb _) c4
        have d5 : cellAt (hupd g2 pb (.cells #[sv kFate, sv kFail] 9)) ⟨pa, 5, none⟩ = some (.int .i64 x6) := cellAt_ext (Ext.new hpb _) c5
        have e3 : Ext g2 (hupd g2 pb (.cells #[sv kFate, sv kFail] 9)) := Ext.new hpb _
        generalize hupd g2 pb (.cells #[sv kFate, sv kFail] 9) = g3 at hlit d4 d5 e3 ⊢
        simp (disch := omega) only [dm_t, wS, simprocAttr, IntKind.bits, d4, d5]
        refine (Itoa_dz (G2.ext e3) mfp).k ?_
        rintro _ g4 ⟨rfl, e4⟩
        simp (disch := omega) only [dm_t, wS, simprocAttr, IntKind.bits]
        have E4 := (E.trans e3).trans e4
        refine push1 (hlit.ext e4) (fun y hy => E4.bk hy) rfl (by simp) (by simp) ?_
        intro _ v g5 _ ho hf
        have k := fin nos (g := g5) (v := v) (by have := ho.s0; simpa [wl] using this) (E4.step hf)
        revert k
        simp (disch := omega) only [dm_t, wS, simprocAttr, IntKind.bits]
        exact id
      · simp (disch := omega) only [dm_t, wS, simprocAttr, IntKind.bits, c0, c4, c5]
        intro pb hpb
        have hlit : O1 (fun y => h y = none) (hupd g2 pb (.cells #[sv kFate, sv kFull] 9)) 9 (.slice (some ⟨pb, 0, none⟩) 2 2) [sv kFate, sv kFull] := olit1 [sv kFate, sv kFull] rfl (E.bk hpb)
        have d4 : cellAt (hupd g2 pb (.cells #[sv kFate, sv kFull] 9)) ⟨pa, 4, none⟩ = some (.int .i64 2) := cellAt_ext (Ext.new hpb _) c4
        have d5 : cellAt (hupd g2 pb (.cells #[sv kFate, sv kFull] 9)) ⟨pa, 5, none⟩ = some (.int .i64 x6) := cellAt_ext (Ext.new hpb _) c5
        have e3 : Ext g2 (hupd g2 pb (.cells #[sv kFate, sv kFull] 9)) := Ext.new hpb _
        generalize hupd g2 pb (.cells #[sv kFate, sv kFull] 9) = g3 at hlit d4 d5 e3 ⊢
        simp (disch := omega) only [dm_t, wS, simprocAttr, IntKind.bits, d4, d5]
        refine (Itoa_dz (G2.ext e3) mfp).k ?_
        rintro _ g4 ⟨rfl, e4⟩
        simp (disch := omega) only [dm_t, wS, simprocAttr, IntKind.bits]
        have E4 := (E.trans e3).trans e4
        refine push1 (hlit.ext e4) (fun y hy => E4.bk hy) rfl (by simp) (by simp) ?_
        intro _ v g5 _ ho hf
        have k := fin nos (g := g5) (v := v) (by have := ho.s0; simpa [wl] using this) (E4.step hf)
        revert k
        simp (disch := omega) only [dm_t, wS, simprocAttr, IntKind.bits]
        exact id
    · obtain ⟨wa, wc', rfl⟩ := hw2.len
      simp (disch := omega) only [dm_t, wS, simprocAttr, IntKind.bits, c0, c6]
      intro pb hpb
      have hlit : O1 (fun y => h y = none) (hupd g2 pb (.cells #[sv kStop] 9)) 9 (.slice (some ⟨pb, 0, none⟩) 1 1) [sv kStop] := olit1 [sv kStop] rfl (E.bk hpb)
      have d6 : cellAt (hupd g2 pb (.cells #[sv kStop] 9)) ⟨pa, 6, none⟩ = some (.slice wa x7.length wc') := cellAt_ext (Ext.new hpb _) c6
      have e3 : Ext g2 (hupd g2 pb (.cells #[sv kStop] 9)) := Ext.new hpb _
      generalize hupd g2 pb (.cells #[sv kStop] 9) = g3 at hlit d6 e3 ⊢
      simp (disch := omega) only [dm_t, wS, simprocAttr, IntKind.bits, d6]
      refine vc_loop2 (fun vl vi h' => ∃ i : Nat, vi = .int .i64 (i : Int) ∧ i ≤ x7.length ∧ O1 (fun y => h y = none) h' 9 vl ((kStop :: (x7.take i).map dz).map sv) ∧ Ext h h') (fun _ vi _ => x7.length - m1 vi) ?_ ?_
      · simp (disch := omega) only [dm_t, wS, simprocAttr, IntKind.bits]
        exact ⟨0, by simp, by omega, hlit, E.trans e3⟩
      rintro vl _ g ⟨i, rfl, hi, ho, e⟩
      by_cases hil : i < x7.length
      · obtain ⟨b1, o1, i1, t1⟩ := S1.load ((repI (hw.ext e)).1) (i := i) (by simpa using hil) .i64
        rw [List.getElem_map] at t1
        simp (disch := omega) only [dm_t, wS, simprocAttr, IntKind.bits, i1, t1]
        refine (Itoa_dz (G.ext e) (mpa _ (List.getElem_mem hil))).k ?_
        rintro _ g4 ⟨rfl, e4⟩
        simp (disch := omega) only [dm_t, wS, simprocAttr, IntKind.bits]
        refine push1 (ho.ext e4) (fun y hy => (e.trans e4).bk hy) rfl (by simp; omega) (by simp; omega) ?_
        intro _ v g5 _ ho5 hf
        simp (disch := omega) only [dm_t, wS, simprocAttr, IntKind.bits]
        refine ⟨⟨i + 1, by simp, by omega, ?_, (e.trans e4).step hf⟩, by simp [m1] <;> omega⟩
        rw [show x7.take (i + 1) = x7.take i ++ [x7[i]] by simp]
        rw [List.map_append, ← List.cons_append, List.map_append]
        exact ho5
      · obtain rfl : i = x7.length := by omega
        rw [List.take_length] at ho
        have k := fin nos (g := g) (v := vl) ho.s0 e
        revert k
        simp (disch := omega) only [dm_t, wS, simprocAttr, IntKind.bits]
        exact id
    · simp (disch := omega) only [dm_t, wS, simprocAttr, IntKind.bits, c0, c1]
      refine (Itoa_dz G2 hcl).k ?_
      rintro _ g4 ⟨rfl, e4⟩
      simp (disch := omega) only [dm_t, wS, simprocAttr, IntKind.bits]
      intro pb hpb
      generalize hG : hupd g4 pb _ = g5
      have e5 : Ext g4 g5 := hG ▸ Ext.new hpb _
      have k := fin nos (g := g5) (v := .slice (some ⟨pb, 0, none⟩) 2 2) (by rw [← hG]; exact slit1 [sv kOpen, sv (dz x2)] rfl) ((E.trans e4).trans e5)
      revert k
      simp (disch := omega) only [dm_t, wS, simprocAttr, IntKind.bits]
      exact id
end
end Go.Proofs.YtooimdgoibdhlaaDoor.sc
namespace Go.Proofs.YtooimdgoibdhlaaDoor.sc
open Go Go.Proofs.YtooimdgoibdhlaaDoor Go.RowKit
set_option linter.unusedVariables false
set_option linter.unusedSimpArgs false
theorem jn_stop (w : List UInt8) : ∀ ws : List (List UInt8), jn (w :: ws) = w ++ ws.flatMap (32 :: ·)
  | [] => by simp [jn]
  | x :: t => by
    rw [jn_cons w (by simp), jn_stop x t]
    simp
theorem flat_len : ∀ (l : List Int), (∀ n ∈ l, 0 ≤ n ∧ n ≤ huge) → ((l.map dz).flatMap (32 :: ·)).length ≤ 11 * l.length
  | [], _ => by simp
  | n :: l, h => by
    have h1 := dz_len (h n (by simp))
    have h2 := flat_len l fun m hm => h m (by simp [hm])
    simp only [List.map_cons, List.flatMap_cons, List.length_append, List.length_cons]
    omega
section
variable {S T : Nat → Prop} {h : H}
theorem DLine_ok {cs : List Value} {x : St} (G : GL h) (hx : Rep S stT h cs x) (m : May x) : Ok Tryd.prog 21 #[.agg cs.toArray] h fun v h' => v = sv (ln x) ∧ Ext h h' := by
  obtain ⟨v, w, rfl, hb, hv, hw⟩ := rep_st.1 hx
  have wv := Rep.cells (repB.2 hv)
  have ww := Rep.cells hw
  refine c21_ok (args := [_]) (by simp) ?_
  simp (disch := omega) only [dm_t, wS, simprocAttr, IntKind.bits]
  intro pa hpa
  generalize hG : hupd h pa _ = g1
  obtain ⟨e1, qa⟩ := new_ext hG hpa
  clear hG
  have A := V7.mk' qa
  have a1 := m.k1; have a5 := m.k5
  have G2 := G.ext e1
  have c0 := A.c0; have c1 := A.c1; have c2 := A.c2; have c3 := A.c3; have c4 := A.c4; have c5 := A.c5; have c6 := A.c6
  have hv2 := hv.ext e1
  have hw2 := hw.ext e1
  obtain ⟨x1, x2, x3, x4, ⟨x5, x6⟩, x7⟩ := x
  have mcl := m.cl; have mby := m.by'; have mpk := m.pk; have mfk := m.fk; have mfp := m.fp; have mpl := m.pl; have mpa := m.pa
  simp only at c0 c1 c2 c3 c4 c5 c6 hv2 hw2 a1 a5 mcl mby mpk mfk mfp mpl mpa
  have cx : x1 = 1 ∨ x1 = 2 ∨ x1 = 3 ∨ x1 = 4 ∨ x1 = 5 := by omega
  have hcl : 0 ≤ x2 ∧ x2 ≤ huge := ⟨mcl.1, by have := mcl.2; simp only [huge]; omega⟩
  have l1 := dz_len hcl
  have l2 := hexd_len mby
  have l3 := dz_len mpk
  have l4 := dz_len mfp
  rcases cx with rfl | rfl | rfl | rfl | rfl
  · simp (disch := omega) only [dm_t, wS, simprocAttr, IntKind.bits, c0, c1, c2]
    refine (Itoa_dz G2 hcl).k ?_
    rintro _ g3 ⟨rfl, e3⟩
    have d1 := cellAt_ext e3 c1
    have d2 := cellAt_ext e3 c2
    simp (disch := omega) only [dm_t, wS, simprocAttr, IntKind.bits, d1, d2, size_mk, mk_append, List.length_cons, List.length_nil, List.length_append]
    refine (hex_ok (hv2.ext e3) mby).k ?_
    rintro _ g4 ⟨rfl, e4⟩
    simp (disch := omega) only [dm_t, wS, simprocAttr, IntKind.bits, size_mk, mk_append, List.length_cons, List.length_nil, List.length_append]
    exact ⟨by simp [ln, wl, jn], (e1.trans e3).trans e4⟩
  · simp (disch := omega) only [dm_t, wS, simprocAttr, IntKind.bits, c0, c3]
    refine (Itoa_dz G2 mpk).k ?_
    rintro _ g4 ⟨rfl, e4⟩
    simp (disch := omega) only [dm_t, wS, simprocAttr, IntKind.bits, size_mk, mk_append, List.length_cons, List.length_nil, List.length_append]
    exact ⟨by simp [ln, wl, jn], e1.trans e4⟩
  · have cf : x5 = 0 ∨ x5 = 1 ∨ x5 = 2 := by omega
    rcases cf with rfl | rfl | rfl
    · simp (disch := omega) only [dm_t, wS, simprocAttr, IntKind.bits, c0, c4, c5]
      exact ⟨by simp [ln, wl, jn], e1⟩
    · simp (disch := omega) only [dm_t, wS, simprocAttr, IntKind.bits, c0, c4, c5]
      refine (Itoa_dz G2 mfp).k ?_
      rintro _ g4 ⟨rfl, e4⟩
      simp (disch := omega) only [dm_t, wS, simprocAttr, IntKind.bits, size_mk, mk_append, List.length_cons, List.length_nil, List.length_append]
      exact ⟨by simp [ln, wl, jn], e1.trans e4⟩
    · simp (disch := omega) only [dm_t, wS, simprocAttr, IntKind.bits, c0, c4, c5]
      refine (Itoa_dz G2 mfp).k ?_
      rintro _ g4 ⟨rfl, e4⟩
      simp (disch := omega) only [dm_t, wS, simprocAttr, IntKind.bits, size_mk, mk_append, List.length_cons, List.length_nil, List.length_append]
      exact ⟨by simp [ln, wl, jn], e1.trans e4⟩
  · obtain ⟨wa, wc', rfl⟩ := hw2.len
    simp (disch := omega) only [dm_t, wS, simprocAttr, IntKind.bits, c0]
    refine vc_loop2 (fun vl vi h' => ∃ i : Nat, vi = .int .i64 (i : Int) ∧ i ≤ x7.length ∧ vl = sv (kStop ++ ((x7.take i).map dz).flatMap (32 :: ·)) ∧ Ext g1 h') (fun _ vi _ => x7.length - m1 vi) ?_ ?_
    · simp (disch := omega) only [dm_t, wS, simprocAttr, IntKind.bits]
      exact ⟨0, by simp, by omega, by simp, Ext.refl _⟩
    rintro _ _ g ⟨i, rfl, hi, rfl, e⟩
    have d6 := cellAt_ext e c6
    by_cases hil : i < x7.length
    · obtain ⟨b1, o1, i1, t1⟩ := S1.load ((repI (hw.ext (e1.trans e))).1) (i := i) (by simpa using hil) .i64
      rw [List.getElem_map] at t1
      have hmem := mpa _ (List.getElem_mem hil)
      have l5 := dz_len hmem
      have l6 := flat_len (x7.take i) fun n hn => mpa n (List.mem_of_mem_take hn)
      rw [List.length_take, Nat.min_eq_left hi] at l6
      simp (disch := omega) only [dm_t, wS, simprocAttr, IntKind.bits, d6, i1, t1, size_mk, mk_append, List.length_cons, List.length_nil, List.length_append]
      refine (Itoa_dz (G2.ext e) hmem).k ?_
      rintro _ g4 ⟨rfl, e4⟩
      simp (disch := omega) only [dm_t, wS, simprocAttr, IntKind.bits, size_mk, mk_append, List.length_cons, List.length_nil, List.length_append]
      refine ⟨⟨i + 1, by simp, by omega, ?_, e.trans e4⟩, by simp [m1] <;> omega⟩
      have hf : ((x7.take (i + 1)).map dz).flatMap (32 :: ·) = ((x7.take i).map dz).flatMap (32 :: ·) ++ 32 :: dz x7[i] := by
        rw [show x7.take (i + 1) = x7.take i ++ [x7[i]] by simp, List.map_append, List.flatMap_append]
        simp only [List.map_cons, List.map_nil, List.flatMap_cons, List.flatMap_nil, List.append_nil]
      rw [hf]
      simp only [List.append_assoc, List.cons_append, List.nil_append]
    · obtain rfl : i = x7.length := by omega
      simp (disch := omega) only [dm_t, wS, simprocAttr, IntKind.bits, d6]
      refine ⟨?_, e1.trans e⟩
      simp only [ln, wl, Int.reduceEq, if_true, if_false, jn_stop, List.take_length]
  · simp (disch := omega) only [dm_t, wS, simprocAttr, IntKind.bits, c0, c1]
    refine (Itoa_dz G2 hcl).k ?_
    rintro _ g4 ⟨rfl, e4⟩
    simp (disch := omega) only [dm_t, wS, simprocAttr, IntKind.bits, size_mk, mk_append, List.length_cons, List.length_nil, List.length_append]
    exact ⟨by simp [ln, wl, jn], e1.trans e4⟩
end
end Go.Proofs.YtooimdgoibdhlaaDoor.sc
