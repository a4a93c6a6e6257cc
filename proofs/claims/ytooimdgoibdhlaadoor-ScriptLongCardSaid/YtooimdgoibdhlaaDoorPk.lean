/-
  A step's line: the document's answer.
-/
import Derived.Test.YtooimdgoibdhlaaDoorPj
namespace Go.Proofs.YtooimdgoibdhlaaDoor.sc
open Go Go.Proofs.YtooimdgoibdhlaaDoor Go.RowKit
set_option linter.unusedVariables false
set_option linter.unusedSimpArgs false
theorem jn_stop (w : List UInt8) : ∀ ws : List (List UInt8), jn (w :: ws) = w ++ ws.flatMap (32 :: ·)
  | [] => by simp [jn]
  | x :: t => by
    rw [jn_cons w (by simp), jn_stop x t]
    simp
theorem flat_len : ∀ (l : List Int), (∀ n ∈ l, 0 ≤ n ∧ n ≤ huge) → ((l.map dz).flatMap (32 :: ·)).length ≤ 11 * l.length
  | [], _ => by simp
  | n :: l, h => by
    have h1 := dz_len (h n (by simp))
    have h2 := flat_len l fun m hm => h m (by simp [hm])
    simp only [List.map_cons, List.flatMap_cons, List.length_append, List.length_cons]
    omega
section
variable {S T : Nat → Prop} {h : H}
theorem DLine_ok {cs : List Value} {x : St} (G : GL h) (hx : Rep S stT h cs x) (m : May x) : Ok Tryd.prog 21 #[.agg cs.toArray] h fun v h' => v = sv (ln x) ∧ Ext h h' := by
  obtain ⟨v, w, rfl, hb, hv, hw⟩ := rep_st.1 hx
  have wv := Rep.cells (repB.2 hv)
  have ww := Rep.cells hw
  refine c21_ok (args := [_]) (by simp) ?_
  simp (disch := omega) only [dm_t, wS, simprocAttr, IntKind.bits]
  intro pa hpa
  generalize hG : hupd h pa _ = g1
  obtain ⟨e1, qa⟩ := new_ext hG hpa
  clear hG
  have A := V7.mk' qa
  have a1 := m.k1; have a5 := m.k5
  have G2 := G.ext e1
  have c0 := A.c0; have c1 := A.c1; have c2 := A.c2; have c3 := A.c3; have c4 := A.c4; have c5 := A.c5; have c6 := A.c6
  have hv2 := hv.ext e1
  have hw2 := hw.ext e1
  obtain ⟨x1, x2, x3, x4, ⟨x5, x6⟩, x7⟩ := x
  have mcl := m.cl; have mby := m.by'; have mpk := m.pk; have mfk := m.fk; have mfp := m.fp; have mpl := m.pl; have mpa := m.pa
  simp only at c0 c1 c2 c3 c4 c5 c6 hv2 hw2 a1 a5 mcl mby mpk mfk mfp mpl mpa
  have cx : x1 = 1 ∨ x1 = 2 ∨ x1 = 3 ∨ x1 = 4 ∨ x1 = 5 := by omega
  have hcl : 0 ≤ x2 ∧ x2 ≤ huge := ⟨mcl.1, by have := mcl.2; simp only [huge]; omega⟩
  have l1 := dz_len hcl
  have l2 := hexd_len mby
  have l3 := dz_len mpk
  have l4 := dz_len mfp
  rcases cx with rfl | rfl | rfl | rfl | rfl
  · simp (disch := omega) only [dm_t, wS, simprocAttr, IntKind.bits, c0, c1, c2]
    refine (Itoa_dz G2 hcl).k ?_
    rintro _ g3 ⟨rfl, e3⟩
    have d1 := cellAt_ext e3 c1
    have d2 := cellAt_ext e3 c2
    simp (disch := omega) only [dm_t, wS, simprocAttr, IntKind.bits, d1, d2, size_mk, mk_append, List.length_cons, List.length_nil, List.length_append]
    refine (hex_ok (hv2.ext e3) mby).k ?_
    rintro _ g4 ⟨rfl, e4⟩
    simp (disch := omega) only [dm_t, wS, simprocAttr, IntKind.bits, size_mk, mk_append, List.length_cons, List.length_nil, List.length_append]
    exact ⟨by simp [ln, wl, jn], (e1.trans e3).trans e4⟩
  · simp (disch := omega) only [dm_t, wS, simprocAttr, IntKind.bits, c0, c3]
    refine (Itoa_dz G2 mpk).k ?_
    rintro _ g4 ⟨rfl, e4⟩
    simp (disch := omega) only [dm_t, wS, simprocAttr, IntKind.bits, size_mk, mk_append, List.length_cons, List.length_nil, List.length_append]
    exact ⟨by simp [ln, wl, jn], e1.trans e4⟩
  · have cf : x5 = 0 ∨ x5 = 1 ∨ x5 = 2 := by omega
    rcases cf with rfl | rfl | rfl
    · simp (disch := omega) only [dm_t, wS, simprocAttr, IntKind.bits, c0, c4, c5]
      exact ⟨by simp [ln, wl, jn], e1⟩
    · simp (disch := omega) only [dm_t, wS, simprocAttr, IntKind.bits, c0, c4, c5]
      refine (Itoa_dz G2 mfp).k ?_
      rintro _ g4 ⟨rfl, e4⟩
      simp (disch := omega) only [dm_t, wS, simprocAttr, IntKind.bits, size_mk, mk_append, List.length_cons, List.length_nil, List.length_append]
      exact ⟨by simp [ln, wl, jn], e1.trans e4⟩
    · simp (disch := omega) only [dm_t, wS, simprocAttr, IntKind.bits, c0, c4, c5]
      refine (Itoa_dz G2 mfp).k ?_
      rintro _ g4 ⟨rfl, e4⟩
      simp (disch := omega) only [dm_t, wS, simprocAttr, IntKind.bits, size_mk, mk_append, List.length_cons, List.length_nil, List.length_append]
      exact ⟨by simp [ln, wl, jn], e1.trans e4⟩
  · obtain ⟨wa, wc', rfl⟩ := hw2.len
    simp (disch := omega) only [dm_t, wS, simprocAttr, IntKind.bits, c0]
    refine vc_loop2 (fun vl vi h' => ∃ i : Nat, vi = .int .i64 (i : Int) ∧ i ≤ x7.length ∧ vl = sv (kStop ++ ((x7.take i).map dz).flatMap (32 :: ·)) ∧ Ext g1 h') (fun _ vi _ => x7.length - m1 vi) ?_ ?_
    · simp (disch := omega) only [dm_t, wS, simprocAttr, IntKind.bits]
      exact ⟨0, by simp, by omega, by simp, Ext.refl _⟩
    rintro _ _ g ⟨i, rfl, hi, rfl, e⟩
    have d6 := cellAt_ext e c6
    by_cases hil : i < x7.length
    · obtain ⟨b1, o1, i1, t1⟩ := S1.load ((repI (hw.ext (e1.trans e))).1) (i := i) (by simpa using hil) .i64
      rw [List.getElem_map] at t1
      have hmem := mpa _ (List.getElem_mem hil)
      have l5 := dz_len hmem
      have l6 := flat_len (x7.take i) fun n hn => mpa n (List.mem_of_mem_take hn)
      rw [List.length_take, Nat.min_eq_left hi] at l6
      simp (disch := omega) only [dm_t, wS, simprocAttr, IntKind.bits, d6, i1, t1, size_mk, mk_append, List.length_cons, List.length_nil, List.length_append]
      refine (Itoa_dz (G2.ext e) hmem).k ?_
      rintro _ g4 ⟨rfl, e4⟩
      simp (disch := omega) only [dm_t, wS, simprocAttr, IntKind.bits, size_mk, mk_append, List.length_cons, List.length_nil, List.length_append]
      refine ⟨⟨i + 1, by simp, by omega, ?_, e.trans e4⟩, by simp [m1] <;> omega⟩
      have hf : ((x7.take (i + 1)).map dz).flatMap (32 :: ·) = ((x7.take i).map dz).flatMap (32 :: ·) ++ 32 :: dz x7[i] := by
        rw [show x7.take (i + 1) = x7.take i ++ [x7[i]] by simp, List.map_append, List.flatMap_append]
        simp only [List.map_cons, List.map_nil, List.flatMap_cons, List.flatMap_nil, List.append_nil]
      rw [hf]
      simp only [List.append_assoc, List.cons_append, List.nil_append]
    · obtain rfl : i = x7.length := by omega
      simp (disch := omega) only [dm_t, wS, simprocAttr, IntKind.bits, d6]
      refine ⟨?_, e1.trans e⟩
      simp only [ln, wl, Int.reduceEq, if_true, if_false, jn_stop, List.take_length]
  · simp (disch := omega) only [dm_t, wS, simprocAttr, IntKind.bits, c0, c1]
    refine (Itoa_dz G2 hcl).k ?_
    rintro _ g4 ⟨rfl, e4⟩
    simp (disch := omega) only [dm_t, wS, simprocAttr, IntKind.bits, size_mk, mk_append, List.length_cons, List.length_nil, List.length_append]
    exact ⟨by simp [ln, wl, jn], e1.trans e4⟩
end
end Go.Proofs.YtooimdgoibdhlaaDoor.sc
