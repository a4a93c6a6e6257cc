/-
  groups: GroupsFull, walked.
-/
import Derived.Test.YthhofmjhnjkcfaaGm
namespace Go.Proofs.Ythhofmjhnjkcfaa.gr
open Go.Proofs.Ythhofmjhnjkcfaa wi
set_option linter.unusedVariables false
set_option linter.unusedSimpArgs false
/-- The place number t. -/
def qP (t : Nat) : Pl := ([97, UInt8.ofNat (33 + t / 16 % 90), UInt8.ofNat (33 + t / 16 / 90)], ((t % 16 : Nat) : Int), 0, 0)
def enP (n : Nat) : List Pl := (List.range n).map qP
theorem qP_inj {s t : Nat} (hs : s < 4096) (ht : t < 4096) (h : key (qP s) = key (qP t)) : s = t := by
  simp only [key, qP, Prod.mk.injEq, List.cons.injEq, and_true, true_and] at h
  obtain ⟨⟨h1, h2⟩, h3⟩ := h
  have g1 := congrArg UInt8.toNat h1
  have g2 := congrArg UInt8.toNat h2
  simp only [UInt8.toNat_ofNat'] at g1 g2
  omega
theorem qP_may {t : Nat} (ht : t < 4096) : mayP (qP t) = true := by
  rw [mayP_iff]
  simp only [qP]
  refine ⟨⟨by simp, ?_⟩, by omega, by decide, by decide⟩
  simp only [List.all_cons, List.all_nil, Bool.and_true, Bool.and_eq_true]
  refine ⟨by decide, ?_, ?_⟩
  · simp only [chr, Bool.and_eq_true, decide_eq_true_eq, UInt8.toNat_ofNat']; omega
  · simp only [chr, Bool.and_eq_true, decide_eq_true_eq, UInt8.toNat_ofNat']; omega
theorem en_none {L : List Pl} {n : Nat} (p : L.Perm (enP n)) (hn : n < 4096) : fnd (key (qP n)) L = none := by
  rw [fnd_none]
  intro x hx h
  obtain ⟨t, ht, rfl⟩ := List.mem_map.1 (p.subset hx)
  have := List.mem_range.1 ht
  have := qP_inj (by omega) hn h
  omega
theorem en_set {L : List Pl} {n : Nat} (s : L.Pairwise lp) (p : L.Perm (enP n)) (hn : n < 4096) : setE L (qP n) = 0 ∧ (setR L (qP n)).Perm (enP (n + 1)) := by
  have hl := p.length_eq
  have hf := en_none p hn
  have hE : setE L (qP n) = 0 := by
    rw [setE, if_pos (qP_may hn), if_neg]
    rintro ⟨_, h⟩
    rw [hl] at h
    simp [enP] at h; omega
  refine ⟨hE, ?_⟩
  rw [setR, if_pos hE]
  refine (put_set s).symm.trans ?_
  have : put (qP n) L = L ++ [qP n] := by unfold put; rw [hf]; rfl
  rw [this, enP, List.range_succ, List.map_append]
  exact p.append_right _
def zP : Pl := ([122], 0, 0, 0)
theorem z_none {L : List Pl} {n : Nat} (p : L.Perm (enP n)) (k : Int) : fnd (([122] : List UInt8), k) L = none := by
  rw [fnd_none]
  intro x hx h
  obtain ⟨t, _, rfl⟩ := List.mem_map.1 (p.subset hx)
  simp [key, qP] at h
theorem full_fold {L : List Pl} (p : L.Perm (enP 4096)) : foldG L [goneP [122] 3 0, recP zP, goneP [122] 3 0] 0 = (L, 1, 6) := by
  obtain ⟨a1, a2, a3⟩ := rdP_gone (g := [122]) (n := 3) (t := 0) (by decide)
  obtain ⟨b1, b2, b3⟩ := rdP_rec (p := zP) (by decide)
  have hl : L.length = 4096 := by rw [p.length_eq]; simp [enP]
  rw [foldG, if_neg (by simp [a3]), if_pos a2, a1]
  have hlet : letR L (key (([122] : List UInt8), (3 : Int), (0 : Int), (0 : Int))) = L := by
    have hE : letE L (([122] : List UInt8), (3 : Int)) = 360 := by
      rw [letE, if_pos (by decide), z_none p]; rfl
    show letR L (([122] : List UInt8), (3 : Int)) = L
    rw [letR, if_neg (by rw [hE]; decide)]
  rw [hlet, foldG, if_neg (by simp [b3]), if_neg (by simp [b2]), b1]
  have hE : setE L zP = 6 := by
    rw [setE, if_pos (by decide), if_pos]
    exact ⟨by rw [show fnd (key zP) L = none from z_none p 0]; rfl, hl⟩
  rw [if_neg (by rw [hE]; decide), hE]
theorem rec_three {h : H} {b : Nat} {c1 c2 c3 : List Value} {x1 x2 x3 : rc.D} (q : h b = some (.cells (c1 ++ (c2 ++ c3)).toArray 26)) (r1 : Rep nos rc h c1 x1) (r2 : Rep nos rc h c2 x2) (r3 : Rep nos rc h c3 x3) : RepL nos rc h (.slice (some ⟨b, 0, none⟩) 3 3) [x1, x2, x3] := by
  have l1 : c1.length = 3 := r1.len.trans sz_rc
  have l2 : c2.length = 3 := r2.len.trans sz_rc
  have l3 : c3.length = 3 := r3.len.trans sz_rc
  refine repL_iff.2 ⟨[c1, c2, c3], ⟨fun r hr => ?_, .inr ⟨b, 0, 3, _, _, _, rfl, q, ?_, by simp, ?_, fun h => h⟩⟩, rfl, fun i r' z hr hz => ?_⟩
  · simp only [List.mem_cons, List.not_mem_nil, or_false] at hr; rcases hr with rfl | rfl | rfl <;> assumption
  · rw [sz_rc]; simp [l1, l2, l3]
  · rw [flat_cons, flat_cons, flat_cons, flat_nil, List.append_nil]
    exact at_arr _ #[]
  · rcases i with _ | _ | _ | i
    · simp only [List.getElem?_cons_zero, Option.some.injEq] at hr hz; subst hr hz; exact r1
    · simp only [List.getElem?_cons_succ, List.getElem?_cons_zero, Option.some.injEq] at hr hz; subst hr hz; exact r2
    · simp only [List.getElem?_cons_succ, List.getElem?_cons_zero, Option.some.injEq] at hr hz; subst hr hz; exact r3
    · simp at hr
theorem by_three {h : H} {b : Nat} {x : Array Value} {E : TypeId} {a1 a2 a3 : UInt8} (q : h b = some (.cells x E)) (hx : x = #[.int .u8 (a1.toNat : Int), .int .u8 (a2.toNat : Int), .int .u8 (a3.toNat : Int)]) : By nos h (.slice (some ⟨b, 0, none⟩) 3 3) [a1, a2, a3] := by
  subst hx
  refine ⟨fun r hr => ?_, .inr ⟨b, 0, 3, _, _, _, rfl, q, by simp, by simp [one, bvs], ?_, fun h => h⟩⟩
  · simp only [one, bvs, List.map_cons, List.map_nil, List.mem_cons, List.not_mem_nil, or_false] at hr
    rcases hr with rfl | rfl | rfl <;> rfl
  · exact at_arr [_, _, _] #[]
theorem GF_ok (h : H) : Ok Try.prog 4 #[] h fun v h' => v = .bool true ∧ Ext h h' := by
  refine c4_ok (args := []) (by simp) ?_
  simp (disch := omega) only [dm_t, wS, simprocAttr, IntKind.bits]
  refine (GNew_ok h).k ?_
  rintro _ g1 ⟨b, m, rfl, hb, hm, G1, e1⟩
  simp (disch := omega) only [dm_t, wS, simprocAttr, IntKind.bits]
  refine vc_loop1 (fun vi g => ∃ (i : Nat) (L : List Pl), vi = .int .i64 (i : Int) ∧ i ≤ 256 ∧ GB g b m L ∧ L.Perm (enP (16 * i)) ∧ Ext h g) (fun vi _ => 256 - m1 vi) ?_ ?_
  · simp (disch := omega) only [dm_t, wS, simprocAttr, IntKind.bits]
    exact ⟨0, [], rfl, by omega, G1, List.Perm.refl _, e1⟩
  rintro _ g ⟨i, L, rfl, hi, G, hp, e⟩
  by_cases hil : i < 256
  · simp (disch := omega) only [dm_t, wS, simprocAttr, IntKind.bits]
    refine vc_loop1 (fun vk g => ∃ (k : Nat) (L : List Pl), vk = .int .i64 (k : Int) ∧ k ≤ 16 ∧ GB g b m L ∧ L.Perm (enP (16 * i + k)) ∧ Ext h g) (fun vi _ => 16 - m1 vi) ?_ ?_
    · simp (disch := omega) only [dm_t, wS, simprocAttr, IntKind.bits]
      exact ⟨0, L, rfl, by omega, G, hp, e⟩
    rintro _ g2 ⟨k, M, rfl, hk, GM, hpm, e2⟩
    by_cases hkl : k < 16
    · simp (disch := omega) only [dm_t, wS, simprocAttr, IntKind.bits]
      intro b1 hb1
      generalize hG : hupd g2 b1 _ = g3
      obtain ⟨e3, q3⟩ := new_ext hG hb1
      clear hG
      have hq : qP (16 * i + k) = ([97, UInt8.ofNat (33 + i % 90), UInt8.ofNat (33 + i / 90)], (k : Int), 0, 0) := by
        rw [qP, show (16 * i + k) / 16 = i by omega, show (16 * i + k) % 16 = k by omega]
      have hby : By nos g3 _ [97, UInt8.ofNat (33 + i % 90), UInt8.ofNat (33 + i / 90)] := by_three q3 (by
        rw [UInt8.toNat_ofNat', UInt8.toNat_ofNat', show (33 + i % 90) % 2 ^ 8 = 33 + i % 90 by omega, show (33 + i / 90) % 2 ^ 8 = 33 + i / 90 by omega]
        simp)
      refine cvbs_of hby ?_
      simp (disch := omega) only [dm_t, wS, simprocAttr, IntKind.bits]
      obtain ⟨hE, hR⟩ := en_set GM.srt hpm (n := 16 * i + k) (by omega)
      have hs := Set_ok (GM.ext e3) (qP (16 * i + k)) (by rw [hq]; simp)
      rw [hE] at hs
      rw [hq] at hs hR
      refine (hs).k ?_
      rintro _ g4 ⟨rfl, G4, f4⟩
      simp (disch := omega) only [dm_t, wS, simprocAttr, IntKind.bits]
      refine (num_ok g4 0).k ?_
      rintro _ _ ⟨rfl, rfl⟩
      simp (disch := omega) only [dm_t, wS, simprocAttr, IntKind.bits]
      exact ⟨⟨k + 1, _, by simp, by omega, G4, hR, Ext.step' (e2.trans e3) f4 fun y hy => by rw [hy]; exact hm⟩, by simp [m1]; omega⟩
    · obtain rfl : k = 16 := by omega
      simp (disch := omega) only [dm_t, wS, simprocAttr, IntKind.bits]
      exact ⟨⟨i + 1, M, by simp, by omega, GM, by rw [show 16 * (i + 1) = 16 * i + 16 by omega]; exact hpm, e2⟩, by simp [m1]; omega⟩
  · obtain rfl : i = 256 := by omega
    simp (disch := omega) only [dm_t, wS, simprocAttr, IntKind.bits]
    have hz : mayP zP = true := by decide
    refine (Record_ok g zP (by decide)).k ?_
    rintro _ g2 ⟨e2, w1, rfl, hR1⟩
    rw [hz, if_pos rfl] at hR1
    rw [hz, if_pos rfl]
    obtain ⟨xs, rfl, ha⟩ := hR1.rep
    have hxl : xs.length = 3 := ha.len.trans sz_rc
    simp (disch := omega) only [dm_t, wS, simprocAttr, IntKind.bits]
    intro b5 hb5
    simp (disch := omega) only [dm_t, wS, simprocAttr, IntKind.bits]
    refine stn_new hxl (by rfl) ha.cells ?_
    generalize hG : hupd g2 b5 _ = g3
    obtain ⟨e3, q3⟩ := new_ext hG hb5
    clear hG
    simp (disch := omega) only [dm_t, wS, simprocAttr, IntKind.bits]
    have hz2 : mayP (([122] : List UInt8), (3 : Int), (0 : Int), (0 : Int)) = true := by decide
    refine (Gone_ok g3 [122] 3 0 (by decide)).k ?_
    rintro _ g4 ⟨e4, w2, rfl, hR2⟩
    rw [hz2, if_pos rfl] at hR2
    rw [hz2, if_pos rfl]
    obtain ⟨ys, rfl, hb'⟩ := hR2.rep
    have hyl : ys.length = 3 := hb'.len.trans sz_rc
    simp (disch := omega) only [dm_t, wS, simprocAttr, IntKind.bits]
    intro b7 hb7
    simp (disch := omega) only [dm_t, wS, simprocAttr, IntKind.bits]
    refine stn_new hyl (by rfl) hb'.cells ?_
    generalize hG : hupd g4 b7 _ = g5
    obtain ⟨e5, q5⟩ := new_ext hG hb7
    clear hG
    obtain ⟨x1, x2, x3, rfl⟩ : ∃ x1 x2 x3, xs = [x1, x2, x3] := by
      rcases xs with _ | ⟨x1, _ | ⟨x2, _ | ⟨x3, _ | ⟨_, _⟩⟩⟩⟩ <;> simp at hxl
      exact ⟨_, _, _, rfl⟩
    obtain ⟨y1, y2, y3, rfl⟩ : ∃ x1 x2 x3, ys = [x1, x2, x3] := by
      rcases ys with _ | ⟨x1, _ | ⟨x2, _ | ⟨x3, _ | ⟨_, _⟩⟩⟩⟩ <;> simp at hyl
      exact ⟨_, _, _, rfl⟩
    have ka : cellsAt g5 ⟨b5, 0, none⟩ 3 = some #[x1, x2, x3] := cellsAt_all ((e4.trans e5).at q3) 3 hxl
    have kb : cellsAt g5 ⟨b7, 0, none⟩ 3 = some #[y1, y2, y3] := cellsAt_all q5 3 hyl
    simp (disch := omega) only [dm_t, wS, simprocAttr, IntKind.bits, ka, kb]
    trace_state
    intro b8 hb8
    generalize hG : hupd g5 b8 _ = g6
    obtain ⟨e6, q6⟩ := new_ext hG hb8
    clear hG
    have e35 := e4.trans e5
    have L1 : RepL nos rc g6 (.slice (some ⟨b8, 0, none⟩) 3 3) [goneP [122] 3 0, recP zP, goneP [122] 3 0] :=
      rec_three (c1 := [y1, y2, y3]) (c2 := [x1, x2, x3]) (c3 := [y1, y2, y3]) q6 ((hb'.ext (e5.trans e6)).mono fun _ _ _ h => h.elim) ((ha.ext (e3.trans (e35.trans e6))).mono fun _ _ _ h => h.elim) ((hb'.ext (e5.trans e6)).mono fun _ _ _ h => h.elim)
    have G6 := ((((G.ext e2).ext e3).ext e4).ext e5).ext e6
    have hk : ∀ x ∈ [goneP [122] 3 0, recP zP, goneP [122] 3 0], x.2.1.length ≤ 140737488351232 := by
      intro x hx
      simp only [List.mem_cons, List.not_mem_nil, or_false] at hx
      rcases hx with rfl | rfl | rfl <;> decide
    refine (Fold_ok G6 L1 (by simp) hk).k ?_
    rintro _ g7 ⟨rfl, G7, f7⟩
    rw [full_fold hp] at G7 ⊢
    simp (disch := omega) only [dm_t, wS, simprocAttr, IntKind.bits]
    refine (Len_ok G7).k ?_
    rintro _ _ ⟨rfl, rfl⟩
    have hl : L.length = 4096 := by rw [hp.length_eq]; simp [enP]
    rw [hl]
    simp (disch := omega) only [dm_t, wS, simprocAttr, IntKind.bits]
    refine (num_ok g7 0).k ?_
    rintro _ _ ⟨rfl, rfl⟩
    simp (disch := omega) only [dm_t, wS, simprocAttr, IntKind.bits]
    refine (num_ok g7 0).k ?_
    rintro _ _ ⟨rfl, rfl⟩
    simp (disch := omega) only [dm_t, wS, simprocAttr, IntKind.bits]
    refine (num_ok g7 6).k ?_
    rintro _ _ ⟨rfl, rfl⟩
    have hsz : setE L zP = 6 := by
      rw [setE, if_pos (by decide), if_pos]
      exact ⟨by rw [show fnd (key zP) L = none from z_none hp 0]; rfl, hl⟩
    have s1 := Set_ok G7 zP (by decide)
    rw [setR, hsz, if_neg (by decide)] at s1
    simp (disch := omega) only [dm_t, wS, simprocAttr, IntKind.bits]
    refine (s1).k ?_
    rintro _ g8 ⟨rfl, G8, f8⟩
    simp (disch := omega) only [dm_t, wS, simprocAttr, IntKind.bits]
    refine (num_ok g8 6).k ?_
    rintro _ _ ⟨rfl, rfl⟩
    have hsq : setE L ([97, 33, 33], 3, 9, 0) = 0 := by
      rw [setE, if_pos (by decide), if_neg]
      rintro ⟨h1, _⟩
      obtain ⟨x, hx, hkx⟩ : ∃ x ∈ L, key x = (([97, 33, 33] : List UInt8), (3 : Int)) := ⟨qP 3, hp.symm.subset (List.mem_map.2 ⟨3, List.mem_range.2 (by omega), rfl⟩), by decide⟩
      have := fnd_none.1 (by simpa using h1 : fnd (key (([97, 33, 33], 3, 9, 0) : Pl)) L = none) x hx
      exact this hkx
    have s2 := Set_ok G8 ([97, 33, 33], 3, 9, 0) (by decide)
    rw [hsq] at s2
    simp (disch := omega) only [dm_t, wS, simprocAttr, IntKind.bits]
    refine (s2).k ?_
    rintro _ g9 ⟨rfl, G9, f9⟩
    simp (disch := omega) only [dm_t, wS, simprocAttr, IntKind.bits]
    refine (num_ok g9 0).k ?_
    rintro _ _ ⟨rfl, rfl⟩
    simp (disch := omega) only [dm_t, wS, simprocAttr, IntKind.bits]
    refine (works_ok g9).k ?_
    rintro _ g10 ⟨rfl, e10⟩
    simp (disch := omega) only [dm_t, wS, simprocAttr, IntKind.bits]
    exact (Ext.step' (Ext.step' (Ext.step' ((e.trans e2).trans (e3.trans (e35.trans e6))) f7 fun y hy => by rw [hy]; exact hm) f8 fun y hy => by rw [hy]; exact hm) f9 fun y hy => by rw [hy]; exact hm).trans e10
end Go.Proofs.Ythhofmjhnjkcfaa.gr
