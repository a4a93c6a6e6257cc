/-
  A line read, the program's: the label 'stop'.
-/
import Derived.Test.YtooimdgoibdhlaaDoorPq
namespace Go.Proofs.YtooimdgoibdhlaaDoor.sc
open Go Go.Proofs.YtooimdgoibdhlaaDoor Go.RowKit
set_option linter.unusedVariables false
set_option linter.unusedSimpArgs false
section
variable {U : Nat → Prop} {h g0 g : H} {vw : Value} {line w0 : List UInt8} {ws : List (List UInt8)} {p2 ps pat pw pn : Nat}
theorem Read_j3 (s : LS U h g0 vw line p2 ps pat pw pn g 1 z7) (hws : wds line = kStop :: ws) :
    vc Tryd.prog c13_j3 (jQ Tryd.prog [(1, [0, 2, 4], c13_j1)] (Qr h line)) [(0, sv line), (2, .pointer (some ⟨p2, 0, none⟩)), (4, .pointer (some ⟨ps, 0, none⟩)), (5, .pointer (some ⟨pw, 0, none⟩)), (6, .pointer (some ⟨pat, 0, none⟩)), (8, fNu pn)] g := by
  have qs0 := s.qs
  obtain ⟨aw, cw, hvw⟩ := S1.len s.R.hw
  rw [List.length_map] at hvw
  have hlen : (wds line).length = ws.length + 1 := by rw [hws]; rfl
  have hwl := s.R.wl
  simp (disch := omega) only [dm_t, wS, simprocAttr, IntKind.bits, storeH_0 qs0]
  generalize hG : hupd g ps _ = g1
  have s1 := s.put (cells' := [.int .i64 4, .int .i64 0, .slice none 0 0, .int .i64 0, .int .i64 0, .int .i64 0, .slice none 0 0]) hG
  clear hG
  have npat : ∀ {y}, g1 y = none → y ≠ pat := fun hy he => by rw [he, s1.R.at'] at hy; cases hy
  have npw : ∀ {y}, g1 y = none → y ≠ pw := fun hy he => by rw [he, s1.R.w] at hy; cases hy
  have npn : ∀ {y}, g1 y = none → y ≠ pn := fun hy he => by rw [he, s1.R.n] at hy; cases hy
  have np2 : ∀ {y}, g1 y = none → y ≠ p2 := fun hy he => by rw [he, s1.q2] at hy; cases hy
  have nps : ∀ {y}, g1 y = none → y ≠ ps := fun hy he => by rw [he, s1.qs] at hy; cases hy
  refine vc_loop0 (fun G => ∃ (i : Nat) (rs : List Int) (vp : Value), LS U h g0 vw line p2 ps pat pw pn G (i + 1) (sCs (4, 0, [], 0, (0, 0), rs) (.slice none 0 0) vp) ∧ rs.length = i ∧ O1 (fun y => g1 y = none) G 3 vp (rs.map (.int .i64)) ∧ (∀ n ∈ rs, inI n) ∧ (∀ y, G y = none → g1 y = none) ∧
      ∀ (j m : Nat), m ≤ 2147483647 → j < i → ws[j]? = some (dec m) → rs[j]? = some (m : Int)) (fun G => match cellAt G ⟨pat, 0, none⟩ with | some v => ws.length + 2 - m1 v | none => 0) ?_ ?_
  · exact ⟨0, [], .slice none 0 0, s1, rfl, OwK.nil, by simp, fun _ h => h, fun j m _ hj => by omega⟩
  rintro G ⟨i, rs, vp, sG, hrl, op, hri, hnew, hrs⟩
  have cvp : isCell vp = true := by obtain ⟨a, c, e⟩ := S1.len op.s0; rw [e]; rfl
  have ca : cellAt G ⟨pat, 0, none⟩ = some (.int .i64 ((i + 1 : Nat) : Int)) := by rw [cellAt_of sG.R.at']; rfl
  have cw' : cellAt G ⟨pw, 0, none⟩ = some vw := by rw [cellAt_of sG.R.w]; rfl
  have c6 : cellAt G ⟨ps, 6, none⟩ = some vp := cells_of sG.qs 6 rfl
  have hle := sG.R.le
  rw [hvw] at cw'
  by_cases hil : i < ws.length
  · simp (disch := omega) only [dm_t, wS, simprocAttr, IntKind.bits, ca, cw', c6]
    refine ⟨by kernel_rfl, (num_ok sG.R).k ?_⟩
    rintro _ G2 ⟨⟨q, rfl, hq, hqm⟩, ⟨i', R2, hi'⟩, f2⟩
    obtain rfl : i' = i + 1 + 1 := hi' (by omega)
    have sG2 := sG.call R2 f2
    have d6 : cellAt G2 ⟨ps, 6, none⟩ = some vp := cells_of sG2.qs 6 rfl
    have op2 := OwK.fr op f2 fun y hy hO _ => npat hO hy
    have hnew2 : ∀ y, G2 y = none → g1 y = none := fun y hy => by
      cases hy2 : G y with
      | none => exact hnew y hy2
      | some o =>
        exfalso
        by_cases he : y = pat
        · rw [he, R2.at'] at hy; cases hy
        · rw [f2 y o hy2 he] at hy; cases hy
    simp (disch := omega) only [dm_t, wS, simprocAttr, IntKind.bits, d6]
    intro bl hbn
    refine ⟨cellAt_ext (Ext.new hbn _) d6, ?_⟩
    refine push1 (V := fun _ => _) op2 (fun y hy => hnew2 y hy) rfl (by rw [List.length_map]; omega) (by rw [List.length_map]; omega) ?_ bl hbn
    intro _ v G3 _ op3 f3
    have hT : ∀ y, (g1 y = none ∧ isAt vp y) → U y ∧ y ≠ pat ∧ y ≠ pw ∧ y ≠ pn := fun y hy => ⟨s1.R.un hy.1, npat hy.1, npw hy.1, npn hy.1⟩
    have sG3 : LS U h g0 vw line p2 ps pat pw pn G3 (i + 1 + 1) (sCs (4, 0, [], 0, (0, 0), rs) (.slice none 0 0) vp) :=
      ⟨R2.frame f3 hT, f3 _ _ sG2.q2 fun hh => np2 hh.1 rfl, f3 _ _ sG2.qs fun hh => nps hh.1 rfl, s.ne, s.hp2, s.hps, s.ll⟩
    have qs3 := sG3.qs
    have cv : isCell v = true := by obtain ⟨a, c, e⟩ := S1.len op3.s0; rw [e]; rfl
    simp (disch := omega) only [dm_t, wS, simprocAttr, IntKind.bits, storeH_0 qs3, cv]
    generalize hG : hupd G3 ps _ = G4
    have sG4 := sG3.put (cells' := sCs (4, 0, [], 0, (0, 0), rs ++ [q]) (.slice none 0 0) v) hG
    have f4 : Fr (fun y => y = ps) G3 G4 := by rw [← hG]; exact Fr.upd (S := fun y => y = ps) rfl _
    have op4 : O1 (fun y => g1 y = none) G4 3 v ((rs ++ [q]).map (.int .i64)) := by
      rw [List.map_append]
      exact OwK.fr op3 f4 fun y hy hO _ => nps hO hy
    have hnew4 : ∀ y, G4 y = none → g1 y = none := fun y hy => by
      cases h1 : g1 y with
      | none => rfl
      | some o =>
        exfalso
        cases hy2 : G2 y with
        | none => rw [hnew2 y hy2] at h1; cases h1
        | some o2 =>
          have h3 := f3 y o2 hy2 fun hh => by rw [hh.1] at h1; cases h1
          by_cases he : y = ps
          · rw [he, sG4.qs] at hy; cases hy
          · rw [f4 y o2 h3 he] at hy; cases hy
    have ca4 : cellAt G4 ⟨pat, 0, none⟩ = some (.int .i64 ((i + 1 + 1 : Nat) : Int)) := by rw [cellAt_of sG4.R.at']; rfl
    clear hG
    refine ⟨⟨i + 1, rs ++ [q], v, sG4, by simp [hrl], op4, ?_, hnew4, ?_⟩, ?_⟩
    · intro n hn
      rcases List.mem_append.1 hn with hn | hn
      · exact hri n hn
      · simp only [List.mem_cons, List.not_mem_nil, or_false] at hn
        rw [hn]; exact hq
    · intro j m hm hj hjw
      by_cases hji : j < i
      · rw [List.getElem?_append_left (by omega)]
        exact hrs j m hm hji hjw
      · obtain rfl : j = i := by omega
        have := hqm m hm (by rw [hws, List.getD_eq_getElem?_getD, List.getElem?_cons_succ, hjw]; rfl)
        rw [List.getElem?_append_right (by omega), hrl, Nat.sub_self, this]; rfl
    · rw [ca4]
      simp only [m1]
      omega
  · obtain rfl : i = ws.length := by omega
    have k := Read_j1 (T := [(1, [0, 2, 4], c13_j1)]) (x := (4, 0, [], 0, (0, 0), rs)) (vb := .slice none 0 0) (vp := vp) sG.R.G sG.R.E sG.ll sG.q2 sG.qs sG.hp2 ⟨in4, in0, in0, in0, in0⟩ OwK.nil (OwK.mono op fun y o hy hn => s1.R.E.bk hn) hri (by rw [hrl]; omega) fun t mt ht => by
      have hwl : wl t = kStop :: ws := by rw [← wds_ln t, ht, hws]
      obtain ⟨h1, h2⟩ := wl_4 mt hwl
      rw [h1]
      have : rs = t.2.2.2.2.2 := by
        apply List.ext_getElem?
        intro j
        by_cases hj : j < ws.length
        · have hj2 : j < t.2.2.2.2.2.length := by rw [h2, List.length_map] at hj; exact hj
          have hm := mt.pa _ (List.getElem_mem hj2)
          have hm2 := hm.2
          simp only [huge] at hm2
          have := hrs j (t.2.2.2.2.2[j]).toNat (by omega) hj (by rw [h2, List.getElem?_map, List.getElem?_eq_getElem hj2]; rfl)
          rw [this, List.getElem?_eq_getElem hj2, Int.toNat_of_nonneg hm.1]
        · have hj2 : ¬ j < t.2.2.2.2.2.length := by rw [h2, List.length_map] at hj; exact hj
          rw [List.getElem?_eq_none (by omega), List.getElem?_eq_none (by omega)]
      rw [this]
    rw [← told_eq] at k
    revert k
    simp (disch := omega) only [dm_t, wS, simprocAttr, IntKind.bits, ca, cw']
    exact id
end
end Go.Proofs.YtooimdgoibdhlaaDoor.sc
