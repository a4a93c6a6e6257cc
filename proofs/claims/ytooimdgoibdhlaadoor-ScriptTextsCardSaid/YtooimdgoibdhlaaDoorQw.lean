/-
  ScriptTexts, the whole.
-/
import Derived.Test.YtooimdgoibdhlaaDoorQv
namespace Go.Proofs.YtooimdgoibdhlaaDoor.sc
open Go Go.Proofs.YtooimdgoibdhlaaDoor Go.RowKit
set_option linter.unusedVariables false
set_option linter.unusedSimpArgs false
theorem CP.mono {O O' : Nat → Prop} {g : H} {x : St} {vb vp : Value} (s : CP O g x vb vp) (hO : ∀ y o, g y = some o → O y → O' y) : CP O' g x vb vp := by
  obtain ⟨⟨a, c, h1, h2⟩, a', c', h3, h4⟩ := s
  exact ⟨⟨a, c, h1, OwK.mono h2 hO⟩, a', c', h3, OwK.mono h4 hO⟩
theorem CP.cells {O : Nat → Prop} {g : H} {x : St} {vb vp : Value} (s : CP O g x vb vp) : (sCs x vb vp).all isCell = true := by
  obtain ⟨⟨a, c, rfl, h2⟩, a', c', rfl, h4⟩ := s
  exact cells_sCs rfl rfl
section
variable {h : H}
theorem ST_ok (G : GL h) {v : Value} {l : List St} (r : RepL nos stT h v l) (hl : l.length ≤ 4611686018427387904) (kind : Int) (hk : inI kind) (client : Int) (hc : inI client) :
    Ok Tryd.prog 6 #[v, .int .i64 kind, .int .i64 client] h fun v h' => v = .bool true ∧ Ext h h' := by
  obtain ⟨la, lc, rfl⟩ := r.len
  refine c6_ok (args := [_, _, _]) (by simp) ?_
  by_cases hbig : 100 < l.length
  · simp (disch := omega) only [dm_t, wS, simprocAttr, IntKind.bits]
    refine (works_ok G).k ?_
    rintro _ g ⟨rfl, e⟩
    simp (disch := omega) only [dm_t, wS, simprocAttr, IntKind.bits]
    exact e
  simp (disch := omega) only [dm_t, wS, simprocAttr, IntKind.bits]
  refine (long_ok r hl).k ?_
  rintro _ _ ⟨rfl, rfl⟩
  cases hlng : l.any lng with
  | true =>
    simp (disch := omega) only [dm_t, wS, simprocAttr, IntKind.bits]
    refine (works_ok G).k ?_
    rintro _ g ⟨rfl, e⟩
    simp (disch := omega) only [dm_t, wS, simprocAttr, IntKind.bits]
    exact e
  | false =>
  have hlim := not_long hlng
  simp (disch := omega) only [dm_t, wS, simprocAttr, IntKind.bits]
  refine vc_loop2 (fun vm vi g => ∃ (i : Nat) (E : List El), vi = .int .i64 (i : Int) ∧ i ≤ l.length ∧ E.map (·.1) = l.take i ∧ ML (fun y => h y = none) g vm E ∧ Ext h g) (fun _ vi _ => l.length - m1 vi) ?_ ?_
  · simp (disch := omega) only [dm_t, wS, simprocAttr, IntKind.bits]
    exact ⟨0, [], by simp, by omega, by simp, ⟨OwK.nil, fun e he => absurd he List.not_mem_nil⟩, Ext.refl _⟩
  rintro vm _ g ⟨i, E, rfl, hi, hE, M, e⟩
  have hEl : E.length = i := by
    have := congrArg List.length hE
    rw [List.length_map, List.length_take] at this; omega
  by_cases hil : i < l.length
  case neg =>
    obtain rfl : i = l.length := by omega
    rw [List.take_length] at hE
    have k := ST_s6 G e (r.ext e) M hE (by omega) hlim kind client
    revert k
    simp (disch := omega) only [dm_t, wS, simprocAttr, IntKind.bits]
    exact id
  obtain ⟨b, o, vb, vp, i1, -, t1, hs, hb, hpk⟩ := step_at (r.ext e) hil .i64
  obtain ⟨h1, h2⟩ := hlim _ (List.getElem_mem hil)
  have hin := ints_in hpk
  obtain ⟨ma, mc, rfl⟩ := SlK.len M.o.s0
  simp (disch := omega) only [dm_t, wS, simprocAttr, IntKind.bits, i1, t1]
  refine (copied_ok (rep_st.2 ⟨_, _, rfl, hs, hb, hpk⟩) h1 h2).k ?_
  rintro _ g2 ⟨⟨wb, wp, rfl, cp⟩, e2⟩
  have M2 := M.ext e2
  have cp2 : CP (fun y => h y = none) g2 l[i] wb wp := cp.mono fun y o _ ho => e.bk ho
  simp (disch := omega) only [dm_t, wS, simprocAttr, IntKind.bits]
  intro bl hbl
  refine pushk (V := fun _ => _) (k := 7) (bytes := 88) (row := sCs l[i] wb wp) M2.o (fun y hy => (e.trans e2).bk hy) rfl rfl cp.cells (by rw [List.length_map]; omega) (by rw [List.length_map]; omega) ?_ bl hbl
  intro _ s' g4 _ o4 f4 hat
  simp (disch := omega) only [dm_t, wS, simprocAttr, IntKind.bits]
  refine ⟨⟨i + 1, E ++ [(l[i], wb, wp)], by simp, by omega, ?_, ⟨by simpa using o4, fun x hx => ?_⟩, Ext.step (e.trans e2) f4⟩, by simp [m1] <;> omega⟩
  · rw [List.map_append, hE, List.take_succ_eq_append_getElem hil]; rfl
  · rcases List.mem_append.1 hx with hx | hx
    · obtain ⟨q1, q2⟩ := M2.c x hx
      exact ⟨q1.frU M2.o (by decide) (by decide) f4, q2⟩
    · rw [List.mem_singleton.1 hx]
      exact ⟨cp2.frU M2.o (by decide) (by decide) f4, hs, hin⟩
end
end Go.Proofs.YtooimdgoibdhlaaDoor.sc
