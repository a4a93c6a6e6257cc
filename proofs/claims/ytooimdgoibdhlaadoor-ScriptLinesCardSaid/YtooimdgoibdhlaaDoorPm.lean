/-
  A line read: the document's answer, whole.
-/
import Derived.Test.YtooimdgoibdhlaaDoorPl
namespace Go.Proofs.YtooimdgoibdhlaaDoor.sc
open Go Go.Proofs.YtooimdgoibdhlaaDoor Go.RowKit
set_option linter.unusedVariables false
set_option linter.unusedSimpArgs false
theorem DRead_ok {h : H} (G : GL h) (line : List UInt8) (hl63 : line.length ≤ 9223372036854775807) : Ok Tryd.prog 14 #[sv line] h (RD h line) := by
  refine c14_ok (args := [_]) (by simp) ?_
  simp (disch := omega) only [dm_t, wS, simprocAttr, IntKind.bits]
  intro p2 hp2
  generalize hG : hupd h p2 _ = g1
  obtain ⟨e1, q2⟩ := new_ext hG hp2
  clear hG
  by_cases hl : line.length ≤ 1048576
  case neg =>
    have hr : rdS line = (z0, 3) := rdS_long (by omega)
    simp (disch := omega) only [dm_t, wS, simprocAttr, IntKind.bits, size_mk]
    refine storeH_all q2 rfl rfl ?_
    have k : cellsAt (hupd g1 p2 (.cells z7.toArray 31)) ⟨p2, 0, none⟩ 7 = some z7.toArray := cellsAt_all (hupd_same _ _ _) 7 rfl
    simp (disch := omega) only [dm_t, wS, simprocAttr, IntKind.bits, k]
    exact RD_zero (Ext.step' e1 (Fr.upd (S := fun y => y = p2) rfl _) fun y hy => by rw [hy]; exact hp2) hr
  simp (disch := omega) only [dm_t, wS, simprocAttr, IntKind.bits, size_mk]
  refine (words_ok g1 line hl).k ?_
  rintro vw g2 ⟨ow, e2⟩
  obtain ⟨w0, ws, hws⟩ : ∃ w0 ws, wds line = w0 :: ws := by
    cases h : wds line with
    | nil => exact absurd h (wds_ne line)
    | cons a t => exact ⟨a, t, rfl⟩
  have hlen : (wds line).length = ws.length + 1 := by rw [hws]; rfl
  have E2 := e1.trans e2
  have hw : S1 (fun y => g2 y = none) g2 vw ((wds line).map sv) := SlK.old (ow.s0) fun _ h => h
  obtain ⟨aw, cw, rfl⟩ := S1.len hw
  rw [List.length_map] at hw ⊢
  obtain ⟨bw, o0, i0, t0⟩ := S1.ldA hw (i := 0) (w := w0) (by rw [hws]; rfl) .i64
  replace i0 : idxV1 1 (.slice aw (wds line).length cw) (.int .i64 0) = some (.pointer (some ⟨bw, o0, none⟩)) := i0
  have fin : ∀ ps, g2 ps = none → ∀ g3, hupd g2 ps (.cells z7.toArray 31) = g3 →
      vc Tryd.prog c14_s6 (seqQ Tryd.prog [0, 2, 6] c14_s18 (retC [.cn 2 7 31, .t 3] (okR (RD h line)))) [(0, sv line), (2, .pointer (some ⟨p2, 0, none⟩)), (4, .slice aw (wds line).length cw), (5, sv (ws.headD [])), (6, .pointer (some ⟨ps, 0, none⟩)), (22, sv w0)] g3 ∧ cellAt g3 ⟨bw, o0, none⟩ = some (sv w0) := by
    rintro ps hps g3 rfl
    have e3 : Ext g2 (hupd g2 ps (.cells z7.toArray 31)) := Ext.new hps _
    refine ⟨DRead_s6 G (E2.trans e3) hl (e3.at (e2.at q2)) (hupd_same _ _ _) hp2 (E2.bk hps) (fun he => by rw [← he, e2.at q2] at hps; cases hps) hws ?_, t0 _ ((Ext.new hps _).mono fun _ h => h.elim)⟩
    refine SlK.mono (SlK.fr hw ((Ext.new hps _).mono fun _ h => h.elim) fun _ h => h) fun y o hy hyp => by rw [hyp]; exact hps
  cases ws with
  | nil =>
    rw [List.length_nil] at hlen
    simp (disch := omega) only [dm_t, wS, simprocAttr, IntKind.bits]
    intro ps hps
    obtain ⟨k, c0⟩ := fin ps hps _ rfl
    generalize hupd g2 ps _ = g3 at k c0 ⊢
    revert k
    simp (disch := omega) only [dm_t, wS, simprocAttr, IntKind.bits, i0, c0, List.headD_nil]
    exact id
  | cons a t =>
    obtain ⟨ba, oa, i1, t1⟩ := S1.ldA hw (i := 1) (w := a) (by rw [hws]; rfl) .i64
    replace i1 : idxV1 1 (.slice aw (wds line).length cw) (.int .i64 1) = some (.pointer (some ⟨ba, oa, none⟩)) := i1
    have c1 := t1 g2 (Fr.refl _ _)
    rw [List.length_cons] at hlen
    simp (disch := omega) only [dm_t, wS, simprocAttr, IntKind.bits, i1, c1]
    intro ps hps
    obtain ⟨k, c0⟩ := fin ps hps _ rfl
    generalize hupd g2 ps _ = g3 at k c0 ⊢
    revert k
    simp (disch := omega) only [dm_t, wS, simprocAttr, IntKind.bits, i0, c0, List.headD_cons]
    exact id
end Go.Proofs.YtooimdgoibdhlaaDoor.sc
