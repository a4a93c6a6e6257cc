/-
  proto: are two requests, two replies the same? The program's answers, the document's.
-/
import Derived.Test.YtfeaaliocdkonaaPh
namespace Go.Proofs.Ytfeaaliocdkonaa.pr
open Go.Proofs.Ytfeaaliocdkonaa rr wi
set_option linter.unusedVariables false
set_option linter.unusedSimpArgs false
def sameQ (x y : reqT.D) : Bool := decide (x.1 = y.1) && (decide (x.2.1 = y.2.1) && (decide (x.2.2.1 = y.2.2.1) && (decide (x.2.2.2.2.1 = y.2.2.2.2.1) && (decide (x.2.2.2.2.2 = y.2.2.2.2.2) && decide (x.2.2.2.1 = y.2.2.2.1)))))
def sameA (x y : ansT.D) : Bool := decide (x.1 = y.1) && (decide (x.2.1 = y.2.1) && (decide (x.2.2.1 = y.2.2.1) && (decide (x.2.2.2.1 = y.2.2.2.1) && (decide (x.2.2.2.2.2 = y.2.2.2.2.2) && decide (x.2.2.2.2.1 = y.2.2.2.2.1)))))
theorem sameQ_self (x : reqT.D) : sameQ x x = true := by simp [sameQ]
theorem sameA_self (x : ansT.D) : sameA x x = true := by simp [sameA]
theorem EqI_ok {S T : Nat → Prop} {h : H} {a b : Value} {l m : List Int} (ha : RepL S (.int .i64) h a l) (hb : RepL T (.int .i64) h b m) (hl : l.length ≤ 4611686018427387904) : Ok Try.prog 58 #[a, b] h fun v h' => v = .bool (decide (l = m)) ∧ h = h' := by
  obtain ⟨aa, ac, rfl⟩ := ha.len
  obtain ⟨ba, bc, rfl⟩ := hb.len
  have sa := (repI ha).1
  have sb := (repI hb).1
  refine c58_ok (args := [_, _]) (by simp) ?_
  by_cases hlm : l.length = m.length
  · simp (disch := omega) only [dm_t, wS, simprocAttr, IntKind.bits]
    refine vc_loop1 (fun vi h' => h' = h ∧ ∃ i : Nat, vi = .int .i64 (i : Int) ∧ i ≤ l.length ∧ l.take i = m.take i) (fun vi _ => l.length - m1 vi) ?_ ?_
    · simp (disch := omega) only [dm_t, wS, simprocAttr, IntKind.bits]
      exact ⟨0, rfl, by omega, by simp⟩
    rintro _ g ⟨rfl, i, rfl, hi, heq⟩
    by_cases hil : i < l.length
    · have him : i < m.length := by omega
      obtain ⟨b1, o1, i1, t1⟩ := S1.load sa (i := i) (by simpa using hil) .i64
      obtain ⟨b2, o2, i2, t2⟩ := S1.load sb (i := i) (by simpa using him) .i64
      rw [List.getElem_map] at t1 t2
      by_cases hx : l[i] = m[i]
      · simp (disch := omega) only [dm_t, wS, simprocAttr, IntKind.bits, i1, t1, i2, t2, hx]
        repeat' (first | exact ⟨⟨i + 1, by simp, by omega, take_step hil him heq hx⟩, by simp [m1]; omega⟩ | refine ⟨?_, ?_⟩)
      · simp (disch := omega) only [dm_t, wS, simprocAttr, IntKind.bits, i1, t1, i2, t2]
        repeat' (first | exact (by simp [take_ne hil him hx]) | refine ⟨?_, ?_⟩)
    · obtain rfl : i = l.length := by omega
      rw [List.take_length, List.take_of_length_le (by omega)] at heq
      simp (disch := omega) only [dm_t, wS, simprocAttr, IntKind.bits, heq]
  · simp (disch := omega) only [dm_t, wS, simprocAttr, IntKind.bits]
    have : ¬ l = m := fun h0 => hlm (by rw [h0])
    simp [this]
theorem SQ_i {S T : Nat → Prop} {h : H} {w w' : Value} {recs recs' : List rc.D} (a1 a2 a3 a5 a6 b1 b2 b3 b5 b6 : Int) (hr : RepL S rc h w recs) (hr' : RepL T rc h w' recs') (hl : recs.length ≤ 4611686018427387904) :
    Ok Try.prog 16 #[.agg (qCs (a1, a2, a3, recs, a5, a6) w).toArray, .agg (qCs (b1, b2, b3, recs', b5, b6) w').toArray] h fun v h' => v = .bool (sameQ (a1, a2, a3, recs, a5, a6) (b1, b2, b3, recs', b5, b6)) ∧ Ext h h' := by
  simp only [qCs]
  have wc := Rep.cells hr
  have wc' := Rep.cells hr'
  refine c16_ok (args := [_, _]) (by simp) ?_
  simp (disch := omega) only [dm_t, wS, simprocAttr, IntKind.bits]
  intro pa hpa pb hpb
  generalize hG : hupd h pa _ = g1 at hpb ⊢
  obtain ⟨e1, qa⟩ := new_ext hG hpa
  clear hG
  generalize hG : hupd g1 pb _ = g2
  obtain ⟨e2, qb⟩ := new_ext hG hpb
  clear hG
  have E := e1.trans e2
  replace qa := e2.at qa
  have x0 : cellAt g2 ⟨pa, 0, none⟩ = some (.int .i64 a1) := by rw [cellAt_of qa]; rfl
  have y0 : cellAt g2 ⟨pb, 0, none⟩ = some (.int .i64 b1) := by rw [cellAt_of qb]; rfl
  have x1 : cellAt g2 ⟨pa, 1, none⟩ = some (.int .u32 a2) := by rw [cellAt_of qa]; rfl
  have y1 : cellAt g2 ⟨pb, 1, none⟩ = some (.int .u32 b2) := by rw [cellAt_of qb]; rfl
  have x2 : cellAt g2 ⟨pa, 2, none⟩ = some (.int .i64 a3) := by rw [cellAt_of qa]; rfl
  have y2 : cellAt g2 ⟨pb, 2, none⟩ = some (.int .i64 b3) := by rw [cellAt_of qb]; rfl
  have x3 : cellAt g2 ⟨pa, 3, none⟩ = some (w) := by rw [cellAt_of qa]; rfl
  have y3 : cellAt g2 ⟨pb, 3, none⟩ = some (w') := by rw [cellAt_of qb]; rfl
  have x4 : cellAt g2 ⟨pa, 4, none⟩ = some (.int .i64 a5) := by rw [cellAt_of qa]; rfl
  have y4 : cellAt g2 ⟨pb, 4, none⟩ = some (.int .i64 b5) := by rw [cellAt_of qb]; rfl
  have x5 : cellAt g2 ⟨pa, 5, none⟩ = some (.int .i64 a6) := by rw [cellAt_of qa]; rfl
  have y5 : cellAt g2 ⟨pb, 5, none⟩ = some (.int .i64 b6) := by rw [cellAt_of qb]; rfl
  by_cases h1 : a1 = b1
  case neg =>
    simp (disch := omega) only [dm_t, wS, simprocAttr, IntKind.bits, x0, x1, x2, x3, x4, x5, y0, y1, y2, y3, y4, y5]
    exact ⟨by simp [sameQ, sameA, h1], E⟩
  by_cases h2 : a2 = b2
  case neg =>
    simp (disch := omega) only [dm_t, wS, simprocAttr, IntKind.bits, x0, x1, x2, x3, x4, x5, y0, y1, y2, y3, y4, y5]
    exact ⟨by simp [sameQ, sameA, h2], E⟩
  by_cases h3 : a3 = b3
  case neg =>
    simp (disch := omega) only [dm_t, wS, simprocAttr, IntKind.bits, x0, x1, x2, x3, x4, x5, y0, y1, y2, y3, y4, y5]
    exact ⟨by simp [sameQ, sameA, h3], E⟩
  by_cases h5 : a5 = b5
  case neg =>
    simp (disch := omega) only [dm_t, wS, simprocAttr, IntKind.bits, x0, x1, x2, x3, x4, x5, y0, y1, y2, y3, y4, y5]
    exact ⟨by simp [sameQ, sameA, h5], E⟩
  by_cases h6 : a6 = b6
  case neg =>
    simp (disch := omega) only [dm_t, wS, simprocAttr, IntKind.bits, x0, x1, x2, x3, x4, x5, y0, y1, y2, y3, y4, y5]
    exact ⟨by simp [sameQ, sameA, h6], E⟩
  simp (disch := omega) only [dm_t, wS, simprocAttr, IntKind.bits, x0, x1, x2, x3, x4, x5, y0, y1, y2, y3, y4, y5]
  refine (SameAll_ok (hr.ext E) (hr'.ext E) hl).k ?_
  rintro _ g3 ⟨rfl, e3⟩
  simp (disch := omega) only [dm_t, wS, simprocAttr, IntKind.bits]
  refine ⟨?_, E.trans e3⟩
  subst h1 h2 h3 h5 h6
  by_cases h4 : recs = recs'
  · simp [sameQ, sameA, h4]
  · simp [sameQ, sameA, h4]
theorem SQ_ok {S T : Nat → Prop} {h : H} {cs ds : List Value} {x y : reqT.D} (hx : Rep S reqT h cs x) (hy : Rep T reqT h ds y) (hl : x.2.2.2.1.length ≤ 4611686018427387904) : Ok Try.prog 16 #[.agg cs.toArray, .agg ds.toArray] h fun v h' => v = .bool (sameQ x y) ∧ Ext h h' := by
  obtain ⟨w, rfl, _, hr⟩ := rep_req.1 hx
  obtain ⟨w', rfl, _, hr'⟩ := rep_req.1 hy
  exact SQ_i x.1 x.2.1 x.2.2.1 x.2.2.2.2.1 x.2.2.2.2.2 y.1 y.2.1 y.2.2.1 y.2.2.2.2.1 y.2.2.2.2.2 hr hr' hl
theorem DSQ_i {S T : Nat → Prop} {h : H} {w w' : Value} {recs recs' : List rc.D} (a1 a2 a3 a5 a6 b1 b2 b3 b5 b6 : Int) (hr : RepL S rc h w recs) (hr' : RepL T rc h w' recs') (hl : recs.length ≤ 4611686018427387904) :
    Ok Try.prog 17 #[.agg (qCs (a1, a2, a3, recs, a5, a6) w).toArray, .agg (qCs (b1, b2, b3, recs', b5, b6) w').toArray] h fun v h' => v = .bool (sameQ (a1, a2, a3, recs, a5, a6) (b1, b2, b3, recs', b5, b6)) ∧ Ext h h' := by
  simp only [qCs]
  have wc := Rep.cells hr
  have wc' := Rep.cells hr'
  refine c17_ok (args := [_, _]) (by simp) ?_
  simp (disch := omega) only [dm_t, wS, simprocAttr, IntKind.bits]
  intro pa hpa pb hpb
  generalize hG : hupd h pa _ = g1 at hpb ⊢
  obtain ⟨e1, qa⟩ := new_ext hG hpa
  clear hG
  generalize hG : hupd g1 pb _ = g2
  obtain ⟨e2, qb⟩ := new_ext hG hpb
  clear hG
  have E := e1.trans e2
  replace qa := e2.at qa
  have x0 : cellAt g2 ⟨pa, 0, none⟩ = some (.int .i64 a1) := by rw [cellAt_of qa]; rfl
  have y0 : cellAt g2 ⟨pb, 0, none⟩ = some (.int .i64 b1) := by rw [cellAt_of qb]; rfl
  have x1 : cellAt g2 ⟨pa, 1, none⟩ = some (.int .u32 a2) := by rw [cellAt_of qa]; rfl
  have y1 : cellAt g2 ⟨pb, 1, none⟩ = some (.int .u32 b2) := by rw [cellAt_of qb]; rfl
  have x2 : cellAt g2 ⟨pa, 2, none⟩ = some (.int .i64 a3) := by rw [cellAt_of qa]; rfl
  have y2 : cellAt g2 ⟨pb, 2, none⟩ = some (.int .i64 b3) := by rw [cellAt_of qb]; rfl
  have x3 : cellAt g2 ⟨pa, 3, none⟩ = some (w) := by rw [cellAt_of qa]; rfl
  have y3 : cellAt g2 ⟨pb, 3, none⟩ = some (w') := by rw [cellAt_of qb]; rfl
  have x4 : cellAt g2 ⟨pa, 4, none⟩ = some (.int .i64 a5) := by rw [cellAt_of qa]; rfl
  have y4 : cellAt g2 ⟨pb, 4, none⟩ = some (.int .i64 b5) := by rw [cellAt_of qb]; rfl
  have x5 : cellAt g2 ⟨pa, 5, none⟩ = some (.int .i64 a6) := by rw [cellAt_of qa]; rfl
  have y5 : cellAt g2 ⟨pb, 5, none⟩ = some (.int .i64 b6) := by rw [cellAt_of qb]; rfl
  by_cases h1 : a1 = b1
  case neg =>
    simp (disch := omega) only [dm_t, wS, simprocAttr, IntKind.bits, x0, x1, x2, x3, x4, x5, y0, y1, y2, y3, y4, y5]
    exact ⟨by simp [sameQ, sameA, h1], E⟩
  by_cases h2 : a2 = b2
  case neg =>
    simp (disch := omega) only [dm_t, wS, simprocAttr, IntKind.bits, x0, x1, x2, x3, x4, x5, y0, y1, y2, y3, y4, y5]
    exact ⟨by simp [sameQ, sameA, h2], E⟩
  by_cases h3 : a3 = b3
  case neg =>
    simp (disch := omega) only [dm_t, wS, simprocAttr, IntKind.bits, x0, x1, x2, x3, x4, x5, y0, y1, y2, y3, y4, y5]
    exact ⟨by simp [sameQ, sameA, h3], E⟩
  by_cases h5 : a5 = b5
  case neg =>
    simp (disch := omega) only [dm_t, wS, simprocAttr, IntKind.bits, x0, x1, x2, x3, x4, x5, y0, y1, y2, y3, y4, y5]
    exact ⟨by simp [sameQ, sameA, h5], E⟩
  by_cases h6 : a6 = b6
  case neg =>
    simp (disch := omega) only [dm_t, wS, simprocAttr, IntKind.bits, x0, x1, x2, x3, x4, x5, y0, y1, y2, y3, y4, y5]
    exact ⟨by simp [sameQ, sameA, h6], E⟩
  simp (disch := omega) only [dm_t, wS, simprocAttr, IntKind.bits, x0, x1, x2, x3, x4, x5, y0, y1, y2, y3, y4, y5]
  refine (RSame_ok (hr.ext E) (hr'.ext E) hl).k ?_
  rintro _ _ ⟨rfl, rfl⟩
  simp (disch := omega) only [dm_t, wS, simprocAttr, IntKind.bits]
  refine ⟨?_, E⟩
  subst h1 h2 h3 h5 h6
  by_cases h4 : recs = recs'
  · simp [sameQ, sameA, h4]
  · simp [sameQ, sameA, h4]
theorem DSQ_ok {S T : Nat → Prop} {h : H} {cs ds : List Value} {x y : reqT.D} (hx : Rep S reqT h cs x) (hy : Rep T reqT h ds y) (hl : x.2.2.2.1.length ≤ 4611686018427387904) : Ok Try.prog 17 #[.agg cs.toArray, .agg ds.toArray] h fun v h' => v = .bool (sameQ x y) ∧ Ext h h' := by
  obtain ⟨w, rfl, _, hr⟩ := rep_req.1 hx
  obtain ⟨w', rfl, _, hr'⟩ := rep_req.1 hy
  exact DSQ_i x.1 x.2.1 x.2.2.1 x.2.2.2.2.1 x.2.2.2.2.2 y.1 y.2.1 y.2.2.1 y.2.2.2.2.1 y.2.2.2.2.2 hr hr' hl
theorem SA_i {S T : Nat → Prop} {h : H} {w w' m m' : Value} {recs recs' : List rc.D} {marks marks' : List Int} (a1 a2 a3 a4 b1 b2 b3 b4 : Int) (hr : RepL S rc h w recs) (hr' : RepL T rc h w' recs') (hl : recs.length ≤ 4611686018427387904) (hm : RepL S (.int .i64) h m marks) (hm' : RepL T (.int .i64) h m' marks') (hml : marks.length ≤ 4611686018427387904) :
    Ok Try.prog 31 #[.agg (aCs (a1, a2, a3, a4, recs, marks) w m).toArray, .agg (aCs (b1, b2, b3, b4, recs', marks') w' m').toArray] h fun v h' => v = .bool (sameA (a1, a2, a3, a4, recs, marks) (b1, b2, b3, b4, recs', marks')) ∧ Ext h h' := by
  simp only [aCs]
  obtain ⟨wa, wc, rfl⟩ := hr.len
  obtain ⟨wa', wc', rfl⟩ := hr'.len
  obtain ⟨ma, mc, rfl⟩ := hm.len
  obtain ⟨ma', mc', rfl⟩ := hm'.len
  refine c31_ok (args := [_, _]) (by simp) ?_
  simp (disch := omega) only [dm_t, wS, simprocAttr, IntKind.bits]
  intro pa hpa pb hpb
  generalize hG : hupd h pa _ = g1 at hpb ⊢
  obtain ⟨e1, qa⟩ := new_ext hG hpa
  clear hG
  generalize hG : hupd g1 pb _ = g2
  obtain ⟨e2, qb⟩ := new_ext hG hpb
  clear hG
  have E := e1.trans e2
  replace qa := e2.at qa
  have x0 : cellAt g2 ⟨pa, 0, none⟩ = some (.int .i64 a1) := by rw [cellAt_of qa]; rfl
  have y0 : cellAt g2 ⟨pb, 0, none⟩ = some (.int .i64 b1) := by rw [cellAt_of qb]; rfl
  have x1 : cellAt g2 ⟨pa, 1, none⟩ = some (.int .u32 a2) := by rw [cellAt_of qa]; rfl
  have y1 : cellAt g2 ⟨pb, 1, none⟩ = some (.int .u32 b2) := by rw [cellAt_of qb]; rfl
  have x2 : cellAt g2 ⟨pa, 2, none⟩ = some (.int .i64 a3) := by rw [cellAt_of qa]; rfl
  have y2 : cellAt g2 ⟨pb, 2, none⟩ = some (.int .i64 b3) := by rw [cellAt_of qb]; rfl
  have x3 : cellAt g2 ⟨pa, 3, none⟩ = some (.int .i64 a4) := by rw [cellAt_of qa]; rfl
  have y3 : cellAt g2 ⟨pb, 3, none⟩ = some (.int .i64 b4) := by rw [cellAt_of qb]; rfl
  have x4 : cellAt g2 ⟨pa, 4, none⟩ = some (.slice wa recs.length wc) := by rw [cellAt_of qa]; rfl
  have y4 : cellAt g2 ⟨pb, 4, none⟩ = some (.slice wa' recs'.length wc') := by rw [cellAt_of qb]; rfl
  have x5 : cellAt g2 ⟨pa, 5, none⟩ = some (.slice ma marks.length mc) := by rw [cellAt_of qa]; rfl
  have y5 : cellAt g2 ⟨pb, 5, none⟩ = some (.slice ma' marks'.length mc') := by rw [cellAt_of qb]; rfl
  by_cases h1 : a1 = b1
  case neg =>
    simp (disch := omega) only [dm_t, wS, simprocAttr, IntKind.bits, x0, x1, x2, x3, x4, x5, y0, y1, y2, y3, y4, y5]
    exact ⟨by simp [sameQ, sameA, h1], E⟩
  by_cases h2 : a2 = b2
  case neg =>
    simp (disch := omega) only [dm_t, wS, simprocAttr, IntKind.bits, x0, x1, x2, x3, x4, x5, y0, y1, y2, y3, y4, y5]
    exact ⟨by simp [sameQ, sameA, h2], E⟩
  by_cases h3 : a3 = b3
  case neg =>
    simp (disch := omega) only [dm_t, wS, simprocAttr, IntKind.bits, x0, x1, x2, x3, x4, x5, y0, y1, y2, y3, y4, y5]
    exact ⟨by simp [sameQ, sameA, h3], E⟩
  by_cases h4 : a4 = b4
  case neg =>
    simp (disch := omega) only [dm_t, wS, simprocAttr, IntKind.bits, x0, x1, x2, x3, x4, x5, y0, y1, y2, y3, y4, y5]
    exact ⟨by simp [sameQ, sameA, h4], E⟩
  simp (disch := omega) only [dm_t, wS, simprocAttr, IntKind.bits, x0, x1, x2, x3, x4, x5, y0, y1, y2, y3, y4, y5]
  refine (EqI_ok (hm.ext E) (hm'.ext E) hml).k ?_
  rintro _ _ ⟨rfl, rfl⟩
  subst h1 h2 h3 h4
  by_cases h5 : marks = marks'
  case neg =>
    simp (disch := omega) only [dm_t, wS, simprocAttr, IntKind.bits, x0, x1, x2, x3, x4, x5, y0, y1, y2, y3, y4, y5]
    exact ⟨by simp [sameQ, sameA, h5], E⟩
  simp (disch := omega) only [dm_t, wS, simprocAttr, IntKind.bits, x0, x1, x2, x3, x4, x5, y0, y1, y2, y3, y4, y5, h5]
  refine (SameAll_ok (hr.ext E) (hr'.ext E) hl).k ?_
  rintro _ g3 ⟨rfl, e3⟩
  simp (disch := omega) only [dm_t, wS, simprocAttr, IntKind.bits]
  refine ⟨?_, E.trans e3⟩
  by_cases h6 : recs = recs'
  · simp [sameQ, sameA, h5, h6]
  · simp [sameQ, sameA, h6]
theorem SA_ok {S T : Nat → Prop} {h : H} {cs ds : List Value} {x y : ansT.D} (hx : Rep S ansT h cs x) (hy : Rep T ansT h ds y) (hl : x.2.2.2.2.1.length ≤ 4611686018427387904) (hml : x.2.2.2.2.2.length ≤ 4611686018427387904) : Ok Try.prog 31 #[.agg cs.toArray, .agg ds.toArray] h fun v h' => v = .bool (sameA x y) ∧ Ext h h' := by
  obtain ⟨w, m, rfl, _, hr, hm⟩ := rep_ans.1 hx
  obtain ⟨w', m', rfl, _, hr', hm'⟩ := rep_ans.1 hy
  exact SA_i x.1 x.2.1 x.2.2.1 x.2.2.2.1 y.1 y.2.1 y.2.2.1 y.2.2.2.1 hr hr' hl hm hm' hml
theorem DSA_i {S T : Nat → Prop} {h : H} {w w' m m' : Value} {recs recs' : List rc.D} {marks marks' : List Int} (a1 a2 a3 a4 b1 b2 b3 b4 : Int) (hr : RepL S rc h w recs) (hr' : RepL T rc h w' recs') (hl : recs.length ≤ 4611686018427387904) (hm : RepL S (.int .i64) h m marks) (hm' : RepL T (.int .i64) h m' marks') (hml : marks.length ≤ 4611686018427387904) :
    Ok Try.prog 32 #[.agg (aCs (a1, a2, a3, a4, recs, marks) w m).toArray, .agg (aCs (b1, b2, b3, b4, recs', marks') w' m').toArray] h fun v h' => v = .bool (sameA (a1, a2, a3, a4, recs, marks) (b1, b2, b3, b4, recs', marks')) ∧ Ext h h' := by
  simp only [aCs]
  obtain ⟨wa, wc, rfl⟩ := hr.len
  obtain ⟨wa', wc', rfl⟩ := hr'.len
  obtain ⟨ma, mc, rfl⟩ := hm.len
  obtain ⟨ma', mc', rfl⟩ := hm'.len
  refine c32_ok (args := [_, _]) (by simp) ?_
  simp (disch := omega) only [dm_t, wS, simprocAttr, IntKind.bits]
  intro pa hpa pb hpb
  generalize hG : hupd h pa _ = g1 at hpb ⊢
  obtain ⟨e1, qa⟩ := new_ext hG hpa
  clear hG
  generalize hG : hupd g1 pb _ = g2
  obtain ⟨e2, qb⟩ := new_ext hG hpb
  clear hG
  have E := e1.trans e2
  replace qa := e2.at qa
  have x0 : cellAt g2 ⟨pa, 0, none⟩ = some (.int .i64 a1) := by rw [cellAt_of qa]; rfl
  have y0 : cellAt g2 ⟨pb, 0, none⟩ = some (.int .i64 b1) := by rw [cellAt_of qb]; rfl
  have x1 : cellAt g2 ⟨pa, 1, none⟩ = some (.int .u32 a2) := by rw [cellAt_of qa]; rfl
  have y1 : cellAt g2 ⟨pb, 1, none⟩ = some (.int .u32 b2) := by rw [cellAt_of qb]; rfl
  have x2 : cellAt g2 ⟨pa, 2, none⟩ = some (.int .i64 a3) := by rw [cellAt_of qa]; rfl
  have y2 : cellAt g2 ⟨pb, 2, none⟩ = some (.int .i64 b3) := by rw [cellAt_of qb]; rfl
  have x3 : cellAt g2 ⟨pa, 3, none⟩ = some (.int .i64 a4) := by rw [cellAt_of qa]; rfl
  have y3 : cellAt g2 ⟨pb, 3, none⟩ = some (.int .i64 b4) := by rw [cellAt_of qb]; rfl
  have x4 : cellAt g2 ⟨pa, 4, none⟩ = some (.slice wa recs.length wc) := by rw [cellAt_of qa]; rfl
  have y4 : cellAt g2 ⟨pb, 4, none⟩ = some (.slice wa' recs'.length wc') := by rw [cellAt_of qb]; rfl
  have x5 : cellAt g2 ⟨pa, 5, none⟩ = some (.slice ma marks.length mc) := by rw [cellAt_of qa]; rfl
  have y5 : cellAt g2 ⟨pb, 5, none⟩ = some (.slice ma' marks'.length mc') := by rw [cellAt_of qb]; rfl
  by_cases h1 : a1 = b1
  case neg =>
    simp (disch := omega) only [dm_t, wS, simprocAttr, IntKind.bits, x0, x1, x2, x3, x4, x5, y0, y1, y2, y3, y4, y5]
    exact ⟨by simp [sameQ, sameA, h1], E⟩
  by_cases h2 : a2 = b2
  case neg =>
    simp (disch := omega) only [dm_t, wS, simprocAttr, IntKind.bits, x0, x1, x2, x3, x4, x5, y0, y1, y2, y3, y4, y5]
    exact ⟨by simp [sameQ, sameA, h2], E⟩
  by_cases h3 : a3 = b3
  case neg =>
    simp (disch := omega) only [dm_t, wS, simprocAttr, IntKind.bits, x0, x1, x2, x3, x4, x5, y0, y1, y2, y3, y4, y5]
    exact ⟨by simp [sameQ, sameA, h3], E⟩
  by_cases h4 : a4 = b4
  case neg =>
    simp (disch := omega) only [dm_t, wS, simprocAttr, IntKind.bits, x0, x1, x2, x3, x4, x5, y0, y1, y2, y3, y4, y5]
    exact ⟨by simp [sameQ, sameA, h4], E⟩
  subst h1 h2 h3 h4
  by_cases h5 : marks.length = marks'.length
  case neg =>
    simp (disch := omega) only [dm_t, wS, simprocAttr, IntKind.bits, x0, x1, x2, x3, x4, x5, y0, y1, y2, y3, y4, y5]
    have : ¬ marks = marks' := fun h => h5 (by rw [h])
    exact ⟨by simp [sameQ, sameA, this], E⟩
  simp (disch := omega) only [dm_t, wS, simprocAttr, IntKind.bits, x0, x1, x2, x3, x4, x5, y0, y1, y2, y3, y4, y5]
  refine (RSame_ok (hr.ext E) (hr'.ext E) hl).k ?_
  rintro _ _ ⟨rfl, rfl⟩
  by_cases h6 : recs = recs'
  case neg =>
    simp (disch := omega) only [dm_t, wS, simprocAttr, IntKind.bits, x0, x1, x2, x3, x4, x5, y0, y1, y2, y3, y4, y5, h6]
    exact ⟨by simp [sameQ, sameA, h6], E⟩
  simp (disch := omega) only [dm_t, wS, simprocAttr, IntKind.bits, x0, x1, x2, x3, x4, x5, y0, y1, y2, y3, y4, y5, h6]
  have sa := (repI (hm.ext E)).1
  have sb := (repI (hm'.ext E)).1
  refine vc_loop1 (fun vi h' => h' = g2 ∧ ∃ i : Nat, vi = .int .i64 (i : Int) ∧ i ≤ marks.length ∧ marks.take i = marks'.take i) (fun vi _ => marks.length - m1 vi) ?_ ?_
  · simp (disch := omega) only [dm_t, wS, simprocAttr, IntKind.bits]
    exact ⟨0, rfl, by omega, by simp⟩
  rintro _ g ⟨rfl, i, rfl, hi, heq⟩
  by_cases hil : i < marks.length
  · have him : i < marks'.length := by omega
    obtain ⟨b1', o1, i1, t1⟩ := S1.load sa (i := i) (by simpa using hil) .i64
    obtain ⟨b2', o2, i2, t2⟩ := S1.load sb (i := i) (by simpa using him) .i64
    rw [List.getElem_map] at t1 t2
    by_cases hx : marks[i] = marks'[i]
    · simp (disch := omega) only [dm_t, wS, simprocAttr, IntKind.bits, x5, y5, i1, t1, i2, t2, hx]
      repeat' (first | exact ⟨⟨i + 1, by simp, by omega, take_step hil him heq hx⟩, by simp [m1]; omega⟩ | refine ⟨?_, ?_⟩)
    · simp (disch := omega) only [dm_t, wS, simprocAttr, IntKind.bits, x5, y5, i1, t1, i2, t2]
      repeat' (first | exact ⟨by simp [sameQ, sameA, take_ne hil him hx], E⟩ | refine ⟨?_, ?_⟩)
  · obtain rfl : i = marks.length := by omega
    rw [List.take_length, List.take_of_length_le (by omega)] at heq
    simp (disch := omega) only [dm_t, wS, simprocAttr, IntKind.bits, x5]
    exact ⟨by simp [sameQ, sameA, heq, h6], E⟩
theorem DSA_ok {S T : Nat → Prop} {h : H} {cs ds : List Value} {x y : ansT.D} (hx : Rep S ansT h cs x) (hy : Rep T ansT h ds y) (hl : x.2.2.2.2.1.length ≤ 4611686018427387904) (hml : x.2.2.2.2.2.length ≤ 4611686018427387904) : Ok Try.prog 32 #[.agg cs.toArray, .agg ds.toArray] h fun v h' => v = .bool (sameA x y) ∧ Ext h h' := by
  obtain ⟨w, m, rfl, _, hr, hm⟩ := rep_ans.1 hx
  obtain ⟨w', m', rfl, _, hr', hm'⟩ := rep_ans.1 hy
  exact DSA_i x.1 x.2.1 x.2.2.1 x.2.2.2.1 y.1 y.2.1 y.2.2.1 y.2.2.2.1 hr hr' hl hm hm' hml
end Go.Proofs.Ytfeaaliocdkonaa.pr
