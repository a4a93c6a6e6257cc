/-
  Steps of a script in memory; are two the same? The program's answer, the document's.
-/
import Derived.Test.YtooimdgoibdhlaaDoorPa
import Derived.Test.YtooimdgoibdhlaaDoorKE
import Derived.Test.YtooimdgoibdhlaaDoorC1
namespace Go.Proofs.YtooimdgoibdhlaaDoor.sc
open Go Go.Proofs.YtooimdgoibdhlaaDoor
set_option linter.unusedVariables false
set_option linter.unusedSimpArgs false
abbrev tI : Ty := .int .i64
abbrev stT : Ty := .pair tI (.pair tI (.pair (.sl .byte) (.pair tI (.pair (.pair tI tI) (.sl tI)))))
abbrev St := Int × Int × List UInt8 × Int × (Int × Int) × List Int
abbrev sv (s : List UInt8) : Value := .string ⟨s.toArray⟩
abbrev inI (n : Int) : Prop := -9223372036854775808 ≤ n ∧ n ≤ 9223372036854775807
abbrev sCs (x : St) (v w : Value) : List Value := [.int .i64 x.1, .int .i64 x.2.1, v, .int .i64 x.2.2.2.1, .int .i64 x.2.2.2.2.1.1, .int .i64 x.2.2.2.2.1.2, w]
def sB (x : St) : Prop := inI x.1 ∧ inI x.2.1 ∧ inI x.2.2.2.1 ∧ inI x.2.2.2.2.1.1 ∧ inI x.2.2.2.2.1.2
theorem rep_st {S : Nat → Prop} {h : H} {cs : List Value} {x : St} : Rep S stT h cs x ↔ ∃ v w, cs = sCs x v w ∧ sB x ∧ By S h v x.2.2.1 ∧ RepL S tI h w x.2.2.2.2.2 := by
  constructor
  · rintro ⟨c1, d1, rfl, ⟨rfl, b1⟩, c2, d2, rfl, ⟨rfl, b2⟩, c3, d3, rfl, r3, c4, d4, rfl, ⟨rfl, b4⟩, c5, d5, rfl, ⟨c6, d6, rfl, ⟨rfl, b5⟩, rfl, b6⟩, r6⟩
    obtain ⟨v, _, rfl, _⟩ := id r3
    obtain ⟨w, _, rfl, _⟩ := id r6
    exact ⟨v, w, rfl, ⟨b1, b2, b4, b5, b6⟩, repB.1 r3, r6⟩
  · rintro ⟨v, w, rfl, ⟨b1, b2, b4, b5, b6⟩, r3, r6⟩
    exact ⟨[_], _, rfl, ⟨rfl, b1⟩, [_], _, rfl, ⟨rfl, b2⟩, [_], _, rfl, repB.2 r3, [_], _, rfl, ⟨rfl, b4⟩, [_, _], [_], rfl, ⟨[_], [_], rfl, ⟨rfl, b5⟩, rfl, b6⟩, r6⟩

/-! ### Fates compared -/
section
variable {P : Program}
theorem run_eqSt2 {w : World} {t : TypeId} {f1 f2 : Field} {xs ys : Array Value} {k : IntKind} {a1 a2 b1 b2 : Int} (d : Nat) (hu : P.underlying t = some (.struct #[f1, f2])) (hs : P.stoodInHeld t = false) (n1 : ¬ f1.name = "_") (n2 : ¬ f2.name = "_")
    (h1 : P.underlying f1.type = some (.int k)) (h2 : P.underlying f2.type = some (.int k))
    (x1 : xs[f1.offset]? = some (.int k a1)) (x2 : xs[f2.offset]? = some (.int k a2)) (y1 : ys[f1.offset]? = some (.int k b1)) (y2 : ys[f2.offset]? = some (.int k b2)) :
    (Op.equalIn (d + 2) t (.agg xs) (.agg ys)).run P w = .ok (a1 == b1 && a2 == b2) w := by
  have hr := run_underlying hu w
  have p1 := fun w => partV (w := w) h1 rfl x1
  have p2 := fun w => partV (w := w) h2 rfl x2
  have r1 := fun w => partV (w := w) h1 rfl y1
  have r2 := fun w => partV (w := w) h2 rfl y2
  have q1 := fun w => run_eqI (w := w) (k' := k) (a := a1) (b := b1) d h1
  have q2 := fun w => run_eqI (w := w) (k' := k) (a := a2) (b := b2) d h2
  unfold Op.equalIn
  by_cases h : a1 = b1
  · subst h
    by_cases h' : a2 = b2
    · subst h'
      simp [hr, hs, p1, p2, r1, r2, q1, q2, n1, n2]
    · simp [hr, hs, p1, p2, r1, r2, q1, q2, n1, n2, h']
  · simp [hr, hs, p1, p2, r1, r2, q1, q2, n1, n2, h]
theorem raw_neSt2 {e : Env} {h : H} {V : Value → H → Prop} {X : List PanicEntry → H → Prop} {d : Option Nat} {x y : Operand} {t ty yt : TypeId} {xs ys : Array Value} {q : Bool} (hq : ∀ w, (Op.equalIn (9998 + 2) t (.agg xs) (.agg ys)).run P w = .ok q w) (hx : ev e x = some (.agg xs)) (hy : ev e y = some (.agg ys)) (hg : P.eqGuardType P.depth t = false) (hk : V (.bool (!q)) h) :
    lM P (.raw ⟨d, .binOp .neq t x y yt, ty, "", #[], none⟩) e h V X := by
  intro a w ha hw
  have hev := ev_sound ha hx
  have hev2 := ev_sound ha hy
  refine ⟨_, w, .inl ?_, Kin.refl w, by rw [hw]; exact hk⟩
  have hq' : (Op.equal t (.agg xs) (.agg ys)).run P w = .ok q w := hq w
  unfold execOp
  simp only [hev, hev2]
  simp [eqGuard, binOp, hq', hg]
end
section
variable {e : Env} {h : H} {V : Value → H → Prop} {X : List PanicEntry → H → Prop} {d : Option Nat}

theorem run_eqF (a1 a2 b1 b2 : Int) (w : World) : (Op.equalIn (9998 + 2) 26 (.agg #[.int .i64 a1, .int .i64 a2]) (.agg #[.int .i64 b1, .int .i64 b2])).run Tryd.prog w = .ok (decide ((a1, a2) = (b1, b2))) w := by
  have := run_eqSt2 (P := Tryd.prog) (w := w) (t := 26) (xs := #[.int .i64 a1, .int .i64 a2]) (ys := #[.int .i64 b1, .int .i64 b2]) (k := .i64) (a1 := a1) (a2 := a2) (b1 := b1) (b2 := b2) 9998 Tryd.underlying26 (by kernel_rfl) (by decide) (by decide) Tryd.underlying24 Tryd.underlying3 rfl rfl rfl rfl
  have hd : (a1 == b1 && a2 == b2) = decide ((a1, a2) = (b1, b2)) := by
    by_cases h1 : a1 = b1 <;> by_cases h2 : a2 = b2 <;> simp [h1, h2]
  exact this.trans (congrArg (fun q => Result.ok q w) hd)
theorem eqg : Tryd.prog.eqGuardType Tryd.prog.depth 26 = false := by kernel_rfl
theorem raw_eqF {x y : Operand} {ty yt : TypeId} {a1 a2 b1 b2 : Int} (hx : ev e x = some (.agg #[.int .i64 a1, .int .i64 a2])) (hy : ev e y = some (.agg #[.int .i64 b1, .int .i64 b2])) (hk : V (.bool (decide ((a1, a2) = (b1, b2)))) h) :
    lM Tryd.prog (.raw ⟨d, .binOp .eql 26 x y yt, ty, "", #[], none⟩) e h V X := by
  intro ac w ha hw
  have h1 := ev_sound ha hx
  have h2 := ev_sound ha hy
  have hq : (Op.equal 26 (.agg #[.int .i64 a1, .int .i64 a2]) (.agg #[.int .i64 b1, .int .i64 b2])).run Tryd.prog w = .ok (decide ((a1, a2) = (b1, b2))) w := run_eqF a1 a2 b1 b2 w
  refine ⟨_, w, .inl ?_, Kin.refl w, by rw [hw]; exact hk⟩
  unfold execOp
  simp only [h1, h2]
  generalize (#[.int .i64 a1, .int .i64 a2] : Array Value) = A at *
  generalize (#[.int .i64 b1, .int .i64 b2] : Array Value) = B at *
  simp [eqGuard, binOp, hq, eqg]
theorem raw_neF {x y : Operand} {ty yt : TypeId} {a1 a2 b1 b2 : Int} (hx : ev e x = some (.agg #[.int .i64 a1, .int .i64 a2])) (hy : ev e y = some (.agg #[.int .i64 b1, .int .i64 b2])) (hk : V (.bool (!decide ((a1, a2) = (b1, b2)))) h) :
    lM Tryd.prog (.raw ⟨d, .binOp .neq 26 x y yt, ty, "", #[], none⟩) e h V X := raw_neSt2 (run_eqF a1 a2 b1 b2) hx hy eqg hk
end

/-! ### Equal -/
theorem BEq_ok {S T : Nat → Prop} {h : H} {a b : Value} {l m : List UInt8} (ha : By S h a l) (hb : By T h b m) : Ok Tryd.prog 45 #[a, b] h fun v h' => v = .bool (decide (l = m)) ∧ h = h' := by
  refine c45_ok (args := [_, _]) (by simp) ?_
  simp (disch := omega) only [dm_t, wS, simprocAttr, IntKind.bits]
  refine cvbs_of ha ?_
  simp (disch := omega) only [dm_t, wS, simprocAttr, IntKind.bits]
  refine cvbs_of hb ?_
  simp (disch := omega) only [dm_t, wS, simprocAttr, IntKind.bits, toList_mk]
theorem take_ne' {l m : List Int} {i : Nat} (hi : i < l.length) (hm : i < m.length) (h : ¬ l[i] = m[i]) : ¬ l = m := by
  intro e; subst e; exact h rfl
theorem take_step' {l m : List Int} {i : Nat} (hi : i < l.length) (hm : i < m.length) (h : l.take i = m.take i) (hx : l[i] = m[i]) : l.take (i + 1) = m.take (i + 1) := by
  rw [show l.take (i + 1) = l.take i ++ [l[i]] by simp, show m.take (i + 1) = m.take i ++ [m[i]] by simp, h, hx]
theorem IEq_ok {S T : Nat → Prop} {h : H} {a b : Value} {l m : List Int} (ha : RepL S tI h a l) (hb : RepL T tI h b m) (hl : l.length ≤ 4611686018427387904) : Ok Tryd.prog 46 #[a, b] h fun v h' => v = .bool (decide (l = m)) ∧ h = h' := by
  obtain ⟨aa, ac, rfl⟩ := ha.len
  obtain ⟨ba, bc, rfl⟩ := hb.len
  have sa := (repI ha).1
  have sb := (repI hb).1
  refine c46_ok (args := [_, _]) (by simp) ?_
  by_cases hlm : l.length = m.length
  · simp (disch := omega) only [dm_t, wS, simprocAttr, IntKind.bits]
    refine vc_loop1 (fun vi h' => h' = h ∧ ∃ i : Nat, vi = .int .i64 (i : Int) ∧ i ≤ l.length ∧ l.take i = m.take i) (fun vi _ => l.length - m1 vi) ?_ ?_
    · simp (disch := omega) only [dm_t, wS, simprocAttr, IntKind.bits]
      exact ⟨0, rfl, by omega, by simp⟩
    rintro _ g ⟨rfl, i, rfl, hi, heq⟩
    by_cases hil : i < l.length
    · have him : i < m.length := by omega
      obtain ⟨b1, o1, i1, t1⟩ := S1.load sa (i := i) (by simpa using hil) .i64
      obtain ⟨b2, o2, i2, t2⟩ := S1.load sb (i := i) (by simpa using him) .i64
      rw [List.getElem_map] at t1 t2
      by_cases hx : l[i] = m[i]
      · simp (disch := omega) only [dm_t, wS, simprocAttr, IntKind.bits, i1, t1, i2, t2, hx]
        repeat' (first | exact ⟨⟨i + 1, by simp, by omega, take_step' hil him heq hx⟩, by simp [m1]; omega⟩ | refine ⟨?_, ?_⟩)
      · simp (disch := omega) only [dm_t, wS, simprocAttr, IntKind.bits, i1, t1, i2, t2]
        repeat' (first | exact (by simp [take_ne' hil him hx]) | refine ⟨?_, ?_⟩)
    · obtain rfl : i = l.length := by omega
      rw [List.take_length, List.take_of_length_le (by omega)] at heq
      simp (disch := omega) only [dm_t, wS, simprocAttr, IntKind.bits, heq]
  · simp (disch := omega) only [dm_t, wS, simprocAttr, IntKind.bits]
    have : ¬ l = m := fun h0 => hlm (by rw [h0])
    simp [this]

/-! ### Same -/
theorem st_eq {x y : St} (h1 : x.1 = y.1) (h2 : x.2.1 = y.2.1) (h3 : x.2.2.1 = y.2.2.1) (h4 : x.2.2.2.1 = y.2.2.2.1) (h5 : x.2.2.2.2.1 = y.2.2.2.2.1) (h6 : x.2.2.2.2.2 = y.2.2.2.2.2) : x = y := by
  obtain ⟨a1, a2, a3, a4, a5, a6⟩ := x
  obtain ⟨b1, b2, b3, b4, b5, b6⟩ := y
  simp only at h1 h2 h3 h4 h5 h6
  subst h1 h2 h3 h4 h5 h6; rfl
theorem cells_of {h : H} {b : Nat} {c : List Value} {E : TypeId} {fr : Nat × Nat} (q : h b = some (.cells ⟨c⟩ E fr)) (i : Nat) {v : Value} (hv : c[i]? = some v) : cellAt h ⟨b, i, none⟩ = some v := by
  rw [cellAt_of q]; simpa using hv
/-- A variable of seven cells, by its cells. -/
structure V7 (h : H) (p : Nat) (x : St) (v w : Value) : Prop where
  c0 : cellAt h ⟨p, 0, none⟩ = some (.int .i64 x.1)
  c1 : cellAt h ⟨p, 1, none⟩ = some (.int .i64 x.2.1)
  c2 : cellAt h ⟨p, 2, none⟩ = some v
  c3 : cellAt h ⟨p, 3, none⟩ = some (.int .i64 x.2.2.2.1)
  c4 : cellAt h ⟨p, 4, none⟩ = some (.int .i64 x.2.2.2.2.1.1)
  c5 : cellAt h ⟨p, 5, none⟩ = some (.int .i64 x.2.2.2.2.1.2)
  c6 : cellAt h ⟨p, 6, none⟩ = some w
  all : cellsAt h ⟨p, 0, none⟩ 7 = some (sCs x v w).toArray
  ft : cellsAt h ⟨p, 4, none⟩ 2 = some #[.int .i64 x.2.2.2.2.1.1, .int .i64 x.2.2.2.2.1.2]
  pk : cellsAt h ⟨p, 6, none⟩ 1 = some #[w]
theorem V7.mk' {h : H} {p : Nat} {x : St} {v w : Value} {E : TypeId} {fr : Nat × Nat} (q : h p = some (.cells (sCs x v w).toArray E fr)) : V7 h p x v w :=
  ⟨cells_of q 0 rfl, cells_of q 1 rfl, cells_of q 2 rfl, cells_of q 3 rfl, cells_of q 4 rfl, cells_of q 5 rfl, cells_of q 6 rfl, cellsAt_all q 7 rfl, cellsAt_of q (o := 4) (n := 2) (by simp), cellsAt_of q (o := 6) (n := 1) (by simp)⟩
theorem V7.ext {h h' : H} {p : Nat} {x : St} {v w : Value} (k : V7 h p x v w) (e : Ext h h') : V7 h' p x v w :=
  ⟨cellAt_ext e k.c0, cellAt_ext e k.c1, cellAt_ext e k.c2, cellAt_ext e k.c3, cellAt_ext e k.c4, cellAt_ext e k.c5, cellAt_ext e k.c6, cellsAt_ext e k.all, cellsAt_ext e k.ft, cellsAt_ext e k.pk⟩
def same (x y : St) : Bool := decide (x.1 = y.1) && (decide (x.2.1 = y.2.1) && (decide (x.2.2.1 = y.2.2.1) && (decide (x.2.2.2.1 = y.2.2.2.1) && (decide (x.2.2.2.2.1 = y.2.2.2.2.1) && decide (x.2.2.2.2.2 = y.2.2.2.2.2)))))
theorem same_eq (x y : St) : same x y = decide (x = y) := by
  by_cases h : x = y
  · subst h; simp [same]
  · rw [decide_eq_false h]
    cases hs : same x y with
    | false => rfl
    | true =>
      simp only [same, Bool.and_eq_true, decide_eq_true_eq] at hs
      exact absurd (st_eq hs.1 hs.2.1 hs.2.2.1 hs.2.2.2.1 hs.2.2.2.2.1 hs.2.2.2.2.2) h
theorem Same_ok {S T : Nat → Prop} {h : H} {cs ds : List Value} {x y : St} (hx : Rep S stT h cs x) (hy : Rep T stT h ds y) (hl : x.2.2.2.2.2.length ≤ 4611686018427387904) : Ok Tryd.prog 16 #[.agg cs.toArray, .agg ds.toArray] h fun v h' => v = .bool (decide (x = y)) ∧ Ext h h' := by
  obtain ⟨v, w, rfl, _, hv, hw⟩ := rep_st.1 hx
  obtain ⟨v', w', rfl, _, hv', hw'⟩ := rep_st.1 hy
  have wv := Rep.cells (repB.2 hv)
  have ww := Rep.cells hw
  have wv' := Rep.cells (repB.2 hv')
  have ww' := Rep.cells hw'
  rw [← same_eq]
  refine c16_ok (args := [_, _]) (by simp) ?_
  simp (disch := omega) only [dm_t, wS, simprocAttr, IntKind.bits]
  intro pa hpa pb hpb
  generalize hG : hupd h pa _ = g1 at hpb ⊢
  obtain ⟨e1, qa⟩ := new_ext hG hpa
  clear hG
  generalize hG : hupd g1 pb _ = g2
  obtain ⟨e2, qb⟩ := new_ext hG hpb
  clear hG
  have E := e1.trans e2
  replace qa := e2.at qa
  have A := V7.mk' qa
  have B := V7.mk' qb
  clear qa qb
  obtain ⟨x1, x2, x3, x4, ⟨x5, x6⟩, x7⟩ := x
  obtain ⟨y1, y2, y3, y4, ⟨y5, y6⟩, y7⟩ := y
  have a0 := A.c0; have a1 := A.c1; have a2 := A.c2; have a3 := A.c3; have a4 := A.ft; have a6 := A.c6
  have b0 := B.c0; have b1 := B.c1; have b2 := B.c2; have b3 := B.c3; have b4 := B.ft; have b6 := B.c6
  simp only at a0 a1 a2 a3 a4 a6 b0 b1 b2 b3 b4 b6 hv hw hv' hw' hl
  by_cases h1 : x1 = y1
  case neg =>
    simp (disch := omega) only [dm_t, wS, simprocAttr, IntKind.bits, a0, a1, a2, a3, a4, a6, b0, b1, b2, b3, b4, b6]
    exact ⟨by simp [same, h1], E⟩
  by_cases h2 : x2 = y2
  case neg =>
    simp (disch := omega) only [dm_t, wS, simprocAttr, IntKind.bits, a0, a1, a2, a3, a4, a6, b0, b1, b2, b3, b4, b6]
    exact ⟨by simp [same, h2], E⟩
  simp (disch := omega) only [dm_t, wS, simprocAttr, IntKind.bits, a0, a1, a2, a3, a4, a6, b0, b1, b2, b3, b4, b6]
  refine (BEq_ok (hv.ext E) (hv'.ext E)).k ?_
  rintro _ _ ⟨rfl, rfl⟩
  by_cases h3 : x3 = y3
  case neg =>
    simp (disch := omega) only [dm_t, wS, simprocAttr, IntKind.bits, a0, a1, a2, a3, a4, a6, b0, b1, b2, b3, b4, b6, h3]
    exact ⟨by simp [same, h3], E⟩
  by_cases h4 : x4 = y4
  case neg =>
    simp (disch := omega) only [dm_t, wS, simprocAttr, IntKind.bits, a0, a1, a2, a3, a4, a6, b0, b1, b2, b3, b4, b6, h3]
    exact ⟨by simp [same, h4], E⟩
  simp (disch := omega) only [dm_t, wS, simprocAttr, IntKind.bits, a0, a1, a2, a3, a4, a6, b0, b1, b2, b3, b4, b6, h3]
  refine raw_eqF rfl rfl ?_
  by_cases h5 : (x5, x6) = (y5, y6)
  case neg =>
    simp (disch := omega) only [dm_t, wS, simprocAttr, IntKind.bits, a0, a1, a2, a3, a4, a6, b0, b1, b2, b3, b4, b6, h5]
    exact ⟨by simp only [same, h5]; simp, E⟩
  simp (disch := omega) only [dm_t, wS, simprocAttr, IntKind.bits, a0, a1, a2, a3, a4, a6, b0, b1, b2, b3, b4, b6, h5]
  refine (IEq_ok (hw.ext E) (hw'.ext E) hl).k ?_
  rintro _ _ ⟨rfl, rfl⟩
  simp (disch := omega) only [dm_t, wS, simprocAttr, IntKind.bits]
  exact ⟨by simp only [same, h1, h2, h3, h4, h5]; simp, E⟩
theorem DSame_ok {S T : Nat → Prop} {h : H} {cs ds : List Value} {x y : St} (hx : Rep S stT h cs x) (hy : Rep T stT h ds y) (hl : x.2.2.2.2.2.length ≤ 4611686018427387904) : Ok Tryd.prog 17 #[.agg cs.toArray, .agg ds.toArray] h fun v h' => v = .bool (decide (x = y)) ∧ Ext h h' := by
  obtain ⟨v, w, rfl, _, hv, hw⟩ := rep_st.1 hx
  obtain ⟨v', w', rfl, _, hv', hw'⟩ := rep_st.1 hy
  have wv := Rep.cells (repB.2 hv)
  have ww := Rep.cells hw
  have wv' := Rep.cells (repB.2 hv')
  have ww' := Rep.cells hw'
  rw [← same_eq]
  refine c17_ok (args := [_, _]) (by simp) ?_
  simp (disch := omega) only [dm_t, wS, simprocAttr, IntKind.bits]
  intro pa hpa pb hpb
  generalize hG : hupd h pa _ = g1 at hpb ⊢
  obtain ⟨e1, qa⟩ := new_ext hG hpa
  clear hG
  generalize hG : hupd g1 pb _ = g2
  obtain ⟨e2, qb⟩ := new_ext hG hpb
  clear hG
  have E := e1.trans e2
  replace qa := e2.at qa
  have A := V7.mk' qa
  have B := V7.mk' qb
  clear qa qb
  obtain ⟨x1, x2, x3, x4, ⟨x5, x6⟩, x7⟩ := x
  obtain ⟨y1, y2, y3, y4, ⟨y5, y6⟩, y7⟩ := y
  have a0 := A.c0; have a1 := A.c1; have a2 := A.c2; have a3 := A.c3; have a4 := A.ft; have a6 := A.c6
  have b0 := B.c0; have b1 := B.c1; have b2 := B.c2; have b3 := B.c3; have b4 := B.ft; have b6 := B.c6
  simp only at a0 a1 a2 a3 a4 a6 b0 b1 b2 b3 b4 b6 hv hw hv' hw' hl
  by_cases h1 : x1 = y1
  case neg =>
    simp (disch := omega) only [dm_t, wS, simprocAttr, IntKind.bits, a0, a1, a2, a3, a4, a6, b0, b1, b2, b3, b4, b6]
    exact ⟨by simp [same, h1], E⟩
  by_cases h2 : x2 = y2
  case neg =>
    simp (disch := omega) only [dm_t, wS, simprocAttr, IntKind.bits, a0, a1, a2, a3, a4, a6, b0, b1, b2, b3, b4, b6]
    exact ⟨by simp [same, h2], E⟩
  simp (disch := omega) only [dm_t, wS, simprocAttr, IntKind.bits, a0, a1, a2, a3, a4, a6, b0, b1, b2, b3, b4, b6]
  refine cvbs_of (hv.ext E) ?_
  simp (disch := omega) only [dm_t, wS, simprocAttr, IntKind.bits, a0, a1, a2, a3, a4, a6, b0, b1, b2, b3, b4, b6]
  refine cvbs_of (hv'.ext E) ?_
  by_cases h3 : x3 = y3
  case neg =>
    simp (disch := omega) only [dm_t, wS, simprocAttr, IntKind.bits, a0, a1, a2, a3, a4, a6, b0, b1, b2, b3, b4, b6, toList_mk, h3]
    exact ⟨by simp [same, h3], E⟩
  by_cases h4 : x4 = y4
  case neg =>
    simp (disch := omega) only [dm_t, wS, simprocAttr, IntKind.bits, a0, a1, a2, a3, a4, a6, b0, b1, b2, b3, b4, b6, toList_mk, h3]
    exact ⟨by simp [same, h4], E⟩
  simp (disch := omega) only [dm_t, wS, simprocAttr, IntKind.bits, a0, a1, a2, a3, a4, a6, b0, b1, b2, b3, b4, b6, toList_mk, h3]
  refine raw_neF rfl rfl ?_
  by_cases h5 : (x5, x6) = (y5, y6)
  case neg =>
    simp (disch := omega) only [dm_t, wS, simprocAttr, IntKind.bits, a0, a1, a2, a3, a4, a6, b0, b1, b2, b3, b4, b6, h5]
    exact ⟨by simp only [same, h5]; simp, E⟩
  obtain ⟨wa, wc, rfl⟩ := hw.len
  obtain ⟨wa', wc', rfl⟩ := hw'.len
  by_cases h6 : x7.length = y7.length
  case neg =>
    simp (disch := omega) only [dm_t, wS, simprocAttr, IntKind.bits, a0, a1, a2, a3, a4, a6, b0, b1, b2, b3, b4, b6, h5]
    have : ¬ x7 = y7 := fun h0 => h6 (by rw [h0])
    exact ⟨by simp [same, this], E⟩
  have sa := (repI (hw.ext E)).1
  have sb := (repI (hw'.ext E)).1
  simp (disch := omega) only [dm_t, wS, simprocAttr, IntKind.bits, a0, a1, a2, a3, a4, a6, b0, b1, b2, b3, b4, b6, h5]
  refine vc_loop1 (fun vi h' => h' = g2 ∧ ∃ i : Nat, vi = .int .i64 (i : Int) ∧ i ≤ x7.length ∧ x7.take i = y7.take i) (fun vi _ => x7.length - m1 vi) ?_ ?_
  · simp (disch := omega) only [dm_t, wS, simprocAttr, IntKind.bits]
    exact ⟨0, rfl, by omega, by simp⟩
  rintro _ g ⟨rfl, i, rfl, hi, heq⟩
  by_cases hil : i < x7.length
  · have him : i < y7.length := by omega
    obtain ⟨b1', o1, i1, t1⟩ := S1.load sa (i := i) (by simpa using hil) .i64
    obtain ⟨b2', o2, i2, t2⟩ := S1.load sb (i := i) (by simpa using him) .i64
    rw [List.getElem_map] at t1 t2
    by_cases hx : x7[i] = y7[i]
    · simp (disch := omega) only [dm_t, wS, simprocAttr, IntKind.bits, a6, b6, i1, t1, i2, t2, hx]
      repeat' (first | exact ⟨⟨i + 1, by simp, by omega, take_step' hil him heq hx⟩, by simp [m1]; omega⟩ | refine ⟨?_, ?_⟩)
    · simp (disch := omega) only [dm_t, wS, simprocAttr, IntKind.bits, a6, b6, i1, t1, i2, t2]
      repeat' (first | exact E | exact ⟨by simp [same, take_ne' hil him hx], E⟩ | refine ⟨?_, ?_⟩)
  · obtain rfl : i = x7.length := by omega
    rw [List.take_length, List.take_of_length_le (by omega)] at heq
    simp (disch := omega) only [dm_t, wS, simprocAttr, IntKind.bits, a6, b6, heq]
    exact ⟨by simp only [same, h1, h2, h3, h4, h5, heq]; simp, E⟩
end Go.Proofs.YtooimdgoibdhlaaDoor.sc
