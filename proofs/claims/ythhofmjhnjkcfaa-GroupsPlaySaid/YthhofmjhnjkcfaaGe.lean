/-
  groups: the document's records of places; a record read.
-/
import Derived.Test.YthhofmjhnjkcfaaGd
namespace Go.Proofs.Ythhofmjhnjkcfaa.gr
open Go.Proofs.Ythhofmjhnjkcfaa wi
set_option linter.unusedVariables false
set_option linter.unusedSimpArgs false
theorem same_ok {S T : Nat → Prop} {h : H} {cs ds : List Value} {x y : rc.D} (hx : Rep S rc h cs x) (hy : Rep T rc h ds y) : Ok Try.prog 14 #[.agg cs.toArray, .agg ds.toArray] h fun v h' => v = .bool (decide (x = y)) ∧ Ext h h' := by
  obtain ⟨k1, v1, rfl, b1, hk1, hv1⟩ := rep_rc.1 hx
  obtain ⟨k2, v2, rfl, b2, hk2, hv2⟩ := rep_rc.1 hy
  refine c14_ok (args := [_, _]) (by simp) ?_
  simp (disch := omega) only [dm_t, wS, simprocAttr, IntKind.bits]
  intro pa hpa pb hpb
  generalize hG : hupd h pa _ = g1 at hpb ⊢
  obtain ⟨e1, qa⟩ := new_ext hG hpa
  clear hG
  generalize hG : hupd g1 pb _ = g2
  obtain ⟨e2, qb⟩ := new_ext hG hpb
  clear hG
  have E2 := e1.trans e2
  simp (disch := omega) only [dm_t, wS, simprocAttr, IntKind.bits, cellsAt_all (e2.at qa) 3 rfl]
  intro la hla
  generalize hG : hupd g2 la _ = g3
  obtain ⟨e3, q3⟩ := new_ext hG hla
  clear hG
  simp (disch := omega) only [dm_t, wS, simprocAttr, IntKind.bits, cellsAt_all (e3.at qb) 3 rfl]
  intro lb hlb
  generalize hG : hupd g3 lb _ = g4
  obtain ⟨e4, q4⟩ := new_ext hG hlb
  clear hG
  have E4 := (E2.trans e3).trans e4
  have q34 := e4.at q3
  have r1 : RepL nos rc g4 (.slice (some ⟨la, 0, none⟩) 1 1) [x] := repL_iff.2 ⟨[[.int .i64 x.1, k1, v1]], ⟨fun r hr => by simp at hr; subst hr; rfl, .inr ⟨la, 0, 1, _, _, _, rfl, q34, by rw [sz_rc]; simp, by simp, at_arr _ #[], fun h => h⟩⟩, rfl, fun i r z hr hz => by
    cases i with
    | zero =>
      simp only [List.getElem?_cons_zero, Option.some.injEq] at hr hz
      subst hr hz
      exact rep_rc.2 ⟨k1, v1, rfl, b1, (SlK.nos hk1).ext E4, (SlK.nos hv1).ext E4⟩
    | succ i => simp at hr⟩
  have r2 : RepL nos rc g4 (.slice (some ⟨lb, 0, none⟩) 1 1) [y] := repL_iff.2 ⟨[[.int .i64 y.1, k2, v2]], ⟨fun r hr => by simp at hr; subst hr; rfl, .inr ⟨lb, 0, 1, _, _, _, rfl, q4, by rw [sz_rc]; simp, by simp, at_arr _ #[], fun h => h⟩⟩, rfl, fun i r z hr hz => by
    cases i with
    | zero =>
      simp only [List.getElem?_cons_zero, Option.some.injEq] at hr hz
      subst hr hz
      exact rep_rc.2 ⟨k2, v2, rfl, b2, (SlK.nos hk2).ext E4, (SlK.nos hv2).ext E4⟩
    | succ i => simp at hr⟩
  simp (disch := omega) only [dm_t, wS, simprocAttr, IntKind.bits]
  refine (Same_ok r1 r2 (by simp)).k ?_
  rintro _ _ ⟨rfl, rfl⟩
  simp (disch := omega) only [dm_t, wS, simprocAttr, IntKind.bits]
  refine ⟨?_, E4⟩
  simp
theorem DKey_ok (h : H) (g : List UInt8) (n : Int) (hg : g.length ≤ 64) (hn : 0 ≤ n ∧ n < 16) : Ok Try.prog 17 #[sv g, .int .i64 n] h fun v h' => OwB (fun y => h y = none) h' 5 v (keyB g n) ∧ Ext h h' := by
  refine c17_ok (args := [_, _]) (by simp) ?_
  obtain ⟨m, rfl⟩ : ∃ m : Nat, n = m := ⟨n.toNat, by omega⟩
  simp (disch := omega) only [dm_t, wS, simprocAttr, IntKind.bits]
  refine cvsb_of (O := fun y => h y = none) g (fun y hy => hy) ?_
  intro kv g3 o3 e3
  simp (disch := omega) only [dm_t, wS, simprocAttr, IntKind.bits]
  refine pushB 0 o3 (fun y hy => e3.bk hy) rfl (by omega) ?_
  intro _ kv2 g4 _ o4 f4
  have E4 : Ext h g4 := Ext.step' e3 f4 fun y hy => hy.1
  simp (disch := omega) only [dm_t, wS, simprocAttr, IntKind.bits]
  have l2 := Low_ok g4 (m : Int) 2 (by omega) (by omega)
  rw [show ((2 : Nat) : Int) = 2 from rfl] at l2
  refine (l2).k ?_
  rintro lv g5 ⟨o5, e5⟩
  simp (disch := omega) only [dm_t, wS, simprocAttr, IntKind.bits]
  refine appB (o4.ext e5) (fun y hy => (E4.trans e5).bk hy) (OwK.s0 o5) (by simp [low_len]; omega) ?_
  intro w g6 o6 f6
  simp (disch := omega) only [dm_t, wS, simprocAttr, IntKind.bits]
  exact ⟨o6, Ext.step' (E4.trans e5) f6 fun y hy => hy.1⟩
theorem DRecord_ok (h : H) (x : Pl) (hm : mayP x = true) : Ok Try.prog 16 #[.agg (pCs x).toArray] h fun v h' => RN h h' v (recP x) ∧ Ext h h' := by
  obtain ⟨g, n, o, t⟩ := x
  obtain ⟨⟨⟨m1, m2⟩, m3⟩, m4, m5, m6⟩ := mayP_iff.1 hm
  simp only at m1 m2 m4 m5 m6
  refine c16_ok (args := [_]) (by simp) ?_
  simp (disch := omega) only [dm_t, wS, simprocAttr, IntKind.bits]
  intro p hp b hb
  generalize hG : hupd h p _ = g1 at hb ⊢
  obtain ⟨e1, q1⟩ := new_ext hG hp
  clear hG
  generalize hG : hupd g1 b _ = g2
  obtain ⟨e2, q2⟩ := new_ext hG hb
  clear hG
  have E2 := e1.trans e2
  have c0 : ∀ G, Ext g1 G → cellAt G ⟨p, 0, none⟩ = some (sv g) := fun G e => by rw [cellAt_of (e.at q1)]; rfl
  have c1 : ∀ G, Ext g1 G → cellAt G ⟨p, 1, none⟩ = some (.int .i64 n) := fun G e => by rw [cellAt_of (e.at q1)]; rfl
  have c2 : ∀ G, Ext g1 G → cellAt G ⟨p, 2, none⟩ = some (.int .i64 o) := fun G e => by rw [cellAt_of (e.at q1)]; rfl
  have c3 : ∀ G, Ext g1 G → cellAt G ⟨p, 3, none⟩ = some (.int .i64 t) := fun G e => by rw [cellAt_of (e.at q1)]; rfl
  simp (disch := omega) only [dm_t, wS, simprocAttr, IntKind.bits, c0 _ e2, c1 _ e2, c2 _ e2, c3 _ e2]
  refine (DKey_ok g2 g n (by omega) (by omega)).k ?_
  rintro kv g3 ⟨o3, e3⟩
  have e23 := e2.trans e3
  simp (disch := omega) only [dm_t, wS, simprocAttr, IntKind.bits, c0 _ e23, c1 _ e23, c2 _ e23, c3 _ e23]
  have hbo : bits64 o = o.toNat := bits_pos (by omega) (by omega)
  have l8 := Low_ok g3 o 8 (by omega) (by omega)
  rw [show ((8 : Nat) : Int) = 8 from rfl, ← hbo] at l8
  refine (l8).k ?_
  rintro wv g4 ⟨o4, e4⟩
  have q4 := (e3.trans e4).at q2
  have E4 := (E2.trans e3).trans e4
  have e24 := e23.trans e4
  obtain ⟨ka, kc, rfl⟩ := By.len o3.s0
  obtain ⟨va, vc, rfl⟩ := By.len o4.s0
  simp (disch := omega) only [dm_t, wS, simprocAttr, IntKind.bits, c0 _ e24, c1 _ e24, c2 _ e24, c3 _ e24]
  refine storeH_all q4 rfl rfl ?_
  generalize hG : hupd g4 b _ = g5
  have f5 : Fr (fun y => y = b) g4 g5 := hG ▸ Fr.upd (S := fun y => y = b) rfl _
  have q5 : g5 b = some (.cells #[.int .i64 t, .slice ka (keyB g n).length kc, .slice va (low 8 (bits64 o)).length vc] 26) := by rw [← hG, hupd_same]
  have E5 : Ext h g5 := Ext.step' E4 f5 fun y hy => by rw [hy]; exact e1.bk hb
  clear hG
  have f5' : ∀ y, y ≠ b → True := fun _ _ => trivial
  have hk := OwK.ext o3 e4
  have pb : g5 p = some (.cells (pCs (g, n, o, t)).toArray 23) := f5 _ _ (e24.at q1) (ne_of q1 hb)
  have d3 : cellAt g5 ⟨p, 3, none⟩ = some (.int .i64 t) := by rw [cellAt_of pb]; rfl
  simp (disch := omega) only [dm_t, wS, simprocAttr, IntKind.bits, cellsAt_all q5 3 rfl, d3]
  have nb : ∀ {v : Value} {l : List UInt8} {O : Nat → Prop}, OwB O g4 5 v l → ¬ isAt v b := fun ho hat => OwK.tyno ho q4 (by decide) hat
  exact ⟨⟨_, _, rfl, show -9223372036854775808 ≤ t ∧ t ≤ 9223372036854775807 by omega, OwK.fr (OwK.mono hk fun y _ _ hy => E2.bk hy) f5 fun y hy hn hat => nb hk (hy ▸ hat), OwK.fr (OwK.mono o4 fun y _ _ hy => (E2.trans e3).bk hy) f5 fun y hy hn hat => nb o4 (hy ▸ hat)⟩, E5⟩
/-! ### A record read -/
def rdQ (r : rc.D) : Pl := (r.2.1.take (r.2.1.length - 3), (num (r.2.1.drop (r.2.1.length - 3 + 1)) : Int), (if r.2.2.length = 8 then sgn64 (num r.2.2) else 0), r.1)
def rdOk (r : rc.D) : Prop := 4 ≤ r.2.1.length ∧ r.2.1[r.2.1.length - 3]? = some 0 ∧ (r.2.2.length = 0 ∨ r.2.2.length = 8) ∧ mayP (rdQ r) = true
instance (r : rc.D) : Decidable (rdOk r) := inferInstanceAs (Decidable (_ ∧ _))
abbrev pl0 : Pl := (([] : List UInt8), (0 : Int), (0 : Int), (0 : Int))
/-- The place, does it stand, the error. -/
def rdP (r : rc.D) : Pl := if rdOk r then rdQ r else pl0
def rdS (r : rc.D) : Bool := decide (rdOk r) && decide (r.2.2.length = 8)
def rdE (r : rc.D) : Int := if rdOk r then 0 else 360
theorem rdOk.first {r : rc.D} (h : rdOk r) : mayR r = true ∧ ∀ j (hj : j < r.2.1.length), j < r.2.1.length - 3 → r.2.1[j] ≠ 0 := by
  obtain ⟨t, k, w⟩ := r
  obtain ⟨h1, h2, h3, h4⟩ := h
  obtain ⟨⟨⟨m1, m2⟩, m3⟩, m4, m5, m6⟩ := mayP_iff.1 h4
  simp only [rdQ] at h1 h2 h3 m1 m2 m3 m6 ⊢
  rw [List.length_take] at m1 m2
  refine ⟨?_, fun j hj hjn hz => ?_⟩
  · simp only [mayR, Bool.and_eq_true, decide_eq_true_eq]
    exact ⟨m6.1, m6.2, by omega, by omega⟩
  · have := List.all_eq_true.1 m3 k[j] (List.mem_take_iff_getElem.2 ⟨j, by omega, rfl⟩)
    rw [hz] at this
    exact absurd this (by decide)
theorem Read_ok {S : Nat → Prop} {h : H} {cs : List Value} {x : rc.D} (hx : Rep S rc h cs x) (hl : x.2.1.length ≤ 140737488351232) : Ok Try.prog 11 #[.agg cs.toArray] h fun v h' => v = .tuple #[.agg (pCs (rdP x)).toArray, .bool (rdS x), .int .i64 (rdE x)] ∧ Ext h h' := by
  obtain ⟨ka, kc, va, vn, rfl, hbd, hk, hv⟩ := rc_len hx
  refine c11_ok (args := [_]) (by simp) ?_
  simp (disch := omega) only [dm_t, wS, simprocAttr, IntKind.bits]
  intro p hp b hb
  generalize hG : hupd h p _ = g1 at hb ⊢
  obtain ⟨e1, q1⟩ := new_ext hG hp
  clear hG
  generalize hG : hupd g1 b _ = g2
  obtain ⟨e2, q2⟩ := new_ext hG hb
  clear hG
  have E2 := e1.trans e2
  have c1 : ∀ G, Ext g1 G → cellAt G ⟨p, 1, none⟩ = some (.slice ka x.2.1.length kc) := fun G e => by rw [cellAt_of (e.at q1)]; rfl
  have c2 : ∀ G, Ext g1 G → cellAt G ⟨p, 2, none⟩ = some (.slice va x.2.2.length vn) := fun G e => by rw [cellAt_of (e.at q1)]; rfl
  have c0 : ∀ G, Ext g1 G → cellAt G ⟨p, 0, none⟩ = some (.int .i64 x.1) := fun G e => by rw [cellAt_of (e.at q1)]; rfl
  simp (disch := omega) only [dm_t, wS, simprocAttr, IntKind.bits, c1 _ e2]
  refine (IB_ok (hk.ext E2)).k ?_
  rintro _ _ ⟨⟨i, rfl, hi⟩, rfl⟩
  simp (disch := omega) only [dm_t, wS, simprocAttr, IntKind.bits, cellsAt_all (e2.at q1) 3 rfl]
  refine (May_ok (hx.ext E2)).k ?_
  rintro _ g3 ⟨rfl, e3⟩
  have e23 := e2.trans e3
  have q23 := e3.at q2
  have E3 := E2.trans e3
  have fail : ¬ rdOk x → ∀ g4, g4 = hupd g3 b (.cells (pCs pl0).toArray 23) → Ext h g4 ∧ g4 b = some (.cells (pCs pl0).toArray 23) ∧ Value.tuple #[.agg (pCs pl0).toArray, .bool false, .int .i64 360] = .tuple #[.agg (pCs (rdP x)).toArray, .bool (rdS x), .int .i64 (rdE x)] := by
    rintro hno _ rfl
    refine ⟨Ext.step' E3 (Fr.upd (S := fun y => y = b) rfl _) fun y hy => by rw [hy]; exact e1.bk hb, hupd_same _ _ _, ?_⟩
    rw [rdP, rdS, rdE, if_neg hno, if_neg hno, decide_eq_false hno]
    rfl
  have hok : rdOk x → mayR x = true ∧ i = (x.2.1.length : Int) - 3 := by
    intro hx
    have hf := hx.first
    refine ⟨hf.1, ?_⟩
    obtain ⟨x1, x2, x3, x4⟩ := hx
    obtain ⟨hlt, hz⟩ := List.getElem?_eq_some_iff.1 x2
    rcases hi with ⟨rfl, hno⟩ | ⟨n, hn, rfl, h0, hmin⟩
    · exact absurd hz (hno _ (List.getElem_mem hlt))
    · by_cases hnl : n < x.2.1.length - 3
      · exact absurd h0 (hf.2 n hn hnl)
      · by_cases hgt : x.2.1.length - 3 < n
        · exact absurd hz (hmin _ hgt)
        · omega
  have hib : -1 ≤ i ∧ i < 140737488351232 := by
    rcases hi with ⟨rfl, _⟩ | ⟨n, hn, rfl, _⟩ <;> omega
  cases hmr : mayR x with
  | false =>
    simp (disch := omega) only [dm_t, wS, simprocAttr, IntKind.bits]
    have hno : ¬ rdOk x := fun hx => by rw [(hok hx).1] at hmr; cases hmr
    (refine storeH_all q23 rfl rfl ?_; obtain ⟨f1, f2, f3⟩ := fail hno _ rfl; simp (disch := omega) only [dm_t, wS, simprocAttr, IntKind.bits, cellsAt_all f2 4 rfl]; exact ⟨f3, f1⟩)
  | true =>
  by_cases hi0 : i < 0
  · have hno : ¬ rdOk x := fun hx => by have := hok hx; have := hx.1; omega
    simp (disch := omega) only [dm_t, wS, simprocAttr, IntKind.bits]
    (refine storeH_all q23 rfl rfl ?_; obtain ⟨f1, f2, f3⟩ := fail hno _ rfl; simp (disch := omega) only [dm_t, wS, simprocAttr, IntKind.bits, cellsAt_all f2 4 rfl]; exact ⟨f3, f1⟩)
  by_cases hil : (x.2.1.length : Int) = i + 3
  rotate_left
  · have hno : ¬ rdOk x := fun hx => by have := hok hx; omega
    simp (disch := omega) only [dm_t, wS, simprocAttr, IntKind.bits, c1 _ e23]
    (refine storeH_all q23 rfl rfl ?_; obtain ⟨f1, f2, f3⟩ := fail hno _ rfl; simp (disch := omega) only [dm_t, wS, simprocAttr, IntKind.bits, cellsAt_all f2 4 rfl]; exact ⟨f3, f1⟩)
  have hv8 : x.2.2.length = 0 ∨ x.2.2.length = 8 → True := fun _ => trivial
  by_cases hvb : ¬ (x.2.2.length = 0 ∨ x.2.2.length = 8)
  · have hno : ¬ rdOk x := fun hx => hvb hx.2.2.1
    have v1 : ¬ x.2.2.length = 0 := fun h => hvb (.inl h)
    have v2 : ¬ x.2.2.length = 8 := fun h => hvb (.inr h)
    simp (disch := omega) only [dm_t, wS, simprocAttr, IntKind.bits, c1 _ e23, c2 _ e23]
    (refine storeH_all q23 rfl rfl ?_; obtain ⟨f1, f2, f3⟩ := fail hno _ rfl; simp (disch := omega) only [dm_t, wS, simprocAttr, IntKind.bits, cellsAt_all f2 4 rfl]; exact ⟨f3, f1⟩)
  replace hvb := Classical.not_not.1 hvb
  obtain ⟨n, hn, rfl, h0, hmin⟩ : ∃ (n : Nat) (hn : n < x.2.1.length), i = n ∧ x.2.1[n] = 0 ∧ ∀ j (hj : j < n), x.2.1[j] ≠ 0 := by
    rcases hi with ⟨rfl, _⟩ | h
    · omega
    · exact h
  have cont : vc Try.prog c11_s2 (retC [.cn 2 4 23, .t 3, .t 4] (okR fun v h' => v = .tuple #[.agg (pCs (rdP x)).toArray, .bool (rdS x), .int .i64 (rdE x)] ∧ Ext h h')) [(1, .pointer (some ⟨p, 0, none⟩)), (2, .pointer (some ⟨b, 0, none⟩)), (5, .int .i64 (n : Int))] g3 := by
    simp (disch := omega) only [dm_t, wS, simprocAttr, IntKind.bits, c1 _ e23]
    refine By.cutK (hk.ext E3) (n + 1) x.2.1.length kc (by omega) rfl rfl ?_ (.inr rfl) ?_
    · have := (SlK.cap hk).2.2
      rw [one_len, bvs_len] at this
      omega
    intro w1 s1
    have hdl : (x.2.1.drop (n + 1)).take (x.2.1.length - (n + 1)) = x.2.1.drop (n + 1) := List.take_of_length_le (by rw [List.length_drop]; omega)
    rw [hdl] at s1
    have hd2 : (x.2.1.drop (n + 1)).length = 2 := by rw [List.length_drop]; omega
    simp (disch := omega) only [dm_t, wS, simprocAttr, IntKind.bits]
    refine (New_ok (SlK.nos s1) (by omega)).k ?_
    rintro _ g4 ⟨rb, rs, rfl, hrb, R4, e4⟩
    simp (disch := omega) only [dm_t, wS, simprocAttr, IntKind.bits]
    refine (U16_ok R4 (by omega)).k ?_
    rintro _ g5 ⟨rfl, R5, f5⟩
    have e35 : Ext g3 g5 := Ext.step' e4 f5 fun y hy => by rw [hy]; exact hrb
    have e15 := e23.trans e35
    have E5 := E3.trans e35
    have hnum : ((x.2.1.drop (n + 1)).drop 0).take 2 = x.2.1.drop (n + 1) := by rw [List.drop_zero]; exact List.take_of_length_le (by omega)
    rw [hnum]
    have hnl := num_lt (x.2.1.drop (n + 1))
    rw [hd2] at hnl
    have hkc := (SlK.cap hk).2.2
    rw [one_len, bvs_len] at hkc
    obtain ⟨ky, hky⟩ : ∃ ky : Pl, ky = (x.2.1.take n, ((num (x.2.1.drop (n + 1)) : Nat) : Int), (0 : Int), x.1) := ⟨_, rfl⟩
    have cont4 : ∀ g6 q, Ext g5 g6 → g5 q = none → g6 q = some (.cells (pCs ky).toArray 23) → vc Try.prog c11_s4 (retC [.cn 2 4 23, .t 3, .t 4] (okR fun v h' => v = .tuple #[.agg (pCs (rdP x)).toArray, .bool (rdS x), .int .i64 (rdE x)] ∧ Ext h h')) [(1, .pointer (some ⟨p, 0, none⟩)), (2, .pointer (some ⟨b, 0, none⟩)), (8, .pointer (some ⟨q, 0, none⟩))] g6 := by
      intro g6 q e6 hq q6
      have hqb : q ≠ b := fun h => by rw [h, e35.at q23] at hq; cases hq
      have hn3 : x.2.1.length - 3 = n := by omega
      have cont5 : ∀ g7, Ext g5 g7 → g7 q = some (.cells (pCs (rdQ x)).toArray 23) → vc Try.prog c11_s5 (retC [.cn 2 4 23, .t 3, .t 4] (okR fun v h' => v = .tuple #[.agg (pCs (rdP x)).toArray, .bool (rdS x), .int .i64 (rdE x)] ∧ Ext h h')) [(1, .pointer (some ⟨p, 0, none⟩)), (2, .pointer (some ⟨b, 0, none⟩)), (8, .pointer (some ⟨q, 0, none⟩))] g7 := by
        intro g7 e7 q7
        have k4 : cellsAt g7 ⟨q, 0, none⟩ 4 = some (pCs (rdQ x)).toArray := cellsAt_all q7 4 rfl
        simp (disch := omega) only [dm_t, wS, simprocAttr, IntKind.bits, k4]
        refine (may_ok g7 (rdQ x) (by show (x.2.1.take _).length ≤ _; rw [List.length_take]; omega)).k ?_
        rintro _ g8 ⟨rfl, e8⟩
        have q28 := e8.at (e7.at (e35.at q23))
        have E8 := (E5.trans e7).trans e8
        have c28 := c2 _ ((e15.trans e7).trans e8)
        have k48 : cellsAt g8 ⟨q, 0, none⟩ 4 = some (pCs (rdQ x)).toArray := cellsAt_all (e8.at q7) 4 rfl
        cases hm : mayP (rdQ x) with
        | false =>
          have hno : ¬ rdOk x := fun hx => by rw [hx.2.2.2] at hm; cases hm
          simp (disch := omega) only [dm_t, wS, simprocAttr, IntKind.bits]
          refine storeH_all q28 rfl rfl ?_
          generalize hG : hupd g8 b _ = g9
          have f9 : Fr (fun y => y = b) g8 g9 := hG ▸ Fr.upd (S := fun y => y = b) rfl _
          have q9 : g9 b = some (.cells (pCs pl0).toArray 23) := by rw [← hG, hupd_same]
          have E9 : Ext h g9 := Ext.step' E8 f9 fun y hy => by rw [hy]; exact e1.bk hb
          clear hG
          simp (disch := omega) only [dm_t, wS, simprocAttr, IntKind.bits, cellsAt_all q9 4 rfl]
          rw [rdP, rdS, rdE, if_neg hno, if_neg hno, decide_eq_false hno]
          exact ⟨rfl, E9⟩
        | true =>
          have hyes : rdOk x := by
            refine ⟨?_, ?_, hvb, hm⟩
            · have := (mayP_iff.1 hm).1.1.1
              simp only [rdQ, List.length_take] at this
              omega
            · rw [hn3, List.getElem?_eq_getElem hn, h0]
          have hvv : rdS x = decide (x.2.2.length = 8) := by rw [rdS, decide_eq_true hyes, Bool.true_and]
          have hp' : rdP x = rdQ x := if_pos hyes
          have he' : rdE x = 0 := if_pos hyes
          rw [hvv, hp', he']
          simp (disch := omega) only [dm_t, wS, simprocAttr, IntKind.bits, k48, c28]
          refine storeH_all q28 rfl rfl ?_
          generalize hG : hupd g8 b _ = g9
          have f9 : Fr (fun y => y = b) g8 g9 := hG ▸ Fr.upd (S := fun y => y = b) rfl _
          have q9 : g9 b = some (.cells (pCs (rdQ x)).toArray 23) := by rw [← hG, hupd_same]
          have E9 : Ext h g9 := Ext.step' E8 f9 fun y hy => by rw [hy]; exact e1.bk hb
          clear hG
          have p8 := ((e15.trans e7).trans e8).at q1
          have hpb : p ≠ b := ne_of q1 hb
          have c29 : cellAt g9 ⟨p, 2, none⟩ = some (.slice va x.2.2.length vn) := by rw [cellAt_of (f9 _ _ p8 hpb)]; rfl
          have hdec : decide ((x.2.2.length : Int) = 8) = decide (x.2.2.length = 8) := decide_eq_decide.2 (by omega)
          simp (disch := omega) only [dm_t, wS, simprocAttr, IntKind.bits, cellsAt_all q9 4 rfl, c29]
          exact ⟨by rw [hdec], E9⟩
      have c26 := c2 _ (e15.trans e6)
      rcases hvb with hv0 | hv8
      · have hqx : ky = rdQ x := by
          rw [hky, rdQ, hn3, if_neg (by omega)]
        rw [hqx] at q6
        have k := cont5 g6 e6 q6
        simp (disch := omega) only [dm_t, wS, simprocAttr, IntKind.bits, c26, k]
      · simp (disch := omega) only [dm_t, wS, simprocAttr, IntKind.bits, c26]
        refine (New_ok (SlK.nos (hv.ext (E5.trans e6))) (by omega)).k ?_
        rintro _ g7 ⟨rb2, rs2, rfl, hrb2, R7, e7⟩
        simp (disch := omega) only [dm_t, wS, simprocAttr, IntKind.bits]
        refine (I64_ok R7 (by omega)).k ?_
        rintro _ g8 ⟨rfl, R8, f8⟩
        have e68 : Ext g6 g8 := Ext.step' e7 f8 fun y hy => by rw [hy]; exact hrb2
        have hnum8 : (x.2.2.drop 0).take 8 = x.2.2 := by rw [List.drop_zero]; exact List.take_of_length_le (by omega)
        rw [hnum8]
        have q8 := e68.at q6
        simp (disch := omega) only [dm_t, wS, simprocAttr, IntKind.bits, storeH_0 q8]
        generalize hG : hupd g8 q _ = g9
        have f9 : Fr (fun y => y = q) g8 g9 := hG ▸ Fr.upd (S := fun y => y = q) rfl _
        have q9 : g9 q = some (.cells (pCs (rdQ x)).toArray 23) := by
          rw [← hG, hupd_same, hky, rdQ, hn3, if_pos hv8]
        have e9 : Ext g5 g9 := Ext.step' (e6.trans e68) f9 fun y hy => by rw [hy]; exact hq
        clear hG
        simp (disch := omega) only [dm_t, wN, simprocAttr, IntKind.bits]
        exact cont5 g9 e9 q9
    simp (disch := omega) only [dm_t, wS, simprocAttr, IntKind.bits, c1 _ e15, c0 _ e15]
    refine By.cutK (hk.ext E5) 0 n kc rfl rfl rfl (by omega) (.inr rfl) ?_
    intro w2 s2
    rw [List.drop_zero, Nat.sub_zero] at s2
    simp (disch := omega) only [dm_t, wS, simprocAttr, IntKind.bits, c1 _ e15, c0 _ e15]
    refine ⟨?_, ?_⟩
    · refine cvbs_of s2 ?_
      simp (disch := omega) only [dm_t, wS, simprocAttr, IntKind.bits, c1 _ e15, c0 _ e15]
      intro q hq
      generalize hG : hupd g5 q _ = g6
      obtain ⟨e6, q6⟩ := new_ext hG hq
      clear hG
      have e16 := e15.trans e6
      simp (disch := omega) only [dm_t, wS, simprocAttr, IntKind.bits, c1 _ e16, c0 _ e16]
      refine storeH_all q6 rfl rfl ?_
      generalize hG : hupd g6 q _ = g7
      have f7 : Fr (fun y => y = q) g6 g7 := hG ▸ Fr.upd (S := fun y => y = q) rfl _
      have e7 : Ext g5 g7 := Ext.step' e6 f7 fun y hy => by rw [hy]; exact hq
      have k := cont4 g7 q e7 hq (by rw [← hG, hupd_same, hky])
      have e17 := e15.trans e7
      simp (disch := omega) only [dm_t, wS, simprocAttr, IntKind.bits, k, c1 _ e17, c0 _ e17]
    · intro q hq
      generalize hG : hupd g5 q _ = g6
      obtain ⟨e6, q6⟩ := new_ext hG hq
      clear hG
      have e16 := e15.trans e6
      simp (disch := omega) only [dm_t, wS, simprocAttr, IntKind.bits, c1 _ e16, c0 _ e16]
      refine cvbs_of (s2.ext e6) ?_
      simp (disch := omega) only [dm_t, wS, simprocAttr, IntKind.bits, c1 _ e16, c0 _ e16]
      refine storeH_all q6 rfl rfl ?_
      generalize hG : hupd g6 q _ = g7
      have f7 : Fr (fun y => y = q) g6 g7 := hG ▸ Fr.upd (S := fun y => y = q) rfl _
      have e7 : Ext g5 g7 := Ext.step' e6 f7 fun y hy => by rw [hy]; exact hq
      have k := cont4 g7 q e7 hq (by rw [← hG, hupd_same, hky])
      have e17 := e15.trans e7
      simp (disch := omega) only [dm_t, wS, simprocAttr, IntKind.bits, k, c1 _ e17, c0 _ e17]
  by_cases hv0 : x.2.2.length = 0
  · simp (disch := omega) only [dm_t, wS, simprocAttr, IntKind.bits, c1 _ e23, c2 _ e23, cont]
  · have hv8 : x.2.2.length = 8 := hvb.resolve_left hv0
    simp (disch := omega) only [dm_t, wS, simprocAttr, IntKind.bits, c1 _ e23, c2 _ e23, cont]
end Go.Proofs.Ythhofmjhnjkcfaa.gr
