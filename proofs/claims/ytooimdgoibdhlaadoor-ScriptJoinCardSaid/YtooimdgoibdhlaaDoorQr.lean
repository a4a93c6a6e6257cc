/-
  Two rows of steps joined (ScriptJoin), walked.
-/
import Derived.Test.YtooimdgoibdhlaaDoorQp
import Derived.Test.YtooimdgoibdhlaaDoorQi
namespace Go.Proofs.YtooimdgoibdhlaaDoor.sc
open Go Go.Proofs.YtooimdgoibdhlaaDoor Go.RowKit
set_option linter.unusedVariables false
set_option linter.unusedSimpArgs false
/-! ### Plain -/
theorem TX_ok {l : List St} (hl : l.length ≤ 65536) (h : (TX l).2.2 = 0) : (∀ x ∈ l, mayS x = true) ∧ (txt l).length ≤ 1048576 ∧ TX l = (txt l, (l.length : Int), 0) := by
  unfold TX at h
  rw [if_neg (by omega)] at h
  split at h
  · cases h
  · rename_i hb
    split at h
    · cases h
    · rename_i ht
      have hm : ∀ x ∈ l, mayS x = true := fun x hx => by
        obtain ⟨i, hi, rfl⟩ := List.getElem_of_mem hx
        exact may_of hb hi
      exact ⟨hm, by omega, by rw [TX_may hl hm, if_neg ht]⟩
theorem TX_no {l : List St} (hl : l.length ≤ 65536) (h : (TX l).2.2 ≠ 0) : ((TX l).2.2 = 2 ∨ (TX l).2.2 = 3) ∧ (¬ (∀ x ∈ l, mayS x = true) ∨ 1048576 < (txt l).length) := by
  unfold TX at h ⊢
  rw [if_neg (by omega)] at h ⊢
  split at h
  · rename_i hb
    rw [if_pos hb]
    exact ⟨.inl rfl, .inl fun hm => by rw [bad_all hm] at hb; omega⟩
  · rename_i hb
    rw [if_neg hb]
    split at h
    · rename_i ht
      rw [if_pos ht]
      exact ⟨.inr rfl, .inr ht⟩
    · exact absurd rfl h
theorem join_no {x y : List St} (h1 : x.length ≤ 60) (h2 : y.length ≤ 60) (h : (TX x).2.2 ≠ 0 ∨ (TX y).2.2 ≠ 0) : (TX (x ++ y)).2.2 ≠ 0 := by
  intro h0
  obtain ⟨hm, ht, -⟩ := TX_ok (by rw [List.length_append]; omega) h0
  rw [txt_app, List.length_append] at ht
  rcases h with h | h
  · rcases (TX_no (by omega) h).2 with h3 | h3
    · exact h3 fun z hz => hm z (List.mem_append_left _ hz)
    · omega
  · rcases (TX_no (by omega) h).2 with h3 | h3
    · exact h3 fun z hz => hm z (List.mem_append_right _ hz)
    · omega
section
variable {h : H}
theorem SJ_s2 {Q : Post} {g : H} {va vb vc' : Value} {x y : List St} (c : Int) (ra : RepL nos stT g va x) (rc : RepL nos stT g vb y) (rb : RepL nos stT g vc' (x ++ y)) (h1 : x.length ≤ 60) (h2 : y.length ≤ 60)
    (hba : ∀ z ∈ x, z.2.2.1.length ≤ 20000) (hbc : ∀ z ∈ y, z.2.2.1.length ≤ 20000) (hQ : ∀ g', Ext g g' → vc Tryd.prog c8_s3 Q [(0, va), (1, vb), (7, vc')] g') :
    vc Tryd.prog c8_s2 Q [(0, va), (1, vb), (2, .int .i64 c), (7, vc')] g := by
  have hbb : ∀ z ∈ x ++ y, z.2.2.1.length ≤ 20000 := fun z hz => (List.mem_append.1 hz).elim (hba z) (hbc z)
  have hlen : (x ++ y).length = x.length + y.length := List.length_append
  have hap := bys_app c x y
  have ba := bys_len c hba
  have bc := bys_len c hbc
  simp (disch := omega) only [dm_t, wS, simprocAttr, IntKind.bits]
  (refine (SBy_ok rb (by omega) hbb c).k ?_; rintro w1 g1 ⟨o1, e1⟩; rw [hap] at o1; have b1 := o1.s0; obtain ⟨w1a, w1c, rfl⟩ := By.len b1)
  simp (disch := omega) only [dm_t, wS, simprocAttr, IntKind.bits]
  repeat' (first
    | (with_reducible refine And.intro ?_ ?_)
    | ((first | refine cvbs_of b1 ?_ | refine cvbs_of (SlK.ext b1 e2) ?_ | refine cvbs_of (SlK.ext b1 (e2.trans e3)) ?_); simp (disch := omega) only [dm_t, wS, simprocAttr, IntKind.bits, mk_append, size_mk, toList_mk])
    | ((refine (SBy_ok (ra.ext e1) (by omega) hba c).k ?_; rintro w2 g2 ⟨o2, e2⟩; have b2 := o2.s0; obtain ⟨w2a, w2c, rfl⟩ := By.len b2); simp (disch := omega) only [dm_t, wS, simprocAttr, IntKind.bits])
    | ((first | refine cvbs_of b2 ?_ | refine cvbs_of (SlK.ext b2 e3) ?_); simp (disch := omega) only [dm_t, wS, simprocAttr, IntKind.bits, mk_append, size_mk, toList_mk])
    | ((refine (SBy_ok (rc.ext (e1.trans e2)) (by omega) hbc c).k ?_; rintro w3 g3 ⟨o3, e3⟩; have b3 := o3.s0; obtain ⟨w3a, w3c, rfl⟩ := By.len b3); simp (disch := omega) only [dm_t, wS, simprocAttr, IntKind.bits])
    | ((refine cvbs_of b3 ?_); simp (disch := omega) only [dm_t, wS, simprocAttr, IntKind.bits, mk_append, size_mk, toList_mk]))
  all_goals (have k := hQ _ ((e1.trans e2).trans e3); revert k; simp (disch := omega) only [dm_t, wS, simprocAttr, IntKind.bits]; exact id)
theorem SJ_s3 {Q : Post} {g : H} {va vb vc' : Value} {x y : List St} (ra : RepL nos stT g va x) (rc : RepL nos stT g vb y) (rb : RepL nos stT g vc' (x ++ y)) (h1 : x.length ≤ 60) (h2 : y.length ≤ 60)
    (hQ : ∀ g', Ext g g' → vc Tryd.prog c8_s7 Q [(0, va), (1, vb), (7, vc')] g') :
    vc Tryd.prog c8_s3 Q [(0, va), (1, vb), (7, vc')] g := by
  have hlen : (x ++ y).length = x.length + y.length := List.length_append
  simp (disch := omega) only [dm_t, wS, simprocAttr, IntKind.bits]
  refine vc_loop1 (fun vi g' => Ext g g' ∧ ∃ i : Nat, vi = .int .i64 (i : Int) ∧ i ≤ 8) (fun vi _ => 8 - m1 vi) ?_ ?_
  · simp (disch := omega) only [dm_t, wS, simprocAttr, IntKind.bits]
    exact ⟨Ext.refl _, 0, rfl, by omega⟩
  rintro _ g1 ⟨e, i, rfl, hi⟩
  by_cases hil : i < 8
  case neg =>
    have k := hQ g1 e
    revert k
    simp (disch := omega) only [dm_t, wS, simprocAttr, IntKind.bits]
    exact id
  have hap := cntK_app (i : Int) x y
  have l1 := cntK_le (i : Int) x
  have l2 := cntK_le (i : Int) y
  simp (disch := omega) only [dm_t, wS, simprocAttr, IntKind.bits]
  refine (Cnt_ok (rb.ext e) (by omega) (i : Int)).k ?_
  rintro _ g2 ⟨rfl, e2⟩
  simp (disch := omega) only [dm_t, wS, simprocAttr, IntKind.bits]
  refine (Cnt_ok (ra.ext (e.trans e2)) (by omega) (i : Int)).k ?_
  rintro _ g3 ⟨rfl, e3⟩
  simp (disch := omega) only [dm_t, wS, simprocAttr, IntKind.bits]
  refine (Cnt_ok (rc.ext ((e.trans e2).trans e3)) (by omega) (i : Int)).k ?_
  rintro _ g4 ⟨rfl, e4⟩
  have hap' : (cntK (i : Int) (x ++ y) : Int) = (cntK (i : Int) x : Int) + (cntK (i : Int) y : Int) := by omega
  simp (disch := omega) only [dm_t, wS, simprocAttr, IntKind.bits, hap']
  exact ⟨⟨((e.trans e2).trans e3).trans e4, i + 1, by simp, by omega⟩, by simp [m1] <;> omega⟩
theorem PR.len {l : List St} {v : Value} {g g' : H} (p : PR g l v g') : ∃ a c n, v = .slice a n c ∧ n = cntK 4 l + 1 := by
  obtain ⟨us, Q, q, ph, -, hg⟩ := p
  obtain ⟨a, c, hv⟩ := S1.len ph.o.s0
  refine ⟨a, c, us.length, hv, ?_⟩
  rw [ph.n, glu_cnt hg]; simp
theorem SJ_s7 (G : GL h) {Q : Post} {g : H} {va vb vc' : Value} {x y : List St} (ra : RepL nos stT g va x) (rc : RepL nos stT g vb y) (rb : RepL nos stT g vc' (x ++ y)) (h1 : x.length ≤ 60) (h2 : y.length ≤ 60)
    (hx : ∀ z ∈ x, z.2.2.1.length ≤ 20000 ∧ z.2.2.2.2.2.length ≤ 500) (hy : ∀ z ∈ y, z.2.2.1.length ≤ 20000 ∧ z.2.2.2.2.2.length ≤ 500)
    (hQ : ∀ g', Ext g g' → vc Tryd.prog c8_s11 Q [(0, va), (1, vb), (7, vc')] g') :
    vc Tryd.prog c8_s7 Q [(0, va), (1, vb), (7, vc')] g := by
  have hlen : (x ++ y).length = x.length + y.length := List.length_append
  have hxy : ∀ z ∈ x ++ y, z.2.2.1.length ≤ 20000 ∧ z.2.2.2.2.2.length ≤ 500 := fun z hz => (List.mem_append.1 hz).elim (hx z) (hy z)
  have hap := cntK_app 4 x y
  have l1 := cntK_le 4 x
  have l2 := cntK_le 4 y
  simp (disch := omega) only [dm_t, wS, simprocAttr, IntKind.bits]
  refine (Parts_ok rb (by omega) hxy).k ?_
  rintro _ g1 ⟨w1, rfl, p1, e1⟩
  obtain ⟨a1, c1, n1, rfl, k1⟩ := p1.len
  simp (disch := omega) only [dm_t, wS, simprocAttr, IntKind.bits]
  refine (Parts_ok (ra.ext e1) (by omega) hx).k ?_
  rintro _ g2 ⟨w2, rfl, p2, e2⟩
  obtain ⟨a2, c2, n2, rfl, k2⟩ := p2.len
  simp (disch := omega) only [dm_t, wS, simprocAttr, IntKind.bits]
  refine (Parts_ok (rc.ext (e1.trans e2)) (by omega) hy).k ?_
  rintro _ g3 ⟨w3, rfl, p3, e3⟩
  obtain ⟨a3, c3, n3, rfl, k3⟩ := p3.len
  have E3 := (e1.trans e2).trans e3
  simp (disch := omega) only [dm_t, wS, simprocAttr, IntKind.bits]
  refine (Num_ok g3 0).k ?_
  rintro _ _ ⟨rfl, rfl⟩
  simp (disch := omega) only [dm_t, wS, simprocAttr, IntKind.bits]
  refine (Num_ok g3 0).k ?_
  rintro _ _ ⟨rfl, rfl⟩
  simp (disch := omega) only [dm_t, wS, simprocAttr, IntKind.bits]
  refine (Num_ok g3 0).k ?_
  rintro _ _ ⟨rfl, rfl⟩
  simp (disch := omega) only [dm_t, wS, simprocAttr, IntKind.bits]
  refine (Cnt_ok (rb.ext E3) (by omega) 4).k ?_
  rintro _ g4 ⟨rfl, e4⟩
  have k := hQ g4 (E3.trans e4)
  have e1' : (cntK 4 (x ++ y) : Int) = (n1 : Int) - 1 := by omega
  have e2' : (n2 : Int) + (n3 : Int) - 1 = (n1 : Int) := by omega
  have hb1 : n1 ≤ 121 := by omega
  have hb2 : n2 ≤ 61 := by omega
  have hb3 : n3 ≤ 61 := by omega
  revert k
  simp (disch := omega) only [dm_t, wS, simprocAttr, IntKind.bits, e1', e2', Int.sub_add_cancel]
  exact id
end
end Go.Proofs.YtooimdgoibdhlaaDoor.sc
namespace Go.Proofs.YtooimdgoibdhlaaDoor.sc
open Go Go.Proofs.YtooimdgoibdhlaaDoor Go.RowKit
set_option linter.unusedVariables false
set_option linter.unusedSimpArgs false
theorem no_ext {t : List UInt8} {f k : Nat} (hk : k < t.length) (hf : f ≤ k) (hno : no10 ((t.drop f).take (k - f))) (hc : ¬ t[k].toNat = 10) : no10 ((t.drop f).take (k + 1 - f)) := by
  have hk' : (t.drop f).take (k + 1 - f) = (t.drop f).take (k - f) ++ [t[k]] := by
    have h1 : k + 1 - f = (k - f) + 1 := by omega
    have h2 : k - f < (t.drop f).length := by simp; omega
    rw [h1, List.take_succ_eq_append_getElem h2]
    congr 2
    simp only [List.getElem_drop]
    congr 1; omega
  rw [hk']
  intro c hcm
  rcases List.mem_append.1 hcm with hcm | hcm
  · exact hno c hcm
  · rw [List.mem_singleton.1 hcm]; exact hc
theorem cut_at {t : List UInt8} {f k : Nat} (hk : k < t.length) (hf : f ≤ k) (hno : no10 ((t.drop f).take (k - f))) (hc : t[k].toNat = 10) : cut10 (t.drop f) = some ((t.take k).drop f, t.drop (k + 1)) := by
  have h0 : t.drop f = (t.drop f).take (k - f) ++ t.drop k := by
    have h2 := (List.take_append_drop (k - f) (t.drop f)).symm
    rw [List.drop_drop, show f + (k - f) = k by omega] at h2
    exact h2
  have h1 : t.drop k = 10 :: t.drop (k + 1) := by
    rw [List.drop_eq_getElem_cons hk, show t[k] = 10 from UInt8.toNat_inj.1 hc]
  rw [h0, h1, cut10_app hno, List.drop_take]
theorem txt_drop (z : List St) (a : Nat) : (txt z).drop (txt (z.take a)).length = txt (z.drop a) := by
  have h1 : txt z = txt (z.take a) ++ txt (z.drop a) := by rw [← txt_app, List.take_append_drop]
  rw [h1, List.drop_left]
/-- At a byte 10 a line ends. -/
theorem line_end {z : List St} {a k : Nat} (ha : a ≤ z.length) (hk : k < (txt z).length) (hf : (txt (z.take a)).length ≤ k) (hno : no10 (((txt z).drop (txt (z.take a)).length).take (k - (txt (z.take a)).length))) (hc : (txt z)[k].toNat = 10) :
    ∃ hal : a < z.length, ((txt z).take k).drop (txt (z.take a)).length = ln z[a] ∧ k + 1 = (txt (z.take (a + 1))).length := by
  have h1 := cut_at hk hf hno hc
  have hal : a < z.length := by
    rcases Nat.lt_or_ge a z.length with h | h
    · exact h
    · rw [List.take_of_length_le h] at hf; omega
  rw [txt_drop, List.drop_eq_getElem_cons hal, txt_cons, cut10_app (no_ln _)] at h1
  simp only [Option.some.injEq, Prod.mk.injEq] at h1
  refine ⟨hal, h1.1.symm, ?_⟩
  have h3 := congrArg List.length h1.2
  have h4 : (txt z).length = (txt (z.take (a + 1))).length + (txt (z.drop (a + 1))).length := by
    rw [← List.length_append, ← txt_app, List.take_append_drop]
  rw [List.length_drop] at h3
  have h5 : (txt (z.take (a + 1))).length ≤ (txt z).length := by omega
  omega
theorem OwK.lit' {k : Nat} {O : Nat → Prop} {h : H} {b : Nat} {E : TypeId} {fr : Nat × Nat} (hb : h b = some (.cells #[] E fr)) (ho : O b) : OwK k O h E (.slice (some ⟨b, 0, none⟩) 0 0) [] :=
  ⟨fun r hr => absurd hr List.not_mem_nil, .inr ⟨b, 0, 0, #[], fr, by simp, hb, by simp, by simp, fun i hi => by simp [flat] at hi, ho, by simp⟩⟩
section
variable {h : H}
theorem SJ_s19 (G : GL h) {g : H} (e : Ext h g) {w vc' : Value} {z : List St} (rb : RepL nos stT g vc' z) (rw' : RepL nos stT g w z) (hm : ∀ x ∈ z, mayS x = true) (hz : z.length ≤ 120) (ht : (txt z).length ≤ 1048576) :
    vc Tryd.prog c8_s19 (retQ [6] (okR fun v h' => v = .bool true ∧ Ext h h')) [(7, vc'), (21, sv (txt z)), (24, w)] g := by
  obtain ⟨wa, wc, rfl⟩ := rw'.len
  obtain ⟨ba, bc, rfl⟩ := rb.len
  simp (disch := omega) only [dm_t, wS, simprocAttr, IntKind.bits]
  refine vc_loop3 (fun vf va vk g' => ∃ (a k : Nat), vf = .int .i64 ((txt (z.take a)).length : Int) ∧ va = .int .i64 (a : Int) ∧ vk = .int .i64 (k : Int) ∧ a ≤ z.length ∧ (txt (z.take a)).length ≤ k ∧ k ≤ (txt z).length ∧
      no10 (((txt z).drop (txt (z.take a)).length).take (k - (txt (z.take a)).length)) ∧ Ext g g') (fun _ _ vk _ => (txt z).length - m1 vk) ?_ ?_
  · simp (disch := omega) only [dm_t, wS, simprocAttr, IntKind.bits]
    exact ⟨0, 0, by simp [txt], by simp, by simp, by omega, by simp [txt], by omega, fun c hc => by simp at hc, Ext.refl _⟩
  rintro _ _ _ g1 ⟨a, k, rfl, rfl, rfl, ha, hf, hk, hno, e1⟩
  by_cases hkl : k < (txt z).length
  case neg =>
    obtain rfl : k = (txt z).length := by omega
    obtain rfl : a = z.length := by
      rcases Nat.lt_or_ge a z.length with h | h
      · rw [List.take_of_length_le (by simp), txt_drop, List.drop_eq_getElem_cons h, txt_cons] at hno
        exact absurd rfl (hno 10 (by simp))
      · omega
    simp (disch := omega) only [dm_t, wS, simprocAttr, IntKind.bits, size_mk]
    refine (works_ok (G.ext (e.trans e1))).k ?_
    rintro _ g2 ⟨rfl, e2⟩
    simp (disch := omega) only [dm_t, wS, simprocAttr, IntKind.bits]
    exact (e.trans e1).trans e2
  have x1 := get_mk (txt z) hkl
  by_cases hc : (txt z)[k].toNat = 10
  case neg =>
    simp (disch := omega) only [dm_t, wS, simprocAttr, IntKind.bits, size_mk, x1, Option.map_some]
    exact ⟨⟨a, k + 1, rfl, rfl, by simp, by omega, by omega, by omega, no_ext hkl hf hno hc, e1⟩, by simp [m1] <;> omega⟩
  obtain ⟨hal, hln, hk1⟩ := line_end ha hkl hf hno hc
  have hm1 := hm _ (List.getElem_mem hal)
  have m := (may_iff _).1 hm1
  have hll := ln_len m
  have hle : (ln z[a]).length ≤ 1048576 := by
    rw [← hln]; simp; omega
  have hrd : rdS (ln z[a]) = (z[a], 0) := rdS_yes hle m rfl
  simp (disch := omega) only [dm_t, wS, simprocAttr, IntKind.bits, size_mk, x1, hc, Option.map_some, ext_mk, hln]
  refine (Read_ok (G.ext (e.trans e1)) (ln z[a]) (by omega)).k ?_
  rintro _ g2 hr
  obtain ⟨vb, vp, rfl, cb, cp, hB, ob, op, hi, e2⟩ := hr.cells
  rw [hrd] at hB ob op hi ⊢
  simp only at hB ob op hi ⊢
  simp (disch := omega) only [dm_t, wS, simprocAttr, IntKind.bits]
  intro xb hxb
  simp (disch := omega) only [dm_t, wS, simprocAttr, IntKind.bits]
  refine storeH_all (vs := sCs z[a] vb vp) (hupd_same _ _ _) rfl (cells_sCs cb cp) ?_
  rw [hupd_hupd]
  generalize hG : hupd g2 xb _ = g3
  obtain ⟨e3, qx⟩ := new_ext hG hxb
  clear hG
  have E3 := e1.trans (e2.trans e3)
  obtain ⟨pb, po, vb1, vp1, i1, -, t1, hs1, hb1, hp1⟩ := step_at (rw'.ext E3) hal .i64
  obtain ⟨pb2, po2, vb2, vp2, i2, -, t2, hs2, hb2, hp2⟩ := step_at (rb.ext E3) hal .i64
  have tx := cellsAt_all qx 7 rfl
  have fa : ∀ g', Ext g3 g' → cellsAt g' ⟨xb, 0, none⟩ 7 = some (sCs z[a] vb vp).toArray ∧ cellsAt g' ⟨pb, po, none⟩ 7 = some (sCs z[a] vb1 vp1).toArray ∧ cellsAt g' ⟨pb2, po2, none⟩ 7 = some (sCs z[a] vb2 vp2).toArray := fun g' x => ⟨cellsAt_ext x tx, cellsAt_ext x t1, cellsAt_ext x t2⟩
  have rx : Rep nos stT g3 (sCs z[a] vb vp) z[a] := rep_st.2 ⟨vb, vp, rfl, hB, (OwK.ext ob e3).s0, iRep (OwK.ext op e3).s0 hi⟩
  have hpl := m.pl
  simp (disch := omega) only [dm_t, wS, simprocAttr, IntKind.bits, tx, i1, t1, i2, t2]
  refine (Num_ok g3 0).k ?_
  rintro _ _ ⟨rfl, rfl⟩
  simp (disch := omega) only [dm_t, wS, simprocAttr, IntKind.bits, tx, i1, t1, i2, t2]
  refine (Same_ok rx (rep_st.2 ⟨_, _, rfl, hs1, hb1, hp1⟩) (by omega)).k ?_
  rintro _ g4 ⟨rfl, e4⟩
  rw [decide_eq_true rfl]
  obtain ⟨u0, u1, u2⟩ := fa g4 e4
  simp (disch := omega) only [dm_t, wS, simprocAttr, IntKind.bits, u0, u1, u2, i1, i2]
  refine (Same_ok (rx.ext e4) (rep_st.2 ⟨_, _, rfl, hs2, hb2.ext e4, hp2.ext e4⟩) (by omega)).k ?_
  rintro _ g5 ⟨rfl, e5⟩
  rw [decide_eq_true rfl]
  obtain ⟨u0, u1, u2⟩ := fa g5 (e4.trans e5)
  simp (disch := omega) only [dm_t, wS, simprocAttr, IntKind.bits, u0, u1, u2, i1, i2]
  have hk2 : ((k : Int) + 1) = ((txt (z.take (a + 1))).length : Int) := by omega
  exact ⟨⟨a + 1, k + 1, by rw [hk2], by simp, by simp, by omega, by omega, by omega, fun c hc => by rw [hk1, Nat.sub_self] at hc; simp at hc, (E3.trans e4).trans e5⟩, by simp [m1] <;> omega⟩
theorem SJ_s11 (G : GL h) {g : H} (e : Ext h g) {va vb vc' : Value} {x y : List St} (ra : RepL nos stT g va x) (rc : RepL nos stT g vb y) (rb : RepL nos stT g vc' (x ++ y)) (h1 : x.length ≤ 60) (h2 : y.length ≤ 60)
    (hx : ∀ z ∈ x, z.2.2.1.length ≤ 20000 ∧ z.2.2.2.2.2.length ≤ 500) (hy : ∀ z ∈ y, z.2.2.1.length ≤ 20000 ∧ z.2.2.2.2.2.length ≤ 500) :
    vc Tryd.prog c8_s11 (retQ [6] (okR fun v h' => v = .bool true ∧ Ext h h')) [(0, va), (1, vb), (7, vc')] g := by
  have hlen : (x ++ y).length = x.length + y.length := List.length_append
  have hxy : ∀ z ∈ x ++ y, z.2.2.1.length ≤ 20000 ∧ z.2.2.2.2.2.length ≤ 500 := fun z hz => (List.mem_append.1 hz).elim (hx z) (hy z)
  simp (disch := omega) only [dm_t, wS, simprocAttr, IntKind.bits]
  refine (Text_ok (G.ext e) ra (by omega) fun z hz => by have := (hx z hz).2; omega).k ?_
  rintro _ g1 ⟨rfl, e1⟩
  simp (disch := omega) only [dm_t, wS, simprocAttr, IntKind.bits]
  refine (Text_ok (G.ext (e.trans e1)) (rc.ext e1) (by omega) fun z hz => by have := (hy z hz).2; omega).k ?_
  rintro _ g2 ⟨rfl, e2⟩
  simp (disch := omega) only [dm_t, wS, simprocAttr, IntKind.bits]
  refine (Text_ok (G.ext ((e.trans e1).trans e2)) (rb.ext (e1.trans e2)) (by omega) fun z hz => by have := (hxy z hz).2; omega).k ?_
  rintro _ g3 ⟨rfl, e3⟩
  have E3 := ((e.trans e1).trans e2).trans e3
  simp (disch := omega) only [dm_t, wS, simprocAttr, IntKind.bits]
  refine (Num_ok g3 _).k ?_
  rintro _ _ ⟨rfl, rfl⟩
  by_cases ha : (TX x).2.2 = 0
  case neg =>
    have hj := join_no h1 h2 (.inl ha)
    simp (disch := omega) only [dm_t, wS, simprocAttr, IntKind.bits, ha]
    refine (Num_ok g3 _).k ?_
    rintro _ _ ⟨rfl, rfl⟩
    simp (disch := omega) only [dm_t, wS, simprocAttr, IntKind.bits, hj]
    refine (works_ok (G.ext E3)).k ?_
    rintro _ g4 ⟨rfl, e4⟩
    simp (disch := omega) only [dm_t, wS, simprocAttr, IntKind.bits]
    exact E3.trans e4
  simp (disch := omega) only [dm_t, wS, simprocAttr, IntKind.bits, ha]
  refine (Num_ok g3 _).k ?_
  rintro _ _ ⟨rfl, rfl⟩
  by_cases hb : (TX y).2.2 = 0
  case neg =>
    have hj := join_no h1 h2 (.inr hb)
    simp (disch := omega) only [dm_t, wS, simprocAttr, IntKind.bits, hb]
    refine (Num_ok g3 _).k ?_
    rintro _ _ ⟨rfl, rfl⟩
    simp (disch := omega) only [dm_t, wS, simprocAttr, IntKind.bits, hj]
    refine (works_ok (G.ext E3)).k ?_
    rintro _ g4 ⟨rfl, e4⟩
    simp (disch := omega) only [dm_t, wS, simprocAttr, IntKind.bits]
    exact E3.trans e4
  obtain ⟨ma, ta, xa⟩ := TX_ok (by omega) ha
  obtain ⟨mb, tb, xb⟩ := TX_ok (by omega) hb
  have hm : ∀ z ∈ x ++ y, mayS z = true := fun z hz => (List.mem_append.1 hz).elim (ma z) (mb z)
  simp (disch := omega) only [dm_t, wS, simprocAttr, IntKind.bits, hb]
  refine (Num_ok g3 _).k ?_
  rintro _ _ ⟨rfl, rfl⟩
  by_cases hj : (TX (x ++ y)).2.2 = 0
  case neg =>
    have hj3 : (TX (x ++ y)).2.2 = 3 := by
      have ht := TX_may (l := x ++ y) (by omega) hm
      rw [ht] at hj ⊢
      split at hj
      · rename_i hh; rw [if_pos hh]
      · exact absurd rfl hj
    simp (disch := omega) only [dm_t, wS, simprocAttr, IntKind.bits, hj3]
    refine (Num_ok g3 _).k ?_
    rintro _ _ ⟨rfl, rfl⟩
    simp (disch := omega) only [dm_t, wS, simprocAttr, IntKind.bits]
    refine (works_ok (G.ext E3)).k ?_
    rintro _ g4 ⟨rfl, e4⟩
    simp (disch := omega) only [dm_t, wS, simprocAttr, IntKind.bits]
    exact E3.trans e4
  obtain ⟨-, tj, xj⟩ := TX_ok (by omega) hj
  have hpr := prs_txt (l := x ++ y) (by omega) (fun z hz => (may_iff z).1 (hm z hz)) tj
  have hsum : (((x ++ y).length : Nat) : Int) = (x.length : Int) + (y.length : Int) := by omega
  rw [xj, xa, xb]
  have htx := txt_app x y
  simp (disch := omega) only [dm_t, wS, simprocAttr, IntKind.bits, mk_append, size_mk, toList_mk, htx, hsum]
  rw [← htx]
  refine (Parse_ok (G.ext E3) (txt (x ++ y)) (by omega)).k ?_
  rw [hpr]
  rintro _ g4 ⟨w, rfl, r4, e4⟩
  obtain ⟨wa, wc, rfl⟩ := r4.len
  obtain ⟨bbA, bbC, rfl⟩ := rb.len
  have k19 := SJ_s19 G (E3.trans e4) ((rb.ext (e1.trans e2)).ext (e3.trans e4)) r4 hm (by omega) tj
  simp (disch := omega) only [dm_t, wS, simprocAttr, IntKind.bits]
  refine (Num_ok g4 0).k ?_
  rintro _ _ ⟨rfl, rfl⟩
  revert k19
  simp (disch := omega) only [dm_t, wS, simprocAttr, IntKind.bits]
  exact id
theorem SJ_ok (G : GL h) {va vb : Value} {x y : List St} (ra : RepL nos stT h va x) (rc : RepL nos stT h vb y) (h1 : x.length ≤ 4611686018427387904) (h2 : y.length ≤ 4611686018427387904) (c : Int) (hc : inI c) :
    Ok Tryd.prog 8 #[va, vb, .int .i64 c] h fun v h' => v = .bool true ∧ Ext h h' := by
  obtain ⟨aa, ac, rfl⟩ := ra.len
  obtain ⟨ba, bc, rfl⟩ := rc.len
  refine c8_ok (args := [_, _, _]) (by simp) ?_
  by_cases hbig : 60 < x.length
  · simp (disch := omega) only [dm_t, wS, simprocAttr, IntKind.bits]
    refine (works_ok G).k ?_
    rintro _ g ⟨rfl, e⟩
    simp (disch := omega) only [dm_t, wS, simprocAttr, IntKind.bits]
    exact e
  by_cases hbig2 : 60 < y.length
  · simp (disch := omega) only [dm_t, wS, simprocAttr, IntKind.bits]
    refine (works_ok G).k ?_
    rintro _ g ⟨rfl, e⟩
    simp (disch := omega) only [dm_t, wS, simprocAttr, IntKind.bits]
    exact e
  simp (disch := omega) only [dm_t, wS, simprocAttr, IntKind.bits]
  refine (long_ok ra h1).k ?_
  rintro _ _ ⟨rfl, rfl⟩
  cases hl1 : x.any lng with
  | true =>
    simp (disch := omega) only [dm_t, wS, simprocAttr, IntKind.bits]
    refine (works_ok G).k ?_
    rintro _ g ⟨rfl, e⟩
    simp (disch := omega) only [dm_t, wS, simprocAttr, IntKind.bits]
    exact e
  | false =>
  simp (disch := omega) only [dm_t, wS, simprocAttr, IntKind.bits]
  refine (long_ok rc h2).k ?_
  rintro _ _ ⟨rfl, rfl⟩
  cases hl2 : y.any lng with
  | true =>
    simp (disch := omega) only [dm_t, wS, simprocAttr, IntKind.bits]
    refine (works_ok G).k ?_
    rintro _ g ⟨rfl, e⟩
    simp (disch := omega) only [dm_t, wS, simprocAttr, IntKind.bits]
    exact e
  | false =>
  have hx := not_long hl1
  have hy := not_long hl2
  simp (disch := omega) only [dm_t, wS, simprocAttr, IntKind.bits]
  intro bl hbl
  generalize hG : hupd h bl _ = g1
  obtain ⟨e1, q1⟩ := new_ext hG hbl
  clear hG
  have o1 : OwL (fun y => h y = none) stT (fun y => h y = none) g1 31 (.slice (some ⟨bl, 0, none⟩) 0 0) [] :=
    ⟨[], OwK.lit' q1 hbl, rfl, fun i r x hr => by simp at hr⟩
  have rep : ∀ {g : H} {v w : Value} {l z : List St}, Ext h g → OwL (fun y => h y = none) stT (fun y => h y = none) g 31 v l → RepL nos stT h w z → RepL (fun y => isAt v y ∨ h y = none) stT g w z := fun e o r =>
    ((r.fresh).ext e).mono fun y _ _ hy => hy.elim (fun hy => o.own hy) id
  refine OwL.app (bytes := 88) 7 rfl o1 (fun y hy => e1.bk hy) (rep e1 o1 ra) (by rfl) (by simp; omega) (by simp; omega) ?_
  intro v2 g2 o2 f2 _
  have e2 : Ext h g2 := Ext.step e1 f2
  rw [List.nil_append] at o2
  obtain ⟨a2, c2, rfl⟩ := o2.len
  simp (disch := omega) only [dm_t, wS, simprocAttr, IntKind.bits]
  refine OwL.app (bytes := 88) 7 rfl o2 (fun y hy => e2.bk hy) (rep e2 o2 rc) (by rfl) (by omega) (by omega) ?_
  intro v3 g3 o3 f3 _
  have e3 : Ext h g3 := Ext.step e2 f3
  have k11 : ∀ g', Ext g3 g' → _ := fun g' e => SJ_s11 G (e3.trans e) (ra.ext (e3.trans e)) (rc.ext (e3.trans e)) (o3.rep.ext e) (by omega) (by omega) hx hy
  have k7 : ∀ g', Ext g3 g' → _ := fun g' e => SJ_s7 G (ra.ext (e3.trans e)) (rc.ext (e3.trans e)) (o3.rep.ext e) (by omega) (by omega) hx hy fun g'' e' => k11 g'' (e.trans e')
  have k3 : ∀ g', Ext g3 g' → _ := fun g' e => SJ_s3 (ra.ext (e3.trans e)) (rc.ext (e3.trans e)) (o3.rep.ext e) (by omega) (by omega) fun g'' e' => k7 g'' (e.trans e')
  have k2 := SJ_s2 c (ra.ext e3) (rc.ext e3) o3.rep (by omega) (by omega) (fun z hz => (hx z hz).1) (fun z hz => (hy z hz).1) k3
  revert k2
  simp (disch := omega) only [dm_t, wS, simprocAttr, IntKind.bits]
  exact id
end
end Go.Proofs.YtooimdgoibdhlaaDoor.sc
