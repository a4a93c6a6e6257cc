/-
  ScriptTexts: the parts gone over.
-/
import Derived.Test.YtooimdgoibdhlaaDoorQu
import Derived.Test.YtooimdgoibdhlaaDoorQe
namespace Go.Proofs.YtooimdgoibdhlaaDoor.sc
open Go Go.Proofs.YtooimdgoibdhlaaDoor Go.RowKit
set_option linter.unusedVariables false
set_option linter.unusedSimpArgs false
abbrev fsts (p : List El) : List St := p.map (·.1)
theorem glu_at {Q : List (List El)} {p : List El} {l' : List St} {i : Nat} (hi : i ≤ Q.length) (h : glu ((Q.drop i).map fsts) (fsts p) l') :
    ∃ part tail, (Q ++ [p])[i]? = some part ∧ l' = fsts part ++ tail ∧ ns (fsts part) ∧ ((i = Q.length ∧ tail = []) ∨ (i < Q.length ∧ ∃ s r, s.1 = 4 ∧ tail = s :: r ∧ glu ((Q.drop (i + 1)).map fsts) (fsts p) r)) := by
  by_cases hq : i < Q.length
  · rw [List.drop_eq_getElem_cons hq, List.map_cons] at h
    obtain ⟨h1, s, r, h2, h3, h4⟩ := h
    exact ⟨Q[i], s :: r, by rw [List.getElem?_append_left hq, List.getElem?_eq_getElem hq], h3, h1, .inr ⟨hq, s, r, h2, rfl, h4⟩⟩
  · obtain rfl : i = Q.length := by omega
    rw [List.drop_length] at h
    obtain ⟨h1, h2⟩ := h
    exact ⟨p, [], by simp, by rw [h1, List.append_nil], h2, .inl ⟨rfl, rfl⟩⟩
theorem flat_at {P : List (List El)} {part : List El} {i : Nat} (h : P[i]? = some part) : (P.drop i).flatten = part ++ (P.drop (i + 1)).flatten := by
  obtain ⟨hi, rfl⟩ := List.getElem?_eq_some_iff.1 h
  rw [List.drop_eq_getElem_cons hi, List.flatten_cons]
section
variable {h : H}
theorem ST_s23 (G : GL h) {O : Nat → Prop} {g : H} (e : Ext h g) {vl vm v : Value} {l : List St} {E : List El} (r : RepL nos stT g vl l) (M : ML O g vm E) (hE : E.map (·.1) = l) (hl : l.length ≤ 100) (hlim : ∀ x ∈ l, x.2.2.1.length ≤ 20000 ∧ x.2.2.2.2.2.length ≤ 500)
    {g2 : H} (e2 : Ext g g2) {us : List Value} {Q : List (List El)} {p : List El} (ph : PH (fun y => g y = none) g2 v us (Q ++ [p])) (el : Els (fun y => g y = none) g2 (Q ++ [p]).flatten) (hg : glu (Q.map fsts) (fsts p) l) :
    vc Tryd.prog c6_s23 (Qt h) [(0, vl), (7, vm), (16, v)] g2 := by
  obtain ⟨la, lc, rfl⟩ := r.len
  obtain ⟨oa, oc, rfl⟩ := S1.len ph.o.s0
  have hul : us.length = Q.length + 1 := by rw [ph.n]; simp
  have hQ100 : Q.length ≤ 100 := by
    have h1 := glu_cnt hg
    have h2 := cntK_le 4 l
    rw [List.length_map] at h1
    omega
  simp (disch := omega) only [dm_t, wS, simprocAttr, IntKind.bits]
  refine vc_loop2 (fun va vi g' => ∃ (a i : Nat), va = .int .i64 (a : Int) ∧ vi = .int .i64 (i : Int) ∧ a ≤ l.length ∧ PH (fun y => g y = none) g' (.slice oa us.length oc) us (Q ++ [p]) ∧ Ext g g' ∧
      ((i ≤ Q.length ∧ glu ((Q.drop i).map fsts) (fsts p) (l.drop a) ∧ Els (fun y => g y = none) g' ((Q ++ [p]).drop i).flatten) ∨ (i = Q.length + 1 ∧ a = l.length))) (fun _ vi _ => us.length - m1 vi) ?_ ?_
  · simp (disch := omega) only [dm_t, wS, simprocAttr, IntKind.bits]
    exact ⟨0, 0, by simp, by simp, by omega, ph, e2, .inl ⟨by omega, by simpa using hg, by simpa using el⟩⟩
  rintro _ _ g3 ⟨a, i, rfl, rfl, ha, ph3, e3, hst⟩
  rcases hst with ⟨hiq, hgi, el3⟩ | ⟨rfl, rfl⟩
  case inr =>
    have k := ST_s35 G (e.trans e3) (r.ext e3) (M.ext e3) hE hl hlim (pa := oa) (n := us.length) (pc := oc) (by omega) (by omega)
    revert k
    simp (disch := omega) only [dm_t, wS, simprocAttr, IntKind.bits]
    exact id
  obtain ⟨part, tail, hpt, hld, hns, hrest⟩ := glu_at hiq hgi
  rw [flat_at hpt] at el3
  have hiu : i < us.length := by omega
  obtain ⟨uv, huv⟩ : ∃ uv, us[i]? = some uv := ⟨_, List.getElem?_eq_getElem hiu⟩
  have huv' : us[i] = uv := by rw [List.getElem?_eq_getElem hiu] at huv; exact Option.some.inj huv
  obtain ⟨qa, qc, huvE⟩ := SlK.len (ph3.inn i uv part huv hpt).s0
  rw [List.length_map] at huvE
  have hlen : l.length - a = part.length + tail.length := by
    have := congrArg List.length hld
    rw [List.length_drop, List.length_append, List.length_map] at this
    exact this
  simp (disch := omega) only [dm_t, wS, simprocAttr, IntKind.bits]
  refine vc_loop2 (fun va vj g' => ∃ (j : Nat), va = .int .i64 ((a + j : Nat) : Int) ∧ vj = .int .i64 (j : Int) ∧ j ≤ part.length ∧ PH (fun y => g y = none) g' (.slice oa us.length oc) us (Q ++ [p]) ∧ Ext g g' ∧
      Els (fun y => g y = none) g' (part.drop j ++ ((Q ++ [p]).drop (i + 1)).flatten)) (fun _ vj _ => part.length - m1 vj) ?_ ?_
  · simp (disch := omega) only [dm_t, wS, simprocAttr, IntKind.bits]
    exact ⟨0, by simp, by simp, by omega, ph3, e3, el3⟩
  rintro _ _ g4 ⟨j, rfl, rfl, hj, ph4, e4, el4⟩
  obtain ⟨b1, o1, i1, t1⟩ := S1.load ph4.o.s0 hiu .i64
  rw [huv', huvE] at t1
  by_cases hjl : j < part.length
  · have haj : a + j < l.length := by omega
    have hlx : l[a + j] = part[j].1 := by
      have h1 : (l.drop a)[j]? = some part[j].1 := by
        rw [hld, List.getElem?_append_left (by rw [List.length_map]; exact hjl), List.getElem?_map, List.getElem?_eq_getElem hjl]; rfl
      rw [List.getElem?_drop, List.getElem?_eq_getElem haj] at h1
      exact Option.some.inj h1
    have hk4 : l[a + j].1 ≠ 4 := by rw [hlx]; exact hns _ (List.mem_map.2 ⟨part[j], List.getElem_mem hjl, rfl⟩)
    obtain ⟨b2, o2, vb, vp, i2, ct, t2, hs, hb, hpk⟩ := step_at (r.ext e4) haj .i64
    have c0 : cellAt g4 ⟨b2, o2, none⟩ = some (.int .i64 l[a + j].1) := ct 0 (by omega)
    obtain ⟨b3, o3, i3, -, -, t3⟩ := SlK.row (ph4.inn i uv part huv hpt).s0 (i := j) (by rw [List.length_map]; exact hjl) .i64
    rw [List.getElem_map] at t3
    rw [huvE] at i3
    rw [List.drop_eq_getElem_cons hjl, List.cons_append] at el4
    have hw := el4.ow part[j] (by simp)
    obtain ⟨h1, h2⟩ := hlim _ (List.getElem_mem haj)
    rw [hlx] at h1 h2
    simp (disch := omega) only [dm_t, wS, simprocAttr, IntKind.bits, i1, t1, i2, c0, hk4, t2, i3, t3]
    refine (DSame_ok (rep_st.2 ⟨_, _, rfl, hw.b, hw.vb.s0, iRep hw.vp.s0 hw.i⟩) (rep_st.2 ⟨_, _, rfl, hs, hb, hpk⟩) (by omega)).k ?_
    rintro _ g5 ⟨rfl, e5⟩
    rw [decide_eq_true hlx.symm]
    have u1 := cellAt_ext e5 t1
    have u0 := cellAt_ext e5 c0
    have u2 := cellsAt_ext e5 t2
    have u3 := cellsAt_ext e5 t3
    simp (disch := omega) only [dm_t, wS, simprocAttr, IntKind.bits, i1, u1, i2, u0, hk4, u2, i3, u3]
    have el5 := el4.ext e5
    have hw5 := hw.ext e5
    refine (spoil_ok hw5.vb hw5.vp (by omega) (by omega)).k ?_
    intro _ g6 f6
    have ph6 := (ph4.ext e5).spoil hw5 f6
    have el6 := el5.spoil f6
    have e6 : Ext g g6 := Ext.step' (e4.trans e5) f6 fun y hy => hy.1
    simp (disch := omega) only [dm_t, wS, simprocAttr, IntKind.bits]
    exact ⟨⟨j + 1, by simp; omega, by simp, by omega, ph6, e6, el6⟩, by simp [m1] <;> omega⟩
  · obtain rfl : j = part.length := by omega
    rw [List.drop_length, List.nil_append] at el4
    rcases hrest with ⟨hiQ, rfl⟩ | ⟨hiQ, s, tr, hs4, rfl, hg2⟩
    · have hal : a + part.length = l.length := by simp at hlen; omega
      have hidx : ¬ (i : Int) < (us.length : Int) - 1 := by omega
      simp (disch := omega) only [dm_t, wS, simprocAttr, IntKind.bits, i1, t1, hidx]
      exact ⟨⟨a + part.length, i + 1, by simp, by simp, by omega, ph4, e4, .inr ⟨by omega, hal⟩⟩, by simp [m1] <;> omega⟩
    · rw [List.length_cons] at hlen
      have haj : a + part.length < l.length := by omega
      have hlx : l[a + part.length] = s := by
        have h1 : (l.drop a)[part.length]? = some s := by
          rw [hld, List.getElem?_append_right (by simp), List.length_map, Nat.sub_self]; rfl
        rw [List.getElem?_drop, List.getElem?_eq_getElem haj] at h1
        exact Option.some.inj h1
      have hdr : l.drop (a + part.length + 1) = tr := by
        have h1 : l.drop (a + part.length + 1) = ((l.drop a).drop part.length).drop 1 := by rw [List.drop_drop, List.drop_drop, Nat.add_assoc]
        rw [h1, hld, show part.length = (fsts part).length by simp, List.drop_left]; rfl
      obtain ⟨b2, o2, vb, vp, i2, ct, t2, -⟩ := step_at (r.ext e4) haj .i64
      have c0 : cellAt g4 ⟨b2, o2, none⟩ = some (.int .i64 l[a + part.length].1) := ct 0 (by omega)
      have hk4 : l[a + part.length].1 = 4 := by rw [hlx]; exact hs4
      have hidx : (i : Int) < (us.length : Int) - 1 := by omega
      simp (disch := omega) only [dm_t, wS, simprocAttr, IntKind.bits, i1, t1, hidx, i2, c0, hk4]
      exact ⟨⟨a + part.length + 1, i + 1, by simp, by simp, by omega, ph4, e4, .inl ⟨by omega, by rw [hdr]; exact hg2, el4⟩⟩, by simp [m1] <;> omega⟩
theorem ST_s19 {Q0 : Post} {g g2 : H} {vl vm v w : Value} {bs : List UInt8} (e2 : Ext g g2) (ob : OwB (fun y => g y = none) g2 5 w bs) (hbs : bs.length ≤ 4000000)
    (hQ : ∀ g3, Ext g g3 → vc Tryd.prog c6_s23 Q0 [(0, vl), (7, vm), (16, v)] g3) :
    vc Tryd.prog c6_s19 Q0 [(0, vl), (7, vm), (16, v), (18, w)] g2 := by
  obtain ⟨wa, wc, rfl⟩ := By.len ob.s0
  simp (disch := omega) only [dm_t, wS, simprocAttr, IntKind.bits]
  refine vc_loop1 (fun vi g' => ∃ (i : Nat) (l : List UInt8), vi = .int .i64 (i : Int) ∧ i ≤ bs.length ∧ l.length = bs.length ∧ OwB (fun y => g y = none) g' 5 (.slice wa bs.length wc) l ∧ Ext g g') (fun vi _ => bs.length - m1 vi) ?_ ?_
  · simp (disch := omega) only [dm_t, wS, simprocAttr, IntKind.bits]
    exact ⟨0, bs, rfl, by omega, rfl, ob, e2⟩
  rintro _ g3 ⟨i, l, rfl, hi, hl, ow, e3⟩
  by_cases hil : i < bs.length
  case neg =>
    have k := hQ g3 e3
    revert k
    simp (disch := omega) only [dm_t, wS, simprocAttr, IntKind.bits]
    exact id
  obtain ⟨b, o, i1, t1, st⟩ := put_1 ow (i := i) (by rw [bvs_len]; omega) .i64
  rw [show (bvs l)[i]'(by rw [bvs_len]; omega) = .int .u8 (l[i].toNat : Int) by simp only [bvs, List.getElem_map]; rfl] at t1
  obtain ⟨z, hz⟩ := xor255 l[i]
  simp (disch := omega) only [dm_t, wS, simprocAttr, IntKind.bits, i1, t1]
  refine st _ _ rfl ?_
  intro g4 ow2 f2
  simp (disch := omega) only [dm_t, wS, simprocAttr, IntKind.bits]
  rw [show (bvs l).set i _ = bvs (l.set i z) by simp only [bvs, List.map_set]; congr 2] at ow2
  exact ⟨⟨i + 1, l.set i z, by simp, by omega, by simp [hl], ow2, Ext.step' e3 f2 fun y hy => hy.1⟩, by simp [m1] <;> omega⟩
set_option maxHeartbeats 2000000 in
theorem ST_s6 (G : GL h) {O : Nat → Prop} {g : H} (e : Ext h g) {vl vm : Value} {l : List St} {E : List El} (r : RepL nos stT g vl l) (M : ML O g vm E) (hE : E.map (·.1) = l) (hl : l.length ≤ 100) (hlim : ∀ x ∈ l, x.2.2.1.length ≤ 20000 ∧ x.2.2.2.2.2.length ≤ 500) (kind client : Int) :
    vc Tryd.prog c6_s6 (Qt h) [(0, vl), (1, .int .i64 kind), (2, .int .i64 client), (7, vm)] g := by
  have rm := M.rep hE
  obtain ⟨la, lc, rfl⟩ := r.len
  have hp : ∀ x ∈ l, x.2.2.2.2.2.length ≤ 4611686018427387904 := fun x hx => by have := (hlim x hx).2; omega
  simp (disch := omega) only [dm_t, wS, simprocAttr, IntKind.bits]
  refine (Text_ok (G.ext e) rm (by omega) hp).k ?_
  rintro _ g1 ⟨rfl, e1⟩
  simp (disch := omega) only [dm_t, wS, simprocAttr, IntKind.bits]
  refine (DText_ok (G.ext (e.trans e1)) (r.ext e1) (by omega) hp).k ?_
  rintro _ g2 ⟨rfl, e2⟩
  simp (disch := omega) only [dm_t, wS, simprocAttr, IntKind.bits]
  refine (Cnt_ok (rm.ext (e1.trans e2)) (by omega) kind).k ?_
  rintro _ g3 ⟨rfl, e3⟩
  have E3 := (e1.trans e2).trans e3
  simp (disch := omega) only [dm_t, wS, simprocAttr, IntKind.bits]
  refine (Parts_ok (rm.ext E3) (by omega) hlim).k ?_
  rintro _ g4 ⟨v, rfl, ⟨us, Q, p, ph, el, hgl⟩, e4⟩
  simp (disch := omega) only [dm_t, wS, simprocAttr, IntKind.bits]
  refine (SBy_ok (rm.ext (E3.trans e4)) (by omega) (fun x hx => (hlim x hx).1) client).k ?_
  rintro w g5 ⟨ob, e5⟩
  obtain ⟨wa, wc, rfl⟩ := By.len ob.s0
  have hbl := bys_len client (l := l) (B := 20000) fun x hx => (hlim x hx).1
  have k19 : ∀ g', Ext g5 g' → _ := fun g' x5 => ST_s19 (Q0 := Qt h) (vl := .slice la l.length lc) (vm := vm) (v := v) (e5.trans x5) (OwK.ext ob x5) (by omega) fun g6 e6 => ST_s23 G (e.trans E3) (r.ext E3) (M.ext E3) hE hl hlim (e4.trans e6) (ph.ext e6) (el.ext e6) hgl
  simp (disch := omega) only [dm_t, wS, simprocAttr, IntKind.bits]
  refine vc_loop3 (fun vc' vs vi g' => ∃ (i : Nat), vc' = .int .i64 (cntK kind (l.take i) : Int) ∧ vs = sv (bys client (l.take i)) ∧ vi = .int .i64 (i : Int) ∧ i ≤ l.length ∧ Ext g5 g') (fun _ _ vi _ => l.length - m1 vi) ?_ ?_
  · simp (disch := omega) only [dm_t, wS, simprocAttr, IntKind.bits]
    exact ⟨0, by simp [cntK], by simp [bys], by simp, by omega, Ext.refl _⟩
  rintro _ _ _ g6 ⟨i, rfl, rfl, rfl, hi, e6⟩
  have hc := cntK_le kind (l.take i)
  rw [List.length_take] at hc
  have hby := bys_len client (l := l.take i) (B := 20000) fun x hx => (hlim x (List.mem_of_mem_take hx)).1
  have h200 : (l.take i).length * 20000 ≤ 2000000 := by rw [List.length_take]; omega
  by_cases hil : i < l.length
  case neg =>
    obtain rfl : i = l.length := by omega
    have k := k19 g6 e6
    revert k
    simp (disch := omega) only [dm_t, wS, simprocAttr, IntKind.bits, List.take_length, toList_mk]
    refine fun k => (Num_ok g6 _).k ?_
    rintro _ _ ⟨rfl, rfl⟩
    revert k
    simp (disch := omega) only [dm_t, wS, simprocAttr, IntKind.bits]
    refine fun k => cvbs_of (SlK.ext ob.s0 e6) ?_
    revert k
    simp (disch := omega) only [dm_t, wS, simprocAttr, IntKind.bits, toList_mk]
    refine fun k => (Num_ok g6 0).k ?_
    rintro _ _ ⟨rfl, rfl⟩
    revert k
    simp (disch := omega) only [dm_t, wS, simprocAttr, IntKind.bits]
    exact id
  have E6 := (E3.trans e4).trans (e5.trans e6)
  obtain ⟨b, o, vb, vp, i1, ct, t1, hs, hb, hpk⟩ := step_at (r.ext E6) hil .i64
  obtain ⟨b', o', wb, wp, i2, t2, cp⟩ := (M.ext E6).at hE hil .i64
  obtain ⟨h1, h2⟩ := hlim _ (List.getElem_mem hil)
  obtain ⟨ba, bc, rfl⟩ := hb.len
  have hsn := cntK_snoc kind (l.take i) l[i]
  have hbn := bys_snoc client (l.take i) l[i]
  rw [← List.take_succ_eq_append_getElem hil] at hsn hbn
  simp (disch := omega) only [dm_t, wS, simprocAttr, IntKind.bits, i1, t1, i2, t2]
  refine (kept_ok (rep_st.2 ⟨_, _, rfl, hs, hb, hpk⟩) cp h1 h2).k ?_
  rintro _ g7 ⟨rfl, e7⟩
  have c0 : cellAt g7 ⟨b, o, none⟩ = some (.int .i64 l[i].1) := cellAt_ext e7 (ct 0 (by omega))
  have c1 : cellAt g7 ⟨b, o + 1, none⟩ = some (.int .i64 l[i].2.1) := cellAt_ext e7 (ct 1 (by omega))
  have c2 : cellAt g7 ⟨b, o + 2, none⟩ = some (.slice ba l[i].2.2.1.length bc) := cellAt_ext e7 (ct 2 (by omega))
  have e67 := e6.trans e7
  by_cases hk : l[i].1 = kind
  · rw [if_pos hk] at hsn
    by_cases hk1 : l[i].1 = 1
    · by_cases hc1 : l[i].2.1 = client
      · rw [if_pos ⟨hk1, hc1⟩] at hbn
        have hk' : kind = 1 := by rw [← hk]; exact hk1
        subst hk'
        simp (disch := omega) only [dm_t, wS, simprocAttr, IntKind.bits, i1, c0, c1, c2, hk1, hc1]
        refine cvbs_of (SlK.ext hb e7) ?_
        simp (disch := omega) only [dm_t, wS, simprocAttr, IntKind.bits, mk_append, size_mk]
        exact ⟨⟨i + 1, by rw [hsn]; simp, by rw [hbn], by simp, by omega, e67⟩, by simp [m1] <;> omega⟩
      · rw [if_neg (fun h => hc1 h.2), List.append_nil] at hbn
        have hk' : kind = 1 := by rw [← hk]; exact hk1
        subst hk'
        simp (disch := omega) only [dm_t, wS, simprocAttr, IntKind.bits, i1, c0, c1, c2, hk1, hc1]
        exact ⟨⟨i + 1, by rw [hsn]; simp, by rw [hbn], by simp, by omega, e67⟩, by simp [m1] <;> omega⟩
    · rw [if_neg (fun h => hk1 h.1), List.append_nil] at hbn
      have hk' : ¬ kind = 1 := by rw [← hk]; exact hk1
      simp (disch := omega) only [dm_t, wS, simprocAttr, IntKind.bits, i1, c0, c1, c2, hk, hk']
      exact ⟨⟨i + 1, by rw [hsn]; simp, by rw [hbn], by simp, by omega, e67⟩, by simp [m1] <;> omega⟩
  · rw [if_neg hk] at hsn
    by_cases hk1 : l[i].1 = 1
    · have hk' : ¬ (1 : Int) = kind := by rw [← hk1]; exact hk
      by_cases hc1 : l[i].2.1 = client
      · rw [if_pos ⟨hk1, hc1⟩] at hbn
        simp (disch := omega) only [dm_t, wS, simprocAttr, IntKind.bits, i1, c0, c1, c2, hk1, hc1, hk']
        refine cvbs_of (SlK.ext hb e7) ?_
        simp (disch := omega) only [dm_t, wS, simprocAttr, IntKind.bits, mk_append, size_mk]
        exact ⟨⟨i + 1, by rw [hsn]; simp, by rw [hbn], by simp, by omega, e67⟩, by simp [m1] <;> omega⟩
      · rw [if_neg (fun h => hc1 h.2), List.append_nil] at hbn
        simp (disch := omega) only [dm_t, wS, simprocAttr, IntKind.bits, i1, c0, c1, c2, hk1, hc1, hk']
        exact ⟨⟨i + 1, by rw [hsn]; simp, by rw [hbn], by simp, by omega, e67⟩, by simp [m1] <;> omega⟩
    · rw [if_neg (fun h => hk1 h.1), List.append_nil] at hbn
      simp (disch := omega) only [dm_t, wS, simprocAttr, IntKind.bits, i1, c0, c1, c2, hk, hk1]
      exact ⟨⟨i + 1, by rw [hsn]; simp, by rw [hbn], by simp, by omega, e67⟩, by simp [m1] <;> omega⟩
end
end Go.Proofs.YtooimdgoibdhlaaDoor.sc
