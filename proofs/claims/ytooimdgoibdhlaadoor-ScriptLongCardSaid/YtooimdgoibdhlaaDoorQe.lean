/-
  A step written over; a going over, held against a list.
-/
import Derived.Test.YtooimdgoibdhlaaDoorQa
namespace Go.Proofs.YtooimdgoibdhlaaDoor.sc
open Go Go.Proofs.YtooimdgoibdhlaaDoor Go.RowKit
set_option linter.unusedVariables false
set_option linter.unusedSimpArgs false
theorem xor255 (a : UInt8) : ∃ x : UInt8, ((BitVec.ofInt 8 (a.toNat : Int) ^^^ BitVec.ofInt 8 255).toNat : Int) = (x.toNat : Int) := by
  have h1 := (BitVec.ofInt 8 (a.toNat : Int) ^^^ BitVec.ofInt 8 255).isLt
  refine ⟨UInt8.ofNat (BitVec.ofInt 8 (a.toNat : Int) ^^^ BitVec.ofInt 8 255).toNat, ?_⟩
  simp only [UInt8.toNat_ofNat']
  omega
/-- An element of an own row of single cells, written. -/
theorem put_1 {O : Nat → Prop} {h : H} {E : TypeId} {v : Value} {xs : List Value} (s : O1 O h E v xs) {i : Nat} (hi : i < xs.length) (kk : IntKind) :
    ∃ b o, idxV1 1 v (.int kk (i : Int)) = some (.pointer (some ⟨b, o, none⟩)) ∧ cellAt h ⟨b, o, none⟩ = some xs[i] ∧ ∀ (x : Value) (K : H → Prop), isCell x = true →
      (∀ h', O1 O h' E v (xs.set i x) → Fr (fun y => O y ∧ isAt v y) h h' → K h') → storeH h ⟨b, o, none⟩ [x] K := by
  obtain ⟨b, o, q1, q2⟩ := S1.load s.s0 hi kk
  obtain ⟨b', o', p1, p2, p3, p4⟩ := OwK.put s (i := i) (by rw [one_len]; exact hi) kk
  rw [q1] at p1
  simp only [Option.some.injEq, Value.pointer.injEq, Addr.mk.injEq, and_true] at p1
  obtain ⟨rfl, rfl⟩ := p1
  refine ⟨b, o, q1, q2, fun x K hx hK => p4 0 [x] K (by simp) (by simp [hx]) fun h' w f => hK h' ?_ (f.mono fun y hy => by rw [hy]; exact ⟨p2, p3⟩)⟩
  have he : (one xs).set i (((one xs)[i]'(by rw [one_len]; exact hi)).take 0 ++ [x] ++ ((one xs)[i]'(by rw [one_len]; exact hi)).drop (0 + [x].length)) = one (xs.set i x) := by
    simp [one, List.map_set]
  show OwK 1 O h' E v (one (xs.set i x))
  rw [← he]; exact w
theorem spoil_ok {O : Nat → Prop} {h : H} {x : St} {vb vp : Value} (ob : OwB O h 5 vb x.2.2.1) (op : O1 O h 3 vp (x.2.2.2.2.2.map (.int .i64))) (h1 : x.2.2.1.length ≤ 4611686018427387904) (h2 : x.2.2.2.2.2.length ≤ 4611686018427387904) :
    Ok Tryd.prog 33 #[.agg (sCs x vb vp).toArray] h fun _ h' => Fr (fun y => O y ∧ (isAt vb y ∨ isAt vp y)) h h' := by
  obtain ⟨ba, bc, rfl⟩ := By.len ob.s0
  obtain ⟨pa, pc, rfl⟩ := S1.len op.s0
  rw [List.length_map] at *
  refine c33_ok (args := [_]) (by simp) ?_
  simp (disch := omega) only [dm_t, wS, simprocAttr, IntKind.bits]
  intro p hp
  generalize hG : hupd h p _ = g1
  obtain ⟨e1, qp⟩ := new_ext hG hp
  clear hG
  refine vc_loop1 (fun vi g => ∃ (i : Nat) (l : List UInt8), vi = .int .i64 (i : Int) ∧ i ≤ x.2.2.1.length ∧ l.length = x.2.2.1.length ∧ OwB O g 5 (.slice ba x.2.2.1.length bc) l ∧ Fr (fun y => O y ∧ isAt (.slice ba x.2.2.1.length bc) y) g1 g) (fun vi _ => x.2.2.1.length - m1 vi) ?_ ?_
  · simp (disch := omega) only [dm_t, wS, simprocAttr, IntKind.bits]
    exact ⟨0, _, rfl, by omega, rfl, OwK.ext ob e1, Fr.refl _ _⟩
  rintro _ g ⟨i, l, rfl, hi, hl, ow, f⟩
  have ob1 := OwK.ext ob e1
  have op1 := OwK.ext op e1
  have qg := f _ _ qp fun hy => OwK.tyno ob1 qp (by decide) hy.2
  have c2 : cellAt g ⟨p, 2, none⟩ = some (.slice ba x.2.2.1.length bc) := by rw [cellAt_of qg]; rfl
  have c6 : cellAt g ⟨p, 6, none⟩ = some (.slice pa x.2.2.2.2.2.length pc) := by rw [cellAt_of qg]; rfl
  by_cases hil : i < x.2.2.1.length
  · obtain ⟨b, o, i1, t1, st⟩ := put_1 ow (i := i) (by rw [bvs_len]; omega) .i64
    rw [show (bvs l)[i]'(by rw [bvs_len]; omega) = .int .u8 (l[i].toNat : Int) by simp only [bvs, List.getElem_map]; rfl] at t1
    obtain ⟨z, hz⟩ := xor255 l[i]
    simp (disch := omega) only [dm_t, wS, simprocAttr, IntKind.bits, c2, i1, t1]
    refine st _ _ rfl ?_
    intro g2 ow2 f2
    simp (disch := omega) only [dm_t, wS, simprocAttr, IntKind.bits]
    rw [show (bvs l).set i _ = bvs (l.set i z) by simp only [bvs, List.map_set]; congr 2] at ow2
    exact ⟨⟨i + 1, l.set i z, by simp, by omega, by simp [hl], ow2, f.trans f2⟩, by simp [m1] <;> omega⟩
  simp (disch := omega) only [dm_t, wS, simprocAttr, IntKind.bits, c2]
  have opg : O1 O g 3 (.slice pa x.2.2.2.2.2.length pc) (x.2.2.2.2.2.map (.int .i64)) := OwK.fr op1 f fun y hy _ => OwK.unlike ob1 op1 (by decide) hy.2
  refine vc_loop1 (fun vi g' => ∃ (i : Nat) (xs : List Value), vi = .int .i64 (i : Int) ∧ i ≤ x.2.2.2.2.2.length ∧ xs.length = x.2.2.2.2.2.length ∧ O1 O g' 3 (.slice pa x.2.2.2.2.2.length pc) xs ∧ Fr (fun y => O y ∧ isAt (.slice pa x.2.2.2.2.2.length pc) y) g g') (fun vi _ => x.2.2.2.2.2.length - m1 vi) ?_ ?_
  · simp (disch := omega) only [dm_t, wS, simprocAttr, IntKind.bits]
    exact ⟨0, _, rfl, by omega, by simp, opg, Fr.refl _ _⟩
  rintro _ g' ⟨k, xs, rfl, hk, hxl, ow', f'⟩
  have qg' := f' _ _ qg fun hy => OwK.tyno opg qg (by decide) hy.2
  have d6 : cellAt g' ⟨p, 6, none⟩ = some (.slice pa x.2.2.2.2.2.length pc) := by rw [cellAt_of qg']; rfl
  by_cases hkl : k < x.2.2.2.2.2.length
  · obtain ⟨b, o, i1, t1, st⟩ := put_1 ow' (i := k) (by omega) .i64
    simp (disch := omega) only [dm_t, wS, simprocAttr, IntKind.bits, d6, i1]
    refine st _ _ rfl ?_
    intro g2 ow2 f2
    simp (disch := omega) only [dm_t, wS, simprocAttr, IntKind.bits]
    exact ⟨⟨k + 1, _, by simp, by omega, by rw [List.length_set]; exact hxl, ow2, f'.trans f2⟩, by simp [m1] <;> omega⟩
  simp (disch := omega) only [dm_t, wS, simprocAttr, IntKind.bits, d6]
  have ff : Fr (fun y => O y ∧ (isAt (.slice ba x.2.2.1.length bc) y ∨ isAt (.slice pa x.2.2.2.2.2.length pc) y)) g1 g' := (f.mono fun y hy => ⟨hy.1, .inl hy.2⟩).trans (f'.mono fun y hy => ⟨hy.1, .inr hy.2⟩)
  intro y ob hy hn
  exact ff y ob (e1.at hy) hn
theorem rdS_bl (line : List UInt8) : (rdS line).1.2.2.1.length ≤ 1048576 := by
  by_cases hl : line.length ≤ 1048576
  · by_cases he : ∃ t, May t ∧ ln t = line
    · obtain ⟨t, m, ht⟩ := he
      rw [rdS_yes hl m ht]; exact m.by'
    · rw [rdS_no hl fun t m ht => he ⟨t, m, ht⟩]; simp
  · rw [rdS_long (by omega)]; simp
theorem bls_scn : ∀ (k : Nat) (t : List UInt8), ∀ x ∈ (scn k t).1, x.2.2.1.length ≤ 1048576
  | 0, t, x, hx => by simp [scn] at hx
  | k + 1, t, x, hx => by
    cases h : cut10 t with
    | none => rw [scn_no h] at hx; simp at hx
    | some p =>
      by_cases he : (rdS p.1).2 = 0
      · rw [scn_yes h he] at hx
        rcases List.mem_cons.1 hx with rfl | hx
        · exact rdS_bl _
        · exact bls_scn k _ x hx
      · rw [scn_bad h he] at hx; simp at hx
theorem goS_lim {t : List UInt8} : ∀ x ∈ goS t, x.2.2.1.length ≤ 1048576 ∧ x.2.2.2.2.2.length ≤ 4096 := by
  intro x hx
  unfold goS at hx
  split at hx
  · simp at hx
  · exact ⟨bls_scn _ _ x hx, pls_scn _ _ x hx⟩
section
variable {h : H}
theorem goes_ok {b : Nat} {t : List UInt8} {v : Value} (G : GL h) (qb : h b = some (.cells #[sv t] 9)) (hl : t.length ≤ 9223372036854775807) (r : RepL nos stT h v (goS t)) (leave : Int) (hlv : inI leave) :
    Ok Tryd.prog 27 #[.func (.func 54) #[] #[.pointer (some ⟨b, 0, none⟩)], v, .int .i64 leave] h fun r h' => r = .bool true ∧ Ext h h' := by
  obtain ⟨va, vc', rfl⟩ := r.len
  have hgl := goS_len t
  refine c27_ok (args := [_, _, _]) (by simp) ?_
  simp (disch := omega) only [dm_t, wS, simprocAttr, IntKind.bits]
  intro lb hlb
  generalize hG : hupd h lb _ = g1
  obtain ⟨e1, q1⟩ := new_ext hG hlb
  clear hG
  intro eb heb
  generalize hG : hupd g1 eb _ = g2
  obtain ⟨e2, q2⟩ := new_ext hG heb
  clear hG
  intro rb hrb
  generalize hG : hupd g2 rb _ = g3
  obtain ⟨e3, q3⟩ := new_ext hG hrb
  clear hG
  simp (disch := omega) only [dm_t, wS, simprocAttr, IntKind.bits]
  intro nb hnb
  simp (disch := omega) only [dm_t, wS, simprocAttr, IntKind.bits]
  refine storeH_all (vs := [_]) (hupd_same _ _ _) rfl rfl ?_
  rw [hupd_hupd]
  generalize hG : hupd g3 nb _ = g4
  obtain ⟨e4, q4⟩ := new_ext hG hnb
  clear hG
  have h2 : h eb = none := e1.bk heb
  have h3 : h rb = none := (e1.trans e2).bk hrb
  have h4 : h nb = none := ((e1.trans e2).trans e3).bk hnb
  have n34 : rb ≠ nb := fun hh => by subst hh; rw [q3] at hnb; cases hnb
  have n14 : lb ≠ nb := fun hh => by subst hh; rw [(e2.trans e3).at q1] at hnb; cases hnb
  have n24 : eb ≠ nb := fun hh => by subst hh; rw [e3.at q2] at hnb; cases hnb
  have n13 : lb ≠ rb := fun hh => by subst hh; rw [e2.at q1] at hrb; cases hrb
  simp (disch := omega) only [dm_t, wS, simprocAttr, IntKind.bits]
  refine vc_rngA rfl (by kernel_rfl) (All_it (b := b) (t := t) hl) ?_
    (fun i g => g lb = some (.cells #[.slice va (goS t).length vc'] 48) ∧ g eb = some (.cells #[.int .i64 leave] 3) ∧ g rb = some (.cells #[.bool false] 4) ∧ g nb = some (.cells #[.int .i64 (i : Int)] 3) ∧ Ext h g)
    (fun g => g rb = some (.cells #[.bool true] 4) ∧ Ext h g) (fun _ _ => False) ?_ ?_ ?_ ?_ ?_ ?_ ?_ (fun _ _ h => h.elim)
  · rintro h b o hb ⟨h1, h2⟩
    exact ⟨h1.ext (Ext.new hb o), (Ext.new hb o).at h2⟩
  · rintro i h' ⟨-, -, -, -, z⟩
    exact ⟨G.ext z, z.at qb⟩
  · rintro i h' h'' ⟨z1, z2, z3, z4, z5⟩ e
    exact ⟨e.at z1, e.at z2, e.at z3, e.at z4, z5.trans e⟩
  · exact ⟨((e2.trans e3).trans e4).at q1, (e3.trans e4).at q2, e4.at q3, q4, ((e1.trans e2).trans e3).trans e4⟩
  · rintro i h0 h' args hi ⟨x, vb, vp, -, rfl, -⟩; rfl
  · rintro L i h0 h1 args hi ⟨rr, hr⟩ ⟨z1, z2, z3, z4, z5⟩ e0 ⟨x, vb, vp, hx, rfl, cb, cp, hB, ob, op, hin⟩
    simp (disch := omega) only [dm_t, wS, simprocAttr, IntKind.bits, List.zip_cons_cons, List.zip_nil_right, List.cons_append, List.nil_append]
    intro cb2 hcb
    have hcL : cb2 ≠ L := fun h => by subst h; rw [e0.at hr] at hcb; cases hcb
    simp (disch := omega) only [dm_t, wS, simprocAttr, IntKind.bits]
    refine storeH_all (vs := sCs x vb vp) (hupd_same _ _ _) rfl (cells_sCs cb cp) ?_
    rw [hupd_hupd]
    simp (disch := omega) only [dm_t, wS, simprocAttr, IntKind.bits]
    refine ⟨hupd_ne _ _ hcL.symm, ?_⟩
    have e5 := hdel_mono L (Ext.new hcb (.cells (sCs x vb vp).toArray 31))
    have q0 : hdel (hupd h1 cb2 (.cells (sCs x vb vp).toArray 31)) L cb2 = some (.cells (sCs x vb vp).toArray 31) := by
      rw [hdel_hupd_ne hcL, hupd_same]
    generalize hdel (hupd h1 cb2 (.cells (sCs x vb vp).toArray 31)) L = g at e5 q0 ⊢
    have e05 := (hdel_mono L e0).trans e5
    have f1 := hdel_fr (h1 := h1) L
    have ob2 := (OwK.fr ob f1 fun y hy ho _ => by rw [hy, hr] at ho; cases ho).ext e5
    have op2 := (OwK.fr op f1 fun y hy ho _ => by rw [hy, hr] at ho; cases ho).ext e5
    have y1 := e05.at z1
    have y2 := e05.at z2
    have y3 := e05.at z3
    have y4 := e05.at z4
    have y5 := z5.trans e05
    have hxi : (goS t)[i] = x := by
      have := List.getElem?_eq_getElem hi
      rw [this] at hx; exact Option.some.inj hx
    obtain ⟨lb1, lb2⟩ := goS_lim x (hxi ▸ List.getElem_mem hi)
    obtain ⟨pb, po, vb', vp', i1, -, t1, hs, hb', hp'⟩ := step_at (r.ext y5) hi .i64
    rw [hxi] at t1 hs hb' hp'
    simp (disch := omega) only [dm_t, wS, simprocAttr, IntKind.bits, cellAt_of y1, cellAt_of y4, cellsAt_all q0 7 rfl, i1, t1]
    refine (DSame_ok (rep_st.2 ⟨_, _, rfl, hB, ob2.s0, iRep op2.s0 hin⟩) (rep_st.2 ⟨_, _, rfl, hs, hb', hp'⟩) (by omega)).k ?_
    rintro _ g2 ⟨rfl, ee⟩
    rw [decide_eq_true rfl]
    have w0 := ee.at q0
    have hth : ∀ {y : Nat} {o : Obj}, hdel h0 L y = some o → h0 y ≠ none := fun hy => hdel_there (by rw [hy]; simp)
    simp (disch := omega) only [dm_t, wS, simprocAttr, IntKind.bits, cellsAt_all w0 7 rfl]
    refine (spoil_ok (ob2.ext ee) (op2.ext ee) (by omega) (by omega)).k ?_
    intro _ g5 f5
    have x1 := f5 _ _ (ee.at y1) fun hy => hth z1 hy.1
    have x2 := f5 _ _ (ee.at y2) fun hy => hth z2 hy.1
    have x3 := f5 _ _ (ee.at y3) fun hy => hth z3 hy.1
    have x4 := f5 _ _ (ee.at y4) fun hy => hth z4 hy.1
    have x5 : Ext h g5 := Ext.step' (y5.trans ee) f5 fun y hy => by
      cases hh : h y with
      | none => rfl
      | some o => exact absurd hy.1 (hth (z5.at hh))
    simp (disch := omega) only [dm_t, wS, simprocAttr, IntKind.bits, cellAt_of x4]
    refine storeH_all (vs := [.int .i64 ((i : Int) + 1)]) x4 rfl rfl ?_
    generalize hG : hupd g5 nb _ = g6
    have q6 := (hG ▸ hupd_same _ _ _ : g6 nb = _)
    have f6 : Fr (fun y => y = nb) g5 g6 := (hG ▸ Fr.upd (S := fun y => y = nb) rfl _)
    clear hG
    have u1 := f6 _ _ x1 n14
    have u2 := f6 _ _ x2 n24
    have u3 := f6 _ _ x3 n34
    have u5 : Ext h g6 := Ext.step' x5 f6 fun y hy => by rw [hy]; exact h4
    by_cases hle : ((i : Int) + 1) = leave
    · simp (disch := omega) only [dm_t, wS, simprocAttr, IntKind.bits, cellAt_of q6, cellAt_of u2, hle]
      refine storeH_all (vs := [.bool true]) u3 rfl rfl ?_
      generalize hG : hupd g6 rb _ = g7
      have q7 := (hG ▸ hupd_same _ _ _ : g7 rb = _)
      have f7 : Fr (fun y => y = rb) g6 g7 := (hG ▸ Fr.upd (S := fun y => y = rb) rfl _)
      clear hG
      simp (disch := omega) only [dm_t, wS, simprocAttr, IntKind.bits]
      intro hL
      rw [rY_ret]
      exact ⟨q7, Ext.step' u5 f7 fun y hy => by rw [hy]; exact h3⟩
    · simp (disch := omega) only [dm_t, wS, simprocAttr, IntKind.bits, cellAt_of q6, cellAt_of u2, hle]
      intro hL
      rw [rY_normal]
      exact ⟨u1, u2, u3, by rw [q6]; simp, u5⟩
  · rintro g ⟨z1, z2, z3, z4, z5⟩
    simp (disch := omega) only [dm_t, wS, simprocAttr, IntKind.bits, cellAt_of z1, cellAt_of z4]
    refine storeH_all (vs := [.bool true]) z3 rfl rfl ?_
    generalize hG : hupd g rb _ = g7
    have q7 := (hG ▸ hupd_same _ _ _ : g7 rb = _)
    have f7 : Fr (fun y => y = rb) g g7 := (hG ▸ Fr.upd (S := fun y => y = rb) rfl _)
    clear hG
    simp (disch := omega) only [dm_t, wS, simprocAttr, IntKind.bits, cellAt_of q7]
    exact Ext.step' z5 f7 fun y hy => by rw [hy]; exact h3
  · rintro g ⟨z3, z5⟩
    simp (disch := omega) only [dm_t, wS, simprocAttr, IntKind.bits, cellAt_of z3]
    exact z5
end
end Go.Proofs.YtooimdgoibdhlaaDoor.sc
namespace Go.Proofs.YtooimdgoibdhlaaDoor.sc
open Go Go.Proofs.YtooimdgoibdhlaaDoor Go.RowKit
set_option linter.unusedVariables false
set_option linter.unusedSimpArgs false
theorem prs_lim {t : List UInt8} : (prs t).1.length ≤ 65536 ∧ ∀ x ∈ (prs t).1, x.2.2.1.length ≤ 1048576 ∧ x.2.2.2.2.2.length ≤ 4096 := by
  unfold prs
  split
  · exact ⟨by simp, fun x hx => by simp at hx⟩
  · split
    · exact ⟨(scn_len _ _).1, fun x hx => ⟨bls_scn _ _ x hx, pls_scn _ _ x hx⟩⟩
    · exact ⟨by simp, fun x hx => by simp at hx⟩
section
variable {h : H}
theorem Parse_ok (G : GL h) (t : List UInt8) (hl : t.length ≤ 9223372036854775807) : Ok Tryd.prog 22 #[sv t] h fun r h' => ∃ v, r = .tuple #[v, .int .i64 (prs t).2.1, .int .i64 (prs t).2.2] ∧ RepL nos stT h' v (prs t).1 ∧ Ext h h' := by
  have hcl : t.count 10 ≤ t.length := List.count_le_length
  have k := Parse_s2 G t hl
  refine c22_ok (args := [_]) (by simp) ?_
  simp (disch := omega) only [dm_t, wN, simprocAttr, IntKind.bits]
  refine (Count_ok h t).k ?_
  rintro _ _ ⟨rfl, rfl⟩
  by_cases ht : t = []
  · subst ht
    rw [show nls [] = 0 from nls_nil] at k
    revert k
    simp (disch := omega) only [dm_t, wS, simprocAttr, IntKind.bits]
    exact id
  by_cases hs : t.getLast? = some 10
  · have hn : nls t = t.count 10 := by unfold nls; rw [if_pos (.inr hs)]; rfl
    rw [hn] at k
    revert k
    simp (disch := omega) only [dm_t, wS, simprocAttr, IntKind.bits, toList_mk, ht]
    refine fun k => (Suf_ok h t hl).k ?_
    rintro _ _ ⟨rfl, rfl⟩
    rw [decide_eq_true hs]
    revert k
    simp (disch := omega) only [dm_t, wS, simprocAttr, IntKind.bits]
    exact id
  · have hn : nls t = t.count 10 + 1 := by unfold nls; rw [if_neg (by simp [ht, hs])]
    have hlt : t.count 10 < t.length := by
      have := nls_le t; omega
    rw [hn] at k
    revert k
    simp (disch := omega) only [dm_t, wS, simprocAttr, IntKind.bits, toList_mk, ht]
    refine fun k => (Suf_ok h t hl).k ?_
    rintro _ _ ⟨rfl, rfl⟩
    rw [decide_eq_false hs]
    rw [Int.natCast_add] at k
    revert k
    simp (disch := omega) only [dm_t, wS, simprocAttr, IntKind.bits]
    exact id
end
end Go.Proofs.YtooimdgoibdhlaaDoor.sc
