/-
  groups: a record read, as the document says.
-/
import Derived.Test.YthhofmjhnjkcfaaGe
namespace Go.Proofs.Ythhofmjhnjkcfaa.gr
open Go.Proofs.Ythhofmjhnjkcfaa wi
set_option linter.unusedVariables false
set_option linter.unusedSimpArgs false
theorem DRead_ok {S : Nat → Prop} {h : H} {cs : List Value} {x : rc.D} (hx : Rep S rc h cs x) (hl : x.2.1.length ≤ 140737488351232) : Ok Try.prog 12 #[.agg cs.toArray] h fun v h' => v = .tuple #[.agg (pCs (rdP x)).toArray, .bool (rdS x), .int .i64 (rdE x)] ∧ Ext h h' := by
  obtain ⟨ka, kc, va, vn, rfl, hbd, hk, hv⟩ := rc_len hx
  refine c12_ok (args := [_]) (by simp) ?_
  simp (disch := omega) only [dm_t, wS, simprocAttr, IntKind.bits]
  intro p hp b hb
  generalize hG : hupd h p _ = g1 at hb ⊢
  obtain ⟨e1, q1⟩ := new_ext hG hp
  clear hG
  generalize hG : hupd g1 b _ = g3
  obtain ⟨e23, q23⟩ := new_ext hG hb
  clear hG
  have E3 := e1.trans e23
  have c1 : ∀ G, Ext g1 G → cellAt G ⟨p, 1, none⟩ = some (.slice ka x.2.1.length kc) := fun G e => by rw [cellAt_of (e.at q1)]; rfl
  have c2 : ∀ G, Ext g1 G → cellAt G ⟨p, 2, none⟩ = some (.slice va x.2.2.length vn) := fun G e => by rw [cellAt_of (e.at q1)]; rfl
  have c0 : ∀ G, Ext g1 G → cellAt G ⟨p, 0, none⟩ = some (.int .i64 x.1) := fun G e => by rw [cellAt_of (e.at q1)]; rfl
  have fail : ¬ rdOk x → ∀ g4, g4 = hupd g3 b (.cells (pCs pl0).toArray 23) → Ext h g4 ∧ g4 b = some (.cells (pCs pl0).toArray 23) ∧ Value.tuple #[.agg (pCs pl0).toArray, .bool false, .int .i64 360] = .tuple #[.agg (pCs (rdP x)).toArray, .bool (rdS x), .int .i64 (rdE x)] := by
    rintro hno _ rfl
    refine ⟨Ext.step' E3 (Fr.upd (S := fun y => y = b) rfl _) fun y hy => by rw [hy]; exact e1.bk hb, hupd_same _ _ _, ?_⟩
    rw [rdP, rdS, rdE, if_neg hno, if_neg hno, decide_eq_false hno]
    rfl
  by_cases hl4 : x.2.1.length < 4
  · have hno : ¬ rdOk x := fun hx => by have := hx.1; omega
    simp (disch := omega) only [dm_t, wS, simprocAttr, IntKind.bits, c1 _ e23]
    (refine storeH_all q23 rfl rfl ?_; obtain ⟨f1, f2, f3⟩ := fail hno _ rfl; simp (disch := omega) only [dm_t, wS, simprocAttr, IntKind.bits, cellsAt_all f2 4 rfl]; exact ⟨f3, f1⟩)
  obtain ⟨n, hn3⟩ : ∃ n, x.2.1.length = n + 3 := ⟨x.2.1.length - 3, by omega⟩
  have hn : n < x.2.1.length := by omega
  have hc3 : (x.2.1.length : Int) - 3 = (n : Int) := by omega
  have hib : n < 140737488351232 := by omega
  obtain ⟨zb, zo, zi, zl⟩ := By.load (hk.ext E3) hn .i64
  by_cases h0 : x.2.1[n] = 0
  rotate_left
  · have hno : ¬ rdOk x := fun hx => by
      obtain ⟨hlt, hz⟩ := List.getElem?_eq_some_iff.1 hx.2.1
      have : x.2.1.length - 3 = n := by omega
      subst this
      exact h0 hz
    have hnz : ¬ x.2.1[n].toNat = 0 := fun h => h0 (by rw [← UInt8.toNat_inj]; exact h)
    simp (disch := omega) only [dm_t, wS, simprocAttr, IntKind.bits, c1 _ e23, hc3, zi, zl]
    (refine storeH_all q23 rfl rfl ?_; obtain ⟨f1, f2, f3⟩ := fail hno _ rfl; simp (disch := omega) only [dm_t, wS, simprocAttr, IntKind.bits, cellsAt_all f2 4 rfl]; exact ⟨f3, f1⟩)
  have hz : x.2.1[n].toNat = 0 := by rw [h0]; rfl
  by_cases hvb : ¬ (x.2.2.length = 0 ∨ x.2.2.length = 8)
  · have hno : ¬ rdOk x := fun hx => hvb hx.2.2.1
    have v1 : ¬ x.2.2.length = 0 := fun h => hvb (.inl h)
    have v2 : ¬ x.2.2.length = 8 := fun h => hvb (.inr h)
    simp (disch := omega) only [dm_t, wS, simprocAttr, IntKind.bits, c1 _ e23, c2 _ e23, hc3, zi, zl]
    (refine storeH_all q23 rfl rfl ?_; obtain ⟨f1, f2, f3⟩ := fail hno _ rfl; simp (disch := omega) only [dm_t, wS, simprocAttr, IntKind.bits, cellsAt_all f2 4 rfl]; exact ⟨f3, f1⟩)
  replace hvb := Classical.not_not.1 hvb
  have e33 : Ext g3 g3 := Ext.refl _
  have hd2 : (x.2.1.drop (n + 1)).length = 2 := by rw [List.length_drop]; omega
  have hkc := (SlK.cap hk).2.2
  rw [one_len, bvs_len] at hkc
  have cont : vc Try.prog c12_s2 (retC [.cn 2 4 23, .t 3, .t 4] (okR fun v h' => v = .tuple #[.agg (pCs (rdP x)).toArray, .bool (rdS x), .int .i64 (rdE x)] ∧ Ext h h')) [(1, .pointer (some ⟨p, 0, none⟩)), (2, .pointer (some ⟨b, 0, none⟩)), (5, .int .i64 (n : Int))] g3 := by
    obtain ⟨ky, hky⟩ : ∃ ky : Pl, ky = (x.2.1.take n, ((num (x.2.1.drop (n + 1)) : Nat) : Int), (0 : Int), x.1) := ⟨_, rfl⟩
    have cont4 : ∀ g6 q, Ext g3 g6 → g3 q = none → g6 q = some (.cells (pCs ky).toArray 23) → vc Try.prog c12_s3 (retC [.cn 2 4 23, .t 3, .t 4] (okR fun v h' => v = .tuple #[.agg (pCs (rdP x)).toArray, .bool (rdS x), .int .i64 (rdE x)] ∧ Ext h h')) [(1, .pointer (some ⟨p, 0, none⟩)), (2, .pointer (some ⟨b, 0, none⟩)), (6, .pointer (some ⟨q, 0, none⟩))] g6 := by
      intro g6 q e6 hq q6
      have hqb : q ≠ b := fun h => by rw [h, e33.at q23] at hq; cases hq
      have hn3 : x.2.1.length - 3 = n := by omega
      have cont5 : ∀ g7, Ext g3 g7 → g7 q = some (.cells (pCs (rdQ x)).toArray 23) → vc Try.prog c12_s4 (retC [.cn 2 4 23, .t 3, .t 4] (okR fun v h' => v = .tuple #[.agg (pCs (rdP x)).toArray, .bool (rdS x), .int .i64 (rdE x)] ∧ Ext h h')) [(1, .pointer (some ⟨p, 0, none⟩)), (2, .pointer (some ⟨b, 0, none⟩)), (6, .pointer (some ⟨q, 0, none⟩))] g7 := by
        intro g7 e7 q7
        have k4 : cellsAt g7 ⟨q, 0, none⟩ 4 = some (pCs (rdQ x)).toArray := cellsAt_all q7 4 rfl
        simp (disch := omega) only [dm_t, wS, simprocAttr, IntKind.bits, k4]
        refine (DMay_ok g7 (rdQ x) (by show (x.2.1.take _).length ≤ _; rw [List.length_take]; omega)).k ?_
        rintro _ g8 ⟨rfl, e8⟩
        have q28 := e8.at (e7.at (e33.at q23))
        have E8 := (E3.trans e7).trans e8
        have c28 := c2 _ ((e23.trans e7).trans e8)
        have k48 : cellsAt g8 ⟨q, 0, none⟩ 4 = some (pCs (rdQ x)).toArray := cellsAt_all (e8.at q7) 4 rfl
        cases hm : mayP (rdQ x) with
        | false =>
          have hno : ¬ rdOk x := fun hx => by rw [hx.2.2.2] at hm; cases hm
          simp (disch := omega) only [dm_t, wS, simprocAttr, IntKind.bits]
          refine storeH_all q28 rfl rfl ?_
          generalize hG : hupd g8 b _ = g9
          have f9 : Fr (fun y => y = b) g8 g9 := hG ▸ Fr.upd (S := fun y => y = b) rfl _
          have q9 : g9 b = some (.cells (pCs pl0).toArray 23) := by rw [← hG, hupd_same]
          have E9 : Ext h g9 := Ext.step' E8 f9 fun y hy => by rw [hy]; exact e1.bk hb
          clear hG
          simp (disch := omega) only [dm_t, wS, simprocAttr, IntKind.bits, cellsAt_all q9 4 rfl]
          rw [rdP, rdS, rdE, if_neg hno, if_neg hno, decide_eq_false hno]
          exact ⟨rfl, E9⟩
        | true =>
          have hyes : rdOk x := by
            refine ⟨?_, ?_, hvb, hm⟩
            · have := (mayP_iff.1 hm).1.1.1
              simp only [rdQ, List.length_take] at this
              omega
            · rw [hn3, List.getElem?_eq_getElem hn, h0]
          have hvv : rdS x = decide (x.2.2.length = 8) := by rw [rdS, decide_eq_true hyes, Bool.true_and]
          have hp' : rdP x = rdQ x := if_pos hyes
          have he' : rdE x = 0 := if_pos hyes
          rw [hvv, hp', he']
          simp (disch := omega) only [dm_t, wS, simprocAttr, IntKind.bits, k48, c28]
          refine storeH_all q28 rfl rfl ?_
          generalize hG : hupd g8 b _ = g9
          have f9 : Fr (fun y => y = b) g8 g9 := hG ▸ Fr.upd (S := fun y => y = b) rfl _
          have q9 : g9 b = some (.cells (pCs (rdQ x)).toArray 23) := by rw [← hG, hupd_same]
          have E9 : Ext h g9 := Ext.step' E8 f9 fun y hy => by rw [hy]; exact e1.bk hb
          clear hG
          have p8 := ((e23.trans e7).trans e8).at q1
          have hpb : p ≠ b := ne_of q1 hb
          have c29 : cellAt g9 ⟨p, 2, none⟩ = some (.slice va x.2.2.length vn) := by rw [cellAt_of (f9 _ _ p8 hpb)]; rfl
          have hdec : decide ((x.2.2.length : Int) = 8) = decide (x.2.2.length = 8) := decide_eq_decide.2 (by omega)
          simp (disch := omega) only [dm_t, wS, simprocAttr, IntKind.bits, cellsAt_all q9 4 rfl, c29]
          exact ⟨by rw [hdec], E9⟩
      have c26 := c2 _ (e23.trans e6)
      rcases hvb with hv0 | hv8
      · have hqx : ky = rdQ x := by
          rw [hky, rdQ, hn3, if_neg (by omega)]
        rw [hqx] at q6
        have k := cont5 g6 e6 q6
        simp (disch := omega) only [dm_t, wS, simprocAttr, IntKind.bits, c26, k]
      · simp (disch := omega) only [dm_t, wS, simprocAttr, IntKind.bits, c26]
        refine (Number_ok (hv.ext (E3.trans e6)) (by omega)).k ?_
        rintro _ _ ⟨rfl, rfl⟩
        have e68 : Ext g6 g6 := Ext.refl _
        have hw8 := num_lt x.2.2
        rw [hv8] at hw8
        have q8 := e68.at q6
        simp (disch := omega) only [dm_t, wS, simprocAttr, IntKind.bits, wrap_sgn _ hw8, storeH_0 q8]
        generalize hG : hupd g6 q _ = g9
        have f9 : Fr (fun y => y = q) g6 g9 := hG ▸ Fr.upd (S := fun y => y = q) rfl _
        have q9 : g9 q = some (.cells (pCs (rdQ x)).toArray 23) := by
          rw [← hG, hupd_same, hky, rdQ, hn3, if_pos hv8]
        have e9 : Ext g3 g9 := Ext.step' (e6.trans e68) f9 fun y hy => by rw [hy]; exact hq
        clear hG
        simp (disch := omega) only [dm_t, wN, simprocAttr, IntKind.bits]
        exact cont5 g9 e9 q9
    have hnl := num_lt (x.2.1.drop (n + 1))
    rw [hd2] at hnl
    simp (disch := omega) only [dm_t, wS, simprocAttr, IntKind.bits, c1 _ e23, c0 _ e23]
    refine By.cutK (hk.ext E3) 0 n kc rfl rfl rfl (by omega) (.inr rfl) ?_
    intro w2 s2
    rw [List.drop_zero, Nat.sub_zero] at s2
    simp (disch := omega) only [dm_t, wS, simprocAttr, IntKind.bits, c1 _ e23, c0 _ e23]
    refine By.cutK (hk.ext E3) (n + 1) x.2.1.length kc (by omega) rfl rfl (by omega) (.inr rfl) ?_
    intro w1 s1
    have hdl : (x.2.1.drop (n + 1)).take (x.2.1.length - (n + 1)) = x.2.1.drop (n + 1) := List.take_of_length_le (by rw [List.length_drop]; omega)
    rw [hdl] at s1
    have qp := e23.at q1
    have qb := q23
    simp (disch := omega) only [dm_t, wS, simprocAttr, IntKind.bits, c1 _ e23, c0 _ e23]
    have E : Ext g3 g3 := Ext.refl _
    repeat' (first
      | refine ⟨?_, ?_⟩
      | (refine (Number_ok s1 (by omega)).k ?_; rintro _ _ ⟨rfl, rfl⟩; simp (disch := omega) only [dm_t, wN, simprocAttr, IntKind.bits, cellAt_of qp])
      | (refine cvbs_of s2 ?_; simp (disch := omega) only [dm_t, wN, simprocAttr, IntKind.bits, cellAt_of qp])
      | (intro a ha
         have hnone := E.bk ha
         have mm := ne_of qp ha
         have mm := ne_of qb ha
         generalize hG : hupd _ a _ = G
         obtain ⟨e', qa⟩ := new_ext hG ha
         clear hG ha
         replace E := E.trans e'
         replace qp := e'.at qp
         replace qb := e'.at qb
         replace s1 := s1.ext e'
         replace s2 := s2.ext e'
         first
           | (have qn1 := qa; have hn1 := hnone)
         clear qa hnone
         simp (disch := omega) only [dm_t, wN, simprocAttr, IntKind.bits, cellAt_of qp]))
    all_goals
      refine storeH_all qn1 rfl rfl ?_
      generalize hG : hupd G a _ = g7
      have f7 : Fr (fun y => y = a) G g7 := hG ▸ Fr.upd (S := fun y => y = a) rfl _
      have e7 : Ext g3 g7 := Ext.step' E f7 fun y hy => by rw [hy]; exact hn1
      have q7 : g7 a = some (.cells (pCs ky).toArray 23) := by rw [← hG, hupd_same, hky]
      have k := cont4 g7 a e7 hn1 q7
      have hpa : p ≠ a := ne_of (e23.at q1) hn1
      have pq := f7 _ _ qp hpa
      clear hG
      simp (disch := omega) only [dm_t, wS, simprocAttr, IntKind.bits, k, cellAt_of pq]
  rcases hvb with hv0 | hv8
  · simp (disch := omega) only [dm_t, wS, simprocAttr, IntKind.bits, c1 _ e23, c2 _ e23, hc3, zi, zl, cont]
  · simp (disch := omega) only [dm_t, wS, simprocAttr, IntKind.bits, c1 _ e23, c2 _ e23, hc3, zi, zl, cont]
end Go.Proofs.Ythhofmjhnjkcfaa.gr
