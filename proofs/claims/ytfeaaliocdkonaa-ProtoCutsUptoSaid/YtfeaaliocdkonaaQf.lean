/-
  proto: ProtoCuts.
-/
import Derived.Test.YtfeaaliocdkonaaQe
namespace Go.Proofs.Ytfeaaliocdkonaa.pr
open Go.Proofs.Ytfeaaliocdkonaa rr wi
set_option linter.unusedVariables false
set_option linter.unusedSimpArgs false
abbrev QC (h : H) : Post := retQ [2] (okR fun v h' => v = .bool true ∧ Ext h h')
/-- None: nil and zero cutters. -/
theorem PC_none {h g : H} (E : Ext h g) : vc Try.prog c5_s41 (QC h) [] g := by
  simp (disch := omega) only [dm_t, wS, simprocAttr, IntKind.bits]
  intro zb hzb
  generalize hG : hupd g zb _ = g1
  obtain ⟨e1, q1⟩ := new_ext hG hzb
  clear hG
  simp (disch := omega) only [dm_t, wS, simprocAttr, IntKind.bits]
  intro lb hlb
  have s2 : S1 nos (hupd g1 lb (.cells #[.pointer none, .pointer (some ⟨zb, 0, none⟩)] 48)) (.slice (some ⟨lb, 0, none⟩) 2 2) [.pointer none, .pointer (some ⟨zb, 0, none⟩)] := slit1 [_, _] rfl
  generalize hG : hupd g1 lb _ = g2 at s2 ⊢
  obtain ⟨e2, q2⟩ := new_ext hG hlb
  clear hG
  have E2 := (E.trans e1).trans e2
  have zq := e2.at q1
  simp (disch := omega) only [dm_t, wS, simprocAttr, IntKind.bits]
  refine vc_loop1 (fun vi g' => ∃ i : Nat, vi = .int .i64 (i : Int) ∧ i ≤ 2 ∧ g' = g2) (fun vi _ => 2 - m1 vi) ?_ ?_
  · simp (disch := omega) only [dm_t, wS, simprocAttr, IntKind.bits]
    exact ⟨0, rfl, by omega⟩
  rintro _ g' ⟨i, rfl, hi, rfl⟩
  by_cases hil : i < 2
  · have hno : NoC g' ([Value.pointer none, .pointer (some ⟨zb, 0, none⟩)][i]'(by simpa using hil)) := by
      have : i = 0 ∨ i = 1 := by omega
      rcases this with rfl | rfl
      · exact .inl rfl
      · exact .inr ⟨zb, _, _, rfl, zq⟩
    obtain ⟨pb, po, i1, t1⟩ := S1.load s2 (i := i) (by simpa using hil) .i64
    generalize [Value.pointer none, .pointer (some ⟨zb, 0, none⟩)][i]'(by simpa using hil) = nv at hno t1
    have i1' : idxV1 1 (.slice (some ⟨lb, 0, none⟩) 2 2) (.int .i64 (i : Int)) = some (.pointer (some ⟨pb, po, none⟩)) := i1
    simp (disch := omega) only [dm_t, wS, simprocAttr, IntKind.bits, i1', t1]
    refine (Next_no hno).k ?_
    rintro _ _ ⟨rfl, rfl⟩
    simp (disch := omega) only [dm_t, wS, simprocAttr, IntKind.bits]
    refine (Put_no hno).k ?_
    rintro _ _ ⟨rfl, rfl⟩
    simp (disch := omega) only [dm_t, wS, simprocAttr, IntKind.bits]
    refine (num_ok _ _).k ?_
    rintro _ _ ⟨rfl, rfl⟩
    simp (disch := omega) only [dm_t, wS, simprocAttr, IntKind.bits]
    refine (num_ok _ _).k ?_
    rintro _ _ ⟨rfl, rfl⟩
    simp (disch := omega) only [dm_t, wS, simprocAttr, IntKind.bits]
    refine (Left_no hno).k ?_
    rintro _ _ ⟨rfl, rfl⟩
    simp (disch := omega) only [dm_t, wS, simprocAttr, IntKind.bits]
    refine (Copy_no hno).k ?_
    rintro _ _ ⟨rfl, rfl⟩
    simp (disch := omega) only [dm_t, wS, simprocAttr, IntKind.bits]
    exact ⟨⟨i + 1, by simp, by omega⟩, by simp [m1]; omega⟩
  · simp (disch := omega) only [dm_t, wS, simprocAttr, IntKind.bits]
    refine works_k fun g3 e3 => ?_
    simp (disch := omega) only [dm_t, wS, simprocAttr, IntKind.bits]
    exact E2.trans e3
theorem PC_olds {own : Nat → Nat} {h g : H} {pc wb : Nat} {l : List UInt8} {met : Bool} {vo vw : Value} {os : List (Nat × stT.D)} (K : KS own h g pc wb l met l met vo vw (os.map fun o => o.1) (os.map fun o => o.2) os) (hn : os.length ≤ 60) (hoc : ∀ o ∈ os, o.2.1.length ≤ 40000) :
    vc Try.prog c5_s34 (QC h) [(7, vo), (8, vw)] g := by
  obtain ⟨oa, oz, rfl⟩ := S1.len K.old.s0
  obtain ⟨wa, wz, rfl⟩ := OwL.len K.was
  simp only [List.length_map] at K ⊢
  simp (disch := omega) only [dm_t, wS, simprocAttr, IntKind.bits]
  refine vc_loop1 (fun vi g' => ∃ (i : Nat) (own' : Nat → Nat) (ws' : List stT.D) (os' : List (Nat × stT.D)), vi = .int .i64 (i : Int) ∧ i ≤ os.length ∧ KS own' h g' pc wb l met l met (.slice oa os.length oz) (.slice wa os.length wz) (os.map fun o => o.1) ws' os' ∧ os'.length = os.length ∧ ws'.length = os.length ∧
    ∀ j (hj : j < os.length), i ≤ j → os'[j]? = some os[j] ∧ ws'[j]? = some (os[j]).2) (fun vi _ => os.length - m1 vi) ?_ ?_
  · simp (disch := omega) only [dm_t, wS, simprocAttr, IntKind.bits]
    exact ⟨0, own, _, os, rfl, by omega, K, rfl, by simp, fun j hj _ => ⟨by simp [hj], by simp [hj]⟩⟩
  rintro _ g1 ⟨i, own1, ws1, os1, rfl, hi, K1, hl1, hl2, hjs⟩
  by_cases hil : i < os.length
  · obtain ⟨h1, h2⟩ := hjs i hil (Nat.le_refl _)
    have hi1 : i < os1.length := by omega
    have hi2 : i < ws1.length := by omega
    rw [List.getElem?_eq_getElem hi1, Option.some.injEq] at h1
    rw [List.getElem?_eq_getElem hi2, Option.some.injEq] at h2
    have hlen : (os[i]).2.1.length ≤ 40000 := hoc _ (List.getElem_mem hil)
    obtain ⟨s, c⟩ := K1.olds i hi1
    rw [h1] at c
    obtain ⟨pb, po, i1, t1⟩ := S1.load K1.old.s0 (i := i) (by simpa using hil) .i64
    simp only [List.getElem_map, List.length_map] at t1 i1
    obtain ⟨b, o, cs, i2, _, _, hc, hr, _⟩ := OwL.set K1.was hi2 .i64 2 rfl
    rw [h2] at hr
    obtain ⟨sw, rfl, hsw⟩ := rep_st.1 hr
    obtain ⟨swa, swc, rfl⟩ := By.len hsw
    have w0 : cellAt g1 ⟨b, o, none⟩ = some (.slice swa (os[i]).2.1.length swc) := by simpa using hc 0 (by omega)
    generalize hx : os[i] = x at c t1 w0 h1 h2 hlen
    simp (disch := omega) only [dm_t, wS, simprocAttr, IntKind.bits, i1, t1, i2, w0]
    refine (Left_ok c).k ?_
    rintro _ _ ⟨rfl, rfl⟩
    simp (disch := omega) only [dm_t, wS, simprocAttr, IntKind.bits, i1, t1, i2, w0]
    refine (Next_all c (by omega)).k ?_
    rintro _ g2 ⟨⟨y, s', rfl, oy, c'⟩, f2⟩
    have K2 := K1.ol hi1 f2 6 (x' := (nL x.2.1 x.2.2, nM x.2.1 x.2.2)) (by
      rw [h1]
      exact c'.imp (fun y hy => by rw [stp_old (K1.al y (by rw [hy]; omega)) (c'.al y hy)]; exact hy) fun y hy => stp_al (by rw [hy]; omega))
    have y2 : OwB (fun z => stp own1 g1 g2 6 z = 6) g2 5 y (nB x.2.1 x.2.2) := OwK.mono oy fun z o ho hz => stp_new hz (by rw [ho]; simp)
    generalize stp own1 g1 g2 6 = own2 at K2 y2
    obtain ⟨ya, yc, rfl⟩ := By.len y2.s0
    simp (disch := omega) only [dm_t, wS, simprocAttr, IntKind.bits, i2]
    refine (DNext_el K2.was hi2 (by rw [h2]; omega) i2).k ?_
    rintro _ g3 ⟨w3, rfl, rw3, W3, f3⟩
    rw [h2] at rw3 W3 ⊢
    have f3' : Fr (fun y => own2 y = 3) g2 g3 := f3.mono fun y hy => hy.1
    have K3 := K2.wput (n := 0) f3' (OwL.mono (OwL.subS W3 fun z hz => stp0 hz) fun z o ho hz => by
      rw [stp_old (K2.al z (by rw [hz]; decide)) (by rw [ho]; simp)]; exact hz)
    have y3 := owk_stp (n := 0) y2 K2.al f3' (by decide) (by decide)
    generalize stp own2 g2 g3 0 = own3 at K3 y3
    simp (disch := omega) only [dm_t, wS, simprocAttr, IntKind.bits]
    refine cvbs_of y3.s0 ?_
    simp (disch := omega) only [dm_t, wS, simprocAttr, IntKind.bits]
    refine cvbs_of rw3 ?_
    simp (disch := omega) only [dm_t, wS, simprocAttr, IntKind.bits]
    refine (num_ok _ _).k ?_
    rintro _ _ ⟨rfl, rfl⟩
    simp (disch := omega) only [dm_t, wS, simprocAttr, IntKind.bits]
    refine ⟨⟨i + 1, own3, _, _, by simp, by omega, K3, by rw [List.length_set]; exact hl1, by rw [List.length_set]; exact hl2, ?_⟩, by simp [m1]; omega⟩
    intro j hj hij
    have hne : i ≠ j := by omega
    rw [List.getElem?_set_ne hne, List.getElem?_set_ne hne]
    exact hjs j hj (by omega)
  · have t := PC_none K1.E
    revert t
    simp (disch := omega) only [dm_t, wS, simprocAttr, IntKind.bits]
    exact id
theorem PC_ok {h : H} {v : Value} {sc : List askT.D} (hs : RepL nos askT h v sc) (hl : sc.length ≤ 4611686018427387904) : Ok Try.prog 5 #[v] h fun v h' => v = .bool true ∧ Ext h h' := by
  obtain ⟨va, vz, rfl⟩ := hs.len
  refine c5_ok (args := [_]) (by simp) ?_
  by_cases h60 : 60 < sc.length
  · simp (disch := omega) only [dm_t, wS, simprocAttr, IntKind.bits]
    refine works_k fun g e => ?_
    simp (disch := omega) only [dm_t, wS, simprocAttr, IntKind.bits]
    exact e
  simp (disch := omega) only [dm_t, wS, simprocAttr, IntKind.bits]
  refine vc_loop2 (fun vn vi h' => h' = h ∧ ∃ i : Nat, vi = .int .i64 (i : Int) ∧ i ≤ sc.length ∧ vn = .int .i64 (totA (sc.take i) : Nat) ∧ (∀ x ∈ sc.take i, x.2.length ≤ 40000) ∧ totA (sc.take i) ≤ 40000 * i) (fun _ vi _ => sc.length - m1 vi) ?_ ?_
  · simp (disch := omega) only [dm_t, wS, simprocAttr, IntKind.bits]
    exact ⟨0, rfl, by omega, rfl, by simp, by simp [totA]⟩
  rintro _ _ g ⟨rfl, i, rfl, hi, rfl, hall, hsz⟩
  by_cases hil : i < sc.length
  · obtain ⟨b, o, w, i1, t1, x1, hw⟩ := ask_at hs hil
    obtain ⟨wa, wc, rfl⟩ := By.len hw
    have htt := tot_take hil
    by_cases c1 : 40000 < (sc[i]).2.length
    · simp (disch := omega) only [dm_t, wS, simprocAttr, IntKind.bits, i1, x1]
      refine works_k fun g e => ?_
      simp (disch := omega) only [dm_t, wS, simprocAttr, IntKind.bits]
      exact e
    simp (disch := omega) only [dm_t, wS, simprocAttr, IntKind.bits, i1, x1]
    refine ⟨⟨i + 1, by simp, by omega, by rw [htt]; congr 1, ?_, by rw [htt]; omega⟩, by simp [m1]; omega⟩
    intro r hr
    rw [show sc.take (i + 1) = sc.take i ++ [sc[i]] by simp] at hr
    rcases List.mem_append.1 hr with hr | hr
    · exact hall r hr
    · simp only [List.mem_singleton] at hr; subst hr; omega
  obtain rfl : i = sc.length := by omega
  rw [List.take_length] at *
  simp (disch := omega) only [dm_t, wS, simprocAttr, IntKind.bits]
  refine (New_c g).k ?_
  rintro _ g1 ⟨pc, rfl, hpc, c1, e1⟩
  simp (disch := omega) only [dm_t, wS, simprocAttr, IntKind.bits]
  intro wb hwb
  generalize hG : hupd g1 wb _ = g2
  obtain ⟨e2, qw⟩ := new_ext hG hwb
  clear hG
  have E2 := e1.trans e2
  by_cases hbig : 40000 < totA sc
  · simp (disch := omega) only [dm_t, wS, simprocAttr, IntKind.bits]
    refine works_k fun g e => ?_
    simp (disch := omega) only [dm_t, wS, simprocAttr, IntKind.bits]
    exact E2.trans e
  simp (disch := omega) only [dm_t, wS, simprocAttr, IntKind.bits]
  have hne : pc ≠ wb := ne_of c1.obj hwb
  have c2 := c1.ext e2
  have P0 : PI (fun y => if y = pc then 1 else if y = wb then 4 else 0) g g2 pc wb [] false (.slice none 0 0) (.slice none 0 0) [] sc 0 := by
    refine ⟨⟨⟨_, c2.imp (fun y hy => by rw [if_pos hy]) fun y hy => ?_⟩, OwK.nil, OwL.nil, by rw [if_neg (fun h => hne h.symm), if_pos rfl], ⟨_, qw, By.nil⟩, fun i hi => by simp at hi, fun y hy => ?_, E2⟩, by simp, by simp, by simp⟩
    · by_cases hyp : y = pc
      · rw [hyp, c2.obj]; simp
      · rw [if_neg hyp] at hy
        split at hy <;> cases hy
    · by_cases hyp : y = pc
      · rw [hyp]; exact ⟨hpc, by rw [c2.obj]; simp⟩
      · by_cases hyw : y = wb
        · rw [hyw]; exact ⟨e1.bk hwb, by rw [qw]; simp⟩
        · rw [if_neg hyp, if_neg hyw] at hy; exact absurd rfl hy
  refine vc_loop4 (fun vc' vo vw vi g' => ∃ (i : Nat) (own : Nat → Nat) (pc' : Nat) (l : List UInt8) (met : Bool) (os : List (Nat × stT.D)), vi = .int .i64 (i : Int) ∧ i ≤ sc.length ∧ vc' = .pointer (some ⟨pc', 0, none⟩) ∧ PI own g g' pc' wb l met vo vw os sc i) (fun _ _ _ vi _ => sc.length - m1 vi) ?_ ?_
  · simp (disch := omega) only [dm_t, wS, simprocAttr, IntKind.bits]
    exact ⟨0, _, pc, [], false, [], rfl, by omega, rfl, P0⟩
  rintro _ vo vw _ g3 ⟨i, own, pc', l, met, os, rfl, hi, rfl, P⟩
  by_cases hil2 : i < sc.length
  · generalize hQ0 : lq4 _ _ _ _ _ _ _ _ _ _ = Q0
    have N : Nx Q0 g wb (.slice va sc.length vz) sc i := by
      intro own2 g4 pc2 l2 met2 vo2 vw2 os2 P2
      unfold cEnv
      rw [← hQ0]
      simp (disch := omega) only [dm_t, wS, simprocAttr, IntKind.bits]
      exact ⟨⟨i + 1, _, _, _, _, _, by simp, by omega, rfl, P2⟩, by simp [m1]; omega⟩
    have t := PC_round hs (by omega) hall (by omega) hil2 N P
    revert t
    unfold cEnv
    simp (disch := omega) only [dm_t, wS, simprocAttr, IntKind.bits]
    exact id
  · have hol := P.ol
    have t := PC_olds P.K (by omega) P.oc
    revert t
    simp (disch := omega) only [dm_t, wS, simprocAttr, IntKind.bits]
    exact id
end Go.Proofs.Ytfeaaliocdkonaa.pr
