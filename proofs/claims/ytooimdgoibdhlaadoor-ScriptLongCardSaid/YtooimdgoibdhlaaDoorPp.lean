/-
  A line read: the program's answer.
-/
import Derived.Test.YtooimdgoibdhlaaDoorPn
namespace Go.Proofs.YtooimdgoibdhlaaDoor.sc
open Go Go.Proofs.YtooimdgoibdhlaaDoor Go.RowKit
set_option linter.unusedVariables false
set_option linter.unusedSimpArgs false
section
variable {h : H}
theorem told_eq : c13_s21 = c13_j1 := rfl
theorem Read_j1 {T : List (Nat × List Nat × LC)} {g : H} {x : St} {line : List UInt8} {p2 ps : Nat} {vb vp : Value} (G : GL h) (E : Ext h g) (hl : line.length ≤ 1048576) (q2 : g p2 = some (.cells z7.toArray 31)) (qs : g ps = some (.cells (sCs x vb vp).toArray 31))
    (hp2 : h p2 = none) (hb : sB x) (ob : OwB (fun y => h y = none) g 5 vb x.2.2.1) (op : O1 (fun y => h y = none) g 3 vp (x.2.2.2.2.2.map (.int .i64))) (hi : ∀ n ∈ x.2.2.2.2.2, inI n) (hpl : x.2.2.2.2.2.length ≤ 4611686018427387904)
    (cand : ∀ t, May t → ln t = line → x = t) :
    vc Tryd.prog c13_j1 (jQ Tryd.prog T (retC [.cn 2 7 31, .t 3] (okR (RD h line)))) [(0, sv line), (2, .pointer (some ⟨p2, 0, none⟩)), (4, .pointer (some ⟨ps, 0, none⟩))] g := by
  have A := V7.mk' qs
  have rx : Rep nos stT g (sCs x vb vp) x := rep_st.2 ⟨vb, vp, rfl, hb, ob.s0, iRep op.s0 hi⟩
  have aa := A.all
  have cvb : isCell vb = true := by obtain ⟨a, c, e⟩ := By.len ob.s0; rw [e]; rfl
  have cvp : isCell vp = true := by obtain ⟨a, c, e⟩ := S1.len op.s0; rw [e]; rfl
  simp (disch := omega) only [dm_t, wS, simprocAttr, IntKind.bits, aa]
  refine (Line_ok (G.ext E) rx hpl).k ?_
  rintro _ g3 ⟨rfl, e3⟩
  have E3 := E.trans e3
  have aa3 := (A.ext e3).all
  have q23 := e3.at q2
  have bad : rdS line = (z0, 390) → ∀ {K : H → Prop}, K (hupd g3 p2 (.cells z7.toArray 31)) → storeH g3 ⟨p2, 0, none⟩ z7 K := fun _ K hK => storeH_all q23 rfl rfl hK
  have k0 : cellsAt (hupd g3 p2 (.cells z7.toArray 31)) ⟨p2, 0, none⟩ 7 = some z7.toArray := cellsAt_all (hupd_same _ _ _) 7 rfl
  have Ez : Ext h (hupd g3 p2 (.cells z7.toArray 31)) := Ext.step' E3 (Fr.upd (S := fun y => y = p2) rfl _) fun y hy => by rw [hy]; exact hp2
  cases hm : mayS x with
  | false =>
    have hr : rdS line = (z0, 390) := rdS_no hl fun t mt ht => by
      have := (may_iff t).2 mt
      rw [← cand t mt ht, hm] at this; cases this
    simp only [Bool.false_eq_true, if_false]
    simp (disch := omega) only [dm_t, wS, simprocAttr, IntKind.bits]
    refine bad hr ?_
    simp (disch := omega) only [dm_t, wS, simprocAttr, IntKind.bits, k0, jQ_ret]
    exact RD_zero Ez hr
  | true =>
    have m := (may_iff x).1 hm
    simp only [if_true]
    by_cases hln : ln x = line
    · have hr : rdS line = (x, 0) := rdS_yes hl m hln
      simp (disch := omega) only [dm_t, wS, simprocAttr, IntKind.bits, toList_mk, hln, aa3]
      refine storeH_all q23 rfl (by simp only [List.all_cons, List.all_nil, cvb, cvp, Bool.and_true]; rfl) ?_
      have f : Fr (fun y => y = p2) g3 (hupd g3 p2 (.cells (sCs x vb vp).toArray 31)) := Fr.upd (S := fun y => y = p2) rfl _
      have k : cellsAt (hupd g3 p2 (.cells (sCs x vb vp).toArray 31)) ⟨p2, 0, none⟩ 7 = some (sCs x vb vp).toArray := cellsAt_all (hupd_same _ _ _) 7 rfl
      have ob3 := ob.ext e3
      have op3 := op.ext e3
      have n1 : ¬ isAt vb p2 := OwK.tyno ob3 q23 (by decide)
      have n2 : ¬ isAt vp p2 := OwK.tyno op3 q23 (by decide)
      simp (disch := omega) only [dm_t, wS, simprocAttr, IntKind.bits, k, jQ_ret]
      refine ⟨vb, vp, by rw [hr], by rw [hr]; exact hb, by rw [hr]; exact OwK.fr ob3 f (fun y hy _ hat => n1 (by rw [← hy]; exact hat)), by rw [hr]; exact OwK.fr op3 f (fun y hy _ hat => n2 (by rw [← hy]; exact hat)), by rw [hr]; exact hi, ?_⟩
      exact Ext.step' E3 f fun y hy => by rw [hy]; exact hp2
    · have hr : rdS line = (z0, 390) := rdS_no hl fun t mt ht => hln (by rw [cand t mt ht]; exact ht)
      simp (disch := omega) only [dm_t, wS, simprocAttr, IntKind.bits, toList_mk, hln, aa3]
      refine bad hr ?_
      simp (disch := omega) only [dm_t, wS, simprocAttr, IntKind.bits, k0, jQ_ret]
      exact RD_zero Ez hr
end
end Go.Proofs.YtooimdgoibdhlaaDoor.sc
namespace Go.Proofs.YtooimdgoibdhlaaDoor.sc
open Go Go.Proofs.YtooimdgoibdhlaaDoor Go.RowKit
set_option linter.unusedVariables false
set_option linter.unusedSimpArgs false
theorem ne_ty {g : H} {a b : Nat} {c c' : Array Value} {T T' : TypeId} {fr fr' : Nat × Nat} (h1 : g a = some (.cells c T fr)) (h2 : g b = some (.cells c' T' fr')) (hT : T ≠ T') : a ≠ b := by
  rintro rfl
  rw [h1] at h2
  simp only [Option.some.injEq, Obj.cells.injEq] at h2
  exact hT h2.2.1
theorem wG : type_of% (And.intro @vc_goto (And.intro @seqQ_goto (And.intro @blockQ_goto (And.intro @jQ_goto (And.intro @jQ_normal (And.intro @jQ_ret (And.intro @jQ_panic (And.intro @jQ_exit (And.intro @sJ_normal @sJ_panic))))))))) := And.intro @vc_goto (And.intro @seqQ_goto (And.intro @blockQ_goto (And.intro @jQ_goto (And.intro @jQ_normal (And.intro @jQ_ret (And.intro @jQ_panic (And.intro @jQ_exit (And.intro @sJ_normal @sJ_panic))))))))
abbrev Qr (h : H) (line : List UInt8) : Post := retC [.cn 2 7 31, .t 3] (okR (RD h line))
abbrev fNu (pn : Nat) : Value := .func (.func 39) #[] #[.pointer (some ⟨pn, 0, none⟩)]
abbrev fNx (pat pw : Nat) : Value := .func (.func 38) #[] #[.pointer (some ⟨pat, 0, none⟩), .pointer (some ⟨pw, 0, none⟩)]
section
variable {U : Nat → Prop} {h g0 g : H} {vw : Value} {line w0 : List UInt8} {ws : List (List UInt8)} {p2 ps pat pw pn : Nat}
/-- What holds at the labels. -/
structure LS (U : Nat → Prop) (h g0 : H) (vw : Value) (line : List UInt8) (p2 ps pat pw pn : Nat) (g : H) (i : Nat) (cells : List Value) : Prop where
  R : RS U h g0 vw (wds line) pat pw pn g i
  q2 : g p2 = some (.cells z7.toArray 31)
  qs : g ps = some (.cells cells.toArray 31)
  ne : p2 ≠ ps
  hp2 : h p2 = none
  hps : U ps
  ll : line.length ≤ 1048576
theorem LS.pat' {i : Nat} {cells : List Value} (s : LS U h g0 vw line p2 ps pat pw pn g i cells) : p2 ≠ pat ∧ ps ≠ pat ∧ ps ≠ pw ∧ ps ≠ pn :=
  ⟨ne_ty s.q2 s.R.at' (by decide), ne_ty s.qs s.R.at' (by decide), ne_ty s.qs s.R.w (by decide), ne_ty s.qs s.R.n (by decide)⟩
/-- Behind a closure's call. -/
theorem LS.call {g' : H} {i i' : Nat} {cells : List Value} (s : LS U h g0 vw line p2 ps pat pw pn g i cells) (r : RS U h g0 vw (wds line) pat pw pn g' i') (f : Fr (fun y => y = pat) g g') : LS U h g0 vw line p2 ps pat pw pn g' i' cells :=
  ⟨r, f _ _ s.q2 s.pat'.1, f _ _ s.qs s.pat'.2.1, s.ne, s.hp2, s.hps, s.ll⟩
theorem LS.ext {g' : H} {i : Nat} {cells : List Value} (s : LS U h g0 vw line p2 ps pat pw pn g i cells) (e : Ext g g') : LS U h g0 vw line p2 ps pat pw pn g' i cells :=
  ⟨s.R.step e, e.at s.q2, e.at s.qs, s.ne, s.hp2, s.hps, s.ll⟩
/-- Behind a store into the step. -/
theorem LS.put {g' : H} {i : Nat} {cells cells' : List Value} (s : LS U h g0 vw line p2 ps pat pw pn g i cells) (hg : hupd g ps (.cells cells'.toArray 31) = g') : LS U h g0 vw line p2 ps pat pw pn g' i cells' := by
  subst hg
  exact ⟨s.R.frame (T := fun y => y = ps) (Fr.upd (S := fun y => y = ps) rfl _) (fun y hy => by subst hy; exact ⟨s.hps, s.pat'.2.1, s.pat'.2.2.1, s.pat'.2.2.2⟩), by rw [hupd_ne _ _ s.ne]; exact s.q2, hupd_same _ _ _, s.ne, s.hp2, s.hps, s.ll⟩
theorem LS.cn {i : Nat} {cells : List Value} (s : LS U h g0 vw line p2 ps pat pw pn g i cells) : cellAt g ⟨pn, 0, none⟩ = some (fNx pat pw) := by rw [cellAt_of s.R.n]; rfl
/-- The end, where no lists are. -/
theorem LS.told0 {T : List (Nat × List Nat × LC)} {i : Nat} {cells : List Value} {x : St} (s : LS U h g0 vw line p2 ps pat pw pn g i cells) (hc : cells = sCs x (.slice none 0 0) (.slice none 0 0)) (hb : sB x) (h1 : x.2.2.1 = []) (h2 : x.2.2.2.2.2 = []) (cand : ∀ t, May t → wl t = wds line → x = t) :
    vc Tryd.prog c13_j1 (jQ Tryd.prog T (Qr h line)) [(0, sv line), (2, .pointer (some ⟨p2, 0, none⟩)), (4, .pointer (some ⟨ps, 0, none⟩))] g := by
  subst hc
  exact Read_j1 s.R.G s.R.E s.ll s.q2 s.qs s.hp2 hb (by rw [h1]; exact OwK.nil) (by rw [h2]; exact OwK.nil) (by rw [h2]; simp) (by rw [h2]; simp) fun t mt ht => cand t mt (by rw [← wds_ln t, ht])
theorem LS.len {i : Nat} {cells : List Value} (s : LS U h g0 vw line p2 ps pat pw pn g i cells) (k : Nat) : ((wds line).getD k []).length ≤ 1048576 := by
  rw [List.getD_eq_getElem?_getD]
  by_cases hi : k < (wds line).length
  · rw [List.getElem?_eq_getElem hi]; exact s.R.wsl _ (List.getElem_mem hi)
  · rw [List.getElem?_eq_none (by omega)]; simp
theorem Read_j0 {T : List (Nat × List Nat × LC)} (s : LS U h g0 vw line p2 ps pat pw pn g 1 z7) (hws : wds line = kSend :: ws) :
    vc Tryd.prog c13_j0 (jQ Tryd.prog [(2, [0, 2, 4, 7, 8], c13_j2), (3, [0, 2, 4, 5, 6, 8], c13_j3), (1, [0, 2, 4], c13_j1)] (Qr h line)) [(0, sv line), (2, .pointer (some ⟨p2, 0, none⟩)), (4, .pointer (some ⟨ps, 0, none⟩)), (7, .pointer (some ⟨pn, 0, none⟩)), (8, fNu pn)] g := by
  simp (disch := omega) only [dm_t, wS, simprocAttr, IntKind.bits]
  refine ⟨by kernel_rfl, (num_ok s.R).k ?_⟩
  rintro _ g1 ⟨⟨q, rfl, hq, hqm⟩, ⟨i', R1, hi'⟩, f1⟩
  have s1 := s.call R1 f1
  have qs1 := s1.qs
  simp (disch := omega) only [dm_t, wS, simprocAttr, IntKind.bits, storeH_0 qs1, storeH_same, hupd_hupd]
  generalize hG : hupd g1 ps _ = g2
  have s2 := s1.put (cells' := [.int .i64 1, .int .i64 q, .slice none 0 0, .int .i64 0, .int .i64 0, .int .i64 0, .slice none 0 0]) hG
  clear hG
  have cn := s2.cn
  simp (disch := omega) only [dm_t, wS, simprocAttr, IntKind.bits, cn]
  refine ⟨by kernel_rfl, (next_ok s2.R).k ?_⟩
  rintro _ g3 ⟨rfl, ⟨i2, R3, _⟩, f3⟩
  have s3 := s2.call R3 f3
  simp (disch := omega) only [dm_t, wS, simprocAttr, IntKind.bits]
  refine (taken_ok g3 _ (s.len i')).k ?_
  rintro _ g4 ⟨⟨vb, b, l, rfl, ob, hl1, hl2⟩, e4⟩
  have s4 := s3.ext e4
  have qs4 := s4.qs
  have cvb : isCell vb = true := by obtain ⟨a, c, e⟩ := By.len ob.s0; rw [e]; rfl
  simp (disch := omega) only [dm_t, wS, simprocAttr, IntKind.bits, storeH_0 qs4, cvb]
  generalize hG : hupd g4 ps _ = g5
  have s5 := s4.put (cells' := [.int .i64 1, .int .i64 q, vb, .int .i64 0, .int .i64 0, .int .i64 0, .slice none 0 0]) hG
  have n1 : ¬ isAt vb ps := OwK.tyno ob qs4 (by decide)
  have ob5 : OwB (fun y => h y = none) g5 5 vb l := by
    refine OwK.fr (OwK.mono ob fun y o hy hn => s3.R.E.bk hn) (T := fun y => y = ps) ?_ fun y hy _ hat => n1 (by rw [← hy]; exact hat)
    rw [← hG]; exact Fr.upd (S := fun y => y = ps) rfl _
  clear hG
  have k := Read_j1 (T := []) (x := (1, q, l, 0, (0, 0), [])) s5.R.G s5.R.E s5.ll s5.q2 s5.qs s5.hp2 ⟨in1, hq, in0, in0, in0⟩ ob5 OwK.nil (by simp) (by simp) fun t mt ht => by
    have hwl : wl t = kSend :: ws := by rw [← wds_ln t, ht, hws]
    obtain ⟨h1, h2⟩ := wl_1 mt hwl
    have hi2 : i' = 2 := hi' (by rw [hws, h2]; simp)
    have a1 : (wds line).getD 1 [] = dz t.2.1 := by rw [hws, h2]; rfl
    have a2 : (wds line).getD i' [] = hexd t.2.2.1 := by rw [hi2, hws, h2]; rfl
    rw [a1] at hqm
    rw [a2] at hl1 hl2
    have e1 := dz_num ⟨mt.cl.1, by have := mt.cl.2; simp only [huge]; omega⟩ hqm
    have e2 : l = t.2.2.1 := by
      by_cases h0 : t.2.2.1 = []
      · rw [h0] at hl2 ⊢; exact hl2 rfl
      · exact hl1 _ (by unfold hexd; rw [if_neg h0])
    rw [h1, e1, e2]
  revert k
  simp (disch := omega) only [dm_t, wS, simprocAttr, IntKind.bits, wG]
  exact id
theorem Read_j2 (s : LS U h g0 vw line p2 ps pat pw pn g 1 z7) (hws : wds line = kFate :: ws) :
    vc Tryd.prog c13_j2 (jQ Tryd.prog [(3, [0, 2, 4, 5, 6, 8], c13_j3), (1, [0, 2, 4], c13_j1)] (Qr h line)) [(0, sv line), (2, .pointer (some ⟨p2, 0, none⟩)), (4, .pointer (some ⟨ps, 0, none⟩)), (7, .pointer (some ⟨pn, 0, none⟩)), (8, fNu pn)] g := by
  have qs0 := s.qs
  simp (disch := omega) only [dm_t, wS, simprocAttr, IntKind.bits, storeH_0 qs0]
  generalize hG : hupd g ps _ = g2
  have s2 := s.put (cells' := [.int .i64 3, .int .i64 0, .slice none 0 0, .int .i64 0, .int .i64 0, .int .i64 0, .slice none 0 0]) hG
  clear hG
  have cn := s2.cn
  simp (disch := omega) only [dm_t, wS, simprocAttr, IntKind.bits, cn]
  refine ⟨by kernel_rfl, (next_ok s2.R).k ?_⟩
  rintro _ g3 ⟨rfl, ⟨i2, R3, hi2⟩, f3⟩
  have s3 := s2.call R3 f3
  have qs3 := s3.qs
  generalize ha : (wds line).getD 1 [] = arg
  by_cases k1 : arg = kGood
  · subst k1
    have k := s3.told0 (T := []) (x := (3, 0, [], 0, (0, 0), [])) rfl ⟨in3, in0, in0, in0, in0⟩ rfl rfl fun t mt ht => by
      obtain ⟨h1, ⟨hf, hg, h2⟩ | ⟨hf, h2⟩ | ⟨hf, h2⟩⟩ := wl_3 mt (ht.trans hws)
      · rw [hf, hg] at h1; exact h1.symm
      · rw [hws, h2] at ha; exact absurd ha (show ¬ kFail = kGood by decide)
      · rw [hws, h2] at ha; exact absurd ha (show ¬ kFull = kGood by decide)
    revert k
    simp (disch := omega) only [dm_t, wS, simprocAttr, IntKind.bits, wG, toList_mk]
    exact id
  have rest : ∀ {g4 : H} (n : Int), inI n → (∀ t, May t → wl t = wds line → t.2.2.2.2.1.1 = n) → LS U h g0 vw line p2 ps pat pw pn g4 i2 [.int .i64 3, .int .i64 0, .slice none 0 0, .int .i64 0, .int .i64 n, .int .i64 0, .slice none 0 0] →
      vc Tryd.prog c13_s16 (jQ Tryd.prog [(3, [0, 2, 4, 5, 6, 8], c13_j3), (1, [0, 2, 4], c13_j1)] (Qr h line)) [(0, sv line), (2, .pointer (some ⟨p2, 0, none⟩)), (4, .pointer (some ⟨ps, 0, none⟩)), (8, fNu pn)] g4 := by
    intro g4 n hn hnc s4
    simp (disch := omega) only [dm_t, wS, simprocAttr, IntKind.bits]
    refine ⟨by kernel_rfl, (num_ok s4.R).k ?_⟩
    rintro _ g5 ⟨⟨q, rfl, hq, hqm⟩, ⟨i3, R5, hi3⟩, f5⟩
    have s5 := s4.call R5 f5
    have qs5 := s5.qs
    simp (disch := omega) only [dm_t, wS, simprocAttr, IntKind.bits, storeH_0 qs5]
    generalize hG : hupd g5 ps _ = g6
    have s6 := s5.put (cells' := [.int .i64 3, .int .i64 0, .slice none 0 0, .int .i64 0, .int .i64 n, .int .i64 q, .slice none 0 0]) hG
    clear hG
    have k := s6.told0 (T := []) (x := (3, 0, [], 0, (n, q), [])) rfl ⟨in3, in0, in0, hn, hq⟩ rfl rfl fun t mt ht => by
      have hfk := hnc t mt ht
      obtain ⟨h1, ⟨hf, hg, h2⟩ | ⟨hf, h2⟩ | ⟨hf, h2⟩⟩ := wl_3 mt (ht.trans hws)
      · rw [hws, h2] at ha; exact absurd ha.symm k1
      · have hi : i2 = 2 := hi2 (by rw [hws, h2]; simp)
        have a2 : (wds line).getD i2 [] = dz t.2.2.2.2.1.2 := by rw [hi, hws, h2]; rfl
        rw [a2] at hqm
        rw [h1, hfk, dz_num mt.fp hqm]
      · have hi : i2 = 2 := hi2 (by rw [hws, h2]; simp)
        have a2 : (wds line).getD i2 [] = dz t.2.2.2.2.1.2 := by rw [hi, hws, h2]; rfl
        rw [a2] at hqm
        rw [h1, hfk, dz_num mt.fp hqm]
    revert k
    simp (disch := omega) only [dm_t, wS, simprocAttr, IntKind.bits, wG]
    exact id
  by_cases k2 : arg = kFail
  · subst k2
    simp (disch := omega) only [dm_t, wS, simprocAttr, IntKind.bits, toList_mk, k1, storeH_0 qs3]
    generalize hG : hupd g3 ps _ = g4
    have s4 := s3.put (cells' := [.int .i64 3, .int .i64 0, .slice none 0 0, .int .i64 0, .int .i64 1, .int .i64 0, .slice none 0 0]) hG
    clear hG
    have k := rest 1 in1 (fun t mt ht => by
      obtain ⟨h1, ⟨hf, hg, h2⟩ | ⟨hf, h2⟩ | ⟨hf, h2⟩⟩ := wl_3 mt (ht.trans hws)
      · rw [hws, h2] at ha; exact absurd ha (show ¬ kGood = kFail by decide)
      · exact hf
      · rw [hws, h2] at ha; exact absurd ha (show ¬ kFull = kFail by decide)) s4
    revert k
    simp (disch := omega) only [dm_t, wS, simprocAttr, IntKind.bits]
    exact id
  by_cases k3 : arg = kFull
  · subst k3
    simp (disch := omega) only [dm_t, wS, simprocAttr, IntKind.bits, toList_mk, k1, k2, storeH_0 qs3]
    generalize hG : hupd g3 ps _ = g4
    have s4 := s3.put (cells' := [.int .i64 3, .int .i64 0, .slice none 0 0, .int .i64 0, .int .i64 2, .int .i64 0, .slice none 0 0]) hG
    clear hG
    have k := rest 2 in2 (fun t mt ht => by
      obtain ⟨h1, ⟨hf, hg, h2⟩ | ⟨hf, h2⟩ | ⟨hf, h2⟩⟩ := wl_3 mt (ht.trans hws)
      · rw [hws, h2] at ha; exact absurd ha (show ¬ kGood = kFull by decide)
      · rw [hws, h2] at ha; exact absurd ha (show ¬ kFail = kFull by decide)
      · exact hf) s4
    revert k
    simp (disch := omega) only [dm_t, wS, simprocAttr, IntKind.bits]
    exact id
  have k := rest 0 in0 (fun t mt ht => by
      obtain ⟨h1, ⟨hf, hg, h2⟩ | ⟨hf, h2⟩ | ⟨hf, h2⟩⟩ := wl_3 mt (ht.trans hws)
      · exact hf
      · rw [hws, h2] at ha; exact absurd ha.symm k2
      · rw [hws, h2] at ha; exact absurd ha.symm k3) s3
  revert k
  simp (disch := omega) only [dm_t, wS, simprocAttr, IntKind.bits, toList_mk, k1, k2, k3]
  exact id
end
end Go.Proofs.YtooimdgoibdhlaaDoor.sc
namespace Go.Proofs.YtooimdgoibdhlaaDoor.sc
open Go Go.Proofs.YtooimdgoibdhlaaDoor Go.RowKit
set_option linter.unusedVariables false
set_option linter.unusedSimpArgs false
section
variable {U : Nat → Prop} {h g0 g : H} {vw : Value} {line w0 : List UInt8} {ws : List (List UInt8)} {p2 ps pat pw pn : Nat}
theorem Read_j3 (s : LS U h g0 vw line p2 ps pat pw pn g 1 z7) (hws : wds line = kStop :: ws) :
    vc Tryd.prog c13_j3 (jQ Tryd.prog [(1, [0, 2, 4], c13_j1)] (Qr h line)) [(0, sv line), (2, .pointer (some ⟨p2, 0, none⟩)), (4, .pointer (some ⟨ps, 0, none⟩)), (5, .pointer (some ⟨pw, 0, none⟩)), (6, .pointer (some ⟨pat, 0, none⟩)), (8, fNu pn)] g := by
  have qs0 := s.qs
  obtain ⟨aw, cw, hvw⟩ := S1.len s.R.hw
  rw [List.length_map] at hvw
  have hlen : (wds line).length = ws.length + 1 := by rw [hws]; rfl
  have hwl := s.R.wl
  simp (disch := omega) only [dm_t, wS, simprocAttr, IntKind.bits, storeH_0 qs0]
  generalize hG : hupd g ps _ = g1
  have s1 := s.put (cells' := [.int .i64 4, .int .i64 0, .slice none 0 0, .int .i64 0, .int .i64 0, .int .i64 0, .slice none 0 0]) hG
  clear hG
  have npat : ∀ {y}, g1 y = none → y ≠ pat := fun hy he => by rw [he, s1.R.at'] at hy; cases hy
  have npw : ∀ {y}, g1 y = none → y ≠ pw := fun hy he => by rw [he, s1.R.w] at hy; cases hy
  have npn : ∀ {y}, g1 y = none → y ≠ pn := fun hy he => by rw [he, s1.R.n] at hy; cases hy
  have np2 : ∀ {y}, g1 y = none → y ≠ p2 := fun hy he => by rw [he, s1.q2] at hy; cases hy
  have nps : ∀ {y}, g1 y = none → y ≠ ps := fun hy he => by rw [he, s1.qs] at hy; cases hy
  refine vc_loop0 (fun G => ∃ (i : Nat) (rs : List Int) (vp : Value), LS U h g0 vw line p2 ps pat pw pn G (i + 1) (sCs (4, 0, [], 0, (0, 0), rs) (.slice none 0 0) vp) ∧ rs.length = i ∧ O1 (fun y => g1 y = none) G 3 vp (rs.map (.int .i64)) ∧ (∀ n ∈ rs, inI n) ∧ (∀ y, G y = none → g1 y = none) ∧
      ∀ (j m : Nat), m ≤ 2147483647 → j < i → ws[j]? = some (dec m) → rs[j]? = some (m : Int)) (fun G => match cellAt G ⟨pat, 0, none⟩ with | some v => ws.length + 2 - m1 v | none => 0) ?_ ?_
  · exact ⟨0, [], .slice none 0 0, s1, rfl, OwK.nil, by simp, fun _ h => h, fun j m _ hj => by omega⟩
  rintro G ⟨i, rs, vp, sG, hrl, op, hri, hnew, hrs⟩
  have cvp : isCell vp = true := by obtain ⟨a, c, e⟩ := S1.len op.s0; rw [e]; rfl
  have ca : cellAt G ⟨pat, 0, none⟩ = some (.int .i64 ((i + 1 : Nat) : Int)) := by rw [cellAt_of sG.R.at']; rfl
  have cw' : cellAt G ⟨pw, 0, none⟩ = some vw := by rw [cellAt_of sG.R.w]; rfl
  have c6 : cellAt G ⟨ps, 6, none⟩ = some vp := cells_of sG.qs 6 rfl
  have hle := sG.R.le
  rw [hvw] at cw'
  by_cases hil : i < ws.length
  · simp (disch := omega) only [dm_t, wS, simprocAttr, IntKind.bits, ca, cw', c6]
    refine ⟨by kernel_rfl, (num_ok sG.R).k ?_⟩
    rintro _ G2 ⟨⟨q, rfl, hq, hqm⟩, ⟨i', R2, hi'⟩, f2⟩
    obtain rfl : i' = i + 1 + 1 := hi' (by omega)
    have sG2 := sG.call R2 f2
    have d6 : cellAt G2 ⟨ps, 6, none⟩ = some vp := cells_of sG2.qs 6 rfl
    have op2 := OwK.fr op f2 fun y hy hO _ => npat hO hy
    have hnew2 : ∀ y, G2 y = none → g1 y = none := fun y hy => by
      cases hy2 : G y with
      | none => exact hnew y hy2
      | some o =>
        exfalso
        by_cases he : y = pat
        · rw [he, R2.at'] at hy; cases hy
        · rw [f2 y o hy2 he] at hy; cases hy
    simp (disch := omega) only [dm_t, wS, simprocAttr, IntKind.bits, d6]
    intro bl hbn
    refine ⟨cellAt_ext (Ext.new hbn _) d6, ?_⟩
    refine push1 (V := fun _ => _) op2 (fun y hy => hnew2 y hy) rfl (by rw [List.length_map]; omega) (by rw [List.length_map]; omega) ?_ bl hbn
    intro _ v G3 _ op3 f3
    have hT : ∀ y, (g1 y = none ∧ isAt vp y) → U y ∧ y ≠ pat ∧ y ≠ pw ∧ y ≠ pn := fun y hy => ⟨s1.R.un hy.1, npat hy.1, npw hy.1, npn hy.1⟩
    have sG3 : LS U h g0 vw line p2 ps pat pw pn G3 (i + 1 + 1) (sCs (4, 0, [], 0, (0, 0), rs) (.slice none 0 0) vp) :=
      ⟨R2.frame f3 hT, f3 _ _ sG2.q2 fun hh => np2 hh.1 rfl, f3 _ _ sG2.qs fun hh => nps hh.1 rfl, s.ne, s.hp2, s.hps, s.ll⟩
    have qs3 := sG3.qs
    have cv : isCell v = true := by obtain ⟨a, c, e⟩ := S1.len op3.s0; rw [e]; rfl
    simp (disch := omega) only [dm_t, wS, simprocAttr, IntKind.bits, storeH_0 qs3, cv]
    generalize hG : hupd G3 ps _ = G4
    have sG4 := sG3.put (cells' := sCs (4, 0, [], 0, (0, 0), rs ++ [q]) (.slice none 0 0) v) hG
    have f4 : Fr (fun y => y = ps) G3 G4 := by rw [← hG]; exact Fr.upd (S := fun y => y = ps) rfl _
    have op4 : O1 (fun y => g1 y = none) G4 3 v ((rs ++ [q]).map (.int .i64)) := by
      rw [List.map_append]
      exact OwK.fr op3 f4 fun y hy hO _ => nps hO hy
    have hnew4 : ∀ y, G4 y = none → g1 y = none := fun y hy => by
      cases h1 : g1 y with
      | none => rfl
      | some o =>
        exfalso
        cases hy2 : G2 y with
        | none => rw [hnew2 y hy2] at h1; cases h1
        | some o2 =>
          have h3 := f3 y o2 hy2 fun hh => by rw [hh.1] at h1; cases h1
          by_cases he : y = ps
          · rw [he, sG4.qs] at hy; cases hy
          · rw [f4 y o2 h3 he] at hy; cases hy
    have ca4 : cellAt G4 ⟨pat, 0, none⟩ = some (.int .i64 ((i + 1 + 1 : Nat) : Int)) := by rw [cellAt_of sG4.R.at']; rfl
    clear hG
    refine ⟨⟨i + 1, rs ++ [q], v, sG4, by simp [hrl], op4, ?_, hnew4, ?_⟩, ?_⟩
    · intro n hn
      rcases List.mem_append.1 hn with hn | hn
      · exact hri n hn
      · simp only [List.mem_cons, List.not_mem_nil, or_false] at hn
        rw [hn]; exact hq
    · intro j m hm hj hjw
      by_cases hji : j < i
      · rw [List.getElem?_append_left (by omega)]
        exact hrs j m hm hji hjw
      · obtain rfl : j = i := by omega
        have := hqm m hm (by rw [hws, List.getD_eq_getElem?_getD, List.getElem?_cons_succ, hjw]; rfl)
        rw [List.getElem?_append_right (by omega), hrl, Nat.sub_self, this]; rfl
    · rw [ca4]
      simp only [m1]
      omega
  · obtain rfl : i = ws.length := by omega
    have k := Read_j1 (T := [(1, [0, 2, 4], c13_j1)]) (x := (4, 0, [], 0, (0, 0), rs)) (vb := .slice none 0 0) (vp := vp) sG.R.G sG.R.E sG.ll sG.q2 sG.qs sG.hp2 ⟨in4, in0, in0, in0, in0⟩ OwK.nil (OwK.mono op fun y o hy hn => s1.R.E.bk hn) hri (by rw [hrl]; omega) fun t mt ht => by
      have hwl : wl t = kStop :: ws := by rw [← wds_ln t, ht, hws]
      obtain ⟨h1, h2⟩ := wl_4 mt hwl
      rw [h1]
      have : rs = t.2.2.2.2.2 := by
        apply List.ext_getElem?
        intro j
        by_cases hj : j < ws.length
        · have hj2 : j < t.2.2.2.2.2.length := by rw [h2, List.length_map] at hj; exact hj
          have hm := mt.pa _ (List.getElem_mem hj2)
          have hm2 := hm.2
          simp only [huge] at hm2
          have := hrs j (t.2.2.2.2.2[j]).toNat (by omega) hj (by rw [h2, List.getElem?_map, List.getElem?_eq_getElem hj2]; rfl)
          rw [this, List.getElem?_eq_getElem hj2, Int.toNat_of_nonneg hm.1]
        · have hj2 : ¬ j < t.2.2.2.2.2.length := by rw [h2, List.length_map] at hj; exact hj
          rw [List.getElem?_eq_none (by omega), List.getElem?_eq_none (by omega)]
      rw [this]
    rw [← told_eq] at k
    revert k
    simp (disch := omega) only [dm_t, wS, simprocAttr, IntKind.bits, ca, cw']
    exact id
end
end Go.Proofs.YtooimdgoibdhlaaDoor.sc
