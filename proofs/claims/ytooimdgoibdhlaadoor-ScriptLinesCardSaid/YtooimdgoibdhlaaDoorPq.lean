/-
  A line read, the program's: the labels 'send', 'fate', 'stop'.
-/
import Derived.Test.YtooimdgoibdhlaaDoorPp
namespace Go.Proofs.YtooimdgoibdhlaaDoor.sc
open Go Go.Proofs.YtooimdgoibdhlaaDoor Go.RowKit
set_option linter.unusedVariables false
set_option linter.unusedSimpArgs false
theorem ne_ty {g : H} {a b : Nat} {c c' : Array Value} {T T' : TypeId} {fr fr' : Nat × Nat} (h1 : g a = some (.cells c T fr)) (h2 : g b = some (.cells c' T' fr')) (hT : T ≠ T') : a ≠ b := by
  rintro rfl
  rw [h1] at h2
  simp only [Option.some.injEq, Obj.cells.injEq] at h2
  exact hT h2.2.1
theorem wG : type_of% (And.intro @vc_goto (And.intro @seqQ_goto (And.intro @blockQ_goto (And.intro @jQ_goto (And.intro @jQ_normal (And.intro @jQ_ret (And.intro @jQ_panic (And.intro @jQ_exit (And.intro @sJ_normal @sJ_panic))))))))) := And.intro @vc_goto (And.intro @seqQ_goto (And.intro @blockQ_goto (And.intro @jQ_goto (And.intro @jQ_normal (And.intro @jQ_ret (And.intro @jQ_panic (And.intro @jQ_exit (And.intro @sJ_normal @sJ_panic))))))))
abbrev Qr (h : H) (line : List UInt8) : Post := retC [.cn 2 7 31, .t 3] (okR (RD h line))
abbrev fNu (pn : Nat) : Value := .func (.func 39) #[] #[.pointer (some ⟨pn, 0, none⟩)]
abbrev fNx (pat pw : Nat) : Value := .func (.func 38) #[] #[.pointer (some ⟨pat, 0, none⟩), .pointer (some ⟨pw, 0, none⟩)]
section
variable {U : Nat → Prop} {h g0 g : H} {vw : Value} {line w0 : List UInt8} {ws : List (List UInt8)} {p2 ps pat pw pn : Nat}
/-- What holds at the labels. -/
structure LS (U : Nat → Prop) (h g0 : H) (vw : Value) (line : List UInt8) (p2 ps pat pw pn : Nat) (g : H) (i : Nat) (cells : List Value) : Prop where
  R : RS U h g0 vw (wds line) pat pw pn g i
  q2 : g p2 = some (.cells z7.toArray 31)
  qs : g ps = some (.cells cells.toArray 31)
  ne : p2 ≠ ps
  hp2 : h p2 = none
  hps : U ps
  ll : line.length ≤ 1048576
theorem LS.pat' {i : Nat} {cells : List Value} (s : LS U h g0 vw line p2 ps pat pw pn g i cells) : p2 ≠ pat ∧ ps ≠ pat ∧ ps ≠ pw ∧ ps ≠ pn :=
  ⟨ne_ty s.q2 s.R.at' (by decide), ne_ty s.qs s.R.at' (by decide), ne_ty s.qs s.R.w (by decide), ne_ty s.qs s.R.n (by decide)⟩
/-- Behind a closure's call. -/
theorem LS.call {g' : H} {i i' : Nat} {cells : List Value} (s : LS U h g0 vw line p2 ps pat pw pn g i cells) (r : RS U h g0 vw (wds line) pat pw pn g' i') (f : Fr (fun y => y = pat) g g') : LS U h g0 vw line p2 ps pat pw pn g' i' cells :=
  ⟨r, f _ _ s.q2 s.pat'.1, f _ _ s.qs s.pat'.2.1, s.ne, s.hp2, s.hps, s.ll⟩
theorem LS.ext {g' : H} {i : Nat} {cells : List Value} (s : LS U h g0 vw line p2 ps pat pw pn g i cells) (e : Ext g g') : LS U h g0 vw line p2 ps pat pw pn g' i cells :=
  ⟨s.R.step e, e.at s.q2, e.at s.qs, s.ne, s.hp2, s.hps, s.ll⟩
/-- Behind a store into the step. -/
theorem LS.put {g' : H} {i : Nat} {cells cells' : List Value} (s : LS U h g0 vw line p2 ps pat pw pn g i cells) (hg : hupd g ps (.cells cells'.toArray 31) = g') : LS U h g0 vw line p2 ps pat pw pn g' i cells' := by
  subst hg
  exact ⟨s.R.frame (T := fun y => y = ps) (Fr.upd (S := fun y => y = ps) rfl _) (fun y hy => by subst hy; exact ⟨s.hps, s.pat'.2.1, s.pat'.2.2.1, s.pat'.2.2.2⟩), by rw [hupd_ne _ _ s.ne]; exact s.q2, hupd_same _ _ _, s.ne, s.hp2, s.hps, s.ll⟩
theorem LS.cn {i : Nat} {cells : List Value} (s : LS U h g0 vw line p2 ps pat pw pn g i cells) : cellAt g ⟨pn, 0, none⟩ = some (fNx pat pw) := by rw [cellAt_of s.R.n]; rfl
/-- The end, where no lists are. -/
theorem LS.told0 {T : List (Nat × List Nat × LC)} {i : Nat} {cells : List Value} {x : St} (s : LS U h g0 vw line p2 ps pat pw pn g i cells) (hc : cells = sCs x (.slice none 0 0) (.slice none 0 0)) (hb : sB x) (h1 : x.2.2.1 = []) (h2 : x.2.2.2.2.2 = []) (cand : ∀ t, May t → wl t = wds line → x = t) :
    vc Tryd.prog c13_j1 (jQ Tryd.prog T (Qr h line)) [(0, sv line), (2, .pointer (some ⟨p2, 0, none⟩)), (4, .pointer (some ⟨ps, 0, none⟩))] g := by
  subst hc
  exact Read_j1 s.R.G s.R.E s.ll s.q2 s.qs s.hp2 hb (by rw [h1]; exact OwK.nil) (by rw [h2]; exact OwK.nil) (by rw [h2]; simp) (by rw [h2]; simp) fun t mt ht => cand t mt (by rw [← wds_ln t, ht])
theorem LS.len {i : Nat} {cells : List Value} (s : LS U h g0 vw line p2 ps pat pw pn g i cells) (k : Nat) : ((wds line).getD k []).length ≤ 1048576 := by
  rw [List.getD_eq_getElem?_getD]
  by_cases hi : k < (wds line).length
  · rw [List.getElem?_eq_getElem hi]; exact s.R.wsl _ (List.getElem_mem hi)
  · rw [List.getElem?_eq_none (by omega)]; simp
theorem Read_j0 {T : List (Nat × List Nat × LC)} (s : LS U h g0 vw line p2 ps pat pw pn g 1 z7) (hws : wds line = kSend :: ws) :
    vc Tryd.prog c13_j0 (jQ Tryd.prog [(2, [0, 2, 4, 7, 8], c13_j2), (3, [0, 2, 4, 5, 6, 8], c13_j3), (1, [0, 2, 4], c13_j1)] (Qr h line)) [(0, sv line), (2, .pointer (some ⟨p2, 0, none⟩)), (4, .pointer (some ⟨ps, 0, none⟩)), (7, .pointer (some ⟨pn, 0, none⟩)), (8, fNu pn)] g := by
  simp (disch := omega) only [dm_t, wS, simprocAttr, IntKind.bits]
  refine ⟨by kernel_rfl, (num_ok s.R).k ?_⟩
  rintro _ g1 ⟨⟨q, rfl, hq, hqm⟩, ⟨i', R1, hi'⟩, f1⟩
  have s1 := s.call R1 f1
  have qs1 := s1.qs
  simp (disch := omega) only [dm_t, wS, simprocAttr, IntKind.bits, storeH_0 qs1, storeH_same, hupd_hupd]
  generalize hG : hupd g1 ps _ = g2
  have s2 := s1.put (cells' := [.int .i64 1, .int .i64 q, .slice none 0 0, .int .i64 0, .int .i64 0, .int .i64 0, .slice none 0 0]) hG
  clear hG
  have cn := s2.cn
  simp (disch := omega) only [dm_t, wS, simprocAttr, IntKind.bits, cn]
  refine ⟨by kernel_rfl, (next_ok s2.R).k ?_⟩
  rintro _ g3 ⟨rfl, ⟨i2, R3, _⟩, f3⟩
  have s3 := s2.call R3 f3
  simp (disch := omega) only [dm_t, wS, simprocAttr, IntKind.bits]
  refine (taken_ok g3 _ (s.len i')).k ?_
  rintro _ g4 ⟨⟨vb, b, l, rfl, ob, hl1, hl2⟩, e4⟩
  have s4 := s3.ext e4
  have qs4 := s4.qs
  have cvb : isCell vb = true := by obtain ⟨a, c, e⟩ := By.len ob.s0; rw [e]; rfl
  simp (disch := omega) only [dm_t, wS, simprocAttr, IntKind.bits, storeH_0 qs4, cvb]
  generalize hG : hupd g4 ps _ = g5
  have s5 := s4.put (cells' := [.int .i64 1, .int .i64 q, vb, .int .i64 0, .int .i64 0, .int .i64 0, .slice none 0 0]) hG
  have n1 : ¬ isAt vb ps := OwK.tyno ob qs4 (by decide)
  have ob5 : OwB (fun y => h y = none) g5 5 vb l := by
    refine OwK.fr (OwK.mono ob fun y o hy hn => s3.R.E.bk hn) (T := fun y => y = ps) ?_ fun y hy _ hat => n1 (by rw [← hy]; exact hat)
    rw [← hG]; exact Fr.upd (S := fun y => y = ps) rfl _
  clear hG
  have k := Read_j1 (T := []) (x := (1, q, l, 0, (0, 0), [])) s5.R.G s5.R.E s5.ll s5.q2 s5.qs s5.hp2 ⟨in1, hq, in0, in0, in0⟩ ob5 OwK.nil (by simp) (by simp) fun t mt ht => by
    have hwl : wl t = kSend :: ws := by rw [← wds_ln t, ht, hws]
    obtain ⟨h1, h2⟩ := wl_1 mt hwl
    have hi2 : i' = 2 := hi' (by rw [hws, h2]; simp)
    have a1 : (wds line).getD 1 [] = dz t.2.1 := by rw [hws, h2]; rfl
    have a2 : (wds line).getD i' [] = hexd t.2.2.1 := by rw [hi2, hws, h2]; rfl
    rw [a1] at hqm
    rw [a2] at hl1 hl2
    have e1 := dz_num ⟨mt.cl.1, by have := mt.cl.2; simp only [huge]; omega⟩ hqm
    have e2 : l = t.2.2.1 := by
      by_cases h0 : t.2.2.1 = []
      · rw [h0] at hl2 ⊢; exact hl2 rfl
      · exact hl1 _ (by unfold hexd; rw [if_neg h0])
    rw [h1, e1, e2]
  revert k
  simp (disch := omega) only [dm_t, wS, simprocAttr, IntKind.bits, wG]
  exact id
theorem Read_j2 (s : LS U h g0 vw line p2 ps pat pw pn g 1 z7) (hws : wds line = kFate :: ws) :
    vc Tryd.prog c13_j2 (jQ Tryd.prog [(3, [0, 2, 4, 5, 6, 8], c13_j3), (1, [0, 2, 4], c13_j1)] (Qr h line)) [(0, sv line), (2, .pointer (some ⟨p2, 0, none⟩)), (4, .pointer (some ⟨ps, 0, none⟩)), (7, .pointer (some ⟨pn, 0, none⟩)), (8, fNu pn)] g := by
  have qs0 := s.qs
  simp (disch := omega) only [dm_t, wS, simprocAttr, IntKind.bits, storeH_0 qs0]
  generalize hG : hupd g ps _ = g2
  have s2 := s.put (cells' := [.int .i64 3, .int .i64 0, .slice none 0 0, .int .i64 0, .int .i64 0, .int .i64 0, .slice none 0 0]) hG
  clear hG
  have cn := s2.cn
  simp (disch := omega) only [dm_t, wS, simprocAttr, IntKind.bits, cn]
  refine ⟨by kernel_rfl, (next_ok s2.R).k ?_⟩
  rintro _ g3 ⟨rfl, ⟨i2, R3, hi2⟩, f3⟩
  have s3 := s2.call R3 f3
  have qs3 := s3.qs
  generalize ha : (wds line).getD 1 [] = arg
  by_cases k1 : arg = kGood
  · subst k1
    have k := s3.told0 (T := []) (x := (3, 0, [], 0, (0, 0), [])) rfl ⟨in3, in0, in0, in0, in0⟩ rfl rfl fun t mt ht => by
      obtain ⟨h1, ⟨hf, hg, h2⟩ | ⟨hf, h2⟩ | ⟨hf, h2⟩⟩ := wl_3 mt (ht.trans hws)
      · rw [hf, hg] at h1; exact h1.symm
      · rw [hws, h2] at ha; exact absurd ha (show ¬ kFail = kGood by decide)
      · rw [hws, h2] at ha; exact absurd ha (show ¬ kFull = kGood by decide)
    revert k
    simp (disch := omega) only [dm_t, wS, simprocAttr, IntKind.bits, wG, toList_mk]
    exact id
  have rest : ∀ {g4 : H} (n : Int), inI n → (∀ t, May t → wl t = wds line → t.2.2.2.2.1.1 = n) → LS U h g0 vw line p2 ps pat pw pn g4 i2 [.int .i64 3, .int .i64 0, .slice none 0 0, .int .i64 0, .int .i64 n, .int .i64 0, .slice none 0 0] →
      vc Tryd.prog c13_s16 (jQ Tryd.prog [(3, [0, 2, 4, 5, 6, 8], c13_j3), (1, [0, 2, 4], c13_j1)] (Qr h line)) [(0, sv line), (2, .pointer (some ⟨p2, 0, none⟩)), (4, .pointer (some ⟨ps, 0, none⟩)), (8, fNu pn)] g4 := by
    intro g4 n hn hnc s4
    simp (disch := omega) only [dm_t, wS, simprocAttr, IntKind.bits]
    refine ⟨by kernel_rfl, (num_ok s4.R).k ?_⟩
    rintro _ g5 ⟨⟨q, rfl, hq, hqm⟩, ⟨i3, R5, hi3⟩, f5⟩
    have s5 := s4.call R5 f5
    have qs5 := s5.qs
    simp (disch := omega) only [dm_t, wS, simprocAttr, IntKind.bits, storeH_0 qs5]
    generalize hG : hupd g5 ps _ = g6
    have s6 := s5.put (cells' := [.int .i64 3, .int .i64 0, .slice none 0 0, .int .i64 0, .int .i64 n, .int .i64 q, .slice none 0 0]) hG
    clear hG
    have k := s6.told0 (T := []) (x := (3, 0, [], 0, (n, q), [])) rfl ⟨in3, in0, in0, hn, hq⟩ rfl rfl fun t mt ht => by
      have hfk := hnc t mt ht
      obtain ⟨h1, ⟨hf, hg, h2⟩ | ⟨hf, h2⟩ | ⟨hf, h2⟩⟩ := wl_3 mt (ht.trans hws)
      · rw [hws, h2] at ha; exact absurd ha.symm k1
      · have hi : i2 = 2 := hi2 (by rw [hws, h2]; simp)
        have a2 : (wds line).getD i2 [] = dz t.2.2.2.2.1.2 := by rw [hi, hws, h2]; rfl
        rw [a2] at hqm
        rw [h1, hfk, dz_num mt.fp hqm]
      · have hi : i2 = 2 := hi2 (by rw [hws, h2]; simp)
        have a2 : (wds line).getD i2 [] = dz t.2.2.2.2.1.2 := by rw [hi, hws, h2]; rfl
        rw [a2] at hqm
        rw [h1, hfk, dz_num mt.fp hqm]
    revert k
    simp (disch := omega) only [dm_t, wS, simprocAttr, IntKind.bits, wG]
    exact id
  by_cases k2 : arg = kFail
  · subst k2
    simp (disch := omega) only [dm_t, wS, simprocAttr, IntKind.bits, toList_mk, k1, storeH_0 qs3]
    generalize hG : hupd g3 ps _ = g4
    have s4 := s3.put (cells' := [.int .i64 3, .int .i64 0, .slice none 0 0, .int .i64 0, .int .i64 1, .int .i64 0, .slice none 0 0]) hG
    clear hG
    have k := rest 1 in1 (fun t mt ht => by
      obtain ⟨h1, ⟨hf, hg, h2⟩ | ⟨hf, h2⟩ | ⟨hf, h2⟩⟩ := wl_3 mt (ht.trans hws)
      · rw [hws, h2] at ha; exact absurd ha (show ¬ kGood = kFail by decide)
      · exact hf
      · rw [hws, h2] at ha; exact absurd ha (show ¬ kFull = kFail by decide)) s4
    revert k
    simp (disch := omega) only [dm_t, wS, simprocAttr, IntKind.bits]
    exact id
  by_cases k3 : arg = kFull
  · subst k3
    simp (disch := omega) only [dm_t, wS, simprocAttr, IntKind.bits, toList_mk, k1, k2, storeH_0 qs3]
    generalize hG : hupd g3 ps _ = g4
    have s4 := s3.put (cells' := [.int .i64 3, .int .i64 0, .slice none 0 0, .int .i64 0, .int .i64 2, .int .i64 0, .slice none 0 0]) hG
    clear hG
    have k := rest 2 in2 (fun t mt ht => by
      obtain ⟨h1, ⟨hf, hg, h2⟩ | ⟨hf, h2⟩ | ⟨hf, h2⟩⟩ := wl_3 mt (ht.trans hws)
      · rw [hws, h2] at ha; exact absurd ha (show ¬ kGood = kFull by decide)
      · rw [hws, h2] at ha; exact absurd ha (show ¬ kFail = kFull by decide)
      · exact hf) s4
    revert k
    simp (disch := omega) only [dm_t, wS, simprocAttr, IntKind.bits]
    exact id
  have k := rest 0 in0 (fun t mt ht => by
      obtain ⟨h1, ⟨hf, hg, h2⟩ | ⟨hf, h2⟩ | ⟨hf, h2⟩⟩ := wl_3 mt (ht.trans hws)
      · exact hf
      · rw [hws, h2] at ha; exact absurd ha.symm k2
      · rw [hws, h2] at ha; exact absurd ha.symm k3) s3
  revert k
  simp (disch := omega) only [dm_t, wS, simprocAttr, IntKind.bits, toList_mk, k1, k2, k3]
  exact id
end
end Go.Proofs.YtooimdgoibdhlaaDoor.sc
