/-
  groups: records held against one another, copied; the first byte 0.
-/
import Derived.Test.YthhofmjhnjkcfaaGb
namespace Go.Proofs.Ythhofmjhnjkcfaa.gr
open Go.Proofs.Ythhofmjhnjkcfaa wi
set_option linter.unusedVariables false
set_option linter.unusedSimpArgs false
theorem hasAt {a : Addr} {n c x : Nat} (h : isAt (.slice (some a) n c) x) : x = a.block := by
  obtain ⟨o, n', c', h⟩ := h
  simp only [Value.slice.injEq, Option.some.injEq] at h
  rw [h.1]
/-- What of a record in memory is read, field by field. -/
theorem rec_at {S : Nat → Prop} {h : H} {a : Option Addr} {n c : Nat} {l : List rc.D} (r : RepL S rc h (.slice a n c) l) {i : Nat} (hi : i < l.length) :
    ∃ b o k v, idxV1 3 (.slice a n c) (.int .i64 (i : Int)) = some (.pointer (some ⟨b, o, none⟩)) ∧ cellAt h ⟨b, o, none⟩ = some (.int .i64 (l[i]).1) ∧ cellAt h ⟨b, o + 1, none⟩ = some k ∧ cellAt h ⟨b, o + 2, none⟩ = some v ∧ By S h k (l[i]).2.1 ∧ By S h v (l[i]).2.2 := by
  obtain ⟨b, o, cs, gi, _, g2, g3⟩ := r.load hi .i64 3 sz_rc
  obtain ⟨k, v, rfl, _, hk, hv⟩ := rep_rc.1 g3
  exact ⟨b, o, k, v, gi, g2 0 (by omega), g2 1 (by omega), g2 2 (by omega), hk, hv⟩
theorem rec_bd {S : Nat → Prop} {h : H} {v : Value} {l : List rc.D} (r : RepL S rc h v l) {i : Nat} (hi : i < l.length) : -9223372036854775808 ≤ (l[i]).1 ∧ (l[i]).1 ≤ 9223372036854775807 := by
  obtain ⟨b, o, cs, gi, _, g2, g3⟩ := r.load hi .i64 3 sz_rc
  obtain ⟨k, v, _, h, _⟩ := rep_rc.1 g3
  exact h
theorem Same_ok {S T : Nat → Prop} {h : H} {a b : Value} {l m : List rc.D} (ha : RepL S rc h a l) (hb : RepL T rc h b m) (hl : l.length ≤ 4611686018427387904) : Ok Try.prog 43 #[a, b] h fun v h' => v = .bool (decide (l = m)) ∧ h = h' := by
  obtain ⟨aa, ac, rfl⟩ := ha.len
  obtain ⟨ba, bc, rfl⟩ := hb.len
  refine c43_ok (args := [_, _]) (by simp) ?_
  by_cases hlm : l.length = m.length
  · simp (disch := omega) only [dm_t, wS, simprocAttr, IntKind.bits]
    refine vc_loop1 (fun vi h' => h' = h ∧ ∃ i : Nat, vi = .int .i64 (i : Int) ∧ i ≤ l.length ∧ l.take i = m.take i) (fun vi _ => l.length - m1 vi) ?_ ?_
    · simp (disch := omega) only [dm_t, wS, simprocAttr, IntKind.bits]
      exact ⟨0, rfl, by omega, by simp⟩
    rintro _ h' ⟨rfl, i, rfl, hi, heq⟩
    by_cases hil : i < l.length
    · have him : i < m.length := by omega
      obtain ⟨b1, o1, k1, v1, i1, t1, x1, y1, hk1, hv1⟩ := rec_at ha hil
      obtain ⟨b2, o2, k2, v2, i2, t2, x2, y2, hk2, hv2⟩ := rec_at hb him
      have hne : ¬ l[i] = m[i] → Value.bool false = .bool (decide (l = m)) := by
        intro hn
        simp only [Value.bool.injEq]
        symm
        rw [decide_eq_false_iff_not]
        intro h0; subst h0; exact hn rfl
      have hyes : l[i] = m[i] → l.take (i + 1) = m.take (i + 1) := by
        intro hv
        rw [show l.take (i + 1) = l.take i ++ [l[i]] by simp, show m.take (i + 1) = m.take i ++ [m[i]] by simp, heq, hv]
      by_cases ht : (l[i]).1 = (m[i]).1
      · simp (disch := omega) only [dm_t, wS, simprocAttr, IntKind.bits, i1, t1, x1, y1, i2, t2, x2, y2]
        refine ⟨?_, ?_⟩
        · refine cvbs_of hk1 ?_
          simp (disch := omega) only [dm_t, wS, simprocAttr, IntKind.bits, i1, t1, x1, y1, i2, t2, x2, y2, toList_mk]
          refine cvbs_of hk2 ?_
          by_cases hk : (l[i]).2.1 = (m[i]).2.1
          · simp (disch := omega) only [dm_t, wS, simprocAttr, IntKind.bits, i1, t1, x1, y1, i2, t2, x2, y2, toList_mk, hk]
            refine ⟨?_, ?_⟩
            · refine cvbs_of hv1 ?_
              simp (disch := omega) only [dm_t, wS, simprocAttr, IntKind.bits, i1, t1, x1, y1, i2, t2, x2, y2, toList_mk]
              refine cvbs_of hv2 ?_
              by_cases hv : (l[i]).2.2 = (m[i]).2.2
              · simp (disch := omega) only [dm_t, wS, simprocAttr, IntKind.bits, i1, t1, x1, y1, i2, t2, x2, y2, toList_mk, hv]
                exact ⟨⟨i + 1, by simp, by omega, hyes (Prod.ext ht (Prod.ext hk hv))⟩, by simp [m1]; omega⟩
              · simp (disch := omega) only [dm_t, wS, simprocAttr, IntKind.bits, i1, t1, x1, y1, i2, t2, x2, y2, toList_mk, hv]
                exact hne fun h => hv (by rw [h])
            · refine cvbs_of hv2 ?_
              simp (disch := omega) only [dm_t, wS, simprocAttr, IntKind.bits, i1, t1, x1, y1, i2, t2, x2, y2, toList_mk]
              refine cvbs_of hv1 ?_
              by_cases hv : (l[i]).2.2 = (m[i]).2.2
              · simp (disch := omega) only [dm_t, wS, simprocAttr, IntKind.bits, i1, t1, x1, y1, i2, t2, x2, y2, toList_mk, hv]
                exact ⟨⟨i + 1, by simp, by omega, hyes (Prod.ext ht (Prod.ext hk hv))⟩, by simp [m1]; omega⟩
              · simp (disch := omega) only [dm_t, wS, simprocAttr, IntKind.bits, i1, t1, x1, y1, i2, t2, x2, y2, toList_mk, hv]
                exact hne fun h => hv (by rw [h])
          · simp (disch := omega) only [dm_t, wS, simprocAttr, IntKind.bits, i1, t1, x1, y1, i2, t2, x2, y2, toList_mk, hk]
            exact hne fun h => hk (by rw [h])
        · refine cvbs_of hk2 ?_
          simp (disch := omega) only [dm_t, wS, simprocAttr, IntKind.bits, i1, t1, x1, y1, i2, t2, x2, y2, toList_mk]
          refine cvbs_of hk1 ?_
          by_cases hk : (l[i]).2.1 = (m[i]).2.1
          · simp (disch := omega) only [dm_t, wS, simprocAttr, IntKind.bits, i1, t1, x1, y1, i2, t2, x2, y2, toList_mk, hk]
            refine ⟨?_, ?_⟩
            · refine cvbs_of hv1 ?_
              simp (disch := omega) only [dm_t, wS, simprocAttr, IntKind.bits, i1, t1, x1, y1, i2, t2, x2, y2, toList_mk]
              refine cvbs_of hv2 ?_
              by_cases hv : (l[i]).2.2 = (m[i]).2.2
              · simp (disch := omega) only [dm_t, wS, simprocAttr, IntKind.bits, i1, t1, x1, y1, i2, t2, x2, y2, toList_mk, hv]
                exact ⟨⟨i + 1, by simp, by omega, hyes (Prod.ext ht (Prod.ext hk hv))⟩, by simp [m1]; omega⟩
              · simp (disch := omega) only [dm_t, wS, simprocAttr, IntKind.bits, i1, t1, x1, y1, i2, t2, x2, y2, toList_mk, hv]
                exact hne fun h => hv (by rw [h])
            · refine cvbs_of hv2 ?_
              simp (disch := omega) only [dm_t, wS, simprocAttr, IntKind.bits, i1, t1, x1, y1, i2, t2, x2, y2, toList_mk]
              refine cvbs_of hv1 ?_
              by_cases hv : (l[i]).2.2 = (m[i]).2.2
              · simp (disch := omega) only [dm_t, wS, simprocAttr, IntKind.bits, i1, t1, x1, y1, i2, t2, x2, y2, toList_mk, hv]
                exact ⟨⟨i + 1, by simp, by omega, hyes (Prod.ext ht (Prod.ext hk hv))⟩, by simp [m1]; omega⟩
              · simp (disch := omega) only [dm_t, wS, simprocAttr, IntKind.bits, i1, t1, x1, y1, i2, t2, x2, y2, toList_mk, hv]
                exact hne fun h => hv (by rw [h])
          · simp (disch := omega) only [dm_t, wS, simprocAttr, IntKind.bits, i1, t1, x1, y1, i2, t2, x2, y2, toList_mk, hk]
            exact hne fun h => hk (by rw [h])
      · simp (disch := omega) only [dm_t, wS, simprocAttr, IntKind.bits, i1, t1, x1, y1, i2, t2, x2, y2]
        exact hne fun h => ht (by rw [h])
    · obtain rfl : i = l.length := by omega
      rw [List.take_length, List.take_of_length_le (by omega)] at heq
      simp (disch := omega) only [dm_t, wS, simprocAttr, IntKind.bits, heq]
  · simp (disch := omega) only [dm_t, wS, simprocAttr, IntKind.bits]
    simp only [Value.bool.injEq]
    symm
    rw [decide_eq_false_iff_not]
    intro h0; exact hlm (by rw [h0])
theorem Copy_ok {S : Nat → Prop} {h : H} {s : Value} {l : List rc.D} (hs : RepL S rc h s l) (hl : l.length ≤ 1000000) (hk : ∀ x ∈ l, x.2.1.length ≤ 140737488355328 ∧ x.2.2.length ≤ 140737488355328) :
    Ok Try.prog 10 #[s] h fun v h' => OwQ (WRow 5 fun y => h y = none) (fun y => h y ≠ none) rc (fun y => h y = none) h' 26 v l ∧ Ext h h' := by
  obtain ⟨sa, sc, rfl⟩ := hs.len
  refine c10_ok (args := [_]) (by simp) ?_
  simp (disch := omega) only [dm_t, wS, simprocAttr, IntKind.bits]
  refine vc_loop2 (fun vo vi h' => ∃ i : Nat, vi = .int .i64 (i : Int) ∧ i ≤ l.length ∧ OwQ (WRow 5 fun y => h y = none) (fun y => h y ≠ none) rc (fun y => h y = none) h' 26 vo (l.take i) ∧ Ext h h') (fun _ vi _ => l.length - m1 vi) ?_ ?_
  · simp (disch := omega) only [dm_t, wS, simprocAttr, IntKind.bits]
    exact ⟨0, rfl, by omega, OwQ.nil, Ext.refl h⟩
  rintro vo _ g ⟨i, rfl, hi, ho, e1⟩
  by_cases hil : i < l.length
  · have hsplit : l.take (i + 1) = l.take i ++ [l[i]] := by simp
    have hlt : (l.take i).length = i := by rw [List.length_take]; omega
    have hki := hk l[i] (List.getElem_mem hil)
    have hbd := rec_bd (hs.ext e1) hil
    obtain ⟨pb, po, k, v, gi, t1, x1, y1, hk1, hv1⟩ := rec_at (hs.ext e1) hil
    simp (disch := omega) only [dm_t, wS, simprocAttr, IntKind.bits, gi, t1, x1, y1]
    refine ⟨?_, ?_⟩
    · intro c1 hc1
      have e2 : Ext g _ := Ext.new hc1 (.cells #[] 5)
      simp (disch := omega) only [dm_t, wS, simprocAttr, IntKind.bits, gi, cellAt_ext (e2) t1, cellAt_ext (e2) x1, cellAt_ext (e2) y1]
      refine ⟨?_, ?_⟩
      · refine appB (O := fun y => g y = none) (xs := []) (olit1 (xs := []) rfl hc1) (fun y hy => (Ext.new hc1 _).bk hy) (hk1.ext (Ext.new hc1 _)) (by simp; omega) ?_
        intro w1 G1 o1 f1
        have eG1 : Ext g G1 := Ext.step (Ext.new hc1 _) f1
        simp (disch := omega) only [dm_t, wS, simprocAttr, IntKind.bits, cellAt_ext (eG1) t1, cellAt_ext (eG1) x1, cellAt_ext (eG1) y1]
        intro c2 hc2
        have e2 : Ext g _ := eG1.trans (Ext.new hc2 (.cells #[] 5))
        simp (disch := omega) only [dm_t, wS, simprocAttr, IntKind.bits, cellAt_ext (e2) t1, cellAt_ext (e2) x1, cellAt_ext (e2) y1]
        refine appB (O := fun y => G1 y = none) (xs := []) (olit1 (xs := []) rfl hc2) (fun y hy => (Ext.new hc2 _).bk hy) (hv1.ext e2) (by simp; omega) ?_
        intro w2 G2 o2f f2
        have eG : Ext g G2 := Ext.step' e2 f2 fun x hx => eG1.bk hx.1
        have o1f := (OwK.ext o1 (Ext.new hc2 (.cells #[] 5))).fr f2 fun x hx _ hx' => OwK.there o1 hx' hx.1
        have k1 : ∀ x, g x = none → g x = none := fun _ h => h
        have k2 : ∀ x, G1 x = none → g x = none := fun x hx => eG1.bk hx
        have b1 : By (fun y => isAt vo y ∨ h y ≠ none) G2 w1 (l[i]).2.1 := OwK.sl o1f fun x hx hy => hy.elim (fun hy => ho.l.there hy (k1 x hx)) fun hy => hy (e1.bk (k1 x hx))
        have b2 : By (fun y => isAt vo y ∨ h y ≠ none) G2 w2 (l[i]).2.2 := OwK.sl o2f fun x hx hy => hy.elim (fun hy => ho.l.there hy (k2 x hx)) fun hy => hy (e1.bk (k2 x hx))
        obtain ⟨wa1, wc1, rfl⟩ := By.len b1
        obtain ⟨wa2, wc2, rfl⟩ := By.len b2
        simp (disch := omega) only [dm_t, wS, simprocAttr, IntKind.bits, cellAt_ext eG t1, cellAt_ext eG x1, cellAt_ext eG y1]
        intro b3 hb3
        have eb := eG.trans (Ext.new hb3 (.cells #[.int .i64 (l[i]).1, .slice wa1 (l[i]).2.1.length wc1, .slice wa2 (l[i]).2.2.length wc2] 26))
        simp (disch := omega) only [dm_t, wS, simprocAttr, IntKind.bits, cellAt_ext eb t1, cellAt_ext eb x1, cellAt_ext eb y1]
        refine OwQ.push (V := fun _ => _) (x := l[i]) 3 sz_rc (ho.ext eG fun r hr => hr.ext eG) (fun y hy => (e1.trans eG).bk hy) (rep_rc.2 ⟨_, _, rfl, hbd, b1, b2⟩) (by rfl) (by rw [hlt]; omega) (by rw [hlt]; omega) ⟨_, _, _, _, _, rfl, OwK.mono o1f fun x _ _ hx => e1.bk (k1 x hx), OwK.mono o2f fun x _ _ hx => e1.bk (k2 x hx), hki⟩ (fun h' rows so f r hr => hr.fr (by decide) so f fun x hx => hx.2) ?_ b3 hb3
        intro _ s' G3 _ o3 f3
        simp (disch := omega) only [dm_t, wS, simprocAttr, IntKind.bits]
        refine ⟨⟨i + 1, by simp, by omega, by rw [hsplit]; exact o3, Ext.step (e1.trans eG) f3⟩, by simp [m1]; omega⟩
      · intro c2 hc2
        have hcc : c1 ≠ c2 := fun h => by subst h; rw [hupd_same] at hc2; cases hc2
        have hg1 := hc1
        have hg2 : g c2 = none := by rwa [hupd_ne _ _ hcc.symm] at hc2
        have e2 : Ext g _ := (Ext.new hc1 (.cells #[] 5)).trans (Ext.new hc2 (.cells #[] 5))
        have s1 : OwB (fun y => g y = none ∧ y ≠ c2) _ 5 (.slice (some ⟨c1, 0, none⟩) 0 0) [] := (olit1 (h := g) (O := fun y => g y = none ∧ y ≠ c2) (xs := []) rfl ⟨hg1, hcc⟩).ext (Ext.new hc2 (.cells #[] 5))
        have s2 : OwB (fun y => y = c2) _ 5 (.slice (some ⟨c2, 0, none⟩) 0 0) [] := olit1 (h := hupd g c1 (.cells #[] 5)) (O := fun y => y = c2) (xs := []) rfl rfl
        have hH : ∀ y, hupd (hupd g c1 (.cells #[] 5)) c2 (.cells #[] 5) y = none → g y = none ∧ y ≠ c2 := fun y hy => ⟨e2.bk hy, fun h => by subst h; rw [hupd_same] at hy; cases hy⟩
        simp (disch := omega) only [dm_t, wS, simprocAttr, IntKind.bits, cellAt_ext (e2) t1, cellAt_ext (e2) x1, cellAt_ext (e2) y1]
        refine appB s1 hH (hk1.ext e2) (by simp; omega) ?_
        intro w1 G1 o1 f1
        have eG1 : Ext g G1 := Ext.step' e2 f1 fun x hx => hx.1.1
        simp (disch := omega) only [dm_t, wS, simprocAttr, IntKind.bits, cellAt_ext (eG1) t1, cellAt_ext (eG1) x1, cellAt_ext (eG1) y1]
        have s3 : OwB (fun y => y = c2 ∨ G1 y = none) G1 5 (.slice (some ⟨c2, 0, none⟩) 0 0) [] := (s2.fr f1 fun x hx hx' => absurd hx' hx.1.2).mono fun x _ _ hx => .inl hx
        refine appB s3 (fun y hy => .inr hy) (hv1.ext eG1) (by simp; omega) ?_
        intro w2 G2 o2f f2
        have k2 : ∀ x, x = c2 ∨ G1 x = none → g x = none := fun x hx => hx.elim (fun hx => by rw [hx]; exact hg2) fun hx => eG1.bk hx
        have eG : Ext g G2 := Ext.step' eG1 f2 fun x hx => k2 x hx.1
        have o1f := OwK.fr o1 f2 fun x hx hx' _ => absurd (hasAt hx.2) hx'.2
        have k1 : ∀ x, g x = none ∧ x ≠ c2 → g x = none := fun _ h => h.1
        have b1 : By (fun y => isAt vo y ∨ h y ≠ none) G2 w1 (l[i]).2.1 := OwK.sl o1f fun x hx hy => hy.elim (fun hy => ho.l.there hy (k1 x hx)) fun hy => hy (e1.bk (k1 x hx))
        have b2 : By (fun y => isAt vo y ∨ h y ≠ none) G2 w2 (l[i]).2.2 := OwK.sl o2f fun x hx hy => hy.elim (fun hy => ho.l.there hy (k2 x hx)) fun hy => hy (e1.bk (k2 x hx))
        obtain ⟨wa1, wc1, rfl⟩ := By.len b1
        obtain ⟨wa2, wc2, rfl⟩ := By.len b2
        simp (disch := omega) only [dm_t, wS, simprocAttr, IntKind.bits, cellAt_ext eG t1, cellAt_ext eG x1, cellAt_ext eG y1]
        intro b3 hb3
        have eb := eG.trans (Ext.new hb3 (.cells #[.int .i64 (l[i]).1, .slice wa1 (l[i]).2.1.length wc1, .slice wa2 (l[i]).2.2.length wc2] 26))
        simp (disch := omega) only [dm_t, wS, simprocAttr, IntKind.bits, cellAt_ext eb t1, cellAt_ext eb x1, cellAt_ext eb y1]
        refine OwQ.push (V := fun _ => _) (x := l[i]) 3 sz_rc (ho.ext eG fun r hr => hr.ext eG) (fun y hy => (e1.trans eG).bk hy) (rep_rc.2 ⟨_, _, rfl, hbd, b1, b2⟩) (by rfl) (by rw [hlt]; omega) (by rw [hlt]; omega) ⟨_, _, _, _, _, rfl, OwK.mono o1f fun x _ _ hx => e1.bk (k1 x hx), OwK.mono o2f fun x _ _ hx => e1.bk (k2 x hx), hki⟩ (fun h' rows so f r hr => hr.fr (by decide) so f fun x hx => hx.2) ?_ b3 hb3
        intro _ s' G3 _ o3 f3
        simp (disch := omega) only [dm_t, wS, simprocAttr, IntKind.bits]
        refine ⟨⟨i + 1, by simp, by omega, by rw [hsplit]; exact o3, Ext.step (e1.trans eG) f3⟩, by simp [m1]; omega⟩
    · intro c2 hc2
      have e2 : Ext g _ := Ext.new hc2 (.cells #[] 5)
      simp (disch := omega) only [dm_t, wS, simprocAttr, IntKind.bits, gi, cellAt_ext (e2) t1, cellAt_ext (e2) x1, cellAt_ext (e2) y1]
      intro c1 hc1
      have hcc : c1 ≠ c2 := fun h => by subst h; rw [hupd_same] at hc1; cases hc1
      have hg2 := hc2
      have hg1 : g c1 = none := by rwa [hupd_ne _ _ hcc] at hc1
      have e2 : Ext g _ := (Ext.new hc2 (.cells #[] 5)).trans (Ext.new hc1 (.cells #[] 5))
      have s1 : OwB (fun y => g y = none ∧ y ≠ c2) _ 5 (.slice (some ⟨c1, 0, none⟩) 0 0) [] := olit1 (h := hupd g c2 (.cells #[] 5)) (O := fun y => g y = none ∧ y ≠ c2) (xs := []) rfl ⟨hg1, hcc⟩
      have s2 : OwB (fun y => y = c2) _ 5 (.slice (some ⟨c2, 0, none⟩) 0 0) [] := (olit1 (h := g) (O := fun y => y = c2) (xs := []) rfl rfl).ext (Ext.new hc1 (.cells #[] 5))
      have hH : ∀ y, hupd (hupd g c2 (.cells #[] 5)) c1 (.cells #[] 5) y = none → g y = none ∧ y ≠ c2 := fun y hy => ⟨e2.bk hy, fun h => by subst h; rw [hupd_ne _ _ hcc.symm, hupd_same] at hy; cases hy⟩
      simp (disch := omega) only [dm_t, wS, simprocAttr, IntKind.bits, cellAt_ext (e2) t1, cellAt_ext (e2) x1, cellAt_ext (e2) y1]
      refine appB s1 hH (hk1.ext e2) (by simp; omega) ?_
      intro w1 G1 o1 f1
      have eG1 : Ext g G1 := Ext.step' e2 f1 fun x hx => hx.1.1
      simp (disch := omega) only [dm_t, wS, simprocAttr, IntKind.bits, cellAt_ext (eG1) t1, cellAt_ext (eG1) x1, cellAt_ext (eG1) y1]
      have s3 : OwB (fun y => y = c2 ∨ G1 y = none) G1 5 (.slice (some ⟨c2, 0, none⟩) 0 0) [] := (s2.fr f1 fun x hx hx' => absurd hx' hx.1.2).mono fun x _ _ hx => .inl hx
      refine appB s3 (fun y hy => .inr hy) (hv1.ext eG1) (by simp; omega) ?_
      intro w2 G2 o2f f2
      have k2 : ∀ x, x = c2 ∨ G1 x = none → g x = none := fun x hx => hx.elim (fun hx => by rw [hx]; exact hg2) fun hx => eG1.bk hx
      have eG : Ext g G2 := Ext.step' eG1 f2 fun x hx => k2 x hx.1
      have o1f := OwK.fr o1 f2 fun x hx hx' _ => absurd (hasAt hx.2) hx'.2
      have k1 : ∀ x, g x = none ∧ x ≠ c2 → g x = none := fun _ h => h.1
      have b1 : By (fun y => isAt vo y ∨ h y ≠ none) G2 w1 (l[i]).2.1 := OwK.sl o1f fun x hx hy => hy.elim (fun hy => ho.l.there hy (k1 x hx)) fun hy => hy (e1.bk (k1 x hx))
      have b2 : By (fun y => isAt vo y ∨ h y ≠ none) G2 w2 (l[i]).2.2 := OwK.sl o2f fun x hx hy => hy.elim (fun hy => ho.l.there hy (k2 x hx)) fun hy => hy (e1.bk (k2 x hx))
      obtain ⟨wa1, wc1, rfl⟩ := By.len b1
      obtain ⟨wa2, wc2, rfl⟩ := By.len b2
      simp (disch := omega) only [dm_t, wS, simprocAttr, IntKind.bits, cellAt_ext eG t1, cellAt_ext eG x1, cellAt_ext eG y1]
      intro b3 hb3
      have eb := eG.trans (Ext.new hb3 (.cells #[.int .i64 (l[i]).1, .slice wa1 (l[i]).2.1.length wc1, .slice wa2 (l[i]).2.2.length wc2] 26))
      simp (disch := omega) only [dm_t, wS, simprocAttr, IntKind.bits, cellAt_ext eb t1, cellAt_ext eb x1, cellAt_ext eb y1]
      refine OwQ.push (V := fun _ => _) (x := l[i]) 3 sz_rc (ho.ext eG fun r hr => hr.ext eG) (fun y hy => (e1.trans eG).bk hy) (rep_rc.2 ⟨_, _, rfl, hbd, b1, b2⟩) (by rfl) (by rw [hlt]; omega) (by rw [hlt]; omega) ⟨_, _, _, _, _, rfl, OwK.mono o1f fun x _ _ hx => e1.bk (k1 x hx), OwK.mono o2f fun x _ _ hx => e1.bk (k2 x hx), hki⟩ (fun h' rows so f r hr => hr.fr (by decide) so f fun x hx => hx.2) ?_ b3 hb3
      intro _ s' G3 _ o3 f3
      simp (disch := omega) only [dm_t, wS, simprocAttr, IntKind.bits]
      refine ⟨⟨i + 1, by simp, by omega, by rw [hsplit]; exact o3, Ext.step (e1.trans eG) f3⟩, by simp [m1]; omega⟩
  · obtain rfl : i = l.length := by omega
    rw [List.take_length] at ho
    simp (disch := omega) only [dm_t, wS, simprocAttr, IntKind.bits]
    exact ⟨ho, e1⟩
theorem get_bang (l : List UInt8) {i : Nat} (hi : i < l.length) : (⟨l.toArray⟩ : ByteArray)[i]! = l[i] := by
  rw [getElem!_pos (⟨l.toArray⟩ : ByteArray) i (show i < (⟨l.toArray⟩ : ByteArray).size from hi)]; rfl
theorem run_loadBytes {P : Program} {w : World} (a : Addr) : ∀ (l : List UInt8) (acc : ByteArray) (k : Nat), (∀ j (hj : j < l.length), cellAt (hp w) (a.add (k + j)) = some (bv l[j])) →
    (Extern.Bytes.loadBytes (a.add k) l.length acc).run P w = .ok ⟨(acc.data.toList ++ l).toArray⟩ w
  | [], acc, k, _ => by simp [Extern.Bytes.loadBytes]
  | x :: t, acc, k, h => by
    have h0 := h 0 (by simp)
    rw [Nat.add_zero] at h0
    rw [List.length_cons, Extern.Bytes.loadBytes]
    have ih := run_loadBytes (P := P) (w := w) a t (acc.push x) (k + 1) (fun j hj => by
      have := h (j + 1) (by simp; omega)
      rw [show k + (j + 1) = k + 1 + j by omega] at this
      simpa using this)
    have hx : (Int.toNat (x.toNat : Int)).toUInt8 = x := by simp
    have hadd : (a.add k).add 1 = a.add (k + 1) := add_add' a k 1
    have hl' : (load (a.add k)).run P w = .ok (.int .u8 (x.toNat : Int)) w := run_ld (P := P) rfl h0
    simp only [Sem.run_bind, hl', Result.andThen, hx, hadd, ih]
    simp
theorem IB_ok {S : Nat → Prop} {h : H} {v : Value} {l : List UInt8} (hb : By S h v l) : Ok Try.prog 37 #[v, .int .u8 0] h fun r h' => (∃ i : Int, r = .int .i64 i ∧ ((i = -1 ∧ ∀ x ∈ l, x ≠ 0) ∨ ∃ (n : Nat) (hn : n < l.length), i = n ∧ l[n] = 0 ∧ ∀ j (hj : j < n), l[j] ≠ 0)) ∧ h = h' := by
  refine c37_ok (args := [_, _]) (by simp) ?_
  simp (disch := omega) only [dm_t, wS, simprocAttr, IntKind.bits]
  refine xc_of (e := Extern.BytealgIndexByte.indexByte) Try.func68 (by kernel_rfl) (by kernel_rfl) (by kernel_rfl) (by kernel_rfl) fun w hw => ?_
  subst hw
  have hbytes : (Extern.Bytes.bytesOf v).run Try.prog w = .ok ⟨l.toArray⟩ w := by
    obtain ⟨hr, ⟨a, rfl, hnil⟩ | ⟨b, o, cp, c, E, fr, rfl, h2, h3, h4, h5, h6⟩⟩ := hb
    · have : l = [] := by cases l with
        | nil => rfl
        | cons x t => simp [one, bvs] at hnil
      subst this
      cases a <;> rfl
    · rw [flat_one] at h5
      rw [one_len, bvs_len]
      show (Extern.Bytes.loadBytes ⟨b, o, none⟩ l.length .empty).run Try.prog w = _
      have hk := run_loadBytes (P := Try.prog) (w := w) ⟨b, o, none⟩ l .empty 0 (fun j hj => by
        rw [Nat.zero_add, add_mk]
        have := h5.get (m := j) (by rw [bvs_len]; exact hj)
        rw [cellAt_of h2, this]
        simp [bvs])
      rw [add_zero] at hk
      exact hk
  obtain ⟨r, hr⟩ : ∃ r, (List.range l.length).find? (fun i => (⟨l.toArray⟩ : ByteArray)[i]! == (0 : UInt8)) = r := ⟨_, rfl⟩
  have hz : (Int.toNat 0).toUInt8 = (0 : UInt8) := rfl
  cases r with
  | none =>
    refine ⟨.int .i64 (-1), w, ?_, Kin.refl w, ?_⟩
    · have hsz : (⟨l.toArray⟩ : ByteArray).size = l.length := rfl
      show ((Extern.Bytes.bytesOf v >>= fun b => Extern.Bytes.asByte (.int .u8 0) >>= fun c => match (List.range b.size).find? (fun i => b[i]! == c) with | some i => pure (goInt i) | none => pure (goInt (-1))) : Sem Value).run Try.prog w = _
      have ha : (Extern.Bytes.asByte (.int .u8 0)).run Try.prog w = .ok (0 : UInt8) w := rfl
      simp only [Sem.run_bind, hbytes, Result.andThen, ha, hsz, hr]
      rfl
    · simp (disch := omega) only [dm_t, wS, simprocAttr, IntKind.bits]
      refine ⟨_, rfl, .inl ⟨rfl, fun x hx => ?_⟩⟩
      obtain ⟨j, hj, rfl⟩ := List.getElem_of_mem hx
      have := List.find?_eq_none.1 hr j (List.mem_range.2 hj)
      rw [get_bang l hj] at this
      simpa using this
  | some n =>
    refine ⟨.int .i64 n, w, ?_, Kin.refl w, ?_⟩
    · have hsz : (⟨l.toArray⟩ : ByteArray).size = l.length := rfl
      show ((Extern.Bytes.bytesOf v >>= fun b => Extern.Bytes.asByte (.int .u8 0) >>= fun c => match (List.range b.size).find? (fun i => b[i]! == c) with | some i => pure (goInt i) | none => pure (goInt (-1))) : Sem Value).run Try.prog w = _
      have ha : (Extern.Bytes.asByte (.int .u8 0)).run Try.prog w = .ok (0 : UInt8) w := rfl
      simp only [Sem.run_bind, hbytes, Result.andThen, ha, hsz, hr]
      rfl
    · simp (disch := omega) only [dm_t, wS, simprocAttr, IntKind.bits]
      obtain ⟨h1, h2⟩ := List.find?_eq_some_iff_getElem.1 hr
      obtain ⟨j, hj, hjn, h3⟩ := h2
      rw [List.getElem_range] at hjn
      subst hjn
      rw [List.length_range] at hj
      refine ⟨_, rfl, .inr ⟨j, hj, rfl, ?_, fun k hk => ?_⟩⟩
      · rw [get_bang l hj] at h1
        simpa using h1
      · have := h3 k hk
        rw [List.getElem_range, get_bang l (by omega)] at this
        simpa using this
end Go.Proofs.Ythhofmjhnjkcfaa.gr
