/-
  proto: records: may they be; compared; copied.
-/
import Derived.Test.YtfeaaliocdkonaaK22
import Derived.Test.YtfeaaliocdkonaaC1
import Derived.Test.YtfeaaliocdkonaaKE
namespace Go.Proofs.Ytfeaaliocdkonaa.rr
open Go.Proofs.Ytfeaaliocdkonaa
set_option linter.unusedVariables false
set_option linter.unusedSimpArgs false
def may (r : rc.D) : Bool := decide (0 ≤ r.1) && (decide (r.1 ≤ 9007199254740992) && (decide (r.2.1.length ≤ 256) && decide (r.2.2.length ≤ 4096)))
theorem may_t {r : rc.D} (h : may r = true) : @LE.le Int _ 0 r.1 ∧ @LE.le Int _ r.1 9007199254740992 ∧ r.2.1.length ≤ 256 ∧ r.2.2.length ≤ 4096 := by
  simp only [may, Bool.and_eq_true, decide_eq_true_eq] at h
  exact h
theorem May_ok {S : Nat → Prop} {h : H} {cs : List Value} {x : rc.D} (hx : Rep S rc h cs x) : Ok Try.prog 73 #[.agg cs.toArray] h fun v h' => v = .bool (may x) ∧ Ext h h' := by
  obtain ⟨ka, kc, va, vc, rfl, hbd, hk, hv⟩ := rc_len hx
  refine c73_ok (args := [_]) (by simp) ?_
  simp (disch := omega) only [dm_t, wS, simprocAttr, IntKind.bits]
  intro b hb
  by_cases c1 : 0 ≤ x.1 <;> by_cases c2 : x.1 ≤ 9007199254740992 <;> by_cases c3 : x.2.1.length ≤ 256 <;> by_cases c4 : x.2.2.length ≤ 4096 <;>
    (simp (disch := omega) only [dm_t, wS, simprocAttr, IntKind.bits, cellAt_same]; exact ⟨by simp [may, c1, c2, c3, c4], Ext.new hb _⟩)
theorem DMay_ok {S : Nat → Prop} {h : H} {cs : List Value} {x : rc.D} (hx : Rep S rc h cs x) : Ok Try.prog 72 #[.agg cs.toArray] h fun v h' => v = .bool (may x) ∧ Ext h h' := by
  obtain ⟨ka, kc, va, vc, rfl, hbd, hk, hv⟩ := rc_len hx
  refine c72_ok (args := [_]) (by simp) ?_
  simp (disch := omega) only [dm_t, wS, simprocAttr, IntKind.bits]
  intro b hb
  by_cases c1 : 0 ≤ x.1 <;> by_cases c2 : x.1 ≤ 9007199254740992 <;> by_cases c3 : x.2.1.length ≤ 256 <;> by_cases c4 : x.2.2.length ≤ 4096 <;>
    (simp (disch := omega) only [dm_t, wS, simprocAttr, IntKind.bits, cellAt_same]; exact ⟨by simp [may, c1, c2, c3, c4], Ext.new hb _⟩)
theorem rec_at {S : Nat → Prop} {h : H} {a : Option Addr} {n c : Nat} {l : List rc.D} (r : RepL S rc h (.slice a n c) l) {i : Nat} (hi : i < l.length) :
    ∃ b o k v, idxV1 3 (.slice a n c) (.int .i64 (i : Int)) = some (.pointer (some ⟨b, o, none⟩)) ∧ cellAt h ⟨b, o, none⟩ = some (.int .i64 (l[i]).1) ∧ cellAt h ⟨b, o + 1, none⟩ = some k ∧ cellAt h ⟨b, o + 2, none⟩ = some v ∧ By S h k (l[i]).2.1 ∧ By S h v (l[i]).2.2 := by
  obtain ⟨b, o, cs, gi, _, g2, g3⟩ := r.load hi .i64 3 sz_rc
  obtain ⟨k, v, rfl, _, hk, hv⟩ := rep_rc.1 g3
  exact ⟨b, o, k, v, gi, g2 0 (by omega), g2 1 (by omega), g2 2 (by omega), hk, hv⟩
theorem rec_bd {S : Nat → Prop} {h : H} {v : Value} {l : List rc.D} (r : RepL S rc h v l) {i : Nat} (hi : i < l.length) : -9223372036854775808 ≤ (l[i]).1 ∧ (l[i]).1 ≤ 9223372036854775807 := by
  obtain ⟨b, o, cs, gi, _, g2, g3⟩ := r.load hi .i64 3 sz_rc
  obtain ⟨k, v, _, h, _⟩ := rep_rc.1 g3
  exact h
theorem hasAt {a : Addr} {n c x : Nat} (h : isAt (.slice (some a) n c) x) : x = a.block := by
  obtain ⟨o, n', c', h⟩ := h
  simp only [Value.slice.injEq, Option.some.injEq] at h
  rw [h.1]
theorem RCopy_ok {S : Nat → Prop} {h : H} {s : Value} {l : List rc.D} (hs : RepL S rc h s l) (hl : l.length ≤ 1000000) (hk : ∀ x ∈ l, x.2.1.length ≤ 140737488355328 ∧ x.2.2.length ≤ 140737488355328) :
    Ok Try.prog 11 #[s] h fun v h' => OwQ (WRow 5 fun y => h y = none) (fun y => h y ≠ none) rc (fun y => h y = none) h' 32 v l ∧ Ext h h' := by
  obtain ⟨sa, sc, rfl⟩ := hs.len
  refine c11_ok (args := [_]) (by simp) ?_
  simp (disch := omega) only [dm_t, wS, simprocAttr, IntKind.bits]
  refine vc_loop2 (fun vo vi h' => ∃ i : Nat, vi = .int .i64 (i : Int) ∧ i ≤ l.length ∧ OwQ (WRow 5 fun y => h y = none) (fun y => h y ≠ none) rc (fun y => h y = none) h' 32 vo (l.take i) ∧ Ext h h') (fun _ vi _ => l.length - m1 vi) ?_ ?_
  · simp (disch := omega) only [dm_t, wS, simprocAttr, IntKind.bits]
    exact ⟨0, rfl, by omega, OwQ.nil, Ext.refl h⟩
  rintro vo _ g ⟨i, rfl, hi, ho, e1⟩
  by_cases hil : i < l.length
  · have hsplit : l.take (i + 1) = l.take i ++ [l[i]] := by simp
    have hlt : (l.take i).length = i := by rw [List.length_take]; omega
    have hki := hk l[i] (List.getElem_mem hil)
    have hbd := rec_bd (hs.ext e1) hil
    obtain ⟨pb, po, k, v, gi, t1, x1, y1, hk1, hv1⟩ := rec_at (hs.ext e1) hil
    simp (disch := omega) only [dm_t, wS, simprocAttr, IntKind.bits, gi, t1, x1, y1]
    refine ⟨?_, ?_⟩
    · intro c1 hc1
      have e2 : Ext g _ := Ext.new hc1 (.cells #[] 5)
      simp (disch := omega) only [dm_t, wS, simprocAttr, IntKind.bits, gi, cellAt_ext (e2) t1, cellAt_ext (e2) x1, cellAt_ext (e2) y1]
      refine ⟨?_, ?_⟩
      · refine appB (O := fun y => g y = none) (xs := []) (olit1 (xs := []) rfl hc1) (fun y hy => (Ext.new hc1 _).bk hy) (hk1.ext (Ext.new hc1 _)) (by simp; omega) ?_
        intro w1 G1 o1 f1
        have eG1 : Ext g G1 := Ext.step (Ext.new hc1 _) f1
        simp (disch := omega) only [dm_t, wS, simprocAttr, IntKind.bits, cellAt_ext (eG1) t1, cellAt_ext (eG1) x1, cellAt_ext (eG1) y1]
        intro c2 hc2
        have e2 : Ext g _ := eG1.trans (Ext.new hc2 (.cells #[] 5))
        simp (disch := omega) only [dm_t, wS, simprocAttr, IntKind.bits, cellAt_ext (e2) t1, cellAt_ext (e2) x1, cellAt_ext (e2) y1]
        refine appB (O := fun y => G1 y = none) (xs := []) (olit1 (xs := []) rfl hc2) (fun y hy => (Ext.new hc2 _).bk hy) (hv1.ext e2) (by simp; omega) ?_
        intro w2 G2 o2f f2
        have eG : Ext g G2 := Ext.step' e2 f2 fun x hx => eG1.bk hx.1
        have o1f := (OwK.ext o1 (Ext.new hc2 (.cells #[] 5))).fr f2 fun x hx _ hx' => OwK.there o1 hx' hx.1
        have k1 : ∀ x, g x = none → g x = none := fun _ h => h
        have k2 : ∀ x, G1 x = none → g x = none := fun x hx => eG1.bk hx
        have b1 : By (fun y => isAt vo y ∨ h y ≠ none) G2 w1 (l[i]).2.1 := OwK.sl o1f fun x hx hy => hy.elim (fun hy => ho.l.there hy (k1 x hx)) fun hy => hy (e1.bk (k1 x hx))
        have b2 : By (fun y => isAt vo y ∨ h y ≠ none) G2 w2 (l[i]).2.2 := OwK.sl o2f fun x hx hy => hy.elim (fun hy => ho.l.there hy (k2 x hx)) fun hy => hy (e1.bk (k2 x hx))
        obtain ⟨wa1, wc1, rfl⟩ := By.len b1
        obtain ⟨wa2, wc2, rfl⟩ := By.len b2
        simp (disch := omega) only [dm_t, wS, simprocAttr, IntKind.bits, cellAt_ext eG t1, cellAt_ext eG x1, cellAt_ext eG y1]
        intro b3 hb3
        have eb := eG.trans (Ext.new hb3 (.cells #[.int .i64 (l[i]).1, .slice wa1 (l[i]).2.1.length wc1, .slice wa2 (l[i]).2.2.length wc2] 32))
        simp (disch := omega) only [dm_t, wS, simprocAttr, IntKind.bits, cellAt_ext eb t1, cellAt_ext eb x1, cellAt_ext eb y1]
        refine OwQ.push (V := fun _ => _) (x := l[i]) 3 sz_rc (ho.ext eG fun r hr => hr.ext eG) (fun y hy => (e1.trans eG).bk hy) (rep_rc.2 ⟨_, _, rfl, hbd, b1, b2⟩) (by rfl) (by rw [hlt]; omega) (by rw [hlt]; omega) ⟨_, _, _, _, _, rfl, OwK.mono o1f fun x _ _ hx => e1.bk (k1 x hx), OwK.mono o2f fun x _ _ hx => e1.bk (k2 x hx), hki⟩ (fun h' rows so f r hr => hr.fr (by decide) so f fun x hx => hx.2) ?_ b3 hb3
        intro _ s' G3 _ o3 f3
        simp (disch := omega) only [dm_t, wS, simprocAttr, IntKind.bits]
        refine ⟨⟨i + 1, by simp, by omega, by rw [hsplit]; exact o3, Ext.step (e1.trans eG) f3⟩, by simp [m1]; omega⟩
      · intro c2 hc2
        have hcc : c1 ≠ c2 := fun h => by subst h; rw [hupd_same] at hc2; cases hc2
        have hg1 := hc1
        have hg2 : g c2 = none := by rwa [hupd_ne _ _ hcc.symm] at hc2
        have e2 : Ext g _ := (Ext.new hc1 (.cells #[] 5)).trans (Ext.new hc2 (.cells #[] 5))
        have s1 : OwB (fun y => g y = none ∧ y ≠ c2) _ 5 (.slice (some ⟨c1, 0, none⟩) 0 0) [] := (olit1 (h := g) (O := fun y => g y = none ∧ y ≠ c2) (xs := []) rfl ⟨hg1, hcc⟩).ext (Ext.new hc2 (.cells #[] 5))
        have s2 : OwB (fun y => y = c2) _ 5 (.slice (some ⟨c2, 0, none⟩) 0 0) [] := olit1 (h := hupd g c1 (.cells #[] 5)) (O := fun y => y = c2) (xs := []) rfl rfl
        have hH : ∀ y, hupd (hupd g c1 (.cells #[] 5)) c2 (.cells #[] 5) y = none → g y = none ∧ y ≠ c2 := fun y hy => ⟨e2.bk hy, fun h => by subst h; rw [hupd_same] at hy; cases hy⟩
        simp (disch := omega) only [dm_t, wS, simprocAttr, IntKind.bits, cellAt_ext (e2) t1, cellAt_ext (e2) x1, cellAt_ext (e2) y1]
        refine appB s1 hH (hk1.ext e2) (by simp; omega) ?_
        intro w1 G1 o1 f1
        have eG1 : Ext g G1 := Ext.step' e2 f1 fun x hx => hx.1.1
        simp (disch := omega) only [dm_t, wS, simprocAttr, IntKind.bits, cellAt_ext (eG1) t1, cellAt_ext (eG1) x1, cellAt_ext (eG1) y1]
        have s3 : OwB (fun y => y = c2 ∨ G1 y = none) G1 5 (.slice (some ⟨c2, 0, none⟩) 0 0) [] := (s2.fr f1 fun x hx hx' => absurd hx' hx.1.2).mono fun x _ _ hx => .inl hx
        refine appB s3 (fun y hy => .inr hy) (hv1.ext eG1) (by simp; omega) ?_
        intro w2 G2 o2f f2
        have k2 : ∀ x, x = c2 ∨ G1 x = none → g x = none := fun x hx => hx.elim (fun hx => by rw [hx]; exact hg2) fun hx => eG1.bk hx
        have eG : Ext g G2 := Ext.step' eG1 f2 fun x hx => k2 x hx.1
        have o1f := OwK.fr o1 f2 fun x hx hx' _ => absurd (hasAt hx.2) hx'.2
        have k1 : ∀ x, g x = none ∧ x ≠ c2 → g x = none := fun _ h => h.1
        have b1 : By (fun y => isAt vo y ∨ h y ≠ none) G2 w1 (l[i]).2.1 := OwK.sl o1f fun x hx hy => hy.elim (fun hy => ho.l.there hy (k1 x hx)) fun hy => hy (e1.bk (k1 x hx))
        have b2 : By (fun y => isAt vo y ∨ h y ≠ none) G2 w2 (l[i]).2.2 := OwK.sl o2f fun x hx hy => hy.elim (fun hy => ho.l.there hy (k2 x hx)) fun hy => hy (e1.bk (k2 x hx))
        obtain ⟨wa1, wc1, rfl⟩ := By.len b1
        obtain ⟨wa2, wc2, rfl⟩ := By.len b2
        simp (disch := omega) only [dm_t, wS, simprocAttr, IntKind.bits, cellAt_ext eG t1, cellAt_ext eG x1, cellAt_ext eG y1]
        intro b3 hb3
        have eb := eG.trans (Ext.new hb3 (.cells #[.int .i64 (l[i]).1, .slice wa1 (l[i]).2.1.length wc1, .slice wa2 (l[i]).2.2.length wc2] 32))
        simp (disch := omega) only [dm_t, wS, simprocAttr, IntKind.bits, cellAt_ext eb t1, cellAt_ext eb x1, cellAt_ext eb y1]
        refine OwQ.push (V := fun _ => _) (x := l[i]) 3 sz_rc (ho.ext eG fun r hr => hr.ext eG) (fun y hy => (e1.trans eG).bk hy) (rep_rc.2 ⟨_, _, rfl, hbd, b1, b2⟩) (by rfl) (by rw [hlt]; omega) (by rw [hlt]; omega) ⟨_, _, _, _, _, rfl, OwK.mono o1f fun x _ _ hx => e1.bk (k1 x hx), OwK.mono o2f fun x _ _ hx => e1.bk (k2 x hx), hki⟩ (fun h' rows so f r hr => hr.fr (by decide) so f fun x hx => hx.2) ?_ b3 hb3
        intro _ s' G3 _ o3 f3
        simp (disch := omega) only [dm_t, wS, simprocAttr, IntKind.bits]
        refine ⟨⟨i + 1, by simp, by omega, by rw [hsplit]; exact o3, Ext.step (e1.trans eG) f3⟩, by simp [m1]; omega⟩
    · intro c2 hc2
      have e2 : Ext g _ := Ext.new hc2 (.cells #[] 5)
      simp (disch := omega) only [dm_t, wS, simprocAttr, IntKind.bits, gi, cellAt_ext (e2) t1, cellAt_ext (e2) x1, cellAt_ext (e2) y1]
      intro c1 hc1
      have hcc : c1 ≠ c2 := fun h => by subst h; rw [hupd_same] at hc1; cases hc1
      have hg2 := hc2
      have hg1 : g c1 = none := by rwa [hupd_ne _ _ hcc] at hc1
      have e2 : Ext g _ := (Ext.new hc2 (.cells #[] 5)).trans (Ext.new hc1 (.cells #[] 5))
      have s1 : OwB (fun y => g y = none ∧ y ≠ c2) _ 5 (.slice (some ⟨c1, 0, none⟩) 0 0) [] := olit1 (h := hupd g c2 (.cells #[] 5)) (O := fun y => g y = none ∧ y ≠ c2) (xs := []) rfl ⟨hg1, hcc⟩
      have s2 : OwB (fun y => y = c2) _ 5 (.slice (some ⟨c2, 0, none⟩) 0 0) [] := (olit1 (h := g) (O := fun y => y = c2) (xs := []) rfl rfl).ext (Ext.new hc1 (.cells #[] 5))
      have hH : ∀ y, hupd (hupd g c2 (.cells #[] 5)) c1 (.cells #[] 5) y = none → g y = none ∧ y ≠ c2 := fun y hy => ⟨e2.bk hy, fun h => by subst h; rw [hupd_ne _ _ hcc.symm, hupd_same] at hy; cases hy⟩
      simp (disch := omega) only [dm_t, wS, simprocAttr, IntKind.bits, cellAt_ext (e2) t1, cellAt_ext (e2) x1, cellAt_ext (e2) y1]
      refine appB s1 hH (hk1.ext e2) (by simp; omega) ?_
      intro w1 G1 o1 f1
      have eG1 : Ext g G1 := Ext.step' e2 f1 fun x hx => hx.1.1
      simp (disch := omega) only [dm_t, wS, simprocAttr, IntKind.bits, cellAt_ext (eG1) t1, cellAt_ext (eG1) x1, cellAt_ext (eG1) y1]
      have s3 : OwB (fun y => y = c2 ∨ G1 y = none) G1 5 (.slice (some ⟨c2, 0, none⟩) 0 0) [] := (s2.fr f1 fun x hx hx' => absurd hx' hx.1.2).mono fun x _ _ hx => .inl hx
      refine appB s3 (fun y hy => .inr hy) (hv1.ext eG1) (by simp; omega) ?_
      intro w2 G2 o2f f2
      have k2 : ∀ x, x = c2 ∨ G1 x = none → g x = none := fun x hx => hx.elim (fun hx => by rw [hx]; exact hg2) fun hx => eG1.bk hx
      have eG : Ext g G2 := Ext.step' eG1 f2 fun x hx => k2 x hx.1
      have o1f := OwK.fr o1 f2 fun x hx hx' _ => absurd (hasAt hx.2) hx'.2
      have k1 : ∀ x, g x = none ∧ x ≠ c2 → g x = none := fun _ h => h.1
      have b1 : By (fun y => isAt vo y ∨ h y ≠ none) G2 w1 (l[i]).2.1 := OwK.sl o1f fun x hx hy => hy.elim (fun hy => ho.l.there hy (k1 x hx)) fun hy => hy (e1.bk (k1 x hx))
      have b2 : By (fun y => isAt vo y ∨ h y ≠ none) G2 w2 (l[i]).2.2 := OwK.sl o2f fun x hx hy => hy.elim (fun hy => ho.l.there hy (k2 x hx)) fun hy => hy (e1.bk (k2 x hx))
      obtain ⟨wa1, wc1, rfl⟩ := By.len b1
      obtain ⟨wa2, wc2, rfl⟩ := By.len b2
      simp (disch := omega) only [dm_t, wS, simprocAttr, IntKind.bits, cellAt_ext eG t1, cellAt_ext eG x1, cellAt_ext eG y1]
      intro b3 hb3
      have eb := eG.trans (Ext.new hb3 (.cells #[.int .i64 (l[i]).1, .slice wa1 (l[i]).2.1.length wc1, .slice wa2 (l[i]).2.2.length wc2] 32))
      simp (disch := omega) only [dm_t, wS, simprocAttr, IntKind.bits, cellAt_ext eb t1, cellAt_ext eb x1, cellAt_ext eb y1]
      refine OwQ.push (V := fun _ => _) (x := l[i]) 3 sz_rc (ho.ext eG fun r hr => hr.ext eG) (fun y hy => (e1.trans eG).bk hy) (rep_rc.2 ⟨_, _, rfl, hbd, b1, b2⟩) (by rfl) (by rw [hlt]; omega) (by rw [hlt]; omega) ⟨_, _, _, _, _, rfl, OwK.mono o1f fun x _ _ hx => e1.bk (k1 x hx), OwK.mono o2f fun x _ _ hx => e1.bk (k2 x hx), hki⟩ (fun h' rows so f r hr => hr.fr (by decide) so f fun x hx => hx.2) ?_ b3 hb3
      intro _ s' G3 _ o3 f3
      simp (disch := omega) only [dm_t, wS, simprocAttr, IntKind.bits]
      refine ⟨⟨i + 1, by simp, by omega, by rw [hsplit]; exact o3, Ext.step (e1.trans eG) f3⟩, by simp [m1]; omega⟩
  · obtain rfl : i = l.length := by omega
    rw [List.take_length] at ho
    simp (disch := omega) only [dm_t, wS, simprocAttr, IntKind.bits]
    exact ⟨ho, e1⟩
theorem BEq_ok {S T : Nat → Prop} {h : H} {a b : Value} {l m : List UInt8} (ha : By S h a l) (hb : By T h b m) : Ok Try.prog 85 #[a, b] h fun v h' => v = .bool (decide (l = m)) ∧ h = h' := by
  refine c85_ok (args := [_, _]) (by simp) ?_
  simp (disch := omega) only [dm_t, wS, simprocAttr, IntKind.bits]
  refine cvbs_of ha ?_
  simp (disch := omega) only [dm_t, wS, simprocAttr, IntKind.bits]
  refine cvbs_of hb ?_
  by_cases hlm : l = m
  · simp (disch := omega) only [dm_t, wS, simprocAttr, IntKind.bits, toList_mk, hlm]
  · simp (disch := omega) only [dm_t, wS, simprocAttr, IntKind.bits, toList_mk, hlm]
theorem Same1_ok {S T : Nat → Prop} {h : H} {cs ds : List Value} {x y : rc.D} (hx : Rep S rc h cs x) (hy : Rep T rc h ds y) : Ok Try.prog 75 #[.agg cs.toArray, .agg ds.toArray] h fun v h' => v = .bool (decide (x = y)) ∧ Ext h h' := by
  obtain ⟨k, v, rfl, hbd, hk, hv⟩ := rep_rc.1 hx
  obtain ⟨k', v', rfl, hbd', hk', hv'⟩ := rep_rc.1 hy
  refine c75_ok (args := [_, _]) (by simp) ?_
  simp (disch := omega) only [dm_t, wS, simprocAttr, IntKind.bits]
  intro b hb d hd
  generalize hG : hupd h b _ = g1 at hd ⊢
  obtain ⟨e1, qb⟩ := new_ext hG hb
  clear hG
  generalize hG : hupd g1 d _ = g2
  obtain ⟨e2, qd⟩ := new_ext hG hd
  clear hG
  have E := e1.trans e2
  replace qb := e2.at qb
  have b0 : cellAt g2 ⟨b, 0, none⟩ = some (.int .i64 x.1) := by rw [cellAt_of qb]; rfl
  have b1 : cellAt g2 ⟨b, 1, none⟩ = some k := by rw [cellAt_of qb]; rfl
  have b2 : cellAt g2 ⟨b, 2, none⟩ = some v := by rw [cellAt_of qb]; rfl
  have d0 : cellAt g2 ⟨d, 0, none⟩ = some (.int .i64 y.1) := by rw [cellAt_of qd]; rfl
  have d1 : cellAt g2 ⟨d, 1, none⟩ = some k' := by rw [cellAt_of qd]; rfl
  have d2 : cellAt g2 ⟨d, 2, none⟩ = some v' := by rw [cellAt_of qd]; rfl
  by_cases h1 : x.1 = y.1
  · simp (disch := omega) only [dm_t, wS, simprocAttr, IntKind.bits, b0, b1, b2, d0, d1, d2]
    refine (BEq_ok (hk.ext E) (hk'.ext E)).k ?_
    rintro _ _ ⟨rfl, rfl⟩
    by_cases h2 : x.2.1 = y.2.1
    · simp (disch := omega) only [dm_t, wS, simprocAttr, IntKind.bits, b0, b1, b2, d0, d1, d2, h2]
      refine (BEq_ok (hv.ext E) (hv'.ext E)).k ?_
      rintro _ _ ⟨rfl, rfl⟩
      simp (disch := omega) only [dm_t, wS, simprocAttr, IntKind.bits]
      refine ⟨?_, E⟩
      congr 1
      exact decide_eq_decide.2 ⟨fun h3 => Prod.ext h1 (Prod.ext h2 h3), fun h => by rw [h]⟩
    · simp (disch := omega) only [dm_t, wS, simprocAttr, IntKind.bits, b0, b1, b2, d0, d1, d2, h2]
      refine ⟨?_, E⟩
      have : ¬ x = y := fun h => h2 (by rw [h])
      simp [this]
  · simp (disch := omega) only [dm_t, wS, simprocAttr, IntKind.bits, b0, b1, b2, d0, d1, d2]
    refine ⟨?_, E⟩
    have : ¬ x = y := fun h => h1 (by rw [h])
    simp [this]
theorem take_ne {α : Type} {l m : List α} {i : Nat} (hl : i < l.length) (hm : i < m.length) (hn : ¬ l[i] = m[i]) : ¬ l = m := by
  rintro rfl; exact hn rfl
theorem take_step {α : Type} {l m : List α} {i : Nat} (hl : i < l.length) (hm : i < m.length) (h : l.take i = m.take i) (hn : l[i] = m[i]) : l.take (i + 1) = m.take (i + 1) := by
  rw [show l.take (i + 1) = l.take i ++ [l[i]] by simp, show m.take (i + 1) = m.take i ++ [m[i]] by simp, h, hn]
theorem EqF_ok {S T : Nat → Prop} {h : H} {a b : Value} {l m : List rc.D} (ha : RepL S rc h a l) (hb : RepL T rc h b m) (hl : l.length ≤ 4611686018427387904) :
    Ok Try.prog 74 #[a, b, .func (.func 75) #[] #[]] h fun v h' => v = .bool (decide (l = m)) ∧ Ext h h' := by
  obtain ⟨aa, ac, rfl⟩ := ha.len
  obtain ⟨ba, bc, rfl⟩ := hb.len
  refine c74_ok (args := [_, _, _]) (by simp) ?_
  by_cases hlm : l.length = m.length
  · simp (disch := omega) only [dm_t, wS, simprocAttr, IntKind.bits]
    refine vc_loop1 (fun vi h' => ∃ i : Nat, vi = .int .i64 (i : Int) ∧ i ≤ l.length ∧ l.take i = m.take i ∧ Ext h h') (fun vi _ => l.length - m1 vi) ?_ ?_
    · simp (disch := omega) only [dm_t, wS, simprocAttr, IntKind.bits]
      exact ⟨0, rfl, by omega, by simp, Ext.refl h⟩
    rintro _ g ⟨i, rfl, hi, heq, e0⟩
    by_cases hil : i < l.length
    · have him : i < m.length := by omega
      simp (disch := omega) only [dm_t, wS, simprocAttr, IntKind.bits]
      refine (ha.ext e0).at sz_rc i rfl hil ?_
      intro pb po cs g1 g2 g3
      simp (disch := omega) only [dm_t, wS, simprocAttr, IntKind.bits, g1]
      intro v1 hv1
      simp (disch := omega) only [dm_t, wS, simprocAttr, IntKind.bits]
      refine stn_new (g3.len.trans sz_rc) (by rfl) g3.cells ?_
      generalize hG : hupd g v1 _ = G1
      obtain ⟨e1, q1⟩ := new_ext hG hv1
      clear hG
      have E1 := e0.trans e1
      simp (disch := omega) only [dm_t, wS, simprocAttr, IntKind.bits]
      refine (hb.ext E1).at sz_rc i rfl him ?_
      intro pb' po' ds g1' g2' g3'
      simp (disch := omega) only [dm_t, wS, simprocAttr, IntKind.bits, g1']
      intro v2 hv2
      simp (disch := omega) only [dm_t, wS, simprocAttr, IntKind.bits]
      refine stn_new (g3'.len.trans sz_rc) (by rfl) g3'.cells ?_
      generalize hG : hupd G1 v2 _ = G2
      obtain ⟨e2, q2⟩ := new_ext hG hv2
      clear hG
      have E2 := E1.trans e2
      have l1 : cellsAt G2 ⟨v1, 0, none⟩ 3 = some cs.toArray := cellsAt_all (e2.at q1) 3 (g3.len.trans sz_rc)
      have l2 : cellsAt G2 ⟨v2, 0, none⟩ 3 = some ds.toArray := cellsAt_all q2 3 (g3'.len.trans sz_rc)
      simp (disch := omega) only [dm_t, wS, simprocAttr, IntKind.bits, l1, l2]
      refine ⟨by rfl, (Same1_ok ((g3.ext e1).ext e2) (g3'.ext e2)).k ?_⟩
      rintro _ G3 ⟨rfl, e3⟩
      have E3 := E2.trans e3
      by_cases hx : l[i] = m[i]
      · simp (disch := omega) only [dm_t, wS, simprocAttr, IntKind.bits, hx]
        exact ⟨⟨i + 1, by simp, by omega, take_step hil him heq hx, E3⟩, by simp [m1]; omega⟩
      · simp (disch := omega) only [dm_t, wS, simprocAttr, IntKind.bits, hx]
        exact ⟨by simp [take_ne hil him hx], E3⟩
    · obtain rfl : i = l.length := by omega
      rw [List.take_length, List.take_of_length_le (by omega)] at heq
      simp (disch := omega) only [dm_t, wS, simprocAttr, IntKind.bits, heq]
      exact e0
  · simp (disch := omega) only [dm_t, wS, simprocAttr, IntKind.bits]
    have : ¬ l = m := fun h0 => hlm (by rw [h0])
    exact ⟨by simp [this], Ext.refl h⟩
theorem SameAll_ok {S T : Nat → Prop} {h : H} {a b : Value} {l m : List rc.D} (ha : RepL S rc h a l) (hb : RepL T rc h b m) (hl : l.length ≤ 4611686018427387904) : Ok Try.prog 46 #[a, b] h fun v h' => v = .bool (decide (l = m)) ∧ Ext h h' := by
  refine c46_ok (args := [_, _]) (by simp) ?_
  simp (disch := omega) only [dm_t, wS, simprocAttr, IntKind.bits]
  refine (EqF_ok ha hb hl).k ?_
  rintro _ h' ⟨rfl, e⟩
  simp (disch := omega) only [dm_t, wS, simprocAttr, IntKind.bits]
  exact e
theorem RSame_ok {S T : Nat → Prop} {h : H} {a b : Value} {l m : List rc.D} (ha : RepL S rc h a l) (hb : RepL T rc h b m) (hl : l.length ≤ 4611686018427387904) : Ok Try.prog 47 #[a, b] h fun v h' => v = .bool (decide (l = m)) ∧ h = h' := by
  obtain ⟨aa, ac, rfl⟩ := ha.len
  obtain ⟨ba, bc, rfl⟩ := hb.len
  refine c47_ok (args := [_, _]) (by simp) ?_
  by_cases hlm : l.length = m.length
  · simp (disch := omega) only [dm_t, wS, simprocAttr, IntKind.bits]
    refine vc_loop1 (fun vi h' => h' = h ∧ ∃ i : Nat, vi = .int .i64 (i : Int) ∧ i ≤ l.length ∧ l.take i = m.take i) (fun vi _ => l.length - m1 vi) ?_ ?_
    · simp (disch := omega) only [dm_t, wS, simprocAttr, IntKind.bits]
      exact ⟨0, rfl, by omega, by simp⟩
    rintro _ h' ⟨rfl, i, rfl, hi, heq⟩
    by_cases hil : i < l.length
    · have him : i < m.length := by omega
      obtain ⟨b1, o1, k1, v1, i1, t1, x1, y1, hk1, hv1⟩ := rec_at ha hil
      obtain ⟨b2, o2, k2, v2, i2, t2, x2, y2, hk2, hv2⟩ := rec_at hb him
      have hne : ¬ l[i] = m[i] → Value.bool false = .bool (decide (l = m)) := by
        intro hn
        simp only [Value.bool.injEq]
        symm
        rw [decide_eq_false_iff_not]
        intro h0; subst h0; exact hn rfl
      have hyes : l[i] = m[i] → l.take (i + 1) = m.take (i + 1) := by
        intro hv
        rw [show l.take (i + 1) = l.take i ++ [l[i]] by simp, show m.take (i + 1) = m.take i ++ [m[i]] by simp, heq, hv]
      by_cases ht : (l[i]).1 = (m[i]).1
      · simp (disch := omega) only [dm_t, wS, simprocAttr, IntKind.bits, i1, t1, x1, y1, i2, t2, x2, y2]
        refine ⟨?_, ?_⟩
        · refine cvbs_of hk1 ?_
          simp (disch := omega) only [dm_t, wS, simprocAttr, IntKind.bits, i1, t1, x1, y1, i2, t2, x2, y2, toList_mk]
          refine cvbs_of hk2 ?_
          by_cases hk : (l[i]).2.1 = (m[i]).2.1
          · simp (disch := omega) only [dm_t, wS, simprocAttr, IntKind.bits, i1, t1, x1, y1, i2, t2, x2, y2, toList_mk, hk]
            refine ⟨?_, ?_⟩
            · refine cvbs_of hv1 ?_
              simp (disch := omega) only [dm_t, wS, simprocAttr, IntKind.bits, i1, t1, x1, y1, i2, t2, x2, y2, toList_mk]
              refine cvbs_of hv2 ?_
              by_cases hv : (l[i]).2.2 = (m[i]).2.2
              · simp (disch := omega) only [dm_t, wS, simprocAttr, IntKind.bits, i1, t1, x1, y1, i2, t2, x2, y2, toList_mk, hv]
                exact ⟨⟨i + 1, by simp, by omega, hyes (Prod.ext ht (Prod.ext hk hv))⟩, by simp [m1]; omega⟩
              · simp (disch := omega) only [dm_t, wS, simprocAttr, IntKind.bits, i1, t1, x1, y1, i2, t2, x2, y2, toList_mk, hv]
                exact hne fun h => hv (by rw [h])
            · refine cvbs_of hv2 ?_
              simp (disch := omega) only [dm_t, wS, simprocAttr, IntKind.bits, i1, t1, x1, y1, i2, t2, x2, y2, toList_mk]
              refine cvbs_of hv1 ?_
              by_cases hv : (l[i]).2.2 = (m[i]).2.2
              · simp (disch := omega) only [dm_t, wS, simprocAttr, IntKind.bits, i1, t1, x1, y1, i2, t2, x2, y2, toList_mk, hv]
                exact ⟨⟨i + 1, by simp, by omega, hyes (Prod.ext ht (Prod.ext hk hv))⟩, by simp [m1]; omega⟩
              · simp (disch := omega) only [dm_t, wS, simprocAttr, IntKind.bits, i1, t1, x1, y1, i2, t2, x2, y2, toList_mk, hv]
                exact hne fun h => hv (by rw [h])
          · simp (disch := omega) only [dm_t, wS, simprocAttr, IntKind.bits, i1, t1, x1, y1, i2, t2, x2, y2, toList_mk, hk]
            exact hne fun h => hk (by rw [h])
        · refine cvbs_of hk2 ?_
          simp (disch := omega) only [dm_t, wS, simprocAttr, IntKind.bits, i1, t1, x1, y1, i2, t2, x2, y2, toList_mk]
          refine cvbs_of hk1 ?_
          by_cases hk : (l[i]).2.1 = (m[i]).2.1
          · simp (disch := omega) only [dm_t, wS, simprocAttr, IntKind.bits, i1, t1, x1, y1, i2, t2, x2, y2, toList_mk, hk]
            refine ⟨?_, ?_⟩
            · refine cvbs_of hv1 ?_
              simp (disch := omega) only [dm_t, wS, simprocAttr, IntKind.bits, i1, t1, x1, y1, i2, t2, x2, y2, toList_mk]
              refine cvbs_of hv2 ?_
              by_cases hv : (l[i]).2.2 = (m[i]).2.2
              · simp (disch := omega) only [dm_t, wS, simprocAttr, IntKind.bits, i1, t1, x1, y1, i2, t2, x2, y2, toList_mk, hv]
                exact ⟨⟨i + 1, by simp, by omega, hyes (Prod.ext ht (Prod.ext hk hv))⟩, by simp [m1]; omega⟩
              · simp (disch := omega) only [dm_t, wS, simprocAttr, IntKind.bits, i1, t1, x1, y1, i2, t2, x2, y2, toList_mk, hv]
                exact hne fun h => hv (by rw [h])
            · refine cvbs_of hv2 ?_
              simp (disch := omega) only [dm_t, wS, simprocAttr, IntKind.bits, i1, t1, x1, y1, i2, t2, x2, y2, toList_mk]
              refine cvbs_of hv1 ?_
              by_cases hv : (l[i]).2.2 = (m[i]).2.2
              · simp (disch := omega) only [dm_t, wS, simprocAttr, IntKind.bits, i1, t1, x1, y1, i2, t2, x2, y2, toList_mk, hv]
                exact ⟨⟨i + 1, by simp, by omega, hyes (Prod.ext ht (Prod.ext hk hv))⟩, by simp [m1]; omega⟩
              · simp (disch := omega) only [dm_t, wS, simprocAttr, IntKind.bits, i1, t1, x1, y1, i2, t2, x2, y2, toList_mk, hv]
                exact hne fun h => hv (by rw [h])
          · simp (disch := omega) only [dm_t, wS, simprocAttr, IntKind.bits, i1, t1, x1, y1, i2, t2, x2, y2, toList_mk, hk]
            exact hne fun h => hk (by rw [h])
      · simp (disch := omega) only [dm_t, wS, simprocAttr, IntKind.bits, i1, t1, x1, y1, i2, t2, x2, y2]
        exact hne fun h => ht (by rw [h])
    · obtain rfl : i = l.length := by omega
      rw [List.take_length, List.take_of_length_le (by omega)] at heq
      simp (disch := omega) only [dm_t, wS, simprocAttr, IntKind.bits, heq]
  · simp (disch := omega) only [dm_t, wS, simprocAttr, IntKind.bits]
    simp only [Value.bool.injEq]
    symm
    rw [decide_eq_false_iff_not]
    intro h0; exact hlm (by rw [h0])

end Go.Proofs.Ytfeaaliocdkonaa.rr
