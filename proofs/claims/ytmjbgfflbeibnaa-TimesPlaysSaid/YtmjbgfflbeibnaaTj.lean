/-
  times: the law's own functions; works.
-/
import Derived.Test.YtmjbgfflbeibnaaTi
namespace Go.Proofs.Ytmjbgfflbeibnaa.ti
open Go.Proofs.Ytmjbgfflbeibnaa wi
set_option linter.unusedVariables false
set_option linter.unusedSimpArgs false
theorem num_ok (h : H) (v : Value) : Ok Try.prog 10 #[v] h fun w h' => w = v ∧ h = h' := by
  refine c10_ok (args := [_]) (by simp) ?_
  simp (disch := omega) only [dm_t, wZ, ↓reduceIte, Nat.reduceEqDiff, Nat.reduceAdd, Nat.reduceSub, Nat.reduceMul, Nat.reduceLeDiff, Nat.reduceLT, Nat.reduceMod, Nat.reduceDiv, Int.reduceToNat, Nat.min_eq_left, IntKind.bits, Int.reducePow, Int.reduceLT, Int.reduceLE, Int.reduceEq, Int.reduceNe, Int.reduceAdd, Int.reduceSub, reduceCtorEq, eq_self, implies_true, exists_const, Option.isNone_some, Option.isNone_none, Option.isSome_some, Option.isSome_none, Option.getD_some]
theorem DMay_ok {S : Nat → Prop} {h : H} {cs : List Value} {x : rc.D} (hx : Rep S rc h cs x) : Ok Try.prog 42 #[.agg cs.toArray] h fun v h' => v = .bool (may x) ∧ Ext h h' := by
  obtain ⟨ka, kc, va, vc, rfl, hbd, hk, hv⟩ := rc_len hx
  refine c42_ok (args := [_]) (by simp) ?_
  simp (disch := omega) only [dm_t, wZ, ↓reduceIte, Nat.reduceEqDiff, Nat.reduceAdd, Nat.reduceSub, Nat.reduceMul, Nat.reduceLeDiff, Nat.reduceLT, Nat.reduceMod, Nat.reduceDiv, Int.reduceToNat, Nat.min_eq_left, IntKind.bits, Int.reducePow, Int.reduceLT, Int.reduceLE, Int.reduceEq, Int.reduceNe, Int.reduceAdd, Int.reduceSub, reduceCtorEq, eq_self, implies_true, exists_const, Option.isNone_some, Option.isNone_none, Option.isSome_some, Option.isSome_none, Option.getD_some]
  intro b hb
  by_cases c1 : 0 ≤ x.1 <;> by_cases c2 : x.1 ≤ 9007199254740992 <;> by_cases c3 : x.2.1.length ≤ 256 <;> by_cases c4 : x.2.2.length ≤ 4096 <;>
    (simp (disch := omega) only [dm_t, wZ, ↓reduceIte, Nat.reduceEqDiff, Nat.reduceAdd, Nat.reduceSub, Nat.reduceMul, Nat.reduceLeDiff, Nat.reduceLT, Nat.reduceMod, Nat.reduceDiv, Int.reduceToNat, Nat.min_eq_left, IntKind.bits, Int.reducePow, Int.reduceLT, Int.reduceLE, Int.reduceEq, Int.reduceNe, Int.reduceAdd, Int.reduceSub, reduceCtorEq, eq_self, implies_true, exists_const, Option.isNone_some, Option.isNone_none, Option.isSome_some, Option.isSome_none, Option.getD_some, cellAt_same]; exact ⟨by simp [may, c1, c2, c3, c4], Ext.new hb _⟩)
theorem lmay_ok {S : Nat → Prop} {g : H} {w : Value} {rs : List rc.D} (h : RepL S rc g w rs) (hl : rs.length ≤ 4611686018427387904) : Ok Try.prog 13 #[w] g fun u h' => u = .bool (rs.all may) ∧ Ext g h' := by
  obtain ⟨a, c, rfl⟩ := h.len
  refine c13_ok (args := [_]) (by simp) ?_
  simp (disch := omega) only [dm_t, wZ, ↓reduceIte, Nat.reduceEqDiff, Nat.reduceAdd, Nat.reduceSub, Nat.reduceMul, Nat.reduceLeDiff, Nat.reduceLT, Nat.reduceMod, Nat.reduceDiv, Int.reduceToNat, Nat.min_eq_left, IntKind.bits, Int.reducePow, Int.reduceLT, Int.reduceLE, Int.reduceEq, Int.reduceNe, Int.reduceAdd, Int.reduceSub, reduceCtorEq, eq_self, implies_true, exists_const, Option.isNone_some, Option.isNone_none, Option.isSome_some, Option.isSome_none, Option.getD_some]
  refine vc_loop1 (fun vi G => ∃ i : Nat, vi = .int .i64 (i : Int) ∧ i ≤ rs.length ∧ (rs.take i).all may = true ∧ Ext g G) (fun vi _ => rs.length - m1 vi) ?_ ?_
  · simp (disch := omega) only [dm_t, wZ, ↓reduceIte, Nat.reduceEqDiff, Nat.reduceAdd, Nat.reduceSub, Nat.reduceMul, Nat.reduceLeDiff, Nat.reduceLT, Nat.reduceMod, Nat.reduceDiv, Int.reduceToNat, Nat.min_eq_left, IntKind.bits, Int.reducePow, Int.reduceLT, Int.reduceLE, Int.reduceEq, Int.reduceNe, Int.reduceAdd, Int.reduceSub, reduceCtorEq, eq_self, implies_true, exists_const, Option.isNone_some, Option.isNone_none, Option.isSome_some, Option.isSome_none, Option.getD_some]
    exact ⟨0, rfl, by omega, by simp, Ext.refl _⟩
  rintro _ G ⟨i, rfl, hi, hall, E⟩
  by_cases hil : i < rs.length
  · obtain ⟨b1, o1, cs, i1, t1, -, r1⟩ := rec_load (h.ext E) hil
    simp (disch := omega) only [dm_t, wZ, ↓reduceIte, Nat.reduceEqDiff, Nat.reduceAdd, Nat.reduceSub, Nat.reduceMul, Nat.reduceLeDiff, Nat.reduceLT, Nat.reduceMod, Nat.reduceDiv, Int.reduceToNat, Nat.min_eq_left, IntKind.bits, Int.reducePow, Int.reduceLT, Int.reduceLE, Int.reduceEq, Int.reduceNe, Int.reduceAdd, Int.reduceSub, reduceCtorEq, eq_self, implies_true, exists_const, Option.isNone_some, Option.isNone_none, Option.isSome_some, Option.isSome_none, Option.getD_some, i1, t1]
    refine (DMay_ok r1).k ?_
    rintro _ G2 ⟨rfl, e2⟩
    by_cases hm : may rs[i] = true
    · simp (disch := omega) only [dm_t, wZ, ↓reduceIte, Nat.reduceEqDiff, Nat.reduceAdd, Nat.reduceSub, Nat.reduceMul, Nat.reduceLeDiff, Nat.reduceLT, Nat.reduceMod, Nat.reduceDiv, Int.reduceToNat, Nat.min_eq_left, IntKind.bits, Int.reducePow, Int.reduceLT, Int.reduceLE, Int.reduceEq, Int.reduceNe, Int.reduceAdd, Int.reduceSub, reduceCtorEq, eq_self, implies_true, exists_const, Option.isNone_some, Option.isNone_none, Option.isSome_some, Option.isSome_none, Option.getD_some, hm]
      refine ⟨⟨i + 1, by simp, by omega, ?_, E.trans e2⟩, by simp [m1]; omega⟩
      rw [List.take_succ_eq_append_getElem hil, List.all_append, hall]
      simp [hm]
    · have hmf : may rs[i] = false := by simpa using hm
      simp (disch := omega) only [dm_t, wZ, ↓reduceIte, Nat.reduceEqDiff, Nat.reduceAdd, Nat.reduceSub, Nat.reduceMul, Nat.reduceLeDiff, Nat.reduceLT, Nat.reduceMod, Nat.reduceDiv, Int.reduceToNat, Nat.min_eq_left, IntKind.bits, Int.reducePow, Int.reduceLT, Int.reduceLE, Int.reduceEq, Int.reduceNe, Int.reduceAdd, Int.reduceSub, reduceCtorEq, eq_self, implies_true, exists_const, Option.isNone_some, Option.isNone_none, Option.isSome_some, Option.isSome_none, Option.getD_some, hmf]
      refine ⟨?_, E.trans e2⟩
      have : rs.all may = false := List.all_eq_false.2 ⟨_, List.getElem_mem hil, by simp [hmf]⟩
      rw [this]
  · obtain rfl : i = rs.length := by omega
    rw [List.take_length] at hall
    simp (disch := omega) only [dm_t, wZ, ↓reduceIte, Nat.reduceEqDiff, Nat.reduceAdd, Nat.reduceSub, Nat.reduceMul, Nat.reduceLeDiff, Nat.reduceLT, Nat.reduceMod, Nat.reduceDiv, Int.reduceToNat, Nat.min_eq_left, IntKind.bits, Int.reducePow, Int.reduceLT, Int.reduceLE, Int.reduceEq, Int.reduceNe, Int.reduceAdd, Int.reduceSub, reduceCtorEq, eq_self, implies_true, exists_const, Option.isNone_some, Option.isNone_none, Option.isSome_some, Option.isSome_none, Option.getD_some, hall]
    exact E
theorem rec_at {S : Nat → Prop} {h : H} {a : Option Addr} {n c : Nat} {l : List rc.D} (r : RepL S rc h (.slice a n c) l) {i : Nat} (hi : i < l.length) :
    ∃ b o k v, idxV1 3 (.slice a n c) (.int .i64 (i : Int)) = some (.pointer (some ⟨b, o, none⟩)) ∧ cellAt h ⟨b, o, none⟩ = some (.int .i64 (l[i]).1) ∧ cellAt h ⟨b, o + 1, none⟩ = some k ∧ cellAt h ⟨b, o + 2, none⟩ = some v ∧ By S h k (l[i]).2.1 ∧ By S h v (l[i]).2.2 := by
  obtain ⟨b, o, cs, gi, _, g2, g3⟩ := r.load hi .i64 3 sz_rc
  obtain ⟨k, v, rfl, _, hk, hv⟩ := rep_rc.1 g3
  exact ⟨b, o, k, v, gi, g2 0 (by omega), g2 1 (by omega), g2 2 (by omega), hk, hv⟩
theorem rec_bd {S : Nat → Prop} {h : H} {v : Value} {l : List rc.D} (r : RepL S rc h v l) {i : Nat} (hi : i < l.length) : -9223372036854775808 ≤ (l[i]).1 ∧ (l[i]).1 ≤ 9223372036854775807 := by
  obtain ⟨b, o, cs, gi, _, g2, g3⟩ := r.load hi .i64 3 sz_rc
  obtain ⟨k, v, _, h, _⟩ := rep_rc.1 g3
  exact h
theorem hasAt {a : Addr} {n c x : Nat} (h : isAt (.slice (some a) n c) x) : x = a.block := by
  obtain ⟨o, n', c', h⟩ := h
  simp only [Value.slice.injEq, Option.some.injEq] at h
  rw [h.1]
theorem RCopy_ok {S : Nat → Prop} {h : H} {s : Value} {l : List rc.D} (hs : RepL S rc h s l) (hl : l.length ≤ 1000000) (hk : ∀ x ∈ l, x.2.1.length ≤ 140737488355328 ∧ x.2.2.length ≤ 140737488355328) :
    Ok Try.prog 18 #[s] h fun v h' => OwQ (WRow 5 fun y => h y = none) (fun y => h y ≠ none) rc (fun y => h y = none) h' 48 v l ∧ Ext h h' := by
  obtain ⟨sa, sc, rfl⟩ := hs.len
  refine c18_ok (args := [_]) (by simp) ?_
  simp (disch := omega) only [dm_t, wZ, ↓reduceIte, Nat.reduceEqDiff, Nat.reduceAdd, Nat.reduceSub, Nat.reduceMul, Nat.reduceLeDiff, Nat.reduceLT, Nat.reduceMod, Nat.reduceDiv, Int.reduceToNat, Nat.min_eq_left, IntKind.bits, Int.reducePow, Int.reduceLT, Int.reduceLE, Int.reduceEq, Int.reduceNe, Int.reduceAdd, Int.reduceSub, reduceCtorEq, eq_self, implies_true, exists_const, Option.isNone_some, Option.isNone_none, Option.isSome_some, Option.isSome_none, Option.getD_some]
  refine vc_loop2 (fun vo vi h' => ∃ i : Nat, vi = .int .i64 (i : Int) ∧ i ≤ l.length ∧ OwQ (WRow 5 fun y => h y = none) (fun y => h y ≠ none) rc (fun y => h y = none) h' 48 vo (l.take i) ∧ Ext h h') (fun _ vi _ => l.length - m1 vi) ?_ ?_
  · simp (disch := omega) only [dm_t, wZ, ↓reduceIte, Nat.reduceEqDiff, Nat.reduceAdd, Nat.reduceSub, Nat.reduceMul, Nat.reduceLeDiff, Nat.reduceLT, Nat.reduceMod, Nat.reduceDiv, Int.reduceToNat, Nat.min_eq_left, IntKind.bits, Int.reducePow, Int.reduceLT, Int.reduceLE, Int.reduceEq, Int.reduceNe, Int.reduceAdd, Int.reduceSub, reduceCtorEq, eq_self, implies_true, exists_const, Option.isNone_some, Option.isNone_none, Option.isSome_some, Option.isSome_none, Option.getD_some]
    exact ⟨0, rfl, by omega, OwQ.nil, Ext.refl h⟩
  rintro vo _ g ⟨i, rfl, hi, ho, e1⟩
  by_cases hil : i < l.length
  · have hsplit : l.take (i + 1) = l.take i ++ [l[i]] := by simp
    have hlt : (l.take i).length = i := by rw [List.length_take]; omega
    have hki := hk l[i] (List.getElem_mem hil)
    have hbd := rec_bd (hs.ext e1) hil
    obtain ⟨pb, po, k, v, gi, t1, x1, y1, hk1, hv1⟩ := rec_at (hs.ext e1) hil
    simp (disch := omega) only [dm_t, wZ, ↓reduceIte, Nat.reduceEqDiff, Nat.reduceAdd, Nat.reduceSub, Nat.reduceMul, Nat.reduceLeDiff, Nat.reduceLT, Nat.reduceMod, Nat.reduceDiv, Int.reduceToNat, Nat.min_eq_left, IntKind.bits, Int.reducePow, Int.reduceLT, Int.reduceLE, Int.reduceEq, Int.reduceNe, Int.reduceAdd, Int.reduceSub, reduceCtorEq, eq_self, implies_true, exists_const, Option.isNone_some, Option.isNone_none, Option.isSome_some, Option.isSome_none, Option.getD_some, gi, t1, x1, y1]
    refine ⟨?_, ?_⟩
    · intro c1 hc1
      have e2 : Ext g _ := Ext.new hc1 (.cells #[] 5)
      simp (disch := omega) only [dm_t, wZ, ↓reduceIte, Nat.reduceEqDiff, Nat.reduceAdd, Nat.reduceSub, Nat.reduceMul, Nat.reduceLeDiff, Nat.reduceLT, Nat.reduceMod, Nat.reduceDiv, Int.reduceToNat, Nat.min_eq_left, IntKind.bits, Int.reducePow, Int.reduceLT, Int.reduceLE, Int.reduceEq, Int.reduceNe, Int.reduceAdd, Int.reduceSub, reduceCtorEq, eq_self, implies_true, exists_const, Option.isNone_some, Option.isNone_none, Option.isSome_some, Option.isSome_none, Option.getD_some, gi, cellAt_ext (e2) t1, cellAt_ext (e2) x1, cellAt_ext (e2) y1]
      refine ⟨?_, ?_⟩
      · refine appB (O := fun y => g y = none) (xs := []) (olit1 (xs := []) rfl hc1) (fun y hy => (Ext.new hc1 _).bk hy) (hk1.ext (Ext.new hc1 _)) (by simp; omega) ?_
        intro w1 G1 o1 f1
        have eG1 : Ext g G1 := Ext.step (Ext.new hc1 _) f1
        simp (disch := omega) only [dm_t, wZ, ↓reduceIte, Nat.reduceEqDiff, Nat.reduceAdd, Nat.reduceSub, Nat.reduceMul, Nat.reduceLeDiff, Nat.reduceLT, Nat.reduceMod, Nat.reduceDiv, Int.reduceToNat, Nat.min_eq_left, IntKind.bits, Int.reducePow, Int.reduceLT, Int.reduceLE, Int.reduceEq, Int.reduceNe, Int.reduceAdd, Int.reduceSub, reduceCtorEq, eq_self, implies_true, exists_const, Option.isNone_some, Option.isNone_none, Option.isSome_some, Option.isSome_none, Option.getD_some, cellAt_ext (eG1) t1, cellAt_ext (eG1) x1, cellAt_ext (eG1) y1]
        intro c2 hc2
        have e2 : Ext g _ := eG1.trans (Ext.new hc2 (.cells #[] 5))
        simp (disch := omega) only [dm_t, wZ, ↓reduceIte, Nat.reduceEqDiff, Nat.reduceAdd, Nat.reduceSub, Nat.reduceMul, Nat.reduceLeDiff, Nat.reduceLT, Nat.reduceMod, Nat.reduceDiv, Int.reduceToNat, Nat.min_eq_left, IntKind.bits, Int.reducePow, Int.reduceLT, Int.reduceLE, Int.reduceEq, Int.reduceNe, Int.reduceAdd, Int.reduceSub, reduceCtorEq, eq_self, implies_true, exists_const, Option.isNone_some, Option.isNone_none, Option.isSome_some, Option.isSome_none, Option.getD_some, cellAt_ext (e2) t1, cellAt_ext (e2) x1, cellAt_ext (e2) y1]
        refine appB (O := fun y => G1 y = none) (xs := []) (olit1 (xs := []) rfl hc2) (fun y hy => (Ext.new hc2 _).bk hy) (hv1.ext e2) (by simp; omega) ?_
        intro w2 G2 o2f f2
        have eG : Ext g G2 := Ext.step' e2 f2 fun x hx => eG1.bk hx.1
        have o1f := (OwK.ext o1 (Ext.new hc2 (.cells #[] 5))).fr f2 fun x hx _ hx' => OwK.there o1 hx' hx.1
        have k1 : ∀ x, g x = none → g x = none := fun _ h => h
        have k2 : ∀ x, G1 x = none → g x = none := fun x hx => eG1.bk hx
        have b1 : By (fun y => isAt vo y ∨ h y ≠ none) G2 w1 (l[i]).2.1 := OwK.sl o1f fun x hx hy => hy.elim (fun hy => ho.l.there hy (k1 x hx)) fun hy => hy (e1.bk (k1 x hx))
        have b2 : By (fun y => isAt vo y ∨ h y ≠ none) G2 w2 (l[i]).2.2 := OwK.sl o2f fun x hx hy => hy.elim (fun hy => ho.l.there hy (k2 x hx)) fun hy => hy (e1.bk (k2 x hx))
        obtain ⟨wa1, wc1, rfl⟩ := By.len b1
        obtain ⟨wa2, wc2, rfl⟩ := By.len b2
        simp (disch := omega) only [dm_t, wZ, ↓reduceIte, Nat.reduceEqDiff, Nat.reduceAdd, Nat.reduceSub, Nat.reduceMul, Nat.reduceLeDiff, Nat.reduceLT, Nat.reduceMod, Nat.reduceDiv, Int.reduceToNat, Nat.min_eq_left, IntKind.bits, Int.reducePow, Int.reduceLT, Int.reduceLE, Int.reduceEq, Int.reduceNe, Int.reduceAdd, Int.reduceSub, reduceCtorEq, eq_self, implies_true, exists_const, Option.isNone_some, Option.isNone_none, Option.isSome_some, Option.isSome_none, Option.getD_some, cellAt_ext eG t1, cellAt_ext eG x1, cellAt_ext eG y1]
        intro b3 hb3
        have eb := eG.trans (Ext.new hb3 (.cells #[.int .i64 (l[i]).1, .slice wa1 (l[i]).2.1.length wc1, .slice wa2 (l[i]).2.2.length wc2] 48))
        simp (disch := omega) only [dm_t, wZ, ↓reduceIte, Nat.reduceEqDiff, Nat.reduceAdd, Nat.reduceSub, Nat.reduceMul, Nat.reduceLeDiff, Nat.reduceLT, Nat.reduceMod, Nat.reduceDiv, Int.reduceToNat, Nat.min_eq_left, IntKind.bits, Int.reducePow, Int.reduceLT, Int.reduceLE, Int.reduceEq, Int.reduceNe, Int.reduceAdd, Int.reduceSub, reduceCtorEq, eq_self, implies_true, exists_const, Option.isNone_some, Option.isNone_none, Option.isSome_some, Option.isSome_none, Option.getD_some, cellAt_ext eb t1, cellAt_ext eb x1, cellAt_ext eb y1]
        refine OwQ.push (V := fun _ => _) (x := l[i]) 3 sz_rc (ho.ext eG fun r hr => hr.ext eG) (fun y hy => (e1.trans eG).bk hy) (rep_rc.2 ⟨_, _, rfl, hbd, b1, b2⟩) (by rfl) (by rw [hlt]; omega) (by rw [hlt]; omega) ⟨_, _, _, _, _, rfl, OwK.mono o1f fun x _ _ hx => e1.bk (k1 x hx), OwK.mono o2f fun x _ _ hx => e1.bk (k2 x hx), hki⟩ (fun h' rows so f r hr => hr.fr (by decide) so f fun x hx => hx.2) ?_ b3 hb3
        intro _ s' G3 _ o3 f3
        simp (disch := omega) only [dm_t, wZ, ↓reduceIte, Nat.reduceEqDiff, Nat.reduceAdd, Nat.reduceSub, Nat.reduceMul, Nat.reduceLeDiff, Nat.reduceLT, Nat.reduceMod, Nat.reduceDiv, Int.reduceToNat, Nat.min_eq_left, IntKind.bits, Int.reducePow, Int.reduceLT, Int.reduceLE, Int.reduceEq, Int.reduceNe, Int.reduceAdd, Int.reduceSub, reduceCtorEq, eq_self, implies_true, exists_const, Option.isNone_some, Option.isNone_none, Option.isSome_some, Option.isSome_none, Option.getD_some]
        refine ⟨⟨i + 1, by simp, by omega, by rw [hsplit]; exact o3, Ext.step (e1.trans eG) f3⟩, by simp [m1]; omega⟩
      · intro c2 hc2
        have hcc : c1 ≠ c2 := fun h => by subst h; rw [hupd_same] at hc2; cases hc2
        have hg1 := hc1
        have hg2 : g c2 = none := by rwa [hupd_ne _ _ hcc.symm] at hc2
        have e2 : Ext g _ := (Ext.new hc1 (.cells #[] 5)).trans (Ext.new hc2 (.cells #[] 5))
        have s1 : OwB (fun y => g y = none ∧ y ≠ c2) _ 5 (.slice (some ⟨c1, 0, none⟩) 0 0) [] := (olit1 (h := g) (O := fun y => g y = none ∧ y ≠ c2) (xs := []) rfl ⟨hg1, hcc⟩).ext (Ext.new hc2 (.cells #[] 5))
        have s2 : OwB (fun y => y = c2) _ 5 (.slice (some ⟨c2, 0, none⟩) 0 0) [] := olit1 (h := hupd g c1 (.cells #[] 5)) (O := fun y => y = c2) (xs := []) rfl rfl
        have hH : ∀ y, hupd (hupd g c1 (.cells #[] 5)) c2 (.cells #[] 5) y = none → g y = none ∧ y ≠ c2 := fun y hy => ⟨e2.bk hy, fun h => by subst h; rw [hupd_same] at hy; cases hy⟩
        simp (disch := omega) only [dm_t, wZ, ↓reduceIte, Nat.reduceEqDiff, Nat.reduceAdd, Nat.reduceSub, Nat.reduceMul, Nat.reduceLeDiff, Nat.reduceLT, Nat.reduceMod, Nat.reduceDiv, Int.reduceToNat, Nat.min_eq_left, IntKind.bits, Int.reducePow, Int.reduceLT, Int.reduceLE, Int.reduceEq, Int.reduceNe, Int.reduceAdd, Int.reduceSub, reduceCtorEq, eq_self, implies_true, exists_const, Option.isNone_some, Option.isNone_none, Option.isSome_some, Option.isSome_none, Option.getD_some, cellAt_ext (e2) t1, cellAt_ext (e2) x1, cellAt_ext (e2) y1]
        refine appB s1 hH (hk1.ext e2) (by simp; omega) ?_
        intro w1 G1 o1 f1
        have eG1 : Ext g G1 := Ext.step' e2 f1 fun x hx => hx.1.1
        simp (disch := omega) only [dm_t, wZ, ↓reduceIte, Nat.reduceEqDiff, Nat.reduceAdd, Nat.reduceSub, Nat.reduceMul, Nat.reduceLeDiff, Nat.reduceLT, Nat.reduceMod, Nat.reduceDiv, Int.reduceToNat, Nat.min_eq_left, IntKind.bits, Int.reducePow, Int.reduceLT, Int.reduceLE, Int.reduceEq, Int.reduceNe, Int.reduceAdd, Int.reduceSub, reduceCtorEq, eq_self, implies_true, exists_const, Option.isNone_some, Option.isNone_none, Option.isSome_some, Option.isSome_none, Option.getD_some, cellAt_ext (eG1) t1, cellAt_ext (eG1) x1, cellAt_ext (eG1) y1]
        have s3 : OwB (fun y => y = c2 ∨ G1 y = none) G1 5 (.slice (some ⟨c2, 0, none⟩) 0 0) [] := (s2.fr f1 fun x hx hx' => absurd hx' hx.1.2).mono fun x _ _ hx => .inl hx
        refine appB s3 (fun y hy => .inr hy) (hv1.ext eG1) (by simp; omega) ?_
        intro w2 G2 o2f f2
        have k2 : ∀ x, x = c2 ∨ G1 x = none → g x = none := fun x hx => hx.elim (fun hx => by rw [hx]; exact hg2) fun hx => eG1.bk hx
        have eG : Ext g G2 := Ext.step' eG1 f2 fun x hx => k2 x hx.1
        have o1f := OwK.fr o1 f2 fun x hx hx' _ => absurd (hasAt hx.2) hx'.2
        have k1 : ∀ x, g x = none ∧ x ≠ c2 → g x = none := fun _ h => h.1
        have b1 : By (fun y => isAt vo y ∨ h y ≠ none) G2 w1 (l[i]).2.1 := OwK.sl o1f fun x hx hy => hy.elim (fun hy => ho.l.there hy (k1 x hx)) fun hy => hy (e1.bk (k1 x hx))
        have b2 : By (fun y => isAt vo y ∨ h y ≠ none) G2 w2 (l[i]).2.2 := OwK.sl o2f fun x hx hy => hy.elim (fun hy => ho.l.there hy (k2 x hx)) fun hy => hy (e1.bk (k2 x hx))
        obtain ⟨wa1, wc1, rfl⟩ := By.len b1
        obtain ⟨wa2, wc2, rfl⟩ := By.len b2
        simp (disch := omega) only [dm_t, wZ, ↓reduceIte, Nat.reduceEqDiff, Nat.reduceAdd, Nat.reduceSub, Nat.reduceMul, Nat.reduceLeDiff, Nat.reduceLT, Nat.reduceMod, Nat.reduceDiv, Int.reduceToNat, Nat.min_eq_left, IntKind.bits, Int.reducePow, Int.reduceLT, Int.reduceLE, Int.reduceEq, Int.reduceNe, Int.reduceAdd, Int.reduceSub, reduceCtorEq, eq_self, implies_true, exists_const, Option.isNone_some, Option.isNone_none, Option.isSome_some, Option.isSome_none, Option.getD_some, cellAt_ext eG t1, cellAt_ext eG x1, cellAt_ext eG y1]
        intro b3 hb3
        have eb := eG.trans (Ext.new hb3 (.cells #[.int .i64 (l[i]).1, .slice wa1 (l[i]).2.1.length wc1, .slice wa2 (l[i]).2.2.length wc2] 48))
        simp (disch := omega) only [dm_t, wZ, ↓reduceIte, Nat.reduceEqDiff, Nat.reduceAdd, Nat.reduceSub, Nat.reduceMul, Nat.reduceLeDiff, Nat.reduceLT, Nat.reduceMod, Nat.reduceDiv, Int.reduceToNat, Nat.min_eq_left, IntKind.bits, Int.reducePow, Int.reduceLT, Int.reduceLE, Int.reduceEq, Int.reduceNe, Int.reduceAdd, Int.reduceSub, reduceCtorEq, eq_self, implies_true, exists_const, Option.isNone_some, Option.isNone_none, Option.isSome_some, Option.isSome_none, Option.getD_some, cellAt_ext eb t1, cellAt_ext eb x1, cellAt_ext eb y1]
        refine OwQ.push (V := fun _ => _) (x := l[i]) 3 sz_rc (ho.ext eG fun r hr => hr.ext eG) (fun y hy => (e1.trans eG).bk hy) (rep_rc.2 ⟨_, _, rfl, hbd, b1, b2⟩) (by rfl) (by rw [hlt]; omega) (by rw [hlt]; omega) ⟨_, _, _, _, _, rfl, OwK.mono o1f fun x _ _ hx => e1.bk (k1 x hx), OwK.mono o2f fun x _ _ hx => e1.bk (k2 x hx), hki⟩ (fun h' rows so f r hr => hr.fr (by decide) so f fun x hx => hx.2) ?_ b3 hb3
        intro _ s' G3 _ o3 f3
        simp (disch := omega) only [dm_t, wZ, ↓reduceIte, Nat.reduceEqDiff, Nat.reduceAdd, Nat.reduceSub, Nat.reduceMul, Nat.reduceLeDiff, Nat.reduceLT, Nat.reduceMod, Nat.reduceDiv, Int.reduceToNat, Nat.min_eq_left, IntKind.bits, Int.reducePow, Int.reduceLT, Int.reduceLE, Int.reduceEq, Int.reduceNe, Int.reduceAdd, Int.reduceSub, reduceCtorEq, eq_self, implies_true, exists_const, Option.isNone_some, Option.isNone_none, Option.isSome_some, Option.isSome_none, Option.getD_some]
        refine ⟨⟨i + 1, by simp, by omega, by rw [hsplit]; exact o3, Ext.step (e1.trans eG) f3⟩, by simp [m1]; omega⟩
    · intro c2 hc2
      have e2 : Ext g _ := Ext.new hc2 (.cells #[] 5)
      simp (disch := omega) only [dm_t, wZ, ↓reduceIte, Nat.reduceEqDiff, Nat.reduceAdd, Nat.reduceSub, Nat.reduceMul, Nat.reduceLeDiff, Nat.reduceLT, Nat.reduceMod, Nat.reduceDiv, Int.reduceToNat, Nat.min_eq_left, IntKind.bits, Int.reducePow, Int.reduceLT, Int.reduceLE, Int.reduceEq, Int.reduceNe, Int.reduceAdd, Int.reduceSub, reduceCtorEq, eq_self, implies_true, exists_const, Option.isNone_some, Option.isNone_none, Option.isSome_some, Option.isSome_none, Option.getD_some, gi, cellAt_ext (e2) t1, cellAt_ext (e2) x1, cellAt_ext (e2) y1]
      intro c1 hc1
      have hcc : c1 ≠ c2 := fun h => by subst h; rw [hupd_same] at hc1; cases hc1
      have hg2 := hc2
      have hg1 : g c1 = none := by rwa [hupd_ne _ _ hcc] at hc1
      have e2 : Ext g _ := (Ext.new hc2 (.cells #[] 5)).trans (Ext.new hc1 (.cells #[] 5))
      have s1 : OwB (fun y => g y = none ∧ y ≠ c2) _ 5 (.slice (some ⟨c1, 0, none⟩) 0 0) [] := olit1 (h := hupd g c2 (.cells #[] 5)) (O := fun y => g y = none ∧ y ≠ c2) (xs := []) rfl ⟨hg1, hcc⟩
      have s2 : OwB (fun y => y = c2) _ 5 (.slice (some ⟨c2, 0, none⟩) 0 0) [] := (olit1 (h := g) (O := fun y => y = c2) (xs := []) rfl rfl).ext (Ext.new hc1 (.cells #[] 5))
      have hH : ∀ y, hupd (hupd g c2 (.cells #[] 5)) c1 (.cells #[] 5) y = none → g y = none ∧ y ≠ c2 := fun y hy => ⟨e2.bk hy, fun h => by subst h; rw [hupd_ne _ _ hcc.symm, hupd_same] at hy; cases hy⟩
      simp (disch := omega) only [dm_t, wZ, ↓reduceIte, Nat.reduceEqDiff, Nat.reduceAdd, Nat.reduceSub, Nat.reduceMul, Nat.reduceLeDiff, Nat.reduceLT, Nat.reduceMod, Nat.reduceDiv, Int.reduceToNat, Nat.min_eq_left, IntKind.bits, Int.reducePow, Int.reduceLT, Int.reduceLE, Int.reduceEq, Int.reduceNe, Int.reduceAdd, Int.reduceSub, reduceCtorEq, eq_self, implies_true, exists_const, Option.isNone_some, Option.isNone_none, Option.isSome_some, Option.isSome_none, Option.getD_some, cellAt_ext (e2) t1, cellAt_ext (e2) x1, cellAt_ext (e2) y1]
      refine appB s1 hH (hk1.ext e2) (by simp; omega) ?_
      intro w1 G1 o1 f1
      have eG1 : Ext g G1 := Ext.step' e2 f1 fun x hx => hx.1.1
      simp (disch := omega) only [dm_t, wZ, ↓reduceIte, Nat.reduceEqDiff, Nat.reduceAdd, Nat.reduceSub, Nat.reduceMul, Nat.reduceLeDiff, Nat.reduceLT, Nat.reduceMod, Nat.reduceDiv, Int.reduceToNat, Nat.min_eq_left, IntKind.bits, Int.reducePow, Int.reduceLT, Int.reduceLE, Int.reduceEq, Int.reduceNe, Int.reduceAdd, Int.reduceSub, reduceCtorEq, eq_self, implies_true, exists_const, Option.isNone_some, Option.isNone_none, Option.isSome_some, Option.isSome_none, Option.getD_some, cellAt_ext (eG1) t1, cellAt_ext (eG1) x1, cellAt_ext (eG1) y1]
      have s3 : OwB (fun y => y = c2 ∨ G1 y = none) G1 5 (.slice (some ⟨c2, 0, none⟩) 0 0) [] := (s2.fr f1 fun x hx hx' => absurd hx' hx.1.2).mono fun x _ _ hx => .inl hx
      refine appB s3 (fun y hy => .inr hy) (hv1.ext eG1) (by simp; omega) ?_
      intro w2 G2 o2f f2
      have k2 : ∀ x, x = c2 ∨ G1 x = none → g x = none := fun x hx => hx.elim (fun hx => by rw [hx]; exact hg2) fun hx => eG1.bk hx
      have eG : Ext g G2 := Ext.step' eG1 f2 fun x hx => k2 x hx.1
      have o1f := OwK.fr o1 f2 fun x hx hx' _ => absurd (hasAt hx.2) hx'.2
      have k1 : ∀ x, g x = none ∧ x ≠ c2 → g x = none := fun _ h => h.1
      have b1 : By (fun y => isAt vo y ∨ h y ≠ none) G2 w1 (l[i]).2.1 := OwK.sl o1f fun x hx hy => hy.elim (fun hy => ho.l.there hy (k1 x hx)) fun hy => hy (e1.bk (k1 x hx))
      have b2 : By (fun y => isAt vo y ∨ h y ≠ none) G2 w2 (l[i]).2.2 := OwK.sl o2f fun x hx hy => hy.elim (fun hy => ho.l.there hy (k2 x hx)) fun hy => hy (e1.bk (k2 x hx))
      obtain ⟨wa1, wc1, rfl⟩ := By.len b1
      obtain ⟨wa2, wc2, rfl⟩ := By.len b2
      simp (disch := omega) only [dm_t, wZ, ↓reduceIte, Nat.reduceEqDiff, Nat.reduceAdd, Nat.reduceSub, Nat.reduceMul, Nat.reduceLeDiff, Nat.reduceLT, Nat.reduceMod, Nat.reduceDiv, Int.reduceToNat, Nat.min_eq_left, IntKind.bits, Int.reducePow, Int.reduceLT, Int.reduceLE, Int.reduceEq, Int.reduceNe, Int.reduceAdd, Int.reduceSub, reduceCtorEq, eq_self, implies_true, exists_const, Option.isNone_some, Option.isNone_none, Option.isSome_some, Option.isSome_none, Option.getD_some, cellAt_ext eG t1, cellAt_ext eG x1, cellAt_ext eG y1]
      intro b3 hb3
      have eb := eG.trans (Ext.new hb3 (.cells #[.int .i64 (l[i]).1, .slice wa1 (l[i]).2.1.length wc1, .slice wa2 (l[i]).2.2.length wc2] 48))
      simp (disch := omega) only [dm_t, wZ, ↓reduceIte, Nat.reduceEqDiff, Nat.reduceAdd, Nat.reduceSub, Nat.reduceMul, Nat.reduceLeDiff, Nat.reduceLT, Nat.reduceMod, Nat.reduceDiv, Int.reduceToNat, Nat.min_eq_left, IntKind.bits, Int.reducePow, Int.reduceLT, Int.reduceLE, Int.reduceEq, Int.reduceNe, Int.reduceAdd, Int.reduceSub, reduceCtorEq, eq_self, implies_true, exists_const, Option.isNone_some, Option.isNone_none, Option.isSome_some, Option.isSome_none, Option.getD_some, cellAt_ext eb t1, cellAt_ext eb x1, cellAt_ext eb y1]
      refine OwQ.push (V := fun _ => _) (x := l[i]) 3 sz_rc (ho.ext eG fun r hr => hr.ext eG) (fun y hy => (e1.trans eG).bk hy) (rep_rc.2 ⟨_, _, rfl, hbd, b1, b2⟩) (by rfl) (by rw [hlt]; omega) (by rw [hlt]; omega) ⟨_, _, _, _, _, rfl, OwK.mono o1f fun x _ _ hx => e1.bk (k1 x hx), OwK.mono o2f fun x _ _ hx => e1.bk (k2 x hx), hki⟩ (fun h' rows so f r hr => hr.fr (by decide) so f fun x hx => hx.2) ?_ b3 hb3
      intro _ s' G3 _ o3 f3
      simp (disch := omega) only [dm_t, wZ, ↓reduceIte, Nat.reduceEqDiff, Nat.reduceAdd, Nat.reduceSub, Nat.reduceMul, Nat.reduceLeDiff, Nat.reduceLT, Nat.reduceMod, Nat.reduceDiv, Int.reduceToNat, Nat.min_eq_left, IntKind.bits, Int.reducePow, Int.reduceLT, Int.reduceLE, Int.reduceEq, Int.reduceNe, Int.reduceAdd, Int.reduceSub, reduceCtorEq, eq_self, implies_true, exists_const, Option.isNone_some, Option.isNone_none, Option.isSome_some, Option.isSome_none, Option.getD_some]
      refine ⟨⟨i + 1, by simp, by omega, by rw [hsplit]; exact o3, Ext.step (e1.trans eG) f3⟩, by simp [m1]; omega⟩
  · obtain rfl : i = l.length := by omega
    rw [List.take_length] at ho
    simp (disch := omega) only [dm_t, wZ, ↓reduceIte, Nat.reduceEqDiff, Nat.reduceAdd, Nat.reduceSub, Nat.reduceMul, Nat.reduceLeDiff, Nat.reduceLT, Nat.reduceMod, Nat.reduceDiv, Int.reduceToNat, Nat.min_eq_left, IntKind.bits, Int.reducePow, Int.reduceLT, Int.reduceLE, Int.reduceEq, Int.reduceNe, Int.reduceAdd, Int.reduceSub, reduceCtorEq, eq_self, implies_true, exists_const, Option.isNone_some, Option.isNone_none, Option.isSome_some, Option.isSome_none, Option.getD_some]
    exact ⟨ho, e1⟩
section
variable {S T : Nat → Prop} {g g' : H} {p q : Nat} {b e : Int} {v : Value} {l : List Ri}
theorem All_ok (X : XI S g p b e v l) : Ok Try.prog 28 #[.pointer (some ⟨p, 0, none⟩)] g fun w h' => ∃ vb u, w = .func (.func 69) #[] #[.pointer (some ⟨vb, 0, none⟩)] ∧ g vb = none ∧ h' vb = some (.cells #[u] 45) ∧ OwK 2 (fun y => g y = none ∧ y ≠ vb) h' 50 u (rrows l) ∧ Ext g h' := by
  refine c28_ok (args := [_]) (by simp) ?_
  simp (disch := omega) only [dm_t, wZ, ↓reduceIte, Nat.reduceEqDiff, Nat.reduceAdd, Nat.reduceSub, Nat.reduceMul, Nat.reduceLeDiff, Nat.reduceLT, Nat.reduceMod, Nat.reduceDiv, Int.reduceToNat, Nat.min_eq_left, IntKind.bits, Int.reducePow, Int.reduceLT, Int.reduceLE, Int.reduceEq, Int.reduceNe, Int.reduceAdd, Int.reduceSub, reduceCtorEq, eq_self, implies_true, exists_const, Option.isNone_some, Option.isNone_none, Option.isSome_some, Option.isSome_none, Option.getD_some]
  refine (Rises_ok X).k ?_
  rintro w g2 ⟨ow, e2⟩
  have key : Ok Try.prog 62 #[w] g2 fun r h' => ∃ vb, r = .func (.func 69) #[] #[.pointer (some ⟨vb, 0, none⟩)] ∧ g2 vb = none ∧ h' = hupd g2 vb (.cells #[w] 45) := by
    obtain ⟨wa, wc, rfl⟩ := SlK.len ow.s0
    refine c62_ok (args := [_]) (by simp) ?_
    simp (disch := omega) only [dm_t, wZ, ↓reduceIte, Nat.reduceEqDiff, Nat.reduceAdd, Nat.reduceSub, Nat.reduceMul, Nat.reduceLeDiff, Nat.reduceLT, Nat.reduceMod, Nat.reduceDiv, Int.reduceToNat, Nat.min_eq_left, IntKind.bits, Int.reducePow, Int.reduceLT, Int.reduceLE, Int.reduceEq, Int.reduceNe, Int.reduceAdd, Int.reduceSub, reduceCtorEq, eq_self, implies_true, exists_const, Option.isNone_some, Option.isNone_none, Option.isSome_some, Option.isSome_none, Option.getD_some]
    intro b hb
    exact ⟨b, rfl, hb, rfl⟩
  simp (disch := omega) only [dm_t, wZ, ↓reduceIte, Nat.reduceEqDiff, Nat.reduceAdd, Nat.reduceSub, Nat.reduceMul, Nat.reduceLeDiff, Nat.reduceLT, Nat.reduceMod, Nat.reduceDiv, Int.reduceToNat, Nat.min_eq_left, IntKind.bits, Int.reducePow, Int.reduceLT, Int.reduceLE, Int.reduceEq, Int.reduceNe, Int.reduceAdd, Int.reduceSub, reduceCtorEq, eq_self, implies_true, exists_const, Option.isNone_some, Option.isNone_none, Option.isSome_some, Option.isSome_none, Option.getD_some]
  refine key.k ?_
  rintro _ _ ⟨vb, rfl, hvb, rfl⟩
  simp (disch := omega) only [dm_t, wZ, ↓reduceIte, Nat.reduceEqDiff, Nat.reduceAdd, Nat.reduceSub, Nat.reduceMul, Nat.reduceLeDiff, Nat.reduceLT, Nat.reduceMod, Nat.reduceDiv, Int.reduceToNat, Nat.min_eq_left, IntKind.bits, Int.reducePow, Int.reduceLT, Int.reduceLE, Int.reduceEq, Int.reduceNe, Int.reduceAdd, Int.reduceSub, reduceCtorEq, eq_self, implies_true, exists_const, Option.isNone_some, Option.isNone_none, Option.isSome_some, Option.isSome_none, Option.getD_some]
  have e3 := Ext.new hvb (.cells #[w] 45)
  exact ⟨vb, w, rfl, e2.bk hvb, hupd_same _ _ _, OwK.ext (OwK.mono ow fun y o hy hn => ⟨hn, fun h => by rw [h, hvb] at hy; cases hy⟩) e3, e2.trans e3⟩
end
def wrs : List rc.D := [((5 : Int), ([] : List UInt8), ([] : List UInt8)), ((3 : Int), ([] : List UInt8), ([] : List UInt8)), ((9 : Int), ([] : List UInt8), ([] : List UInt8))]
theorem w_out : outP [] 10 wrs = [(10, 5), (12, 9)] ∧ putE [] 10 wrs = 0 := by decide
theorem works_ok (h : H) : Ok Try.prog 7 #[] h fun v h' => v = .bool true ∧ Ext h h' := by
  refine c7_ok (args := []) (by simp) ?_
  simp (disch := omega) only [dm_t, wZ, ↓reduceIte, Nat.reduceEqDiff, Nat.reduceAdd, Nat.reduceSub, Nat.reduceMul, Nat.reduceLeDiff, Nat.reduceLT, Nat.reduceMod, Nat.reduceDiv, Int.reduceToNat, Nat.min_eq_left, IntKind.bits, Int.reducePow, Int.reduceLT, Int.reduceLE, Int.reduceEq, Int.reduceNe, Int.reduceAdd, Int.reduceSub, reduceCtorEq, eq_self, implies_true, exists_const, Option.isNone_some, Option.isNone_none, Option.isSome_some, Option.isSome_none, Option.getD_some]
  refine (New_ok (n := 10) (by omega) (by omega)).k ?_
  rintro _ g1 ⟨p, rfl, hp, X0, e1⟩
  have X := X0 fun y => y = p
  simp (disch := omega) only [dm_t, wZ, ↓reduceIte, Nat.reduceEqDiff, Nat.reduceAdd, Nat.reduceSub, Nat.reduceMul, Nat.reduceLeDiff, Nat.reduceLT, Nat.reduceMod, Nat.reduceDiv, Int.reduceToNat, Nat.min_eq_left, IntKind.bits, Int.reducePow, Int.reduceLT, Int.reduceLE, Int.reduceEq, Int.reduceNe, Int.reduceAdd, Int.reduceSub, reduceCtorEq, eq_self, implies_true, exists_const, Option.isNone_some, Option.isNone_none, Option.isSome_some, Option.isSome_none, Option.getD_some]
  refine (num_ok _ _).k ?_
  rintro _ _ ⟨rfl, rfl⟩
  simp (disch := omega) only [dm_t, wZ, ↓reduceIte, Nat.reduceEqDiff, Nat.reduceAdd, Nat.reduceSub, Nat.reduceMul, Nat.reduceLeDiff, Nat.reduceLT, Nat.reduceMod, Nat.reduceDiv, Int.reduceToNat, Nat.min_eq_left, IntKind.bits, Int.reducePow, Int.reduceLT, Int.reduceLE, Int.reduceEq, Int.reduceNe, Int.reduceAdd, Int.reduceSub, reduceCtorEq, eq_self, implies_true, exists_const, Option.isNone_some, Option.isNone_none, Option.isSome_some, Option.isSome_none, Option.getD_some]
  refine (All_ok X).k ?_
  rintro _ g2 ⟨vb, u, rfl, -, -, -, e2⟩
  have X2 := X.ext e2
  simp (disch := omega) only [dm_t, wZ, ↓reduceIte, Nat.reduceEqDiff, Nat.reduceAdd, Nat.reduceSub, Nat.reduceMul, Nat.reduceLeDiff, Nat.reduceLT, Nat.reduceMod, Nat.reduceDiv, Int.reduceToNat, Nat.min_eq_left, IntKind.bits, Int.reducePow, Int.reduceLT, Int.reduceLE, Int.reduceEq, Int.reduceNe, Int.reduceAdd, Int.reduceSub, reduceCtorEq, eq_self, implies_true, exists_const, Option.isNone_some, Option.isNone_none, Option.isSome_some, Option.isSome_none, Option.getD_some]
  intro lb hlb
  have el := Ext.new hlb (.cells #[.int .i64 5, .slice none 0 0, .slice none 0 0, .int .i64 3, .slice none 0 0, .slice none 0 0, .int .i64 9, .slice none 0 0, .slice none 0 0] 48)
  have hr : RepL nos rc (hupd g2 lb (.cells #[.int .i64 5, .slice none 0 0, .slice none 0 0, .int .i64 3, .slice none 0 0, .slice none 0 0, .int .i64 9, .slice none 0 0, .slice none 0 0] 48)) (.slice (some ⟨lb, 0, none⟩) 3 3) wrs := by
    refine repL_iff.2 ⟨[[.int .i64 5, .slice none 0 0, .slice none 0 0], [.int .i64 3, .slice none 0 0, .slice none 0 0], [.int .i64 9, .slice none 0 0, .slice none 0 0]], ?_, rfl, ?_⟩
    · refine OwK.s0 (OwK.lit (O := fun _ => True) (fun r h => ?_) rfl (by show 3 * 3 ≤ 9; omega) (by omega) ?_ trivial (.inl rfl))
      · simp only [List.mem_cons, List.not_mem_nil, or_false] at h
        rcases h with rfl | rfl | rfl <;> rfl
      · have := at_arr (flat [[Value.int .i64 5, .slice none 0 0, .slice none 0 0], [.int .i64 3, .slice none 0 0, .slice none 0 0], [.int .i64 9, .slice none 0 0, .slice none 0 0]]) #[]
        simpa [flat] using this
    · intro i r x hr hx
      match i with
      | 0 => simp [wrs] at hr hx; subst hr hx; exact rep_rc.2 ⟨_, _, rfl, by decide, By.nil, By.nil⟩
      | 1 => simp [wrs] at hr hx; subst hr hx; exact rep_rc.2 ⟨_, _, rfl, by decide, By.nil, By.nil⟩
      | 2 => simp [wrs] at hr hx; subst hr hx; exact rep_rc.2 ⟨_, _, rfl, by decide, By.nil, By.nil⟩
      | n + 3 => simp at hr
  have X3 := X2.ext el
  refine (Put_ok X3 rfl (fun y hy => by rw [hy, X3.obj]; simp) hr (by decide)).k ?_
  rintro _ g4 ⟨rfl, hput⟩
  rw [w_out.2, if_pos rfl, w_out.1] at hput
  rw [w_out.2]
  obtain ⟨v', X4, f4⟩ := hput
  have E4 : Ext h g4 := Ext.step' (e1.trans (e2.trans el)) f4 fun y hy => by rw [hy]; exact hp
  simp (disch := omega) only [dm_t, wZ, ↓reduceIte, Nat.reduceEqDiff, Nat.reduceAdd, Nat.reduceSub, Nat.reduceMul, Nat.reduceLeDiff, Nat.reduceLT, Nat.reduceMod, Nat.reduceDiv, Int.reduceToNat, Nat.min_eq_left, IntKind.bits, Int.reducePow, Int.reduceLT, Int.reduceLE, Int.reduceEq, Int.reduceNe, Int.reduceAdd, Int.reduceSub, reduceCtorEq, eq_self, implies_true, exists_const, Option.isNone_some, Option.isNone_none, Option.isSome_some, Option.isSome_none, Option.getD_some]
  refine (Find_ok X4 6).k ?_
  rintro _ g5 ⟨rfl, e5⟩
  have hf : findP [((10 : Int), (5 : Int)), (12, 9)] 6 = (12, true) := by decide
  rw [hf]
  simp (disch := omega) only [dm_t, wZ, ↓reduceIte, Nat.reduceEqDiff, Nat.reduceAdd, Nat.reduceSub, Nat.reduceMul, Nat.reduceLeDiff, Nat.reduceLT, Nat.reduceMod, Nat.reduceDiv, Int.reduceToNat, Nat.min_eq_left, IntKind.bits, Int.reducePow, Int.reduceLT, Int.reduceLE, Int.reduceEq, Int.reduceNe, Int.reduceAdd, Int.reduceSub, reduceCtorEq, eq_self, implies_true, exists_const, Option.isNone_some, Option.isNone_none, Option.isSome_some, Option.isSome_none, Option.getD_some]
  refine (Until_ok (X4.ext e5) 11).k ?_
  rintro _ g6 ⟨rfl, e6⟩
  have hu : untilP [((10 : Int), (5 : Int)), (12, 9)] 11 = (5, true) := by decide
  rw [hu]
  have X6 := (X4.ext e5).ext e6
  simp (disch := omega) only [dm_t, wZ, ↓reduceIte, Nat.reduceEqDiff, Nat.reduceAdd, Nat.reduceSub, Nat.reduceMul, Nat.reduceLeDiff, Nat.reduceLT, Nat.reduceMod, Nat.reduceDiv, Int.reduceToNat, Nat.min_eq_left, IntKind.bits, Int.reducePow, Int.reduceLT, Int.reduceLE, Int.reduceEq, Int.reduceNe, Int.reduceAdd, Int.reduceSub, reduceCtorEq, eq_self, implies_true, exists_const, Option.isNone_some, Option.isNone_none, Option.isSome_some, Option.isSome_none, Option.getD_some]
  refine (num_ok _ _).k ?_
  rintro _ _ ⟨rfl, rfl⟩
  simp (disch := omega) only [dm_t, wZ, ↓reduceIte, Nat.reduceEqDiff, Nat.reduceAdd, Nat.reduceSub, Nat.reduceMul, Nat.reduceLeDiff, Nat.reduceLT, Nat.reduceMod, Nat.reduceDiv, Int.reduceToNat, Nat.min_eq_left, IntKind.bits, Int.reducePow, Int.reduceLT, Int.reduceLE, Int.reduceEq, Int.reduceNe, Int.reduceAdd, Int.reduceSub, reduceCtorEq, eq_self, implies_true, exists_const, Option.isNone_some, Option.isNone_none, Option.isSome_some, Option.isSome_none, Option.getD_some]
  refine (End_ok X6).k ?_
  rintro _ _ ⟨rfl, rfl⟩
  have h13 : (10 : Int) + (wrs.length : Nat) = 13 := by decide
  simp (disch := omega) only [dm_t, wZ, ↓reduceIte, Nat.reduceEqDiff, Nat.reduceAdd, Nat.reduceSub, Nat.reduceMul, Nat.reduceLeDiff, Nat.reduceLT, Nat.reduceMod, Nat.reduceDiv, Int.reduceToNat, Nat.min_eq_left, IntKind.bits, Int.reducePow, Int.reduceLT, Int.reduceLE, Int.reduceEq, Int.reduceNe, Int.reduceAdd, Int.reduceSub, reduceCtorEq, eq_self, implies_true, exists_const, Option.isNone_some, Option.isNone_none, Option.isSome_some, Option.isSome_none, Option.getD_some, h13]
  refine (Rises_ok X6).k ?_
  rintro w g7 ⟨ow, e7⟩
  obtain ⟨wa, wc, rfl⟩ := SlK.len ow.s0
  simp (disch := omega) only [dm_t, wZ, ↓reduceIte, Nat.reduceEqDiff, Nat.reduceAdd, Nat.reduceSub, Nat.reduceMul, Nat.reduceLeDiff, Nat.reduceLT, Nat.reduceMod, Nat.reduceDiv, Int.reduceToNat, Nat.min_eq_left, IntKind.bits, Int.reducePow, Int.reduceLT, Int.reduceLE, Int.reduceEq, Int.reduceNe, Int.reduceAdd, Int.reduceSub, reduceCtorEq, eq_self, implies_true, exists_const, Option.isNone_some, Option.isNone_none, Option.isSome_some, Option.isSome_none, Option.getD_some]
  exact ⟨by simp, E4.trans (e5.trans (e6.trans e7))⟩
end Go.Proofs.Ytmjbgfflbeibnaa.ti
