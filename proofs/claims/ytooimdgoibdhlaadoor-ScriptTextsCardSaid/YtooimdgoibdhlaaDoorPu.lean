/-
  The law's own: steps copied, kept; more than is worked out.
-/
import Derived.Test.YtooimdgoibdhlaaDoorPt
import Derived.Test.YtooimdgoibdhlaaDoorPz
namespace Go.Proofs.YtooimdgoibdhlaaDoor.sc
open Go Go.Proofs.YtooimdgoibdhlaaDoor Go.RowKit
set_option linter.unusedVariables false
set_option linter.unusedSimpArgs false
theorem fr_O {g2 g g' : H} {s : Value} (E : Ext g2 g) (f : Fr (fun y => g2 y = none ∧ isAt s y) g g') : Ext g2 g' := Ext.step' E f fun y hy => hy.1
theorem isAt_one {b1 b o o' n c n' c' y : Nat} (h1 : isAt (.slice (some ⟨b1, o, none⟩) n c) y) (h2 : isAt (.slice (some ⟨b, o', none⟩) n' c') y) : b1 = b := by
  obtain ⟨_, _, _, e1⟩ := h1
  obtain ⟨_, _, _, e2⟩ := h2
  simp only [Value.slice.injEq, Option.some.injEq, Addr.mk.injEq, and_true] at e1 e2
  rw [e1.1.1, e2.1.1]
/-- The bytes copied, with one more behind them. -/
theorem copied_s0 {Q : Post} {g2 : H} {pa pr : Nat} {T : Nat → Prop} {va : Option Addr} {vc' : Nat} {l : List UInt8} {cells : List Value} (qa : g2 pa = some (.cells cells.toArray 31)) (c2 : cellAt g2 ⟨pa, 2, none⟩ = some (.slice va l.length vc')) (hb : By T g2 (.slice va l.length vc') l) (hl : l.length ≤ 20000) (hcs : cells.length = 7)
    (fin : ∀ g9 (a8 : Option Addr) (c8 : Nat), ∀ {g8 : H}, hupd g8 pa (.cells (cells.toArray.setIfInBounds 2 (.slice a8 l.length c8)) 31) = g9 → Ext g2 g8 → OwB (fun y => g2 y = none) g8 5 (.slice a8 (l.length + 1) c8) (l ++ [165]) → vc Tryd.prog c11_s1 Q [(1, .pointer (some ⟨pa, 0, none⟩)), (2, .pointer (some ⟨pr, 0, none⟩))] g9) :
    vc Tryd.prog c11_s0 Q [(1, .pointer (some ⟨pa, 0, none⟩)), (2, .pointer (some ⟨pr, 0, none⟩))] g2 := by
  have hsz : 2 < cells.toArray.size := by simp [hcs]
  have key : ∀ {g8 : H} {v8 : Value}, OwB (fun y => g2 y = none) g8 5 v8 (l ++ [165]) → ∃ a8 c8, v8 = .slice a8 (l.length + 1) c8 := fun ho => by
    obtain ⟨a, c, e⟩ := By.len ho.s0
    exact ⟨a, c, by rw [e]; simp⟩
  simp (disch := omega) only [dm_t, wS, simprocAttr, IntKind.bits, c2]
  refine ⟨?_, ?_⟩
  · intro b hbn
    have E3 : Ext g2 (hupd g2 b (.cells #[] 5)) := Ext.new hbn _
    have o3 : OwB (fun y => g2 y = none) (hupd g2 b (.cells #[] 5)) 5 (.slice (some ⟨b, 0, none⟩) 0 0) [] := olit1 [] rfl hbn
    refine ⟨cellAt_ext E3 c2, ?_, ?_⟩
    · refine appB o3 (fun y hy => E3.bk hy) (hb.ext E3) (by simp; omega) ?_
      intro v6 g6 o6 f6
      rw [List.nil_append] at o6
      have E6 := fr_O E3 f6
      simp (disch := omega) only [dm_t, wS, simprocAttr, IntKind.bits, cellAt_ext E6 c2]
      intro b1 hb1
      refine ⟨cellAt_ext (E6.trans (Ext.new hb1 _)) c2, ?_⟩
      refine pushB (V := fun _ => _) 165 o6 (fun y hy => E6.bk hy) rfl (by simp; omega) ?_ b1 hb1
      intro _ v8 g8 _ ho8 f8
      have E8 := fr_O E6 f8
      obtain ⟨a8, c8, rfl⟩ := key ho8
      (have hcap := (SlK.cap ho8.s0).2.1; have hpre := slcV_pre 1 a8 (l.length + 1) c8 l.length (by omega); simp (disch := omega) only [dm_t, wS, simprocAttr, IntKind.bits, cellAt_ext E8 c2, hpre, hcs, hsz, storeH_0 (E8.at qa)]; generalize hG : hupd g8 pa _ = g9; have k := fin g9 a8 c8 hG E8 ho8; revert k; simp (disch := omega) only [dm_t, wS, simprocAttr, IntKind.bits]; exact id)
    · intro b1 hb1
      have hbb : b1 ≠ b := fun he => by rw [he, hupd_same] at hb1; cases hb1
      have E4 : Ext g2 (hupd (hupd g2 b (.cells #[] 5)) b1 (.cells #[.int .u8 165] 5)) := E3.trans (Ext.new hb1 _)
      have o4 := OwK.ext o3 (Ext.new hb1 (.cells #[.int .u8 165] 5))
      have ol : OwB (fun y => g2 y = none) (hupd (hupd g2 b (.cells #[] 5)) b1 (.cells #[.int .u8 165] 5)) 5 (.slice (some ⟨b1, 0, none⟩) 1 1) [165] := olit1 (bvs [165]) rfl (E3.bk hb1)
      refine ⟨cellAt_ext E4 c2, ?_⟩
      refine appB o4 (fun y hy => E4.bk hy) (hb.ext E4) (by simp; omega) ?_
      intro v6 g6 o6 f6
      rw [List.nil_append] at o6
      have E6 := fr_O E4 f6
      have ol6 := OwK.fr ol f6 fun y hy _ hat => hbb (isAt_one hat hy.2)
      simp (disch := omega) only [dm_t, wS, simprocAttr, IntKind.bits, cellAt_ext E6 c2]
      refine appB o6 (fun y hy => E6.bk hy) ol6.s0 (by simp; omega) ?_
      intro v8 g8 ho8 f8
      have E8 := fr_O E6 f8
      obtain ⟨a8, c8, rfl⟩ := key ho8
      (have hcap := (SlK.cap ho8.s0).2.1; have hpre := slcV_pre 1 a8 (l.length + 1) c8 l.length (by omega); simp (disch := omega) only [dm_t, wS, simprocAttr, IntKind.bits, cellAt_ext E8 c2, hpre, hcs, hsz, storeH_0 (E8.at qa)]; generalize hG : hupd g8 pa _ = g9; have k := fin g9 a8 c8 hG E8 ho8; revert k; simp (disch := omega) only [dm_t, wS, simprocAttr, IntKind.bits]; exact id)
  · intro b1 hb1
    have E3 : Ext g2 (hupd g2 b1 (.cells #[.int .u8 165] 5)) := Ext.new hb1 _
    have ol3 : OwB (fun y => g2 y = none) (hupd g2 b1 (.cells #[.int .u8 165] 5)) 5 (.slice (some ⟨b1, 0, none⟩) 1 1) [165] := olit1 (bvs [165]) rfl hb1
    refine ⟨cellAt_ext E3 c2, ?_⟩
    intro b hbn
    have hbb : b1 ≠ b := fun he => by rw [← he, hupd_same] at hbn; cases hbn
    have E4 : Ext g2 (hupd (hupd g2 b1 (.cells #[.int .u8 165] 5)) b (.cells #[] 5)) := E3.trans (Ext.new hbn _)
    have o4 : OwB (fun y => g2 y = none) (hupd (hupd g2 b1 (.cells #[.int .u8 165] 5)) b (.cells #[] 5)) 5 (.slice (some ⟨b, 0, none⟩) 0 0) [] := olit1 [] rfl (E3.bk hbn)
    have ol := OwK.ext ol3 (Ext.new hbn (.cells #[] 5))
    refine ⟨cellAt_ext E4 c2, ?_⟩
    refine appB o4 (fun y hy => E4.bk hy) (hb.ext E4) (by simp; omega) ?_
    intro v6 g6 o6 f6
    rw [List.nil_append] at o6
    have E6 := fr_O E4 f6
    have ol6 := OwK.fr ol f6 fun y hy _ hat => hbb (isAt_one hat hy.2)
    simp (disch := omega) only [dm_t, wS, simprocAttr, IntKind.bits, cellAt_ext E6 c2]
    refine appB o6 (fun y hy => E6.bk hy) ol6.s0 (by simp; omega) ?_
    intro v8 g8 ho8 f8
    have E8 := fr_O E6 f8
    obtain ⟨a8, c8, rfl⟩ := key ho8
    (have hcap := (SlK.cap ho8.s0).2.1; have hpre := slcV_pre 1 a8 (l.length + 1) c8 l.length (by omega); simp (disch := omega) only [dm_t, wS, simprocAttr, IntKind.bits, cellAt_ext E8 c2, hpre, hcs, hsz, storeH_0 (E8.at qa)]; generalize hG : hupd g8 pa _ = g9; have k := fin g9 a8 c8 hG E8 ho8; revert k; simp (disch := omega) only [dm_t, wS, simprocAttr, IntKind.bits]; exact id)
/-- The picks copied, with one more behind them. -/
theorem copied_s1 {Q : Post} {g2 : H} {pa pr : Nat} {T : Nat → Prop} {va : Option Addr} {vc' : Nat} {l : List Int} {cells : List Value} (qa : g2 pa = some (.cells cells.toArray 31)) (c6 : cellAt g2 ⟨pa, 6, none⟩ = some (.slice va l.length vc')) (hb : RepL T tI g2 (.slice va l.length vc') l) (hl : l.length ≤ 500) (hcs : cells.length = 7)
    (fin : ∀ g9 (a8 : Option Addr) (c8 : Nat), ∀ {g8 : H}, hupd g8 pa (.cells (cells.toArray.setIfInBounds 6 (.slice a8 l.length c8)) 31) = g9 → Ext g2 g8 → O1 (fun y => g2 y = none) g8 3 (.slice a8 (l.length + 1) c8) ((l ++ [77]).map (.int .i64)) → vc Tryd.prog c11_s2 Q [(1, .pointer (some ⟨pa, 0, none⟩)), (2, .pointer (some ⟨pr, 0, none⟩))] g9) :
    vc Tryd.prog c11_s1 Q [(1, .pointer (some ⟨pa, 0, none⟩)), (2, .pointer (some ⟨pr, 0, none⟩))] g2 := by
  have hsz : 6 < cells.toArray.size := by simp [hcs]
  have key : ∀ {g8 : H} {v8 : Value}, O1 (fun y => g2 y = none) g8 3 v8 ((l ++ [77]).map (.int .i64)) → ∃ a8 c8, v8 = .slice a8 (l.length + 1) c8 := fun ho => by
    obtain ⟨a, c, e⟩ := S1.len ho.s0
    exact ⟨a, c, by rw [e]; simp⟩
  simp (disch := omega) only [dm_t, wS, simprocAttr, IntKind.bits, c6]
  refine ⟨?_, ?_⟩
  · intro b hbn
    have E3 : Ext g2 (hupd g2 b (.cells #[] 3)) := Ext.new hbn _
    have o3 : O1 (fun y => g2 y = none) (hupd g2 b (.cells #[] 3)) 3 (.slice (some ⟨b, 0, none⟩) 0 0) (([] : List Int).map (.int .i64)) := olit1 [] rfl hbn
    refine ⟨cellAt_ext E3 c6, ?_, ?_⟩
    · refine appI o3 (fun y hy => E3.bk hy) (repI (hb.ext E3)).1 (by simp; omega) ?_
      intro v6 g6 o6 f6
      rw [List.nil_append] at o6
      have E6 := fr_O E3 f6
      simp (disch := omega) only [dm_t, wS, simprocAttr, IntKind.bits, cellAt_ext E6 c6]
      intro b1 hb1
      refine ⟨cellAt_ext (E6.trans (Ext.new hb1 _)) c6, ?_⟩
      refine pushI (V := fun _ => _) o6 (fun y hy => E6.bk hy) (by simp; omega) ?_ b1 hb1
      intro _ v8 g8 _ ho8 f8
      have E8 := fr_O E6 f8
      obtain ⟨a8, c8, rfl⟩ := key ho8
      (have hcap := (SlK.cap ho8.s0).2.1; have hpre := slcV_pre 1 a8 (l.length + 1) c8 l.length (by omega); simp (disch := omega) only [dm_t, wS, simprocAttr, IntKind.bits, cellAt_ext E8 c6, hpre, hcs, hsz, storeH_0 (E8.at qa)]; generalize hG : hupd g8 pa _ = g9; have k := fin g9 a8 c8 hG E8 ho8; revert k; simp (disch := omega) only [dm_t, wS, simprocAttr, IntKind.bits]; exact id)
    · intro b1 hb1
      have hbb : b1 ≠ b := fun he => by rw [he, hupd_same] at hb1; cases hb1
      have E4 : Ext g2 (hupd (hupd g2 b (.cells #[] 3)) b1 (.cells #[.int .i64 77] 3)) := E3.trans (Ext.new hb1 _)
      have o4 := OwK.ext o3 (Ext.new hb1 (.cells #[.int .i64 77] 3))
      have ol : O1 (fun y => g2 y = none) (hupd (hupd g2 b (.cells #[] 3)) b1 (.cells #[.int .i64 77] 3)) 3 (.slice (some ⟨b1, 0, none⟩) 1 1) ([77].map (.int .i64)) := olit1 [.int .i64 77] rfl (E3.bk hb1)
      refine ⟨cellAt_ext E4 c6, ?_⟩
      refine appI o4 (fun y hy => E4.bk hy) (repI (hb.ext E4)).1 (by simp; omega) ?_
      intro v6 g6 o6 f6
      rw [List.nil_append] at o6
      have E6 := fr_O E4 f6
      have ol6 := OwK.fr ol f6 fun y hy _ hat => hbb (isAt_one hat hy.2)
      simp (disch := omega) only [dm_t, wS, simprocAttr, IntKind.bits, cellAt_ext E6 c6]
      refine appI o6 (fun y hy => E6.bk hy) ol6.s0 (by simp; omega) ?_
      intro v8 g8 ho8 f8
      have E8 := fr_O E6 f8
      obtain ⟨a8, c8, rfl⟩ := key ho8
      (have hcap := (SlK.cap ho8.s0).2.1; have hpre := slcV_pre 1 a8 (l.length + 1) c8 l.length (by omega); simp (disch := omega) only [dm_t, wS, simprocAttr, IntKind.bits, cellAt_ext E8 c6, hpre, hcs, hsz, storeH_0 (E8.at qa)]; generalize hG : hupd g8 pa _ = g9; have k := fin g9 a8 c8 hG E8 ho8; revert k; simp (disch := omega) only [dm_t, wS, simprocAttr, IntKind.bits]; exact id)
  · intro b1 hb1
    have E3 : Ext g2 (hupd g2 b1 (.cells #[.int .i64 77] 3)) := Ext.new hb1 _
    have ol3 : O1 (fun y => g2 y = none) (hupd g2 b1 (.cells #[.int .i64 77] 3)) 3 (.slice (some ⟨b1, 0, none⟩) 1 1) ([77].map (.int .i64)) := olit1 [.int .i64 77] rfl hb1
    refine ⟨cellAt_ext E3 c6, ?_⟩
    intro b hbn
    have hbb : b1 ≠ b := fun he => by rw [← he, hupd_same] at hbn; cases hbn
    have E4 : Ext g2 (hupd (hupd g2 b1 (.cells #[.int .i64 77] 3)) b (.cells #[] 3)) := E3.trans (Ext.new hbn _)
    have o4 : O1 (fun y => g2 y = none) (hupd (hupd g2 b1 (.cells #[.int .i64 77] 3)) b (.cells #[] 3)) 3 (.slice (some ⟨b, 0, none⟩) 0 0) (([] : List Int).map (.int .i64)) := olit1 [] rfl (E3.bk hbn)
    have ol := OwK.ext ol3 (Ext.new hbn (.cells #[] 3))
    refine ⟨cellAt_ext E4 c6, ?_⟩
    refine appI o4 (fun y hy => E4.bk hy) (repI (hb.ext E4)).1 (by simp; omega) ?_
    intro v6 g6 o6 f6
    rw [List.nil_append] at o6
    have E6 := fr_O E4 f6
    have ol6 := OwK.fr ol f6 fun y hy _ hat => hbb (isAt_one hat hy.2)
    simp (disch := omega) only [dm_t, wS, simprocAttr, IntKind.bits, cellAt_ext E6 c6]
    refine appI o6 (fun y hy => E6.bk hy) ol6.s0 (by simp; omega) ?_
    intro v8 g8 ho8 f8
    have E8 := fr_O E6 f8
    obtain ⟨a8, c8, rfl⟩ := key ho8
    (have hcap := (SlK.cap ho8.s0).2.1; have hpre := slcV_pre 1 a8 (l.length + 1) c8 l.length (by omega); simp (disch := omega) only [dm_t, wS, simprocAttr, IntKind.bits, cellAt_ext E8 c6, hpre, hcs, hsz, storeH_0 (E8.at qa)]; generalize hG : hupd g8 pa _ = g9; have k := fin g9 a8 c8 hG E8 ho8; revert k; simp (disch := omega) only [dm_t, wS, simprocAttr, IntKind.bits]; exact id)
end Go.Proofs.YtooimdgoibdhlaaDoor.sc
namespace Go.Proofs.YtooimdgoibdhlaaDoor.sc
open Go Go.Proofs.YtooimdgoibdhlaaDoor Go.RowKit
set_option linter.unusedVariables false
set_option linter.unusedSimpArgs false
/-- A copied step: its lists, with one more behind each. -/
structure CP (O : Nat → Prop) (h : H) (x : St) (vb vp : Value) : Prop where
  b : ∃ a c, vb = .slice a x.2.2.1.length c ∧ OwB O h 5 (.slice a (x.2.2.1.length + 1) c) (x.2.2.1 ++ [165])
  p : ∃ a c, vp = .slice a x.2.2.2.2.2.length c ∧ O1 O h 3 (.slice a (x.2.2.2.2.2.length + 1) c) ((x.2.2.2.2.2 ++ [77]).map (.int .i64))
theorem CP.ext {O : Nat → Prop} {h h' : H} {x : St} {vb vp : Value} (k : CP O h x vb vp) (e : Ext h h') : CP O h' x vb vp := by
  obtain ⟨⟨a, c, h1, h2⟩, a', c', h3, h4⟩ := k
  exact ⟨⟨a, c, h1, h2.ext e⟩, a', c', h3, h4.ext e⟩
theorem pre_sl {O : Nat → Prop} {h : H} {E : TypeId} {a : Option Addr} {m c : Nat} {xs ys : List Value} (o : O1 O h E (.slice a (m + ys.length) c) (xs ++ ys)) (hm : xs.length = m) : O1 O h E (.slice a m c) xs := by
  have hc := (SlK.cap o.s0).2.1
  have := O1.pre o (m := m) (by omega) hc
  rwa [List.take_append_of_le_length (by omega), List.take_of_length_le (by omega)] at this
theorem CP.rep {O : Nat → Prop} {h : H} {x : St} {vb vp : Value} (k : CP O h x vb vp) (hb : sB x) (hi : ∀ n ∈ x.2.2.2.2.2, inI n) : Rep nos stT h (sCs x vb vp) x := by
  obtain ⟨⟨a, c, h1, h2⟩, a', c', h3, h4⟩ := k
  subst h1 h3
  rw [OwB, bvs_append] at h2
  rw [List.map_append] at h4
  exact rep_st.2 ⟨_, _, rfl, hb, (pre_sl (ys := bvs [165]) h2 (bvs_len _)).s0, iRep (pre_sl (ys := [77].map (.int .i64)) h4 (by rw [List.length_map])).s0 hi⟩
section
variable {S : Nat → Prop} {h : H}
theorem copied_ok {cs : List Value} {x : St} (hx : Rep S stT h cs x) (h1 : x.2.2.1.length ≤ 20000) (h2 : x.2.2.2.2.2.length ≤ 500) : Ok Tryd.prog 11 #[.agg cs.toArray] h fun v h' => (∃ vb vp, v = .agg (sCs x vb vp).toArray ∧ CP (fun y => h y = none) h' x vb vp) ∧ Ext h h' := by
  obtain ⟨v, w, rfl, hb, hv, hw⟩ := rep_st.1 hx
  have wv := Rep.cells (repB.2 hv)
  have ww := Rep.cells hw
  obtain ⟨va, vc', rfl⟩ := hv.len
  obtain ⟨wa, wc', rfl⟩ := hw.len
  refine c11_ok (args := [_]) (by simp) ?_
  simp (disch := omega) only [dm_t, wS, simprocAttr, IntKind.bits]
  intro pa hpa pr hpr
  generalize hG : hupd h pa _ = g1 at hpr ⊢
  obtain ⟨e1, qa⟩ := new_ext hG hpa
  clear hG
  have hne : pr ≠ pa := fun he => by rw [he, qa] at hpr; cases hpr
  generalize hG : hupd g1 pr _ = g2
  obtain ⟨e2, qr⟩ := new_ext hG hpr
  clear hG
  have E2 := e1.trans e2
  replace qa := e2.at qa
  have k0 : vc Tryd.prog c11_s0 (retC [.cn 2 7 31] (okR fun v h' => (∃ vb vp, v = .agg (sCs x vb vp).toArray ∧ CP (fun y => h y = none) h' x vb vp) ∧ Ext h h')) [(1, .pointer (some ⟨pa, 0, none⟩)), (2, .pointer (some ⟨pr, 0, none⟩))] g2 := by
    refine copied_s0 qa (cells_of qa 2 rfl) (hv.ext E2) h1 rfl ?_
    intro g9 a8 c8 g8 hg E8 ho8
    have qa9 : g9 pa = some (.cells (sCs x (.slice a8 x.2.2.1.length c8) (.slice wa x.2.2.2.2.2.length wc')).toArray 31) := by rw [← hg, hupd_same]; rfl
    have f9 : Fr (fun y => y = pa) g8 g9 := by rw [← hg]; exact Fr.upd (S := fun y => y = pa) rfl _
    have n8 : ¬ isAt (.slice a8 (x.2.2.1.length + 1) c8) pa := OwK.tyno ho8 (E8.at qa) (by decide)
    have ho9 := OwK.fr ho8 f9 fun y hy _ hat => n8 (by rw [← hy]; exact hat)
    have E9 : Ext h g9 := Ext.step' (E2.trans E8) f9 fun y hy => by rw [hy]; exact hpa
    have qr9 : g9 pr = some (.cells z7.toArray 31) := f9 _ _ (E8.at qr) hne
    clear hg
    refine copied_s1 qa9 (cells_of qa9 6 rfl) (hw.ext E9) h2 rfl ?_
    intro g10 a10 c10 g11 hg E10 ho10
    have qa10 : g10 pa = some (.cells (sCs x (.slice a8 x.2.2.1.length c8) (.slice a10 x.2.2.2.2.2.length c10)).toArray 31) := by rw [← hg, hupd_same]; rfl
    have f10 : Fr (fun y => y = pa) g11 g10 := by rw [← hg]; exact Fr.upd (S := fun y => y = pa) rfl _
    have n10 : ¬ isAt (.slice a10 (x.2.2.2.2.2.length + 1) c10) pa := OwK.tyno ho10 (E10.at qa9) (by decide)
    have hp10 := OwK.fr ho10 f10 fun y hy _ hat => n10 (by rw [← hy]; exact hat)
    have hb10 := OwK.fr (OwK.ext ho9 E10) f10 fun y hy _ hat => n8 (by rw [← hy]; exact hat)
    have E12 : Ext h g10 := Ext.step' (E9.trans E10) f10 fun y hy => by rw [hy]; exact hpa
    have qr10 : g10 pr = some (.cells z7.toArray 31) := f10 _ _ (E10.at qr9) hne
    clear hg
    have aa : cellsAt g10 ⟨pa, 0, none⟩ 7 = some (sCs x (.slice a8 x.2.2.1.length c8) (.slice a10 x.2.2.2.2.2.length c10)).toArray := cellsAt_all qa10 7 rfl
    simp (disch := omega) only [dm_t, wS, simprocAttr, IntKind.bits, aa]
    refine storeH_all qr10 rfl (cells_sCs rfl rfl) ?_
    have k : cellsAt (hupd g10 pr (.cells (sCs x (.slice a8 x.2.2.1.length c8) (.slice a10 x.2.2.2.2.2.length c10)).toArray 31)) ⟨pr, 0, none⟩ 7 = some (sCs x (.slice a8 x.2.2.1.length c8) (.slice a10 x.2.2.2.2.2.length c10)).toArray := cellsAt_all (hupd_same _ _ _) 7 rfl
    have fr : Fr (fun y => y = pr) g10 (hupd g10 pr (.cells (sCs x (.slice a8 x.2.2.1.length c8) (.slice a10 x.2.2.2.2.2.length c10)).toArray 31)) := Fr.upd (S := fun y => y = pr) rfl _
    have m1 : ¬ isAt (.slice a8 (x.2.2.1.length + 1) c8) pr := OwK.tyno hb10 qr10 (by decide)
    have m2 : ¬ isAt (.slice a10 (x.2.2.2.2.2.length + 1) c10) pr := OwK.tyno hp10 qr10 (by decide)
    simp (disch := omega) only [dm_t, wS, simprocAttr, IntKind.bits, k]
    refine ⟨⟨_, _, rfl, ⟨a8, c8, rfl, ?_⟩, ⟨a10, c10, rfl, ?_⟩⟩, Ext.step' E12 fr fun y hy => by rw [hy]; exact e1.bk hpr⟩
    · exact OwK.mono (OwK.fr hb10 fr fun y hy _ hat => m1 (by rw [← hy]; exact hat)) fun y o _ hn => E2.bk hn
    · exact OwK.mono (OwK.fr hp10 fr fun y hy _ hat => m2 (by rw [← hy]; exact hat)) fun y o _ hn => E9.bk hn
  have c2 := cells_of qa 2 (v := .slice va x.2.2.1.length vc') rfl
  revert k0
  simp (disch := omega) only [dm_t, wS, simprocAttr, IntKind.bits, c2]
  exact id
/-- As it was: the law's own 'kept'. -/
theorem kept_ok {O : Nat → Prop} {cs : List Value} {x : St} {vb vp : Value} (hx : Rep S stT h cs x) (k : CP O h x vb vp) (h1 : x.2.2.1.length ≤ 20000) (hl : x.2.2.2.2.2.length ≤ 500) : Ok Tryd.prog 15 #[.agg (sCs x vb vp).toArray, .agg cs.toArray] h fun v h' => v = .bool true ∧ Ext h h' := by
  obtain ⟨v, w, rfl, hb, hv, hw⟩ := rep_st.1 hx
  have rm := k.rep hb (ints_in hw)
  have wv := Rep.cells (repB.2 hv)
  have ww := Rep.cells hw
  obtain ⟨va, vc', rfl⟩ := hv.len
  obtain ⟨wa, wc', rfl⟩ := hw.len
  obtain ⟨⟨a, c, rfl, kb⟩, a', c', rfl, kp⟩ := id k
  refine c15_ok (args := [_, _]) (by simp) ?_
  simp (disch := omega) only [dm_t, wS, simprocAttr, IntKind.bits]
  intro pa hpa pb hpb
  generalize hG : hupd h pa _ = g1 at hpb ⊢
  obtain ⟨e1, qa⟩ := new_ext hG hpa
  clear hG
  generalize hG : hupd g1 pb _ = g2
  obtain ⟨e2, qb⟩ := new_ext hG hpb
  clear hG
  have E := e1.trans e2
  replace qa := e2.at qa
  have A := V7.mk' qa
  have B := V7.mk' qb
  have aa := A.all; have ba := B.all
  simp (disch := omega) only [dm_t, wS, simprocAttr, IntKind.bits, aa, ba]
  refine (DSame_ok (rm.ext E) (hx.ext E) (by omega)).k ?_
  rintro _ g3 ⟨rfl, e3⟩
  have E3 := E.trans e3
  have A3 := A.ext e3; have B3 := B.ext e3
  have a2 := A3.c2; have a6 := A3.c6; have b2 := B3.c2; have b6 := B3.c6; have aa3 := A3.all; have ba3 := B3.all
  have hcb := (SlK.cap kb.s0).2.1
  have hcp := (SlK.cap kp.s0).2.1
  have p1 := slcV_pre 1 a x.2.2.1.length c (x.2.2.1.length + 1) (by omega)
  have p2 := slcV_pre 1 a' x.2.2.2.2.2.length c' (x.2.2.2.2.2.length + 1) (by omega)
  rw [show ((x.2.2.1.length + 1 : Nat) : Int) = (x.2.2.1.length : Int) + 1 by omega] at p1
  rw [show ((x.2.2.2.2.2.length + 1 : Nat) : Int) = (x.2.2.2.2.2.length : Int) + 1 by omega] at p2
  obtain ⟨b1, o1, i1, t1⟩ := By.load (kb.ext E3).s0 (i := x.2.2.1.length) (by simp) .i64
  obtain ⟨b3, o3, i3, t3⟩ := S1.load (OwK.ext kp E3).s0 (i := x.2.2.2.2.2.length) (by simp) .i64
  have v1 : (x.2.2.1 ++ [165])[x.2.2.1.length]'(by simp) = 165 := by simp
  have v3 : (((x.2.2.2.2.2 ++ [77]).map (Value.int .i64))[x.2.2.2.2.2.length]'(by simp)) = .int .i64 77 := by simp
  rw [v1] at t1
  rw [v3] at t3
  replace t1 : cellAt g3 ⟨b1, o1, none⟩ = some (.int .u8 165) := t1
  rw [decide_eq_true rfl]
  simp (disch := omega) only [dm_t, wS, simprocAttr, IntKind.bits, aa3, ba3, a2, a6, b2, b6, p1, p2, i1, t1, i3, t3]
  exact E3
end
end Go.Proofs.YtooimdgoibdhlaaDoor.sc
