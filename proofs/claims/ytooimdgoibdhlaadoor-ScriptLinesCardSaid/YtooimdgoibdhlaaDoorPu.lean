/-
  The law's own: steps copied, kept; more than is worked out.
-/
import Derived.Test.YtooimdgoibdhlaaDoorPt
namespace Go.Proofs.YtooimdgoibdhlaaDoor.sc
open Go Go.Proofs.YtooimdgoibdhlaaDoor Go.RowKit
set_option linter.unusedVariables false
set_option linter.unusedSimpArgs false
theorem fr_O {g2 g g' : H} {s : Value} (E : Ext g2 g) (f : Fr (fun y => g2 y = none ∧ isAt s y) g g') : Ext g2 g' := Ext.step' E f fun y hy => hy.1
theorem isAt_one {b1 b o o' n c n' c' y : Nat} (h1 : isAt (.slice (some ⟨b1, o, none⟩) n c) y) (h2 : isAt (.slice (some ⟨b, o', none⟩) n' c') y) : b1 = b := by
  obtain ⟨_, _, _, e1⟩ := h1
  obtain ⟨_, _, _, e2⟩ := h2
  simp only [Value.slice.injEq, Option.some.injEq, Addr.mk.injEq, and_true] at e1 e2
  rw [e1.1.1, e2.1.1]
theorem appI {O : Nat → Prop} {h : H} {E : TypeId} {z s x : Value} {xs new : List Int} {V : Value → H → Prop} (hs : O1 O h E s (xs.map (.int .i64))) (hO : ∀ b, h b = none → O b)
    {S : Nat → Prop} (hx : S1 S h x (new.map (.int .i64))) (hlen : xs.length + new.length ≤ 1000000)
    (hk : ∀ v h', O1 O h' E v ((xs ++ new).map (.int .i64)) → Fr (fun y => O y ∧ isAt s y) h h' → V v h') : appM E 1 8 #[z] s x h V := by
  refine app1 hs hO hx (cells_ints _ _) (by rw [List.length_map, List.length_map]; omega) (by rw [List.length_map, List.length_map]; omega) ?_
  intro v h' ho hf
  rw [← List.map_append] at ho
  exact hk v h' ho hf
theorem pushI {O : Nat → Prop} {h : H} {E : TypeId} {z s : Value} {n : Int} {xs : List Int} {V : Nat → Value → H → Prop} (hs : O1 O h E s (xs.map (.int .i64))) (hO : ∀ b, h b = none → O b) (hlen : xs.length + 1 ≤ 1000000)
    (hk : ∀ (y0 : Nat) v h', h y0 = none → O1 O h' E v ((xs ++ [n]).map (.int .i64)) → Fr (fun y => O y ∧ isAt s y) h h' → V y0 v h') :
    ∀ b, h b = none → appM E 1 8 #[z] s (.slice (some ⟨b, 0, none⟩) 1 1) (hupd h b (.cells #[.int .i64 n] E)) (V b) := by
  refine push1 hs hO rfl (by rw [List.length_map]; omega) (by rw [List.length_map]; omega) ?_
  intro c v h' hc ho hf
  refine hk c v h' hc ?_ hf
  rw [List.map_append]; exact ho
/-- The bytes copied, with one more behind them. -/
theorem copied_s0 {Q : Post} {g2 : H} {pa pr : Nat} {T : Nat → Prop} {va : Option Addr} {vc' : Nat} {l : List UInt8} {cells : List Value} (qa : g2 pa = some (.cells cells.toArray 31)) (c2 : cellAt g2 ⟨pa, 2, none⟩ = some (.slice va l.length vc')) (hb : By T g2 (.slice va l.length vc') l) (hl : l.length ≤ 20000) (hcs : cells.length = 7)
    (fin : ∀ g9 (a8 : Option Addr) (c8 : Nat), ∀ {g8 : H}, hupd g8 pa (.cells (cells.toArray.setIfInBounds 2 (.slice a8 l.length c8)) 31) = g9 → Ext g2 g8 → OwB (fun y => g2 y = none) g8 5 (.slice a8 (l.length + 1) c8) (l ++ [165]) → vc Tryd.prog c11_s1 Q [(1, .pointer (some ⟨pa, 0, none⟩)), (2, .pointer (some ⟨pr, 0, none⟩))] g9) :
    vc Tryd.prog c11_s0 Q [(1, .pointer (some ⟨pa, 0, none⟩)), (2, .pointer (some ⟨pr, 0, none⟩))] g2 := by
  have hsz : 2 < cells.toArray.size := by simp [hcs]
  have key : ∀ {g8 : H} {v8 : Value}, OwB (fun y => g2 y = none) g8 5 v8 (l ++ [165]) → ∃ a8 c8, v8 = .slice a8 (l.length + 1) c8 := fun ho => by
    obtain ⟨a, c, e⟩ := By.len ho.s0
    exact ⟨a, c, by rw [e]; simp⟩
  simp (disch := omega) only [dm_t, wS, simprocAttr, IntKind.bits, c2]
  refine ⟨?_, ?_⟩
  · intro b hbn
    have E3 : Ext g2 (hupd g2 b (.cells #[] 5)) := Ext.new hbn _
    have o3 : OwB (fun y => g2 y = none) (hupd g2 b (.cells #[] 5)) 5 (.slice (some ⟨b, 0, none⟩) 0 0) [] := olit1 [] rfl hbn
    refine ⟨cellAt_ext E3 c2, ?_, ?_⟩
    · refine appB o3 (fun y hy => E3.bk hy) (hb.ext E3) (by simp; omega) ?_
      intro v6 g6 o6 f6
      rw [List.nil_append] at o6
      have E6 := fr_O E3 f6
      simp (disch := omega) only [dm_t, wS, simprocAttr, IntKind.bits, cellAt_ext E6 c2]
      intro b1 hb1
      refine ⟨cellAt_ext (E6.trans (Ext.new hb1 _)) c2, ?_⟩
      refine pushB (V := fun _ => _) 165 o6 (fun y hy => E6.bk hy) rfl (by simp; omega) ?_ b1 hb1
      intro _ v8 g8 _ ho8 f8
      have E8 := fr_O E6 f8
      obtain ⟨a8, c8, rfl⟩ := key ho8
      (have hcap := (SlK.cap ho8.s0).2.1; have hpre := slcV_pre 1 a8 (l.length + 1) c8 l.length (by omega); simp (disch := omega) only [dm_t, wS, simprocAttr, IntKind.bits, cellAt_ext E8 c2, hpre, hcs, hsz, storeH_0 (E8.at qa)]; generalize hG : hupd g8 pa _ = g9; have k := fin g9 a8 c8 hG E8 ho8; revert k; simp (disch := omega) only [dm_t, wS, simprocAttr, IntKind.bits]; exact id)
    · intro b1 hb1
      have hbb : b1 ≠ b := fun he => by rw [he, hupd_same] at hb1; cases hb1
      have E4 : Ext g2 (hupd (hupd g2 b (.cells #[] 5)) b1 (.cells #[.int .u8 165] 5)) := E3.trans (Ext.new hb1 _)
      have o4 := OwK.ext o3 (Ext.new hb1 (.cells #[.int .u8 165] 5))
      have ol : OwB (fun y => g2 y = none) (hupd (hupd g2 b (.cells #[] 5)) b1 (.cells #[.int .u8 165] 5)) 5 (.slice (some ⟨b1, 0, none⟩) 1 1) [165] := olit1 (bvs [165]) rfl (E3.bk hb1)
      refine ⟨cellAt_ext E4 c2, ?_⟩
      refine appB o4 (fun y hy => E4.bk hy) (hb.ext E4) (by simp; omega) ?_
      intro v6 g6 o6 f6
      rw [List.nil_append] at o6
      have E6 := fr_O E4 f6
      have ol6 := OwK.fr ol f6 fun y hy _ hat => hbb (isAt_one hat hy.2)
      simp (disch := omega) only [dm_t, wS, simprocAttr, IntKind.bits, cellAt_ext E6 c2]
      refine appB o6 (fun y hy => E6.bk hy) ol6.s0 (by simp; omega) ?_
      intro v8 g8 ho8 f8
      have E8 := fr_O E6 f8
      obtain ⟨a8, c8, rfl⟩ := key ho8
      (have hcap := (SlK.cap ho8.s0).2.1; have hpre := slcV_pre 1 a8 (l.length + 1) c8 l.length (by omega); simp (disch := omega) only [dm_t, wS, simprocAttr, IntKind.bits, cellAt_ext E8 c2, hpre, hcs, hsz, storeH_0 (E8.at qa)]; generalize hG : hupd g8 pa _ = g9; have k := fin g9 a8 c8 hG E8 ho8; revert k; simp (disch := omega) only [dm_t, wS, simprocAttr, IntKind.bits]; exact id)
  · intro b1 hb1
    have E3 : Ext g2 (hupd g2 b1 (.cells #[.int .u8 165] 5)) := Ext.new hb1 _
    have ol3 : OwB (fun y => g2 y = none) (hupd g2 b1 (.cells #[.int .u8 165] 5)) 5 (.slice (some ⟨b1, 0, none⟩) 1 1) [165] := olit1 (bvs [165]) rfl hb1
    refine ⟨cellAt_ext E3 c2, ?_⟩
    intro b hbn
    have hbb : b1 ≠ b := fun he => by rw [← he, hupd_same] at hbn; cases hbn
    have E4 : Ext g2 (hupd (hupd g2 b1 (.cells #[.int .u8 165] 5)) b (.cells #[] 5)) := E3.trans (Ext.new hbn _)
    have o4 : OwB (fun y => g2 y = none) (hupd (hupd g2 b1 (.cells #[.int .u8 165] 5)) b (.cells #[] 5)) 5 (.slice (some ⟨b, 0, none⟩) 0 0) [] := olit1 [] rfl (E3.bk hbn)
    have ol := OwK.ext ol3 (Ext.new hbn (.cells #[] 5))
    refine ⟨cellAt_ext E4 c2, ?_⟩
    refine appB o4 (fun y hy => E4.bk hy) (hb.ext E4) (by simp; omega) ?_
    intro v6 g6 o6 f6
    rw [List.nil_append] at o6
    have E6 := fr_O E4 f6
    have ol6 := OwK.fr ol f6 fun y hy _ hat => hbb (isAt_one hat hy.2)
    simp (disch := omega) only [dm_t, wS, simprocAttr, IntKind.bits, cellAt_ext E6 c2]
    refine appB o6 (fun y hy => E6.bk hy) ol6.s0 (by simp; omega) ?_
    intro v8 g8 ho8 f8
    have E8 := fr_O E6 f8
    obtain ⟨a8, c8, rfl⟩ := key ho8
    (have hcap := (SlK.cap ho8.s0).2.1; have hpre := slcV_pre 1 a8 (l.length + 1) c8 l.length (by omega); simp (disch := omega) only [dm_t, wS, simprocAttr, IntKind.bits, cellAt_ext E8 c2, hpre, hcs, hsz, storeH_0 (E8.at qa)]; generalize hG : hupd g8 pa _ = g9; have k := fin g9 a8 c8 hG E8 ho8; revert k; simp (disch := omega) only [dm_t, wS, simprocAttr, IntKind.bits]; exact id)
/-- The picks copied, with one more behind them. -/
theorem copied_s1 {Q : Post} {g2 : H} {pa pr : Nat} {T : Nat → Prop} {va : Option Addr} {vc' : Nat} {l : List Int} {cells : List Value} (qa : g2 pa = some (.cells cells.toArray 31)) (c6 : cellAt g2 ⟨pa, 6, none⟩ = some (.slice va l.length vc')) (hb : RepL T tI g2 (.slice va l.length vc') l) (hl : l.length ≤ 500) (hcs : cells.length = 7)
    (fin : ∀ g9 (a8 : Option Addr) (c8 : Nat), ∀ {g8 : H}, hupd g8 pa (.cells (cells.toArray.setIfInBounds 6 (.slice a8 l.length c8)) 31) = g9 → Ext g2 g8 → O1 (fun y => g2 y = none) g8 3 (.slice a8 (l.length + 1) c8) ((l ++ [77]).map (.int .i64)) → vc Tryd.prog c11_s2 Q [(1, .pointer (some ⟨pa, 0, none⟩)), (2, .pointer (some ⟨pr, 0, none⟩))] g9) :
    vc Tryd.prog c11_s1 Q [(1, .pointer (some ⟨pa, 0, none⟩)), (2, .pointer (some ⟨pr, 0, none⟩))] g2 := by
  have hsz : 6 < cells.toArray.size := by simp [hcs]
  have key : ∀ {g8 : H} {v8 : Value}, O1 (fun y => g2 y = none) g8 3 v8 ((l ++ [77]).map (.int .i64)) → ∃ a8 c8, v8 = .slice a8 (l.length + 1) c8 := fun ho => by
    obtain ⟨a, c, e⟩ := S1.len ho.s0
    exact ⟨a, c, by rw [e]; simp⟩
  simp (disch := omega) only [dm_t, wS, simprocAttr, IntKind.bits, c6]
  refine ⟨?_, ?_⟩
  · intro b hbn
    have E3 : Ext g2 (hupd g2 b (.cells #[] 3)) := Ext.new hbn _
    have o3 : O1 (fun y => g2 y = none) (hupd g2 b (.cells #[] 3)) 3 (.slice (some ⟨b, 0, none⟩) 0 0) (([] : List Int).map (.int .i64)) := olit1 [] rfl hbn
    refine ⟨cellAt_ext E3 c6, ?_, ?_⟩
    · refine appI o3 (fun y hy => E3.bk hy) (repI (hb.ext E3)).1 (by simp; omega) ?_
      intro v6 g6 o6 f6
      rw [List.nil_append] at o6
      have E6 := fr_O E3 f6
      simp (disch := omega) only [dm_t, wS, simprocAttr, IntKind.bits, cellAt_ext E6 c6]
      intro b1 hb1
      refine ⟨cellAt_ext (E6.trans (Ext.new hb1 _)) c6, ?_⟩
      refine pushI (V := fun _ => _) o6 (fun y hy => E6.bk hy) (by simp; omega) ?_ b1 hb1
      intro _ v8 g8 _ ho8 f8
      have E8 := fr_O E6 f8
      obtain ⟨a8, c8, rfl⟩ := key ho8
      (have hcap := (SlK.cap ho8.s0).2.1; have hpre := slcV_pre 1 a8 (l.length + 1) c8 l.length (by omega); simp (disch := omega) only [dm_t, wS, simprocAttr, IntKind.bits, cellAt_ext E8 c6, hpre, hcs, hsz, storeH_0 (E8.at qa)]; generalize hG : hupd g8 pa _ = g9; have k := fin g9 a8 c8 hG E8 ho8; revert k; simp (disch := omega) only [dm_t, wS, simprocAttr, IntKind.bits]; exact id)
    · intro b1 hb1
      have hbb : b1 ≠ b := fun he => by rw [he, hupd_same] at hb1; cases hb1
      have E4 : Ext g2 (hupd (hupd g2 b (.cells #[] 3)) b1 (.cells #[.int .i64 77] 3)) := E3.trans (Ext.new hb1 _)
      have o4 := OwK.ext o3 (Ext.new hb1 (.cells #[.int .i64 77] 3))
      have ol : O1 (fun y => g2 y = none) (hupd (hupd g2 b (.cells #[] 3)) b1 (.cells #[.int .i64 77] 3)) 3 (.slice (some ⟨b1, 0, none⟩) 1 1) ([77].map (.int .i64)) := olit1 [.int .i64 77] rfl (E3.bk hb1)
      refine ⟨cellAt_ext E4 c6, ?_⟩
      refine appI o4 (fun y hy => E4.bk hy) (repI (hb.ext E4)).1 (by simp; omega) ?_
      intro v6 g6 o6 f6
      rw [List.nil_append] at o6
      have E6 := fr_O E4 f6
      have ol6 := OwK.fr ol f6 fun y hy _ hat => hbb (isAt_one hat hy.2)
      simp (disch := omega) only [dm_t, wS, simprocAttr, IntKind.bits, cellAt_ext E6 c6]
      refine appI o6 (fun y hy => E6.bk hy) ol6.s0 (by simp; omega) ?_
      intro v8 g8 ho8 f8
      have E8 := fr_O E6 f8
      obtain ⟨a8, c8, rfl⟩ := key ho8
      (have hcap := (SlK.cap ho8.s0).2.1; have hpre := slcV_pre 1 a8 (l.length + 1) c8 l.length (by omega); simp (disch := omega) only [dm_t, wS, simprocAttr, IntKind.bits, cellAt_ext E8 c6, hpre, hcs, hsz, storeH_0 (E8.at qa)]; generalize hG : hupd g8 pa _ = g9; have k := fin g9 a8 c8 hG E8 ho8; revert k; simp (disch := omega) only [dm_t, wS, simprocAttr, IntKind.bits]; exact id)
  · intro b1 hb1
    have E3 : Ext g2 (hupd g2 b1 (.cells #[.int .i64 77] 3)) := Ext.new hb1 _
    have ol3 : O1 (fun y => g2 y = none) (hupd g2 b1 (.cells #[.int .i64 77] 3)) 3 (.slice (some ⟨b1, 0, none⟩) 1 1) ([77].map (.int .i64)) := olit1 [.int .i64 77] rfl hb1
    refine ⟨cellAt_ext E3 c6, ?_⟩
    intro b hbn
    have hbb : b1 ≠ b := fun he => by rw [← he, hupd_same] at hbn; cases hbn
    have E4 : Ext g2 (hupd (hupd g2 b1 (.cells #[.int .i64 77] 3)) b (.cells #[] 3)) := E3.trans (Ext.new hbn _)
    have o4 : O1 (fun y => g2 y = none) (hupd (hupd g2 b1 (.cells #[.int .i64 77] 3)) b (.cells #[] 3)) 3 (.slice (some ⟨b, 0, none⟩) 0 0) (([] : List Int).map (.int .i64)) := olit1 [] rfl (E3.bk hbn)
    have ol := OwK.ext ol3 (Ext.new hbn (.cells #[] 3))
    refine ⟨cellAt_ext E4 c6, ?_⟩
    refine appI o4 (fun y hy => E4.bk hy) (repI (hb.ext E4)).1 (by simp; omega) ?_
    intro v6 g6 o6 f6
    rw [List.nil_append] at o6
    have E6 := fr_O E4 f6
    have ol6 := OwK.fr ol f6 fun y hy _ hat => hbb (isAt_one hat hy.2)
    simp (disch := omega) only [dm_t, wS, simprocAttr, IntKind.bits, cellAt_ext E6 c6]
    refine appI o6 (fun y hy => E6.bk hy) ol6.s0 (by simp; omega) ?_
    intro v8 g8 ho8 f8
    have E8 := fr_O E6 f8
    obtain ⟨a8, c8, rfl⟩ := key ho8
    (have hcap := (SlK.cap ho8.s0).2.1; have hpre := slcV_pre 1 a8 (l.length + 1) c8 l.length (by omega); simp (disch := omega) only [dm_t, wS, simprocAttr, IntKind.bits, cellAt_ext E8 c6, hpre, hcs, hsz, storeH_0 (E8.at qa)]; generalize hG : hupd g8 pa _ = g9; have k := fin g9 a8 c8 hG E8 ho8; revert k; simp (disch := omega) only [dm_t, wS, simprocAttr, IntKind.bits]; exact id)
end Go.Proofs.YtooimdgoibdhlaaDoor.sc
