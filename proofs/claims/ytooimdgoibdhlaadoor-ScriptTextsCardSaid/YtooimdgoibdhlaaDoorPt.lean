/-
  Two lines, there and back ('works').
-/
import Derived.Test.YtooimdgoibdhlaaDoorPs
namespace Go.Proofs.YtooimdgoibdhlaaDoor.sc
open Go Go.Proofs.YtooimdgoibdhlaaDoor Go.RowKit
set_option linter.unusedVariables false
set_option linter.unusedSimpArgs false
abbrev w1 : St := (1, 3, [0, 255], 0, (0, 0), [])
abbrev w2 : St := (3, 0, [], 0, (2, 2), [])
abbrev b1 : List UInt8 := [115, 101, 110, 100, 32, 51, 32, 48, 48, 102, 102]
abbrev b2 : List UInt8 := [102, 97, 116, 101, 32, 102, 117, 108, 108, 32, 50]
abbrev b3 : List UInt8 := [112, 105, 99, 107, 32, 48, 55]
theorem dz_small {n : Nat} (h : n < 10) : dz (n : Int) = [dg n] := by unfold dz; rw [Int.toNat_natCast, dec_small h]
theorem may_w1 : mayS w1 = true := by decide
theorem ln_w1 : ln w1 = b1 := by
  have := dz_small (n := 3) (by omega)
  simp only [Int.cast_ofNat_Int] at this
  unfold ln wl
  rw [if_pos rfl]
  show jn [kSend, dz 3, hexd [0, 255]] = b1
  rw [show dz 3 = [dg 3] from this]; decide
theorem may_w2 : mayS w2 = true := by decide
theorem ln_w2 : ln w2 = b2 := by
  have := dz_small (n := 2) (by omega)
  simp only [Int.cast_ofNat_Int] at this
  show jn [kFate, kFull, dz 2] = b2
  rw [show dz 2 = [dg 2] from this]; decide
theorem rd_w2 : rdS b2 = (w2, 0) := rdS_yes (by decide) ((may_iff _).1 may_w2) ln_w2
theorem rd_w3 : rdS b3 = (z0, 390) := by
  refine rdS_no (by decide) fun t mt ht => ?_
  have hw : wl t = [kPick, [48, 55]] := by rw [← wds_ln t, ht]; decide
  obtain ⟨-, h2⟩ := wl_2 mt hw
  simp only [List.cons.injEq, and_true] at h2
  have h7 : (7 : Nat) = t.2.2.2.1.toNat := by
    have := num_dec t.2.2.2.1.toNat
    unfold dz at h2
    rw [← h2] at this
    exact this
  unfold dz at h2
  rw [← h7, dec_small (by omega)] at h2
  exact absurd h2 (by decide)
theorem All_ok (h : H) (s : List UInt8) : Ok Tryd.prog 25 #[sv s] h fun v h' => (∃ b, v = .func (.func 54) #[] #[.pointer (some ⟨b, 0, none⟩)] ∧ h b = none ∧ h' b = some (.cells #[sv s] 9)) ∧ Ext h h' := by
  refine c25_ok (args := [_]) (by simp) ?_
  simp (disch := omega) only [dm_t, wS, simprocAttr, IntKind.bits]
  intro b hb
  exact ⟨⟨b, rfl, hb, hupd_same _ _ _⟩, Ext.new hb _⟩
theorem cells_sCs {x : St} {vb vp : Value} (h1 : isCell vb = true) (h2 : isCell vp = true) : (sCs x vb vp).all isCell = true := by
  simp only [List.all_cons, List.all_nil, h1, h2, Bool.and_true]; rfl
/-- A step that was read, as a variable is made of it. -/
theorem RD.cells {h h' : H} {line : List UInt8} {v : Value} (r : RD h line v h') : ∃ vb vp, v = .tuple #[.agg (sCs (rdS line).1 vb vp).toArray, .int .i64 (rdS line).2] ∧ isCell vb = true ∧ isCell vp = true ∧ sB (rdS line).1 ∧ OwB (fun y => h y = none) h' 5 vb (rdS line).1.2.2.1 ∧
  O1 (fun y => h y = none) h' 3 vp ((rdS line).1.2.2.2.2.2.map (.int .i64)) ∧ (∀ n ∈ (rdS line).1.2.2.2.2.2, inI n) ∧ Ext h h' := by
  obtain ⟨vb, vp, h1, hB, ob, op, hi, e3⟩ := r
  exact ⟨vb, vp, h1, by obtain ⟨a, c, e⟩ := By.len ob.s0; rw [e]; rfl, by obtain ⟨a, c, e⟩ := S1.len op.s0; rw [e]; rfl, hB, ob, op, hi, e3⟩
theorem works_ok {h : H} (G : GL h) : Ok Tryd.prog 10 #[] h fun v h' => v = .bool true ∧ Ext h h' := by
  refine c10_ok (args := []) (by simp) ?_
  simp (disch := omega) only [dm_t, wS, simprocAttr, IntKind.bits]
  intro pb hpb
  generalize hG : hupd h pb _ = g1
  have hb : By nos g1 (.slice (some ⟨pb, 0, none⟩) 2 2) [0, 255] := by rw [← hG]; exact slit1 (bvs [0, 255]) rfl
  have e1 : Ext h g1 := by rw [← hG]; exact Ext.new hpb _
  clear hG
  have rx : Rep nos stT g1 (sCs w1 (.slice (some ⟨pb, 0, none⟩) 2 2) (.slice none 0 0)) w1 := rep_st.2 ⟨_, _, rfl, ⟨in1, by decide, in0, in0, in0⟩, hb, iRep (xs := []) By.nil (by simp)⟩
  simp (disch := omega) only [dm_t, wS, simprocAttr, IntKind.bits]
  refine (Line_ok (G.ext e1) rx (by decide)).k ?_
  rintro _ g2 ⟨rfl, e2⟩
  rw [if_pos may_w1, if_pos may_w1, ln_w1]
  have E2 := e1.trans e2
  simp (disch := omega) only [dm_t, wS, simprocAttr, IntKind.bits]
  refine (Read_ok (G.ext E2) b2 (by decide)).k ?_
  intro _ g3 r3
  obtain ⟨vb, vp, rfl, cvb, cvp, hB, ob, op, hi, e3⟩ := r3.cells
  rw [rd_w2] at ob op hi ⊢
  have E3 := E2.trans e3
  simp (disch := omega) only [dm_t, wS, simprocAttr, IntKind.bits]
  intro pt hpt
  refine (stn_new rfl (by rfl) (cells_sCs cvb cvp) ?_).2
  generalize hG : hupd g3 pt _ = g4
  obtain ⟨e4, qt⟩ := new_ext hG hpt
  clear hG
  have A := V7.mk' qt
  have E4 := E3.trans e4
  simp (disch := omega) only [dm_t, wS, simprocAttr, IntKind.bits]
  refine (Read_ok (G.ext E4) b3 (by decide)).k ?_
  intro _ g5 r5
  obtain ⟨ub, up, rfl, cub, cup, -, -, -, -, e5⟩ := r5.cells
  rw [rd_w3]
  simp (disch := omega) only [dm_t, wS, simprocAttr, IntKind.bits]
  intro pu hpu
  refine (stn_new rfl (by rfl) (cells_sCs cub cup) ?_).2
  generalize hG : hupd g5 pu _ = g6
  have e6 : Ext g5 g6 := by rw [← hG]; exact Ext.new hpu _
  clear hG
  have E6 := (E4.trans e5).trans e6
  have A6 := A.ext (e5.trans e6)
  have c0 := A6.c0; have cf := A6.ft
  simp (disch := omega) only [dm_t, wS, simprocAttr, IntKind.bits]
  refine (Num_ok g6 0).k ?_
  rintro _ _ ⟨rfl, rfl⟩
  simp (disch := omega) only [dm_t, wS, simprocAttr, IntKind.bits, toList_mk]
  refine (Num_ok g6 0).k ?_
  rintro _ _ ⟨rfl, rfl⟩
  simp (disch := omega) only [dm_t, wS, simprocAttr, IntKind.bits, cf]
  refine raw_eqF rfl rfl ?_
  simp (disch := omega) only [dm_t, wS, simprocAttr, IntKind.bits, c0]
  refine (Num_ok g6 390).k ?_
  rintro _ _ ⟨rfl, rfl⟩
  simp (disch := omega) only [dm_t, wS, simprocAttr, IntKind.bits]
  refine (All_ok g6 []).k ?_
  rintro _ g7 ⟨⟨b, rfl, -, -⟩, e7⟩
  simp (disch := omega) only [dm_t, wS, simprocAttr, IntKind.bits]
  exact E6.trans e7
end Go.Proofs.YtooimdgoibdhlaaDoor.sc
