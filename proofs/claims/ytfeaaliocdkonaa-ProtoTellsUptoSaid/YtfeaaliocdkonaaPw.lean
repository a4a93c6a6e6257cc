/-
  proto: frames of replies: the document's.
-/
import Derived.Test.YtfeaaliocdkonaaPv
namespace Go.Proofs.Ytfeaaliocdkonaa.pr
open Go.Proofs.Ytfeaaliocdkonaa rr wi
set_option linter.unusedVariables false
set_option linter.unusedSimpArgs false
theorem DTell_i {S : Nat → Prop} {h : H} {w m : Value} {recs : List rc.D} {marks : List Int} (kind number err off : Int) (hB : aB (kind, number, err, off, recs, marks)) (hr : RepL S rc h w recs) (hm : RepL S (.int .i64) h m marks) (hck : ckA (kind, number, err, off, recs, marks) = 0) :
    Ok Try.prog 33 #[.agg (aCs (kind, number, err, off, recs, marks) w m).toArray] h fun v h' => OwB (fun y => h y = none) h' 5 v (sealB (bodyA (kind, number, err, off, recs, marks))) ∧ Ext h h' := by
  have A := ckA_k hck
  have hlen := bodyA_len A
  obtain ⟨hk, he, ho, hml, hms, hrl, hrm, h1, h2, h3, h4, h5⟩ := A
  obtain ⟨b1, b2, b3, b4⟩ := hB
  have b2' : 0 ≤ number ∧ number ≤ 4294967295 := b2
  obtain ⟨ma, mc, rfl⟩ := hm.len
  refine c33_ok (args := [_]) (by simp) ?_
  simp (disch := omega) only [dm_t, wS, simprocAttr, IntKind.bits, aCs]
  intro rb hrb
  generalize hG : hupd h rb _ = G
  obtain ⟨e1, q⟩ := new_ext hG hrb
  clear hG
  have c0 : cellAt G ⟨rb, 0, none⟩ = some (.int .i64 kind) := by rw [cellAt_of q]; rfl
  have c1 : cellAt G ⟨rb, 1, none⟩ = some (.int .u32 number) := by rw [cellAt_of q]; rfl
  have fin : ∀ (g : H) (v : Value), OwB (fun y => G y = none) g 5 v (bodyA (kind, number, err, off, recs, marks)) → Ext G g → vc Try.prog c33_s9 (retQ [2] (okR fun v h' => OwB (fun y => h y = none) h' 5 v (sealB (bodyA (kind, number, err, off, recs, marks))) ∧ Ext h h')) [(3, v)] g := by
    intro g v o e
    simp (disch := omega) only [dm_t, wS, simprocAttr, IntKind.bits]
    refine (DSeal_ok o.s0 hlen.2).k ?_
    rintro _ g' ⟨or, er⟩
    simp (disch := omega) only [dm_t, wS, simprocAttr, IntKind.bits]
    exact ⟨OwK.mono or fun y _ _ hn => (e1.trans e).bk hn, (e1.trans e).trans er⟩
  have hbA : bodyA (kind, number, err, off, recs, marks) = headA kind number err ++ tailA (kind, number, err, off, recs, marks) := rfl
  have htA : tailA (kind, number, err, off, recs, marks) = if ¬ err = 0 then [] else if kind = 1 then low 8 (bits64 off) else if kind = 2 then low 8 (bits64 off) ++ bodyR recs else low 4 marks.length ++ msB marks := rfl
  have hhl := headA_len kind number err
  have hhd : headA kind number err = [UInt8.ofNat (kind + 128).toNat] ++ (low 4 number.toNat ++ low 2 err.toNat) := rfl
  have rest : ∀ (g : H) (v : Value), OwB (fun y => G y = none) g 5 v ([UInt8.ofNat (kind + 128).toNat] ++ low 4 number.toNat) → Ext G g → vc Try.prog c33_s1 (retQ [2] (okR fun v h' => OwB (fun y => h y = none) h' 5 v (sealB (bodyA (kind, number, err, off, recs, marks))) ∧ Ext h h')) [(1, .pointer (some ⟨rb, 0, none⟩)), (3, v)] g := by
    intro g v o e
    have c2 : cellAt g ⟨rb, 2, none⟩ = some (.int .i64 err) := by rw [cellAt_of (e.at q)]; rfl
    simp (disch := omega) only [dm_t, wS, simprocAttr, IntKind.bits, c2]
    refine (Low_ok g _ 2 (by omega) (by omega)).k ?_
    rintro w2 g2 ⟨o2, e2⟩
    simp (disch := omega) only [dm_t, wS, simprocAttr, IntKind.bits]
    refine appB (o.ext e2) (fun y hy => (e.trans e2).bk hy) o2.s0 (by simp [low_len]) ?_
    intro w3 g3 o3 f3
    have E3 : Ext G g3 := Ext.step (e.trans e2) f3
    have q3 := E3.at q
    have o3' : OwB (fun y => G y = none) g3 5 w3 (headA kind number err) := by rw [hhd]; simpa only [List.append_assoc] using o3
    have c0 : cellAt g3 ⟨rb, 0, none⟩ = some (.int .i64 kind) := by rw [cellAt_of q3]; rfl
    have c2 : cellAt g3 ⟨rb, 2, none⟩ = some (.int .i64 err) := by rw [cellAt_of q3]; rfl
    have c3 : cellAt g3 ⟨rb, 3, none⟩ = some (.int .i64 off) := by rw [cellAt_of q3]; rfl
    have c4 : cellAt g3 ⟨rb, 4, none⟩ = some w := by rw [cellAt_of q3]; rfl
    have c5 : cellAt g3 ⟨rb, 5, none⟩ = some (.slice ma marks.length mc) := by rw [cellAt_of q3]; rfl
    clear hhd o3
    generalize headA kind number err = hd at o3' hbA hhl
    by_cases z : err = 0
    case neg =>
      rw [htA, if_pos z, List.append_nil] at hbA
      simp (disch := omega) only [dm_t, wS, simprocAttr, IntKind.bits, c2]
      refine (DSeal_ok o3'.s0 (by rw [← hbA]; exact hlen.2)).k ?_
      rintro _ g' ⟨or, er⟩
      simp (disch := omega) only [dm_t, wS, simprocAttr, IntKind.bits]
      exact ⟨by rw [hbA]; exact OwK.mono or fun y _ _ hn => (e1.trans E3).bk hn, (e1.trans E3).trans er⟩
    rw [htA, if_neg (fun h => h z)] at hbA
    by_cases k1 : kind = 1
    · rw [if_pos k1, bits_pos ho.1 (by omega)] at hbA
      simp (disch := omega) only [dm_t, wS, simprocAttr, IntKind.bits, c2, c0, c3]
      refine (Low_ok g3 _ 8 (by omega) (by omega)).k ?_
      rintro w6 g6 ⟨o6, e6⟩
      simp (disch := omega) only [dm_t, wS, simprocAttr, IntKind.bits]
      refine appB (o3'.ext e6) (fun y hy => (E3.trans e6).bk hy) o6.s0 (by rw [low_len]; omega) ?_
      intro w7 g7 o7 f7
      have t := fin g7 w7 (by rw [hbA]; exact o7) (Ext.step (E3.trans e6) f7)
      revert t
      simp (disch := omega) only [dm_t, wS, simprocAttr, IntKind.bits]
      exact id
    rw [if_neg k1] at hbA
    by_cases k2 : kind = 2
    · have hz : szR recs ≤ 4473856 := by
        have h1 : szR recs ≤ 4368 * recs.length := szR_le hrm
        omega
      rw [if_pos k2, bits_pos ho.1 (by omega)] at hbA
      simp (disch := omega) only [dm_t, wS, simprocAttr, IntKind.bits, c2, c0, c3, c4]
      refine (Low_ok g3 _ 8 (by omega) (by omega)).k ?_
      rintro w6 g6 ⟨o6, e6⟩
      simp (disch := omega) only [dm_t, wS, simprocAttr, IntKind.bits, cellAt_ext e6 c3, cellAt_ext e6 c4]
      refine appB (o3'.ext e6) (fun y hy => (E3.trans e6).bk hy) o6.s0 (by rw [low_len]; omega) ?_
      intro w7 g7 o7 f7
      have E7 : Ext G g7 := Ext.step (E3.trans e6) f7
      have q7 := E7.at q
      have c3 : cellAt g7 ⟨rb, 3, none⟩ = some (.int .i64 off) := by rw [cellAt_of q7]; rfl
      have c4 : cellAt g7 ⟨rb, 4, none⟩ = some w := by rw [cellAt_of q7]; rfl
      simp (disch := omega) only [dm_t, wS, simprocAttr, IntKind.bits, c3, c4]
      refine (DRecs_ok (hr.ext (e1.trans E7)) hrm hrl).k ?_
      rintro w8 g8 ⟨o8, e8⟩
      simp (disch := omega) only [dm_t, wS, simprocAttr, IntKind.bits, cellAt_ext e8 c3, cellAt_ext e8 c4]
      refine appB (o7.ext e8) (fun y hy => (E7.trans e8).bk hy) o8.s0 (by rw [List.length_append, low_len, bodyR_len]; omega) ?_
      intro w9 g9 o9 f9
      have E9 : Ext G g9 := Ext.step (E7.trans e8) f9
      have q9 := E9.at q
      have c3 : cellAt g9 ⟨rb, 3, none⟩ = some (.int .i64 off) := by rw [cellAt_of q9]; rfl
      have c4 : cellAt g9 ⟨rb, 4, none⟩ = some w := by rw [cellAt_of q9]; rfl
      have t := fin g9 w9 (by rw [hbA, ← List.append_assoc]; exact o9) E9
      revert t
      simp (disch := omega) only [dm_t, wS, simprocAttr, IntKind.bits, c3, c4]
      exact id
    rw [if_neg k2] at hbA
    have k3 : kind = 3 := by omega
    simp (disch := omega) only [dm_t, wS, simprocAttr, IntKind.bits, c2, c0, c5]
    refine (Low_ok g3 _ 4 (by omega) (by omega)).k ?_
    rintro w6 g6 ⟨o6, e6⟩
    simp (disch := omega) only [dm_t, wS, simprocAttr, IntKind.bits]
    refine appB (o3'.ext e6) (fun y hy => (E3.trans e6).bk hy) o6.s0 (by rw [low_len]; omega) ?_
    intro w7 g7 o7 f7
    have E7 : Ext G g7 := Ext.step (E3.trans e6) f7
    have o7' : OwB (fun y => G y = none) g7 5 w7 (hd ++ (low 4 marks.length ++ msB (marks.take 0))) := by
      simpa [msB] using o7
    simp (disch := omega) only [dm_t, wS, simprocAttr, IntKind.bits]
    refine vc_loop2 (fun vb vi h' => ∃ i : Nat, vi = .int .i64 (i : Int) ∧ i ≤ marks.length ∧ OwB (fun y => G y = none) h' 5 vb (hd ++ (low 4 marks.length ++ msB (marks.take i))) ∧ Ext G h') (fun _ vi _ => marks.length - m1 vi) ?_ ?_
    · simp (disch := omega) only [dm_t, wS, simprocAttr, IntKind.bits]
      exact ⟨0, rfl, by omega, o7', E7⟩
    rintro vb _ g ⟨i, rfl, hi, og, eg⟩
    have c5 : cellAt g ⟨rb, 5, none⟩ = some (.slice ma marks.length mc) := by rw [cellAt_of (eg.at q)]; rfl
    by_cases hil : i < marks.length
    · obtain ⟨pb, po, i1, t1⟩ := S1.load (repI (hm.ext (e1.trans eg))).1 (i := i) (by simpa using hil) .i64
      rw [List.getElem_map] at t1
      have hmk : mk marks[i] = true := List.all_eq_true.1 hms _ (List.getElem_mem hil)
      rw [mk, Bool.and_eq_true, decide_eq_true_eq, decide_eq_true_eq] at hmk
      have hmt := msB_take hil
      generalize marks[i] = mm at t1 hmk hmt
      simp (disch := omega) only [dm_t, wS, simprocAttr, IntKind.bits, c5, i1, t1]
      refine (Low_ok g _ 8 (by omega) (by omega)).k ?_
      rintro w8 g8 ⟨o8, e8⟩
      simp (disch := omega) only [dm_t, wS, simprocAttr, IntKind.bits]
      refine appB (og.ext e8) (fun y hy => (eg.trans e8).bk hy) o8.s0 (by simp [low_len, msB_len]; omega) ?_
      intro w9 g9 o9 f9
      simp (disch := omega) only [dm_t, wS, simprocAttr, IntKind.bits]
      refine ⟨⟨i + 1, by simp, by omega, ?_, Ext.step (eg.trans e8) f9⟩, by simp [m1]; omega⟩
      rw [hmt, bits_pos hmk.1 (by omega)]
      simpa only [List.append_assoc] using o9
    · obtain rfl : i = marks.length := by omega
      rw [List.take_length] at og
      have t := fin g vb (by rw [hbA]; exact og) eg
      revert t
      simp (disch := omega) only [dm_t, wS, simprocAttr, IntKind.bits, c5]
      exact id
  simp (disch := omega) only [dm_t, wS, simprocAttr, IntKind.bits, c0, c1]
  refine ⟨?_, ?_⟩
  · intro lb hlb
    have s3 := lit_ow (h := G) (b := lb) (E := 5) (O := fun y => G y = none) hlb (x := kind + 128) (by omega)
    rw [Int.add_comm kind 128] at s3
    generalize hG : hupd G lb _ = g3 at s3 ⊢
    obtain ⟨e3, _⟩ := new_ext hG hlb
    clear hG
    simp (disch := omega) only [dm_t, wS, simprocAttr, IntKind.bits, cellAt_ext e3 c0, cellAt_ext e3 c1]
    refine (Low_ok g3 _ 4 (by omega) (by omega)).k ?_
    rintro w4 g4 ⟨o4, e4⟩
    simp (disch := omega) only [dm_t, wS, simprocAttr, IntKind.bits, cellAt_ext (e3.trans e4) c0, cellAt_ext (e3.trans e4) c1]
    refine appB (s3.ext e4) (fun y hy => (e3.trans e4).bk hy) o4.s0 (by simp [low_len]) ?_
    intro w5 g5 o5 f5
    have E5 : Ext G g5 := Ext.step (e3.trans e4) f5
    have t := rest g5 w5 (by rw [Int.add_comm kind 128]; exact o5) E5
    revert t
    simp (disch := omega) only [dm_t, wS, simprocAttr, IntKind.bits, cellAt_ext E5 c0, cellAt_ext E5 c1]
    exact id
  · refine (Low_ok G _ 4 (by omega) (by omega)).k ?_
    rintro w4 g4 ⟨o4, e4⟩
    simp (disch := omega) only [dm_t, wS, simprocAttr, IntKind.bits, cellAt_ext e4 c0, cellAt_ext e4 c1]
    intro lb hlb
    have s3 := lit_ow (h := g4) (b := lb) (E := 5) (O := fun y => G y = none) (e4.bk hlb) (x := kind + 128) (by omega)
    rw [Int.add_comm kind 128] at s3
    generalize hG : hupd g4 lb _ = g3 at s3 ⊢
    obtain ⟨e3, _⟩ := new_ext hG hlb
    clear hG
    have E3 := e4.trans e3
    simp (disch := omega) only [dm_t, wS, simprocAttr, IntKind.bits, cellAt_ext E3 c0, cellAt_ext E3 c1]
    refine appB s3 (fun y hy => E3.bk hy) (o4.ext e3).s0 (by simp [low_len]) ?_
    intro w5 g5 o5 f5
    have E5 : Ext G g5 := Ext.step E3 f5
    have t := rest g5 w5 (by rw [Int.add_comm kind 128]; exact o5) E5
    revert t
    simp (disch := omega) only [dm_t, wS, simprocAttr, IntKind.bits, cellAt_ext E5 c0, cellAt_ext E5 c1]
    exact id
theorem DTell_ok {S : Nat → Prop} {h : H} {cs : List Value} {x : ansT.D} (hx : Rep S ansT h cs x) (hck : ckA x = 0) : Ok Try.prog 33 #[.agg cs.toArray] h fun v h' => OwB (fun y => h y = none) h' 5 v (sealB (bodyA x)) ∧ Ext h h' := by
  obtain ⟨w, m, rfl, hB, hr, hm⟩ := rep_ans.1 hx
  exact DTell_i x.1 x.2.1 x.2.2.1 x.2.2.2.1 hB hr hm hck
end Go.Proofs.Ytfeaaliocdkonaa.pr
