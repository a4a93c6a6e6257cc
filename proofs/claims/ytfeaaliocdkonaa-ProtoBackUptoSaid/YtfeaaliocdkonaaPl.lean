/-
  proto: frames of requests: the document's.
-/
import Derived.Test.YtfeaaliocdkonaaPk
namespace Go.Proofs.Ytfeaaliocdkonaa.pr
open Go.Proofs.Ytfeaaliocdkonaa rr wi
set_option linter.unusedVariables false
set_option linter.unusedSimpArgs false
theorem DAsk_i {S : Nat → Prop} {h : H} {w : Value} {recs : List rc.D} (kind number part off most : Int) (hB : qB (kind, number, part, recs, off, most)) (hr : RepL S rc h w recs) (hck : ckQ (kind, number, part, recs, off, most) = 0) :
    Ok Try.prog 18 #[.agg (qCs (kind, number, part, recs, off, most) w).toArray] h fun v h' => OwB (fun y => h y = none) h' 5 v (sealB (bodyQ (kind, number, part, recs, off, most))) ∧ Ext h h' := by
  have hlen := bodyQ_len hck
  obtain ⟨hp, hk⟩ := ckQ_k hck
  have hk3 : 1 ≤ kind ∧ kind ≤ 3 := by
    rcases hk with ⟨k, _⟩ | ⟨k, _⟩ | ⟨k, _⟩ <;> (have k' : @Eq Int kind _ := k; omega)
  have hp' : 0 ≤ part ∧ part ≤ 65535 := hp
  obtain ⟨b1, b2, b3, b5, b6⟩ := hB
  have b2' : 0 ≤ number ∧ number ≤ 4294967295 := b2
  refine c18_ok (args := [_]) (by simp) ?_
  simp (disch := omega) only [dm_t, wS, simprocAttr, IntKind.bits, qCs]
  intro rb hrb
  generalize hG : hupd h rb _ = G
  obtain ⟨e1, q⟩ := new_ext hG hrb
  clear hG
  have c0 : cellAt G ⟨rb, 0, none⟩ = some (.int .i64 kind) := by rw [cellAt_of q]; rfl
  have c1 : cellAt G ⟨rb, 1, none⟩ = some (.int .u32 number) := by rw [cellAt_of q]; rfl
  have fin : ∀ (g : H) (v : Value), OwB (fun y => G y = none) g 5 v (bodyQ (kind, number, part, recs, off, most)) → Ext G g → vc Try.prog c18_s4 (retQ [2] (okR fun v h' => OwB (fun y => h y = none) h' 5 v (sealB (bodyQ (kind, number, part, recs, off, most))) ∧ Ext h h')) [(3, v)] g := by
    intro g v o e
    simp (disch := omega) only [dm_t, wS, simprocAttr, IntKind.bits]
    refine (DSeal_ok o.s0 hlen.2).k ?_
    rintro _ g' ⟨or, er⟩
    simp (disch := omega) only [dm_t, wS, simprocAttr, IntKind.bits]
    exact ⟨OwK.mono or fun y _ _ hn => (e1.trans e).bk hn, (e1.trans e).trans er⟩
  have rest : ∀ (g : H) (v : Value), OwB (fun y => G y = none) g 5 v ([UInt8.ofNat kind.toNat] ++ low 4 number.toNat) → Ext G g → vc Try.prog c18_s1 (retQ [2] (okR fun v h' => OwB (fun y => h y = none) h' 5 v (sealB (bodyQ (kind, number, part, recs, off, most))) ∧ Ext h h')) [(1, .pointer (some ⟨rb, 0, none⟩)), (3, v)] g := by
    intro g v o e
    have c2 : cellAt g ⟨rb, 2, none⟩ = some (.int .i64 part) := by rw [cellAt_of (e.at q)]; rfl
    simp (disch := omega) only [dm_t, wS, simprocAttr, IntKind.bits, c2]
    refine (Low_ok g _ 2 (by omega) (by omega)).k ?_
    rintro w2 g2 ⟨o2, e2⟩
    simp (disch := omega) only [dm_t, wS, simprocAttr, IntKind.bits]
    refine appB (o.ext e2) (fun y hy => (e.trans e2).bk hy) o2.s0 (by simp [low_len]) ?_
    intro w3 g3 o3 f3
    have E3 : Ext G g3 := Ext.step (e.trans e2) f3
    have q3 := E3.at q
    have c0 : cellAt g3 ⟨rb, 0, none⟩ = some (.int .i64 kind) := by rw [cellAt_of q3]; rfl
    have c3 : cellAt g3 ⟨rb, 3, none⟩ = some w := by rw [cellAt_of q3]; rfl
    have c4 : cellAt g3 ⟨rb, 4, none⟩ = some (.int .i64 off) := by rw [cellAt_of q3]; rfl
    have c5 : cellAt g3 ⟨rb, 5, none⟩ = some (.int .i64 most) := by rw [cellAt_of q3]; rfl
    rcases hk with ⟨k, hc, _, _, hs⟩ | ⟨k, _, ho, hm⟩ | ⟨k, _⟩
    · have k1 : kind = 1 := k
      obtain ⟨hc1, hc2⟩ := carry_t hc
      have hz : szR recs ≤ 4473856 := by
        have h1 : recs.length ≤ 1024 := hc1
        have h2 : szR recs ≤ 4368 * recs.length := szR_le hc2
        omega
      simp (disch := omega) only [dm_t, wS, simprocAttr, IntKind.bits, c0, c3]
      refine (DRecs_ok (hr.ext (e1.trans E3)) hc2 hc1).k ?_
      rintro w4 g4 ⟨o4, e4⟩
      simp (disch := omega) only [dm_t, wS, simprocAttr, IntKind.bits]
      refine appB (o3.ext e4) (fun y hy => (E3.trans e4).bk hy) o4.s0 (by simp [low_len, bodyR_len]; omega) ?_
      intro w5 g5 o5 f5
      have t := fin g5 w5 (by simpa only [bodyQ, k1, if_pos, List.append_assoc] using o5) (Ext.step (E3.trans e4) f5)
      revert t
      simp (disch := omega) only [dm_t, wS, simprocAttr, IntKind.bits]
      exact id
    · have k2 : kind = 2 := k
      have ho' : 0 ≤ off ∧ off ≤ 9007199254740992 := ho
      have hm' : 0 ≤ most ∧ most ≤ 9007199254740992 := hm
      simp (disch := omega) only [dm_t, wS, simprocAttr, IntKind.bits, c0, c4, c5]
      refine (Low_ok g3 _ 8 (by omega) (by omega)).k ?_
      rintro w4 g4 ⟨o4, e4⟩
      simp (disch := omega) only [dm_t, wS, simprocAttr, IntKind.bits, cellAt_ext e4 c4, cellAt_ext e4 c5]
      refine appB (o3.ext e4) (fun y hy => (E3.trans e4).bk hy) o4.s0 (by simp [low_len]) ?_
      intro w5 g5 o5 f5
      have E5 : Ext G g5 := Ext.step (E3.trans e4) f5
      have q5 := E5.at q
      have c4 : cellAt g5 ⟨rb, 4, none⟩ = some (.int .i64 off) := by rw [cellAt_of q5]; rfl
      have c5 : cellAt g5 ⟨rb, 5, none⟩ = some (.int .i64 most) := by rw [cellAt_of q5]; rfl
      simp (disch := omega) only [dm_t, wS, simprocAttr, IntKind.bits, c4, c5]
      refine (Low_ok g5 _ 8 (by omega) (by omega)).k ?_
      rintro w6 g6 ⟨o6, e6⟩
      simp (disch := omega) only [dm_t, wS, simprocAttr, IntKind.bits, cellAt_ext e6 c4, cellAt_ext e6 c5]
      refine appB (o5.ext e6) (fun y hy => (E5.trans e6).bk hy) o6.s0 (by simp [low_len]) ?_
      intro w7 g7 o7 f7
      have E7 : Ext G g7 := Ext.step (E5.trans e6) f7
      have q7 := E7.at q
      have c4 : cellAt g7 ⟨rb, 4, none⟩ = some (.int .i64 off) := by rw [cellAt_of q7]; rfl
      have c5 : cellAt g7 ⟨rb, 5, none⟩ = some (.int .i64 most) := by rw [cellAt_of q7]; rfl
      have t := fin g7 w7 (by simpa only [bodyQ, k2, if_pos, if_neg (show ¬ (2 : Int) = 1 by decide), bits_pos ho.1 (show off ≤ 9223372036854775807 by omega), bits_pos hm.1 (show most ≤ 9223372036854775807 by omega), List.append_assoc] using o7) E7
      revert t
      simp (disch := omega) only [dm_t, wS, simprocAttr, IntKind.bits, c4, c5]
      exact id
    · have k3 : kind = 3 := k
      have t := fin g3 w3 (by simpa only [bodyQ, k3, if_neg (show ¬ (3 : Int) = 1 by decide), if_neg (show ¬ (3 : Int) = 2 by decide), List.append_nil, List.append_assoc] using o3) E3
      revert t
      simp (disch := omega) only [dm_t, wS, simprocAttr, IntKind.bits, c0]
      exact id
  simp (disch := omega) only [dm_t, wS, simprocAttr, IntKind.bits, c0, c1]
  refine ⟨?_, ?_⟩
  · intro lb hlb
    have s3 := lit_ow (h := G) (b := lb) (E := 5) (O := fun y => G y = none) hlb (x := kind) (by omega)
    generalize hG : hupd G lb _ = g3 at s3 ⊢
    obtain ⟨e3, _⟩ := new_ext hG hlb
    clear hG
    simp (disch := omega) only [dm_t, wS, simprocAttr, IntKind.bits, cellAt_ext e3 c0, cellAt_ext e3 c1]
    refine (Low_ok g3 _ 4 (by omega) (by omega)).k ?_
    rintro w4 g4 ⟨o4, e4⟩
    simp (disch := omega) only [dm_t, wS, simprocAttr, IntKind.bits, cellAt_ext (e3.trans e4) c0, cellAt_ext (e3.trans e4) c1]
    refine appB (s3.ext e4) (fun y hy => (e3.trans e4).bk hy) o4.s0 (by simp [low_len]) ?_
    intro w5 g5 o5 f5
    have E5 : Ext G g5 := Ext.step (e3.trans e4) f5
    have t := rest g5 w5 o5 E5
    revert t
    simp (disch := omega) only [dm_t, wS, simprocAttr, IntKind.bits, cellAt_ext E5 c0, cellAt_ext E5 c1]
    exact id
  · refine (Low_ok G _ 4 (by omega) (by omega)).k ?_
    rintro w4 g4 ⟨o4, e4⟩
    simp (disch := omega) only [dm_t, wS, simprocAttr, IntKind.bits, cellAt_ext e4 c0, cellAt_ext e4 c1]
    intro lb hlb
    have s3 := lit_ow (h := g4) (b := lb) (E := 5) (O := fun y => G y = none) (e4.bk hlb) (x := kind) (by omega)
    generalize hG : hupd g4 lb _ = g3 at s3 ⊢
    obtain ⟨e3, _⟩ := new_ext hG hlb
    clear hG
    have E3 := e4.trans e3
    simp (disch := omega) only [dm_t, wS, simprocAttr, IntKind.bits, cellAt_ext E3 c0, cellAt_ext E3 c1]
    refine appB s3 (fun y hy => E3.bk hy) (o4.ext e3).s0 (by simp [low_len]) ?_
    intro w5 g5 o5 f5
    have E5 : Ext G g5 := Ext.step E3 f5
    have t := rest g5 w5 o5 E5
    revert t
    simp (disch := omega) only [dm_t, wS, simprocAttr, IntKind.bits, cellAt_ext E5 c0, cellAt_ext E5 c1]
    exact id
theorem DAsk_ok {S : Nat → Prop} {h : H} {cs : List Value} {x : reqT.D} (hx : Rep S reqT h cs x) (hck : ckQ x = 0) : Ok Try.prog 18 #[.agg cs.toArray] h fun v h' => OwB (fun y => h y = none) h' 5 v (sealB (bodyQ x)) ∧ Ext h h' := by
  obtain ⟨w, rfl, hB, hr⟩ := rep_req.1 hx
  exact DAsk_i x.1 x.2.1 x.2.2.1 x.2.2.2.2.1 x.2.2.2.2.2 hB hr hck
end Go.Proofs.Ytfeaaliocdkonaa.pr
