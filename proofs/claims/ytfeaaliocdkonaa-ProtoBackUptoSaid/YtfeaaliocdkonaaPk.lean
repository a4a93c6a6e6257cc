/-
  proto: frames of requests: the program's, the document's.
-/
import Derived.Test.YtfeaaliocdkonaaPj
namespace Go.Proofs.Ytfeaaliocdkonaa.pr
open Go.Proofs.Ytfeaaliocdkonaa rr wi
set_option linter.unusedVariables false
set_option linter.unusedSimpArgs false
/-- A body's frame. -/
def sealB (b : List UInt8) : List UInt8 := low 4 (b.length + 4) ++ (low 4 (sumB b).toNat ++ b)
theorem sealB_len (b : List UInt8) : (sealB b).length = b.length + 8 := by simp only [sealB, List.length_append, low_len]; omega
theorem Seal_nil {h : H} {a : Option Addr} {c : Nat} : Ok Try.prog 27 #[.slice a 0 c] h fun v h' => v = .tuple #[.slice none 0 0, .int .i64 2] ∧ h = h' := by
  refine c27_ok (args := [_]) (by simp) ?_
  simp (disch := omega) only [dm_t, wS, simprocAttr, IntKind.bits]
theorem Seal_big {S : Nat → Prop} {h : H} {w : Value} {b : List UInt8} (hb : By S h w b) (hl : 1048568 < b.length) : Ok Try.prog 27 #[w] h fun v h' => v = .tuple #[.slice none 0 0, .int .i64 8] ∧ h = h' := by
  obtain ⟨sa, sc, rfl⟩ := hb.len
  refine c27_ok (args := [_]) (by simp) ?_
  simp (disch := omega) only [dm_t, wS, simprocAttr, IntKind.bits]
theorem Seal_ok {S : Nat → Prop} {h : H} {w : Value} {b : List UInt8} (hb : By S h w b) (h0 : 1 ≤ b.length) (hl : b.length ≤ 1048568) :
    Ok Try.prog 27 #[w] h fun v h' => ∃ r, v = .tuple #[r, .int .i64 0] ∧ OwB (fun y => h y = none) h' 5 r (sealB b) ∧ Ext h h' := by
  obtain ⟨sa, sc, rfl⟩ := hb.len
  refine c27_ok (args := [_]) (by simp) ?_
  simp (disch := omega) only [dm_t, wS, simprocAttr, IntKind.bits]
  refine (u32_i By.nil _ (by omega) (by simp)).k ?_
  rintro w1 g1 ⟨o1, e1⟩
  simp (disch := omega) only [dm_t, wS, simprocAttr, IntKind.bits]
  intro lb hlb
  have s2 : S1 nos (hupd g1 lb (.cells #[.slice sa b.length sc] 30)) (.slice (some ⟨lb, 0, none⟩) 1 1) [.slice sa b.length sc] := slit1 [_] rfl
  generalize hG : hupd g1 lb _ = g2 at s2 ⊢
  obtain ⟨e2, q2⟩ := new_ext hG hlb
  clear hG
  simp (disch := omega) only [dm_t, wS, simprocAttr, IntKind.bits]
  refine (Sum_ok s2 ((hb.ext e1).ext e2) (by omega)).k ?_
  rintro _ g3 ⟨rfl, e3⟩
  have hx := (sumB b).isLt
  simp (disch := omega) only [dm_t, wS, simprocAttr, IntKind.bits]
  refine (u32_i ((o1.ext e2).ext e3).s0 _ (by omega) (by simp [low_len])).k ?_
  rintro w4 g4 ⟨o4, e4⟩
  simp (disch := omega) only [dm_t, wS, simprocAttr, IntKind.bits]
  have E := (e1.trans e2).trans (e3.trans e4)
  refine appB (OwK.mono o4 fun y o hy hn => ((e1.trans e2).trans e3).bk hn) (fun y hy => E.bk hy) (SlK.ext hb E) (by simp [low_len]; omega) ?_
  intro w5 g5 o5 f5
  simp (disch := omega) only [dm_t, wS, simprocAttr, IntKind.bits]
  refine ⟨_, rfl, ?_, Ext.step E f5⟩
  simpa only [sealB, List.nil_append, List.append_assoc, Int.toNat_natCast, show ((b.length : Int) + 4).toNat = b.length + 4 by omega] using o5
theorem DSeal_ok {S : Nat → Prop} {h : H} {w : Value} {b : List UInt8} (hb : By S h w b) (hl : b.length ≤ 1048568) :
    Ok Try.prog 50 #[w] h fun v h' => OwB (fun y => h y = none) h' 5 v (sealB b) ∧ Ext h h' := by
  obtain ⟨sa, sc, rfl⟩ := hb.len
  refine c50_ok (args := [_]) (by simp) ?_
  simp (disch := omega) only [dm_t, wS, simprocAttr, IntKind.bits]
  refine (Low_ok h _ 4 (by omega) (by omega)).k ?_
  rintro w1 g1 ⟨o1, e1⟩
  simp (disch := omega) only [dm_t, wS, simprocAttr, IntKind.bits]
  refine (RSum_ok (SlK.ext hb e1) (by omega)).k ?_
  rintro _ _ ⟨rfl, rfl⟩
  have hx := (sumB b).isLt
  simp (disch := omega) only [dm_t, wS, simprocAttr, IntKind.bits]
  refine (Low_ok g1 _ 4 (by omega) (by omega)).k ?_
  rintro w2 g2 ⟨o2, e2⟩
  simp (disch := omega) only [dm_t, wS, simprocAttr, IntKind.bits]
  refine appB (o1.ext e2) (fun y hy => (e1.trans e2).bk hy) o2.s0 (by simp [low_len]) ?_
  intro w3 g3 o3 f3
  have E := Ext.step (e1.trans e2) f3
  simp (disch := omega) only [dm_t, wS, simprocAttr, IntKind.bits]
  refine appB o3 (fun y hy => E.bk hy) (SlK.ext hb E) (by simp [low_len]; omega) ?_
  intro w5 g5 o5 f5
  simp (disch := omega) only [dm_t, wS, simprocAttr, IntKind.bits]
  refine ⟨?_, Ext.step E f5⟩
  simpa only [sealB, List.append_assoc, Int.toNat_natCast, show ((b.length : Int) + 4).toNat = b.length + 4 by omega] using o5
/-! ### Requests -/
def bodyQ (x : reqT.D) : List UInt8 :=
  [UInt8.ofNat x.1.toNat] ++ (low 4 x.2.1.toNat ++ (low 2 x.2.2.1.toNat ++ (if x.1 = 1 then bodyR x.2.2.2.1 else if x.1 = 2 then low 8 (bits64 x.2.2.2.2.1) ++ low 8 (bits64 x.2.2.2.2.2) else [])))
theorem ckQ_k {x : reqT.D} (h : ckQ x = 0) : ((0 : Int) ≤ x.2.2.1 ∧ @LE.le Int _ x.2.2.1 65535) ∧ ((x.1 = 1 ∧ carryP x.2.2.2.1 = true ∧ x.2.2.2.2.1 = 0 ∧ x.2.2.2.2.2 = 0 ∧ 19 + szR x.2.2.2.1 ≤ 1048576) ∨
    (x.1 = 2 ∧ x.2.2.2.1 = [] ∧ ((0 : Int) ≤ x.2.2.2.2.1 ∧ @LE.le Int _ x.2.2.2.2.1 9007199254740992) ∧ (0 : Int) ≤ x.2.2.2.2.2 ∧ @LE.le Int _ x.2.2.2.2.2 9007199254740992) ∨ (x.1 = 3 ∧ x.2.2.2.1 = [] ∧ x.2.2.2.2.1 = 0 ∧ x.2.2.2.2.2 = 0 ∧ x.2.2.1 = 0)) := by
  unfold ckQ at h
  split at h
  case isFalse => cases h
  rename_i hh
  obtain ⟨ho, p1, p2⟩ := hh
  refine ⟨⟨p1, p2⟩, ?_⟩
  unfold okQ at ho
  split at ho
  · rename_i k1
    simp only [Bool.and_eq_true, decide_eq_true_eq] at ho
    refine .inl ⟨k1, ho.1, ho.2.1, ho.2.2, ?_⟩
    split at h
    · cases h
    · rename_i hn
      have : ¬ 1048576 < 19 + szR x.2.2.2.1 := fun h => hn ⟨k1, h⟩
      omega
  · split at ho
    · rename_i k2
      simp only [Bool.and_eq_true, decide_eq_true_eq, List.length_eq_zero_iff] at ho
      exact .inr (.inl ⟨k2, ho.1, ho.2.1, ho.2.2⟩)
    · split at ho
      · rename_i k3
        simp only [Bool.and_eq_true, decide_eq_true_eq, List.length_eq_zero_iff] at ho
        exact .inr (.inr ⟨k3, ho.1, ho.2.1, ho.2.2.1, ho.2.2.2⟩)
      · cases ho
theorem bodyQ_len {x : reqT.D} (h : ckQ x = 0) : 7 ≤ (bodyQ x).length ∧ (bodyQ x).length ≤ 1048568 := by
  obtain ⟨_, hk⟩ := ckQ_k h
  simp only [bodyQ, List.length_append, low_len, List.length_cons, List.length_nil]
  rcases hk with ⟨k, hc, _, _, hs⟩ | ⟨k, _⟩ | ⟨k, _⟩
  · rw [if_pos k, bodyR_len]; omega
  · rw [if_neg (by rw [k]; decide), if_pos k, List.length_append, low_len, low_len]; omega
  · rw [if_neg (by rw [k]; decide), if_neg (by rw [k]; decide)]; simp
theorem bv_of {x : Int} (hx : 0 ≤ x ∧ x ≤ 255) : bv (UInt8.ofNat x.toNat) = .int .u8 x := by
  simp only [bv, UInt8.toNat_ofNat']
  congr 1; omega
theorem bvs_one {x : Int} (hx : 0 ≤ x ∧ x ≤ 255) : bvs [UInt8.ofNat x.toNat] = [.int .u8 x] := by rw [bvs, List.map_cons, List.map_nil, bv_of hx]
theorem lit_by {h : H} {b : Nat} {E : TypeId} {x : Int} (hx : 0 ≤ x ∧ x ≤ 255) : By nos (hupd h b (.cells #[.int .u8 x] E)) (.slice (some ⟨b, 0, none⟩) 1 1) [UInt8.ofNat x.toNat] := by
  show S1 nos _ _ (bvs _)
  rw [bvs_one hx]
  exact slit1 [_] rfl
theorem lit_ow {h : H} {b : Nat} {E : TypeId} {O : Nat → Prop} (ho : O b) {x : Int} (hx : 0 ≤ x ∧ x ≤ 255) : OwB O (hupd h b (.cells #[.int .u8 x] E)) E (.slice (some ⟨b, 0, none⟩) 1 1) [UInt8.ofNat x.toNat] := by
  show O1 O _ _ _ (bvs _)
  rw [bvs_one hx]
  exact olit1 [_] rfl ho
theorem Ask_no {S : Nat → Prop} {h : H} {cs : List Value} {x : reqT.D} (hx : Rep S reqT h cs x) (hck : ¬ ckQ x = 0) :
    Ok Try.prog 12 #[.agg cs.toArray] h fun v h' => v = .tuple #[.slice none 0 0, .int .i64 (ckQ x)] ∧ Ext h h' := by
  refine c12_ok (args := [_]) (by simp) ?_
  obtain ⟨w, rfl, hb, hr⟩ := rep_req.1 hx
  simp (disch := omega) only [dm_t, wS, simprocAttr, IntKind.bits, qCs]
  intro rb hrb
  generalize hG : hupd h rb _ = G
  obtain ⟨e1, q⟩ := new_ext hG hrb
  clear hG
  have l1 : cellsAt G ⟨rb, 0, none⟩ 6 = _ := cellsAt_all q 6 rfl
  simp (disch := omega) only [dm_t, wS, simprocAttr, IntKind.bits, l1]
  refine (CkQ_ok (hx.ext e1)).k ?_
  rintro _ g2 ⟨rfl, e2⟩
  simp (disch := omega) only [dm_t, wS, simprocAttr, IntKind.bits]
  exact e1.trans e2
theorem Ask_i {S : Nat → Prop} {h : H} {w : Value} {recs : List rc.D} (kind number part off most : Int) (hB : qB (kind, number, part, recs, off, most)) (hr : RepL S rc h w recs) (hck : ckQ (kind, number, part, recs, off, most) = 0) :
    Ok Try.prog 12 #[.agg (qCs (kind, number, part, recs, off, most) w).toArray] h fun v h' => ∃ r, v = .tuple #[r, .int .i64 0] ∧ OwB (fun y => h y = none) h' 5 r (sealB (bodyQ (kind, number, part, recs, off, most))) ∧ Ext h h' := by
  have hx : Rep S reqT h (qCs (kind, number, part, recs, off, most) w) (kind, number, part, recs, off, most) := rep_req.2 ⟨w, rfl, hB, hr⟩
  have hlen := bodyQ_len hck
  obtain ⟨hp, hk⟩ := ckQ_k hck
  have hk3 : 1 ≤ kind ∧ kind ≤ 3 := by
    rcases hk with ⟨k, _⟩ | ⟨k, _⟩ | ⟨k, _⟩ <;> (have k' : @Eq Int kind _ := k; omega)
  have hp' : 0 ≤ part ∧ part ≤ 65535 := hp
  obtain ⟨b1, b2, b3, b5, b6⟩ := hB
  have b2' : 0 ≤ number ∧ number ≤ 4294967295 := b2
  refine c12_ok (args := [_]) (by simp) ?_
  simp (disch := omega) only [dm_t, wS, simprocAttr, IntKind.bits, qCs]
  intro rb hrb
  generalize hG : hupd h rb _ = G
  obtain ⟨e1, q⟩ := new_ext hG hrb
  clear hG
  have l1 : cellsAt G ⟨rb, 0, none⟩ 6 = _ := cellsAt_all q 6 rfl
  simp (disch := omega) only [dm_t, wS, simprocAttr, IntKind.bits, l1]
  refine (CkQ_ok (hx.ext e1)).k ?_
  rintro _ g2 ⟨rfl, e2⟩
  rw [hck]
  replace q := e2.at q
  have E2 := e1.trans e2
  have c0 : cellAt g2 ⟨rb, 0, none⟩ = some (.int .i64 kind) := by rw [cellAt_of q]; rfl
  have c1 : cellAt g2 ⟨rb, 1, none⟩ = some (.int .u32 number) := by rw [cellAt_of q]; rfl
  have c2 : cellAt g2 ⟨rb, 2, none⟩ = some (.int .i64 part) := by rw [cellAt_of q]; rfl
  simp (disch := omega) only [dm_t, wS, simprocAttr, IntKind.bits, c0, c1, c2]
  intro lb hlb
  have s3 := lit_by (h := g2) (b := lb) (E := 5) (x := kind) (by omega)
  generalize hG : hupd g2 lb _ = g3 at s3 ⊢
  obtain ⟨e3, _⟩ := new_ext hG hlb
  clear hG
  simp (disch := omega) only [dm_t, wS, simprocAttr, IntKind.bits, cellAt_ext e3 c0, cellAt_ext e3 c1, cellAt_ext e3 c2]
  refine (u32_i s3 _ b2' (by simp)).k ?_
  rintro w4 g4 ⟨o4, e4⟩
  simp (disch := omega) only [dm_t, wS, simprocAttr, IntKind.bits, cellAt_ext (e3.trans e4) c0, cellAt_ext (e3.trans e4) c1, cellAt_ext (e3.trans e4) c2]
  refine (u16_i o4.s0 _ hp' (by simp [low_len])).k ?_
  rintro w5 g5 ⟨o5, e5⟩
  have E5 := (e3.trans e4).trans e5
  have E := E2.trans E5
  replace q := E5.at q
  have c0 : cellAt g5 ⟨rb, 0, none⟩ = some (.int .i64 kind) := by rw [cellAt_of q]; rfl
  have c1 : cellAt g5 ⟨rb, 1, none⟩ = some (.int .u32 number) := by rw [cellAt_of q]; rfl
  have c2 : cellAt g5 ⟨rb, 2, none⟩ = some (.int .i64 part) := by rw [cellAt_of q]; rfl
  have c3 : cellAt g5 ⟨rb, 3, none⟩ = some w := by rw [cellAt_of q]; rfl
  have c4 : cellAt g5 ⟨rb, 4, none⟩ = some (.int .i64 off) := by rw [cellAt_of q]; rfl
  have c5 : cellAt g5 ⟨rb, 5, none⟩ = some (.int .i64 most) := by rw [cellAt_of q]; rfl
  have fin : ∀ (g : H) (v : Value), OwB (fun y => h y = none) g 5 v (bodyQ (kind, number, part, recs, off, most)) → Ext h g → vc Try.prog c12_s5 (retQ [2, 3] (okR fun v h' => ∃ r, v = Value.tuple #[r, Value.int IntKind.i64 0] ∧ OwB (fun y => h y = none) h' 5 r (sealB (bodyQ (kind, number, part, recs, off, most))) ∧ Ext h h')) [(5, v)] g := by
    intro g v o e
    simp (disch := omega) only [dm_t, wS, simprocAttr, IntKind.bits]
    refine (Seal_ok o.s0 (by omega) hlen.2).k ?_
    rintro _ g' ⟨r, rfl, or, er⟩
    simp (disch := omega) only [dm_t, wS, simprocAttr, IntKind.bits]
    exact ⟨r, rfl, OwK.mono or fun y _ _ hn => e.bk hn, e.trans er⟩
  have o5' : OwB (fun y => h y = none) g5 5 w5 ([UInt8.ofNat kind.toNat] ++ low 4 number.toNat ++ low 2 part.toNat) := OwK.mono o5 fun y _ _ hn => (E2.trans (e3.trans e4)).bk hn
  rcases hk with ⟨k, hc, _, _, hs⟩ | ⟨k, _, ho, hm⟩ | ⟨k, _⟩
  · have k1 : kind = 1 := k
    obtain ⟨hc1, hc2⟩ := carry_t hc
    simp (disch := omega) only [dm_t, wS, simprocAttr, IntKind.bits, c0, c3]
    refine (Recs_ok o5.s0 (by simp [low_len]) (hr.ext E) hc2 hc1).k ?_
    rintro w6 g6 ⟨o6, e6⟩
    have t := fin g6 w6 (by
      have := OwK.mono (O' := fun y => h y = none) o6 fun y _ _ hn => E.bk hn
      simpa only [bodyQ, k1, if_pos, List.append_assoc] using this) (E.trans e6)
    revert t
    simp (disch := omega) only [dm_t, wS, simprocAttr, IntKind.bits]
    exact id
  · have k2 : kind = 2 := k
    have ho' : 0 ≤ off ∧ off ≤ 9007199254740992 := ho
    have hm' : 0 ≤ most ∧ most ≤ 9007199254740992 := hm
    simp (disch := omega) only [dm_t, wS, simprocAttr, IntKind.bits, c0, c4, c5]
    refine (i64_ok o5.s0 off (by simp [low_len])).k ?_
    rintro w6 g6 ⟨o6, e6⟩
    simp (disch := omega) only [dm_t, wS, simprocAttr, IntKind.bits, cellAt_ext e6 c4, cellAt_ext e6 c5]
    refine (i64_ok o6.s0 most (by simp [low_len])).k ?_
    rintro w7 g7 ⟨o7, e7⟩
    have t := fin g7 w7 (by
      have := OwK.mono (O' := fun y => h y = none) o7 fun y _ _ hn => (E.trans e6).bk hn
      simpa only [bodyQ, k2, if_pos, if_neg (show ¬ (2 : Int) = 1 by decide), List.append_assoc] using this) ((E.trans e6).trans e7)
    revert t
    simp (disch := omega) only [dm_t, wS, simprocAttr, IntKind.bits, cellAt_ext (e6.trans e7) c4, cellAt_ext (e6.trans e7) c5]
    exact id
  · have k3 : kind = 3 := k
    have t := fin g5 w5 (by simpa only [bodyQ, k3, if_neg (show ¬ (3 : Int) = 1 by decide), if_neg (show ¬ (3 : Int) = 2 by decide), List.append_nil, List.append_assoc] using o5') E
    revert t
    simp (disch := omega) only [dm_t, wS, simprocAttr, IntKind.bits, c0]
    exact id
theorem Ask_ok {S : Nat → Prop} {h : H} {cs : List Value} {x : reqT.D} (hx : Rep S reqT h cs x) (hck : ckQ x = 0) : Ok Try.prog 12 #[.agg cs.toArray] h fun v h' => ∃ r, v = .tuple #[r, .int .i64 0] ∧ OwB (fun y => h y = none) h' 5 r (sealB (bodyQ x)) ∧ Ext h h' := by
  obtain ⟨w, rfl, hB, hr⟩ := rep_req.1 hx
  exact Ask_i x.1 x.2.1 x.2.2.1 x.2.2.2.2.1 x.2.2.2.2.2 hB hr hck
end Go.Proofs.Ytfeaaliocdkonaa.pr
