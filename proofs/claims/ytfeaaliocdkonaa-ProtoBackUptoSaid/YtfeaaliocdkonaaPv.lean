/-
  proto: frames of replies: the program's.
-/
import Derived.Test.YtfeaaliocdkonaaPl
namespace Go.Proofs.Ytfeaaliocdkonaa.pr
open Go.Proofs.Ytfeaaliocdkonaa rr wi
set_option linter.unusedVariables false
set_option linter.unusedSimpArgs false
def msB (l : List Int) : List UInt8 := (l.map fun m => low 8 (bits64 m)).flatten
def tailA (x : ansT.D) : List UInt8 :=
  if ¬ x.2.2.1 = 0 then [] else if x.1 = 1 then low 8 (bits64 x.2.2.2.1) else if x.1 = 2 then low 8 (bits64 x.2.2.2.1) ++ bodyR x.2.2.2.2.1 else low 4 x.2.2.2.2.2.length ++ msB x.2.2.2.2.2
def headA (kind number err : Int) : List UInt8 := [UInt8.ofNat (kind + 128).toNat] ++ (low 4 number.toNat ++ low 2 err.toNat)
def bodyA (x : ansT.D) : List UInt8 := headA x.1 x.2.1 x.2.2.1 ++ tailA x
theorem msB_len (l : List Int) : (msB l).length = 8 * l.length := by
  induction l with
  | nil => rfl
  | cons m t ih =>
    have : msB (m :: t) = low 8 (bits64 m) ++ msB t := by simp [msB]
    rw [this, List.length_append, low_len, ih, List.length_cons]; omega
theorem msB_take {l : List Int} {i : Nat} (hi : i < l.length) : msB (l.take (i + 1)) = msB (l.take i) ++ low 8 (bits64 l[i]) := by
  rw [show l.take (i + 1) = l.take i ++ [l[i]] by simp]
  simp only [msB, List.map_append, List.map_cons, List.map_nil, List.flatten_append, List.flatten_cons, List.flatten_nil, List.append_nil]
structure AOk (kind number err off : Int) (recs : List rc.D) (marks : List Int) : Prop where
  k : 1 ≤ kind ∧ kind ≤ 3
  e : 0 ≤ err ∧ err ≤ 65535
  o : 0 ≤ off ∧ off ≤ 9007199254740993
  ml : marks.length ≤ 16
  ms : marks.all mk = true
  rl : recs.length ≤ 1024
  rm : recs.all may = true
  e0 : ¬ err = 0 → off = 0 ∧ recs = [] ∧ marks = []
  r0 : ¬ kind = 2 → recs = []
  m0 : ¬ kind = 3 → marks = []
  o0 : kind = 3 → off = 0
  sz : kind = 2 → 27 + szR recs ≤ 1048576
theorem ckA_k {kind number err off : Int} {recs : List rc.D} {marks : List Int} (h : ckA (kind, number, err, off, recs, marks) = 0) : AOk kind number err off recs marks := by
  unfold ckA at h
  split at h
  case isFalse => cases h
  rename_i ho
  simp only [okA, okA4, okA3, okA2, okA1, Bool.and_eq_true, Bool.or_eq_true, decide_eq_true_eq, List.length_eq_zero_iff] at ho
  obtain ⟨⟨⟨⟨⟨hc, ⟨he1, he2⟩, ⟨ho1, ho2⟩, hml⟩, hms⟩, h3⟩, h4, h5⟩, h6⟩ := ho
  obtain ⟨hc1, hc2⟩ := carry_t hc
  have he1' : 0 ≤ err := he1
  have he2' : err ≤ 65535 := he2
  have ho1' : 0 ≤ off := ho1
  have ho2' : off ≤ 9007199254740993 := ho2
  have h3' : err = 0 ∨ off = 0 := h3
  have h4' : (kind = 2 ∧ err = 0) ∨ recs = [] := h4
  have h5' : (kind = 3 ∧ err = 0) ∨ marks = [] := h5
  have h6' : kind = 1 ∨ kind = 2 ∨ (kind = 3 ∧ off = 0) := h6
  have hsz : ¬ (kind = 2 ∧ 1048576 < 27 + szR recs) := fun hh => by rw [if_pos hh] at h; cases h
  exact ⟨by omega, ⟨he1', he2'⟩, ⟨ho1', ho2'⟩, hml, hms, hc1, hc2, fun hn => ⟨h3'.resolve_left hn, h4'.resolve_left fun hh => hn hh.2, h5'.resolve_left fun hh => hn hh.2⟩,
    fun hn => h4'.resolve_left fun hh => hn hh.1, fun hn => h5'.resolve_left fun hh => hn hh.1, fun hk => (h6'.resolve_left (by omega)).resolve_left (by omega) |>.2, fun hk => by
      have : ¬ 1048576 < 27 + szR recs := fun hh => hsz ⟨hk, hh⟩
      omega⟩
theorem headA_len (kind number err : Int) : (headA kind number err).length = 7 := by simp [headA, low_len]
theorem bodyA_len {kind number err off : Int} {recs : List rc.D} {marks : List Int} (A : AOk kind number err off recs marks) : 7 ≤ (bodyA (kind, number, err, off, recs, marks)).length ∧ (bodyA (kind, number, err, off, recs, marks)).length ≤ 1048568 := by
  obtain ⟨hk, he, ho, hml, hms, hrl, hrm, h1, h2, h3, h4, h5⟩ := A
  rw [bodyA, List.length_append, headA_len]
  unfold tailA
  dsimp only
  split
  · simp
  split
  · rw [low_len]; omega
  split
  · rename_i k2
    have := h5 k2
    rw [List.length_append, low_len, bodyR_len]; omega
  · rw [List.length_append, low_len, msB_len]; omega
theorem or128 {kind : Int} (h : 1 ≤ kind ∧ kind ≤ 3) : ((BitVec.ofInt (IntKind.bits .u8) kind ||| BitVec.ofInt (IntKind.bits .u8) 128).toNat : Int) = kind + 128 := by
  have : kind = 1 ∨ kind = 2 ∨ kind = 3 := by omega
  rcases this with rfl | rfl | rfl <;> decide
theorem Tell_no {S : Nat → Prop} {h : H} {cs : List Value} {x : ansT.D} (hx : Rep S ansT h cs x) (hml : x.2.2.2.2.2.length ≤ 4611686018427387904) (hck : ¬ ckA x = 0) :
    Ok Try.prog 28 #[.agg cs.toArray] h fun v h' => v = .tuple #[.slice none 0 0, .int .i64 (ckA x)] ∧ Ext h h' := by
  refine c28_ok (args := [_]) (by simp) ?_
  obtain ⟨w, m, rfl, hb, hr, hm⟩ := rep_ans.1 hx
  simp (disch := omega) only [dm_t, wS, simprocAttr, IntKind.bits, aCs]
  intro rb hrb
  generalize hG : hupd h rb _ = G
  obtain ⟨e1, q⟩ := new_ext hG hrb
  clear hG
  have l1 : cellsAt G ⟨rb, 0, none⟩ 6 = _ := cellsAt_all q 6 rfl
  simp (disch := omega) only [dm_t, wS, simprocAttr, IntKind.bits, l1]
  refine (CkA_ok (hx.ext e1) hml).k ?_
  rintro _ g2 ⟨rfl, e2⟩
  simp (disch := omega) only [dm_t, wS, simprocAttr, IntKind.bits]
  exact e1.trans e2
theorem Tell_i {S : Nat → Prop} {h : H} {w m : Value} {recs : List rc.D} {marks : List Int} (kind number err off : Int) (hB : aB (kind, number, err, off, recs, marks)) (hr : RepL S rc h w recs) (hm : RepL S (.int .i64) h m marks) (hck : ckA (kind, number, err, off, recs, marks) = 0) :
    Ok Try.prog 28 #[.agg (aCs (kind, number, err, off, recs, marks) w m).toArray] h fun v h' => ∃ r, v = .tuple #[r, .int .i64 0] ∧ OwB (fun y => h y = none) h' 5 r (sealB (bodyA (kind, number, err, off, recs, marks))) ∧ Ext h h' := by
  have hx : Rep S ansT h (aCs (kind, number, err, off, recs, marks) w m) (kind, number, err, off, recs, marks) := rep_ans.2 ⟨w, m, rfl, hB, hr, hm⟩
  have A := ckA_k hck
  have hlen := bodyA_len A
  obtain ⟨hk, he, ho, hml, hms, hrl, hrm, h1, h2, h3, h4, h5⟩ := A
  obtain ⟨b1, b2, b3, b4⟩ := hB
  have b2' : 0 ≤ number ∧ number ≤ 4294967295 := b2
  have hor := or128 hk
  simp only [IntKind.bits, simprocAttr] at hor
  obtain ⟨ma, mc, rfl⟩ := hm.len
  refine c28_ok (args := [_]) (by simp) ?_
  simp (disch := omega) only [dm_t, wS, simprocAttr, IntKind.bits, aCs]
  intro rb hrb
  generalize hG : hupd h rb _ = G
  obtain ⟨e1, q⟩ := new_ext hG hrb
  clear hG
  have l1 : cellsAt G ⟨rb, 0, none⟩ 6 = _ := cellsAt_all q 6 rfl
  simp (disch := omega) only [dm_t, wS, simprocAttr, IntKind.bits, l1]
  refine (CkA_ok (hx.ext e1) (show marks.length ≤ 4611686018427387904 by omega)).k ?_
  rintro _ g2 ⟨rfl, e2⟩
  rw [hck]
  replace q := e2.at q
  have E2 := e1.trans e2
  have c0 : cellAt g2 ⟨rb, 0, none⟩ = some (.int .i64 kind) := by rw [cellAt_of q]; rfl
  have c1 : cellAt g2 ⟨rb, 1, none⟩ = some (.int .u32 number) := by rw [cellAt_of q]; rfl
  have c2 : cellAt g2 ⟨rb, 2, none⟩ = some (.int .i64 err) := by rw [cellAt_of q]; rfl
  simp (disch := omega) only [dm_t, wS, simprocAttr, IntKind.bits, c0, c1, c2, hor]
  intro lb hlb
  have s3 := lit_by (h := g2) (b := lb) (E := 5) (x := kind + 128) (by omega)
  generalize hG : hupd g2 lb _ = g3 at s3 ⊢
  obtain ⟨e3, _⟩ := new_ext hG hlb
  clear hG
  simp (disch := omega) only [dm_t, wS, simprocAttr, IntKind.bits, cellAt_ext e3 c0, cellAt_ext e3 c1, cellAt_ext e3 c2, hor]
  refine (u32_i s3 _ b2' (by simp)).k ?_
  rintro w4 g4 ⟨o4, e4⟩
  simp (disch := omega) only [dm_t, wS, simprocAttr, IntKind.bits, cellAt_ext (e3.trans e4) c0, cellAt_ext (e3.trans e4) c1, cellAt_ext (e3.trans e4) c2, hor]
  refine (u16_i o4.s0 _ he (by simp [low_len])).k ?_
  rintro w5 g5 ⟨o5, e5⟩
  have E5 := (e3.trans e4).trans e5
  have E := E2.trans E5
  replace q := E5.at q
  have c0 : cellAt g5 ⟨rb, 0, none⟩ = some (.int .i64 kind) := by rw [cellAt_of q]; rfl
  have c1 : cellAt g5 ⟨rb, 1, none⟩ = some (.int .u32 number) := by rw [cellAt_of q]; rfl
  have c2 : cellAt g5 ⟨rb, 2, none⟩ = some (.int .i64 err) := by rw [cellAt_of q]; rfl
  have c3 : cellAt g5 ⟨rb, 3, none⟩ = some (.int .i64 off) := by rw [cellAt_of q]; rfl
  have c4 : cellAt g5 ⟨rb, 4, none⟩ = some w := by rw [cellAt_of q]; rfl
  have c5 : cellAt g5 ⟨rb, 5, none⟩ = some (.slice ma marks.length mc) := by rw [cellAt_of q]; rfl
  have fin : ∀ (g : H) (v : Value), OwB (fun y => h y = none) g 5 v (bodyA (kind, number, err, off, recs, marks)) → Ext h g → vc Try.prog c28_s12 (retQ [2, 3] (okR fun v h' => ∃ r, v = Value.tuple #[r, Value.int IntKind.i64 0] ∧ OwB (fun y => h y = none) h' 5 r (sealB (bodyA (kind, number, err, off, recs, marks))) ∧ Ext h h')) [(5, v)] g := by
    intro g v o e
    simp (disch := omega) only [dm_t, wS, simprocAttr, IntKind.bits]
    refine (Seal_ok o.s0 (by omega) hlen.2).k ?_
    rintro _ g' ⟨r, rfl, or, er⟩
    simp (disch := omega) only [dm_t, wS, simprocAttr, IntKind.bits]
    exact ⟨r, rfl, OwK.mono or fun y _ _ hn => e.bk hn, e.trans er⟩
  have o5' : OwB (fun y => h y = none) g5 5 w5 (headA kind number err) := by
    have := OwK.mono (O' := fun y => h y = none) o5 fun y _ _ hn => (E2.trans (e3.trans e4)).bk hn
    simpa only [headA, List.append_assoc] using this
  have hbA : bodyA (kind, number, err, off, recs, marks) = headA kind number err ++ tailA (kind, number, err, off, recs, marks) := rfl
  have htA : tailA (kind, number, err, off, recs, marks) = if ¬ err = 0 then [] else if kind = 1 then low 8 (bits64 off) else if kind = 2 then low 8 (bits64 off) ++ bodyR recs else low 4 marks.length ++ msB marks := rfl
  have hhl := headA_len kind number err
  generalize headA kind number err = hd at o5' hbA hhl
  by_cases z : err = 0
  case neg =>
    rw [htA, if_pos z, List.append_nil] at hbA
    simp (disch := omega) only [dm_t, wS, simprocAttr, IntKind.bits, c2]
    refine (Seal_ok o5'.s0 (by omega) (by rw [← hbA]; exact hlen.2)).k ?_
    rintro _ g' ⟨r, rfl, or, er⟩
    simp (disch := omega) only [dm_t, wS, simprocAttr, IntKind.bits]
    exact ⟨r, rfl, by rw [hbA]; exact OwK.mono or fun y _ _ hn => E.bk hn, E.trans er⟩
  rw [htA, if_neg (fun h => h z)] at hbA
  by_cases k1 : kind = 1
  · rw [if_pos k1] at hbA
    simp (disch := omega) only [dm_t, wS, simprocAttr, IntKind.bits, c2, c0, c3]
    refine (i64_ok o5'.s0 off (by omega)).k ?_
    rintro w6 g6 ⟨o6, e6⟩
    have t := fin g6 w6 (by rw [hbA]; exact OwK.mono o6 fun y _ _ hn => E.bk hn) (E.trans e6)
    revert t
    simp (disch := omega) only [dm_t, wS, simprocAttr, IntKind.bits]
    exact id
  rw [if_neg k1] at hbA
  by_cases k2 : kind = 2
  · rw [if_pos k2] at hbA
    simp (disch := omega) only [dm_t, wS, simprocAttr, IntKind.bits, c2, c0, c3, c4]
    refine (i64_ok o5'.s0 off (by omega)).k ?_
    rintro w6 g6 ⟨o6, e6⟩
    simp (disch := omega) only [dm_t, wS, simprocAttr, IntKind.bits, cellAt_ext e6 c3, cellAt_ext e6 c4]
    refine (Recs_ok o6.s0 (by rw [List.length_append, low_len]; omega) (hr.ext (E.trans e6)) hrm hrl).k ?_
    rintro w7 g7 ⟨o7, e7⟩
    have t := fin g7 w7 (by rw [hbA, ← List.append_assoc]; exact OwK.mono o7 fun y _ _ hn => (E.trans e6).bk hn) ((E.trans e6).trans e7)
    revert t
    simp (disch := omega) only [dm_t, wS, simprocAttr, IntKind.bits, cellAt_ext (e6.trans e7) c3, cellAt_ext (e6.trans e7) c4]
    exact id
  rw [if_neg k2] at hbA
  simp (disch := omega) only [dm_t, wS, simprocAttr, IntKind.bits, c2, c0, c5]
  refine (u32_i o5'.s0 _ (by omega) (by omega)).k ?_
  rintro w6 g6 ⟨o6, e6⟩
  have E6 := E.trans e6
  have o6' : OwB (fun y => h y = none) g6 5 w6 (hd ++ (low 4 marks.length ++ msB (marks.take 0))) := by
    have := OwK.mono (O' := fun y => h y = none) o6 fun y _ _ hn => E.bk hn
    simpa [msB] using this
  simp (disch := omega) only [dm_t, wS, simprocAttr, IntKind.bits, cellAt_ext e6 c5]
  refine vc_loop2 (fun vb vi h' => ∃ i : Nat, vi = .int .i64 (i : Int) ∧ i ≤ marks.length ∧ OwB (fun y => h y = none) h' 5 vb (hd ++ (low 4 marks.length ++ msB (marks.take i))) ∧ Ext h h') (fun _ vi _ => marks.length - m1 vi) ?_ ?_
  · simp (disch := omega) only [dm_t, wS, simprocAttr, IntKind.bits]
    exact ⟨0, rfl, by omega, o6', E6⟩
  rintro vb _ g ⟨i, rfl, hi, og, eg⟩
  by_cases hil : i < marks.length
  · obtain ⟨pb, po, i1, t1⟩ := S1.load (repI (hm.ext eg)).1 (i := i) (by simpa using hil) .i64
    rw [List.getElem_map] at t1
    simp (disch := omega) only [dm_t, wS, simprocAttr, IntKind.bits, i1, t1]
    refine (i64_ok og.s0 marks[i] (by simp [low_len, msB_len]; omega)).k ?_
    rintro w7 g7 ⟨o7, e7⟩
    simp (disch := omega) only [dm_t, wS, simprocAttr, IntKind.bits]
    refine ⟨⟨i + 1, by simp, by omega, ?_, eg.trans e7⟩, by simp [m1]; omega⟩
    have := OwK.mono (O' := fun y => h y = none) o7 fun y _ _ hn => eg.bk hn
    rw [msB_take hil]
    simpa only [List.append_assoc] using this
  · obtain rfl : i = marks.length := by omega
    rw [List.take_length] at og
    have t := fin g vb (by rw [hbA]; exact og) eg
    revert t
    simp (disch := omega) only [dm_t, wS, simprocAttr, IntKind.bits]
    exact id
theorem Tell_ok {S : Nat → Prop} {h : H} {cs : List Value} {x : ansT.D} (hx : Rep S ansT h cs x) (hck : ckA x = 0) : Ok Try.prog 28 #[.agg cs.toArray] h fun v h' => ∃ r, v = .tuple #[r, .int .i64 0] ∧ OwB (fun y => h y = none) h' 5 r (sealB (bodyA x)) ∧ Ext h h' := by
  obtain ⟨w, m, rfl, hB, hr, hm⟩ := rep_ans.1 hx
  exact Tell_i x.1 x.2.1 x.2.2.1 x.2.2.2.1 hB hr hm hck
theorem Tell_both {S : Nat → Prop} {h : H} {cs : List Value} {x : ansT.D} (hx : Rep S ansT h cs x) (hml : x.2.2.2.2.2.length ≤ 4611686018427387904) :
    Ok Try.prog 28 #[.agg cs.toArray] h fun v h' => ∃ f l, v = .tuple #[f, .int .i64 (ckA x)] ∧ OwB (fun y => h y = none) h' 5 f l ∧ ((ckA x = 0 ∧ l = sealB (bodyA x)) ∨ (¬ ckA x = 0 ∧ l = [])) ∧ Ext h h' := by
  by_cases hck : ckA x = 0
  · exact (Tell_ok hx hck).mono fun v h' ⟨f, h1, h2, h3⟩ => ⟨f, _, by rw [h1, hck], h2, .inl ⟨hck, rfl⟩, h3⟩
  · exact (Tell_no hx hml hck).mono fun v h' ⟨h1, h3⟩ => ⟨.slice none 0 0, [], by rw [h1], OwK.nil, .inr ⟨hck, rfl⟩, h3⟩
end Go.Proofs.Ytfeaaliocdkonaa.pr
