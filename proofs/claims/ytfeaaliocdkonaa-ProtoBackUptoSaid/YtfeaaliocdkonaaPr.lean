/-
  proto: Frames; the document's works, long.
-/
import Derived.Test.YtfeaaliocdkonaaPq
namespace Go.Proofs.Ytfeaaliocdkonaa.pr
open Go.Proofs.Ytfeaaliocdkonaa rr wi
set_option linter.unusedVariables false
set_option linter.unusedSimpArgs false
theorem num_ok (h : H) (v : Value) : Ok Try.prog 14 #[v] h fun w h' => w = v ∧ h = h' := by
  refine c14_ok (args := [_]) (by simp) ?_
  simp (disch := omega) only [dm_t, wS, simprocAttr, IntKind.bits]
theorem Frames_ok {S : Nat → Prop} {h : H} {v : Value} {b : List UInt8} (hb : By S h v b) (hl : b.length ≤ 140737488355328) :
    Ok Try.prog 19 #[v] h fun r h' => ∃ pb w, r = .func (.func 52) #[] #[.pointer (some ⟨pb, 0, none⟩)] ∧ h pb = none ∧ h' pb = some (.cells #[w] 30) ∧ By (fun y => h y ≠ none ∨ y = pb) h' w b ∧ Ext h h' := by
  obtain ⟨sa, sc, rfl⟩ := hb.len
  refine c19_ok (args := [_]) (by simp) ?_
  simp (disch := omega) only [dm_t, wS, simprocAttr, IntKind.bits]
  intro pb hpb
  generalize hG : hupd h pb _ = G
  obtain ⟨e1, q⟩ := new_ext hG hpb
  clear hG
  have c0 : cellAt G ⟨pb, 0, none⟩ = some (.slice sa b.length sc) := by rw [cellAt_of q]; rfl
  simp (disch := omega) only [dm_t, wS, simprocAttr, IntKind.bits, c0]
  refine (clone_ok (hb.nos.ext e1) hl).k ?_
  rintro w g ⟨o, e2⟩
  obtain ⟨wa, wc, rfl⟩ := By.len o.s0
  simp (disch := omega) only [dm_t, wS, simprocAttr, IntKind.bits, storeH_0 (e2.at q)]
  refine ⟨pb, .slice wa b.length wc, rfl, hpb, hupd_same _ _ _, ?_, Ext.upd (e1.trans e2) hpb⟩
  have o2 : By (fun y => h y ≠ none ∨ y = pb) g (.slice wa b.length wc) b := OwK.sl o fun y hy hh => hh.elim (fun hh => hh (e1.bk hy)) fun hh => by rw [hh, q] at hy; cases hy
  exact o2.fr (Fr.upd (S := fun y => y = pb) rfl _) fun _ h => .inr h
def x0 : reqT.D := ((3 : Int), (7 : Int), (0 : Int), [], (0 : Int), (0 : Int))
theorem x0_ck : ckQ x0 = 0 := by
  have : okQ x0 = true := by simp [okQ, x0]
  rw [ckQ, if_pos ⟨this, by decide, by decide⟩, if_neg (fun h => absurd h.1 (by decide))]
theorem x0_B : qB x0 := ⟨by decide, by decide, by decide, by decide, by decide⟩
theorem x0_len : (bodyQ x0).length = 7 := by
  simp [bodyQ, x0, low_len]
theorem x0_0 (r : List UInt8) : (sealB (bodyQ x0) ++ r)[0]? = some 11 := by
  rw [sealB, x0_len]; rfl
theorem works_ok (h : H) : Ok Try.prog 10 #[] h fun v h' => v = .bool true ∧ Ext h h' := by
  refine c10_ok (args := []) (by simp) ?_
  simp (disch := omega) only [dm_t, wS, simprocAttr, IntKind.bits]
  have hx : ∀ g, Rep nos reqT g [.int .i64 3, .int .u32 7, .int .i64 0, .slice none 0 0, .int .i64 0, .int .i64 0] x0 := fun g => rep_req.2 ⟨_, rfl, x0_B, RepL.nil⟩
  refine (Ask_ok (hx h) x0_ck).k ?_
  rintro _ g1 ⟨f, rfl, o1, e1⟩
  have hlen : (sealB (bodyQ x0)).length = 15 := by rw [sealB_len, x0_len]
  obtain ⟨s1, s2, s3⟩ := split_seal (b := bodyQ x0) (c := []) (by rw [x0_len]; omega) (by rw [x0_len]; omega)
  rw [List.append_nil, x0_len] at s2
  rw [List.append_nil] at s1 s3
  have hrd := rdQ_body x0_B x0_ck
  have ho : openE rdQ (sealB (bodyQ x0)) = 0 := by
    rw [openE, if_neg (fun h => h s1), if_neg (fun h => h (by rw [s2, hlen])), s3, readE_some hrd, if_pos rfl]
  have h0 := x0_0 []
  rw [List.append_nil] at h0
  generalize sealB (bodyQ x0) = F at *
  obtain ⟨fa, fc, rfl⟩ := By.len o1.s0
  simp (disch := omega) only [dm_t, wS, simprocAttr, IntKind.bits]
  refine (Request_ok o1.s0 (by omega) ho (by rw [s3]; exact hrd) x0_ck).k ?_
  rintro _ g2 ⟨⟨cs, rfl, hr⟩, e2⟩
  obtain ⟨w, rfl, _, _⟩ := rep_req.1 hr
  have hw := Rep.cells hr
  simp only [qCs, x0] at hr hw ⊢
  simp (disch := omega) only [dm_t, wS, simprocAttr, IntKind.bits]
  intro rb hrb
  simp (disch := omega) only [dm_t, wS, simprocAttr, IntKind.bits]
  refine (stn_new rfl (by rfl) hw ?_).2
  generalize hG : hupd g2 rb _ = g3
  obtain ⟨e3, q3⟩ := new_ext hG hrb
  clear hG
  simp (disch := omega) only [dm_t, wS, simprocAttr, IntKind.bits]
  have o3 := (o1.ext e2).ext e3
  refine (Split_ok o3.s0 (by omega)).k ?_
  rintro _ g4 ⟨hsp, e4⟩
  rcases hsp with ⟨_, b, rfl, _⟩ | ⟨he, _⟩
  case inr => exact absurd s1 he
  rw [s2]
  have q4 := e4.at q3
  have c0 : cellAt g4 ⟨rb, 0, none⟩ = some (.int .i64 3) := by rw [cellAt_of q4]; rfl
  have c1 : cellAt g4 ⟨rb, 1, none⟩ = some (.int .u32 7) := by rw [cellAt_of q4]; rfl
  simp (disch := omega) only [dm_t, wS, simprocAttr, IntKind.bits]
  refine (num_ok _ _).k ?_
  rintro _ _ ⟨rfl, rfl⟩
  obtain ⟨pb, po, i1, t1⟩ := By.load ((o3.ext e4).s0) (i := 0) (by omega) .i64
  have hF0 : F[0]'(by omega) = 11 := by
    rw [List.getElem?_eq_getElem (by omega)] at h0
    exact Option.some.inj h0
  rw [hF0] at t1
  rw [hlen] at i1
  have i1' : idxV1 1 (.slice fa 15 fc) (.int .i64 0) = some (.pointer (some ⟨pb, po, none⟩)) := i1
  have t1' : cellAt g4 ⟨pb, po, none⟩ = some (.int .u8 11) := t1
  simp (disch := omega) only [dm_t, wS, simprocAttr, IntKind.bits, i1', t1', hlen]
  refine (num_ok _ _).k ?_
  rintro _ _ ⟨rfl, rfl⟩
  simp (disch := omega) only [dm_t, wS, simprocAttr, IntKind.bits, c0, c1]
  refine (num_ok _ _).k ?_
  rintro _ _ ⟨rfl, rfl⟩
  simp (disch := omega) only [dm_t, wS, simprocAttr, IntKind.bits]
  rw [hlen] at o3
  refine (Frames_ok ((o3.ext e4).s0) (by omega)).k ?_
  rintro _ g5 ⟨pb2, w2, rfl, _, _, _, e5⟩
  simp (disch := omega) only [dm_t, wS, simprocAttr, IntKind.bits]
  exact (((e1.trans e2).trans e3).trans e4).trans e5
theorem works_k {h : H} {K : Value → H → Prop} {X : List PanicEntry → H → Prop} (hk : ∀ h', Ext h h' → K (.bool true) h') : callK Try.prog 10 #[] h K X :=
  (works_ok h).k fun v h' ⟨hv, e⟩ => hv ▸ hk h' e
/-- Records that are not too long for a statement. -/
def Short (l : List rc.D) : Prop := l.length ≤ 1100 ∧ szR l ≤ 40000 ∧ ∀ r ∈ l, r.2.1.length ≤ 40000 ∧ r.2.2.length ≤ 40000
theorem long_ok {S : Nat → Prop} {h : H} {v : Value} {l : List rc.D} (hs : RepL S rc h v l) (hl : l.length ≤ 4611686018427387904) : Ok Try.prog 9 #[v] h fun w h' => (∃ b : Bool, w = .bool b ∧ (b = false → Short l)) ∧ h = h' := by
  obtain ⟨sa, sc, rfl⟩ := hs.len
  refine c9_ok (args := [_]) (by simp) ?_
  simp (disch := omega) only [dm_t, wS, simprocAttr, IntKind.bits]
  refine vc_loop2 (fun vn vi h' => h' = h ∧ ∃ i : Nat, vi = .int .i64 (i : Int) ∧ i ≤ l.length ∧ i ≤ 1101 ∧ vn = .int .i64 (szR (l.take i) : Nat) ∧ (∀ r ∈ l.take i, r.2.1.length ≤ 40000 ∧ r.2.2.length ≤ 40000) ∧ szR (l.take i) ≤ 80016 * i) (fun _ vi _ => l.length - m1 vi) ?_ ?_
  · simp (disch := omega) only [dm_t, wS, simprocAttr, IntKind.bits]
    exact ⟨0, rfl, by omega, by omega, rfl, by simp, by simp [szR]⟩
  rintro _ _ g ⟨rfl, i, rfl, hi, hi2, rfl, hall, hsz⟩
  by_cases hil : i < l.length
  · by_cases hi3 : i < 1101
    · obtain ⟨pb, po, k, v, gi, t1, x1, y1, hk1, hv1⟩ := rec_at hs hil
      obtain ⟨ka, kc, rfl⟩ := By.len hk1
      obtain ⟨va, vc, rfl⟩ := By.len hv1
      by_cases c1 : 40000 < (l[i]).2.1.length
      · simp (disch := omega) only [dm_t, wS, simprocAttr, IntKind.bits, gi, x1, y1]
        exact ⟨true, rfl, fun h => by cases h⟩
      by_cases c2 : 40000 < (l[i]).2.2.length
      · simp (disch := omega) only [dm_t, wS, simprocAttr, IntKind.bits, gi, x1, y1]
        exact ⟨true, rfl, fun h => by cases h⟩
      simp (disch := omega) only [dm_t, wS, simprocAttr, IntKind.bits, gi, x1, y1]
      have hst := sz_take hil
      have hall' : ∀ r ∈ l.take (i + 1), r.2.1.length ≤ 40000 ∧ r.2.2.length ≤ 40000 := by
        intro r hr
        rw [show l.take (i + 1) = l.take i ++ [l[i]] by simp] at hr
        rcases List.mem_append.1 hr with hr | hr
        · exact hall r hr
        · simp only [List.mem_singleton] at hr; subst hr; exact ⟨by omega, by omega⟩
      repeat' (first | exact ⟨⟨i + 1, by simp, by omega, by omega, by rw [hst]; congr 1; omega, hall', by rw [hst]; omega⟩, by simp [m1]; omega⟩ | refine ⟨?_, ?_⟩)
    · simp (disch := omega) only [dm_t, wS, simprocAttr, IntKind.bits]
      exact ⟨true, rfl, fun h => by cases h⟩
  · obtain rfl : i = l.length := by omega
    rw [List.take_length] at *
    by_cases c1 : 1100 < l.length
    · simp (disch := omega) only [dm_t, wS, simprocAttr, IntKind.bits]
      exact ⟨true, rfl, fun h => by cases h⟩
    · by_cases c2 : 40000 < szR l
      · simp (disch := omega) only [dm_t, wS, simprocAttr, IntKind.bits]
        exact ⟨true, rfl, fun h => by cases h⟩
      · simp (disch := omega) only [dm_t, wS, simprocAttr, IntKind.bits]
        exact ⟨false, rfl, fun _ => ⟨by omega, by omega, hall⟩⟩
end Go.Proofs.Ytfeaaliocdkonaa.pr
