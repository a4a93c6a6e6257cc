/-
  proto: records, bodies as bytes: the program's, the document's.
-/
import Derived.Test.YtfeaaliocdkonaaPi
namespace Go.Proofs.Ytfeaaliocdkonaa.pr
open Go.Proofs.Ytfeaaliocdkonaa rr wi
set_option linter.unusedVariables false
set_option linter.unusedSimpArgs false
theorem low_n (h : H) (x n : Nat) (hx : x < 2 ^ 64) (hn : n ≤ 8) : Ok Try.prog 48 #[.int .u64 (x : Int), .int .i64 (n : Int)] h fun v h' => OwB (fun y => h y = none) h' 5 v (low n x) ∧ Ext h h' := by
  refine c48_ok (args := [_, _]) (by simp) ?_
  simp (disch := omega) only [dm_t, wS, simprocAttr, IntKind.bits]
  refine vc_loop3 (fun vx vb vi h' => ∃ k : Nat, k ≤ n ∧ vx = .int .u64 ((x / 256 ^ k : Nat) : Int) ∧ vi = .int .i64 k ∧ OwB (fun y => h y = none) h' 5 vb (low k x) ∧ Ext h h') (fun _ _ vi _ => n - m1 vi) ?_ ?_
  · simp (disch := omega) only [dm_t, wS, simprocAttr, IntKind.bits]
    exact ⟨0, by omega, by simp, rfl, OwK.nil, Fr.refl _ _⟩
  rintro _ vb _ h2 ⟨k, hk, rfl, rfl, ho2, e2⟩
  have hxk : x / 256 ^ k ≤ x := Nat.div_le_self _ _
  have hls := low_succ k x
  have hps : x / 256 ^ (k + 1) = x / 256 ^ k / 256 := by rw [Nat.pow_succ, ← Nat.div_div_eq_div_mul]
  generalize x / 256 ^ k = y at hxk hls hps
  by_cases hlt : k < n
  · simp (disch := omega) only [dm_t, wS, simprocAttr, IntKind.bits]
    refine pushB (UInt8.ofNat y) ho2 (fun y hy => e2.bk hy) ?_ (by simp [low_len]; omega) ?_
    · exact byte_of _
    intro _ v h3 _ ho3 hf3
    simp (disch := omega) only [dm_t, wS, simprocAttr, IntKind.bits]
    refine ⟨⟨k + 1, by omega, ?_, by simp, ?_, e2.step hf3⟩, by simp [m1]; omega⟩
    · rw [hps]; rfl
    · rw [hls]; exact ho3
  · simp (disch := omega) only [dm_t, wS, simprocAttr, IntKind.bits]
    obtain rfl : k = n := by omega
    exact ⟨ho2, e2⟩
theorem Low_ok (h : H) (x : Int) (n : Nat) (hx : 0 ≤ x ∧ x ≤ 18446744073709551615) (hn : n ≤ 8) : Ok Try.prog 48 #[.int .u64 x, .int .i64 (n : Int)] h fun v h' => OwB (fun y => h y = none) h' 5 v (low n x.toNat) ∧ Ext h h' := by
  obtain ⟨m, rfl⟩ : ∃ m : Nat, x = m := ⟨x.toNat, by omega⟩
  exact low_n h m n (by omega) hn
theorem u16_i {h : H} {b : Value} {l : List UInt8} (hb : By nos h b l) (x : Int) (hx : 0 ≤ x ∧ x ≤ 65535) (hl : l.length ≤ 140737488351232) :
    Ok Try.prog 38 #[b, .int .u16 x] h fun v h' => OwB (fun y => h y = none) h' 5 v (l ++ low 2 x.toNat) ∧ Ext h h' := by
  obtain ⟨m, rfl⟩ : ∃ m : Nat, x = m := ⟨x.toNat, by omega⟩
  exact u16_ok hb m (by omega) hl
theorem u32_i {h : H} {b : Value} {l : List UInt8} (hb : By nos h b l) (x : Int) (hx : 0 ≤ x ∧ x ≤ 4294967295) (hl : l.length ≤ 140737488351232) :
    Ok Try.prog 39 #[b, .int .u32 x] h fun v h' => OwB (fun y => h y = none) h' 5 v (l ++ low 4 x.toNat) ∧ Ext h h' := by
  obtain ⟨m, rfl⟩ : ∃ m : Nat, x = m := ⟨x.toNat, by omega⟩
  exact u32_ok hb m (by omega) hl
theorem bits_pos {x : Int} (h : 0 ≤ x) (h' : x ≤ 9223372036854775807) : bits64 x = x.toNat := by unfold bits64; omega
theorem DStr_ok {S : Nat → Prop} {h : H} {s : Value} {t : List UInt8} (hs : By S h s t) (ht : t.length ≤ 16777216) :
    Ok Try.prog 76 #[s] h fun v h' => OwB (fun y => h y = none) h' 5 v (strB t) ∧ Ext h h' := by
  obtain ⟨sa, sc, rfl⟩ := hs.len
  refine c76_ok (args := [_]) (by simp) ?_
  simp (disch := omega) only [dm_t, wS, simprocAttr, IntKind.bits]
  refine (Low_ok h _ 4 (by omega) (by omega)).k ?_
  rintro w g ⟨o, e⟩
  simp (disch := omega) only [dm_t, wS, simprocAttr, IntKind.bits]
  refine appB o (fun y hy => e.bk hy) (SlK.ext hs e) (by simp [low_len]; omega) ?_
  intro w1 g1 o1 f1
  simp (disch := omega) only [dm_t, wS, simprocAttr, IntKind.bits]
  exact ⟨o1, Ext.step e f1⟩
/-! ### Records as bytes -/
def recB (r : rc.D) : List UInt8 := low 8 (bits64 r.1) ++ strB r.2.1 ++ strB r.2.2
def recsB (l : List rc.D) : List UInt8 := (l.map recB).flatten
def bodyR (l : List rc.D) : List UInt8 := low 4 l.length ++ recsB l
theorem strB_len (l : List UInt8) : (strB l).length = 4 + l.length := by simp [strB, low_len]
theorem recB_len (r : rc.D) : (recB r).length = 16 + r.2.1.length + r.2.2.length := by
  simp only [recB, List.length_append, low_len, strB_len]; omega
theorem recsB_len (l : List rc.D) : (recsB l).length = szR l := by
  induction l with
  | nil => rfl
  | cons r t ih =>
    rw [show r :: t = [r] ++ t from rfl, szR_app, szR_one, ← ih]
    simp only [recsB, List.map_append, List.map_cons, List.map_nil, List.flatten_append, List.flatten_cons, List.flatten_nil, List.append_nil, List.length_append, recB_len]
theorem bodyR_len (l : List rc.D) : (bodyR l).length = 4 + szR l := by
  rw [bodyR, List.length_append, low_len, recsB_len]
theorem recsB_take {l : List rc.D} {i : Nat} (hi : i < l.length) : recsB (l.take (i + 1)) = recsB (l.take i) ++ (low 8 (bits64 (l[i]).1) ++ strB (l[i]).2.1 ++ strB (l[i]).2.2) := by
  rw [show l.take (i + 1) = l.take i ++ [l[i]] by simp]
  simp only [recsB, List.map_append, List.map_cons, List.map_nil, List.flatten_append, List.flatten_cons, List.flatten_nil, List.append_nil, recB]
theorem DRecs_ok {S : Nat → Prop} {h : H} {v : Value} {l : List rc.D} (hs : RepL S rc h v l) (hm : l.all may = true) (hl : l.length ≤ 1024) :
    Ok Try.prog 49 #[v] h fun w h' => OwB (fun y => h y = none) h' 5 w (bodyR l) ∧ Ext h h' := by
  obtain ⟨sa, sc, rfl⟩ := hs.len
  refine c49_ok (args := [_]) (by simp) ?_
  simp (disch := omega) only [dm_t, wS, simprocAttr, IntKind.bits]
  refine (Low_ok h _ 4 (by omega) (by omega)).k ?_
  rintro w g ⟨o, e⟩
  simp (disch := omega) only [dm_t, wS, simprocAttr, IntKind.bits]
  refine vc_loop2 (fun vb vi h' => ∃ i : Nat, vi = .int .i64 (i : Int) ∧ i ≤ l.length ∧ OwB (fun y => h y = none) h' 5 vb (low 4 l.length ++ recsB (l.take i)) ∧ Ext h h') (fun _ vi _ => l.length - m1 vi) ?_ ?_
  · simp (disch := omega) only [dm_t, wS, simprocAttr, IntKind.bits]
    exact ⟨0, rfl, by omega, by rw [List.take_zero, recsB, List.map_nil, List.flatten_nil, List.append_nil]; exact o, e⟩
  rintro vb _ g1 ⟨i, rfl, hi, o1, e1⟩
  by_cases hil : i < l.length
  · have hmt := may_t (List.all_eq_true.1 hm _ (List.getElem_mem hil))
    have hsz : szR (l.take i) ≤ 4368 * i := by
      have := szR_le (l := l.take i) (List.all_eq_true.2 fun x hx => List.all_eq_true.1 hm x (List.mem_of_mem_take hx))
      rw [List.length_take] at this; omega
    have hlen : (low 4 l.length ++ recsB (l.take i)).length = 4 + szR (l.take i) := by rw [List.length_append, low_len, recsB_len]
    have hrt := recsB_take hil
    obtain ⟨pb, po, k, v, gi, t1, x1, y1, hk1, hv1⟩ := rec_at (hs.ext e1) hil
    generalize (l[i]).1 = t at t1 hmt hrt
    generalize hks : (l[i]).2.1 = ks at hk1 hmt hrt
    generalize hvs : (l[i]).2.2 = vs at hv1 hmt hrt
    obtain ⟨ka, kc, rfl⟩ := By.len hk1
    obtain ⟨va, vc, rfl⟩ := By.len hv1
    generalize hacc : low 4 l.length ++ recsB (l.take i) = acc at o1 hlen
    simp (disch := omega) only [dm_t, wS, simprocAttr, IntKind.bits, gi, t1, x1, y1]
    refine (Low_ok g1 _ 8 (by omega) (by omega)).k ?_
    rintro w2 g2 ⟨o2, e2⟩
    simp (disch := omega) only [dm_t, wS, simprocAttr, IntKind.bits]
    refine appB (o1.ext e2) (fun y hy => (e1.trans e2).bk hy) o2.s0 (by rw [low_len]; omega) ?_
    intro w3 g3 o3 f3
    have e3 := Ext.step (e1.trans e2) f3
    have x3 : Fr (fun y => h y = none) g1 g3 := (Fr.trans (e2.mono fun _ h => h.elim) (f3.mono fun y hy => hy.1))
    obtain ⟨pb', po', k', v', gi', t1', x1', y1', hk1', hv1'⟩ := rec_at (hs.ext e3) hil
    rw [hks] at hk1'
    obtain ⟨ka', kc', rfl⟩ := By.len hk1'
    simp (disch := omega) only [dm_t, wS, simprocAttr, IntKind.bits, gi', x1', y1']
    refine (DStr_ok hk1' (by omega)).k ?_
    rintro w4 g4 ⟨o4, e4⟩
    simp (disch := omega) only [dm_t, wS, simprocAttr, IntKind.bits]
    refine appB (o3.ext e4) (fun y hy => (e3.trans e4).bk hy) o4.s0 (by rw [List.length_append, low_len, strB_len]; omega) ?_
    intro w5 g5 o5 f5
    have e5 := Ext.step (e3.trans e4) f5
    obtain ⟨pb2, po2, k2, v2, gi2, t2, x2, y2, hk2, hv2⟩ := rec_at (hs.ext e5) hil
    rw [hvs] at hv2
    obtain ⟨va', vc', rfl⟩ := By.len hv2
    simp (disch := omega) only [dm_t, wS, simprocAttr, IntKind.bits, gi2, x2, y2]
    refine (DStr_ok hv2 (by omega)).k ?_
    rintro w6 g6 ⟨o6, e6⟩
    simp (disch := omega) only [dm_t, wS, simprocAttr, IntKind.bits]
    refine appB (o5.ext e6) (fun y hy => (e5.trans e6).bk hy) o6.s0 (by simp only [List.length_append, low_len, strB_len]; omega) ?_
    intro w7 g7 o7 f7
    simp (disch := omega) only [dm_t, wS, simprocAttr, IntKind.bits]
    refine ⟨⟨i + 1, by simp, by omega, ?_, Ext.step (e5.trans e6) f7⟩, by simp [m1]; omega⟩
    rw [hrt, bits_pos (by omega) (by omega), ← List.append_assoc, hacc]
    simpa only [List.append_assoc] using o7
  · obtain rfl : i = l.length := by omega
    rw [List.take_length] at o1
    simp (disch := omega) only [dm_t, wS, simprocAttr, IntKind.bits]
    exact ⟨o1, e1⟩
theorem Recs_ok {S : Nat → Prop} {h : H} {b v : Value} {l : List rc.D} {pre : List UInt8} (hb : By nos h b pre) (hp : pre.length ≤ 1000) (hs : RepL S rc h v l) (hm : l.all may = true) (hl : l.length ≤ 1024) :
    Ok Try.prog 40 #[b, v] h fun w h' => OwB (fun y => h y = none) h' 5 w (pre ++ bodyR l) ∧ Ext h h' := by
  obtain ⟨sa, sc, rfl⟩ := hs.len
  refine c40_ok (args := [_, _]) (by simp) ?_
  simp (disch := omega) only [dm_t, wS, simprocAttr, IntKind.bits]
  refine (u32_i hb _ (by omega) (by omega)).k ?_
  rintro w g ⟨o, e⟩
  simp (disch := omega) only [dm_t, wS, simprocAttr, IntKind.bits]
  refine vc_loop2 (fun vb vi h' => ∃ i : Nat, vi = .int .i64 (i : Int) ∧ i ≤ l.length ∧ OwB (fun y => h y = none) h' 5 vb (pre ++ (low 4 l.length ++ recsB (l.take i))) ∧ Ext h h') (fun _ vi _ => l.length - m1 vi) ?_ ?_
  · simp (disch := omega) only [dm_t, wS, simprocAttr, IntKind.bits]
    exact ⟨0, rfl, by omega, by rw [List.take_zero, recsB, List.map_nil, List.flatten_nil, List.append_nil]; exact o, e⟩
  rintro vb _ g1 ⟨i, rfl, hi, o1, e1⟩
  by_cases hil : i < l.length
  · have hmt := may_t (List.all_eq_true.1 hm _ (List.getElem_mem hil))
    have hsz : szR (l.take i) ≤ 4368 * i := by
      have := szR_le (l := l.take i) (List.all_eq_true.2 fun x hx => List.all_eq_true.1 hm x (List.mem_of_mem_take hx))
      rw [List.length_take] at this; omega
    have hlen : (pre ++ (low 4 l.length ++ recsB (l.take i))).length = pre.length + (4 + szR (l.take i)) := by rw [List.length_append, List.length_append, low_len, recsB_len]
    have hrt := recsB_take hil
    simp (disch := omega) only [dm_t, wS, simprocAttr, IntKind.bits]
    refine (hs.ext e1).at sz_rc i rfl hil ?_
    intro pb po cs g1' g2' g3
    obtain ⟨ka, kc, va, vc, rfl, hbd, hk, hv⟩ := rc_len g3
    generalize (l[i]).1 = t at hmt hrt g1' hbd g3 hk hv
    generalize hks : (l[i]).2.1 = ks at hmt hrt g1' hk g3 hv
    generalize hvs : (l[i]).2.2 = vs at hmt hrt g1' hv g3
    generalize hacc : pre ++ (low 4 l.length ++ recsB (l.take i)) = acc at o1 hlen
    simp (disch := omega) only [dm_t, wS, simprocAttr, IntKind.bits, g1']
    intro rb hrb
    simp (disch := omega) only [dm_t, wS, simprocAttr, IntKind.bits]
    refine (stn_new rfl (by rfl) (Rep.cells g3) ?_).2
    generalize hG : hupd g1 rb _ = G
    obtain ⟨e2, q⟩ := new_ext hG hrb
    clear hG
    have c0 : cellAt G ⟨rb, 0, none⟩ = some (.int .i64 t) := by rw [cellAt_of q]; rfl
    have c1 : cellAt G ⟨rb, 1, none⟩ = some (.slice ka ks.length kc) := by rw [cellAt_of q]; rfl
    have c2 : cellAt G ⟨rb, 2, none⟩ = some (.slice va vs.length vc) := by rw [cellAt_of q]; rfl
    simp (disch := omega) only [dm_t, wS, simprocAttr, IntKind.bits, c0, c1]
    refine (i64_ok By.nil t (by simp)).k ?_
    rintro w3 g3 ⟨o3, e3⟩
    simp (disch := omega) only [dm_t, wS, simprocAttr, IntKind.bits, cellAt_ext e3 c0, cellAt_ext e3 c1]
    refine (string_ok o3.s0 ((hk.nos.ext e2).ext e3) (by simp [low_len]) (by omega)).k ?_
    rintro _ g4 ⟨w4, rfl, o4, e4⟩
    simp (disch := omega) only [dm_t, wS, simprocAttr, IntKind.bits, cellAt_ext (e3.trans e4) c0, cellAt_ext (e3.trans e4) c1, cellAt_ext (e3.trans e4) c2]
    refine (string_ok o4.s0 (((hv.nos.ext e2).ext e3).ext e4) (by simp [low_len, strB_len]; omega) (by omega)).k ?_
    rintro _ g5 ⟨w5, rfl, o5, e5⟩
    simp (disch := omega) only [dm_t, wS, simprocAttr, IntKind.bits]
    have E5 := (e2.trans e3).trans (e4.trans e5)
    refine appB (o1.ext E5) (fun y hy => (e1.trans E5).bk hy) o5.s0 (by simp only [List.nil_append, List.length_append, low_len, strB_len]; omega) ?_
    intro w7 g7 o7 f7
    simp (disch := omega) only [dm_t, wS, simprocAttr, IntKind.bits]
    refine ⟨⟨i + 1, by simp, by omega, ?_, Ext.step (e1.trans E5) f7⟩, by simp [m1]; omega⟩
    rw [hrt, ← List.append_assoc (low 4 l.length), ← List.append_assoc pre, hacc]
    simpa only [List.append_assoc, List.nil_append] using o7
  · obtain rfl : i = l.length := by omega
    rw [List.take_length] at o1
    simp (disch := omega) only [dm_t, wS, simprocAttr, IntKind.bits]
    exact ⟨o1, e1⟩
end Go.Proofs.Ytfeaaliocdkonaa.pr
