/-
  proto: what was put into a frame is read back; the program's Request of such a frame.
-/
import Derived.Test.YtfeaaliocdkonaaPp
namespace Go.Proofs.Ytfeaaliocdkonaa.pr
open Go.Proofs.Ytfeaaliocdkonaa rr wi
set_option linter.unusedVariables false
set_option linter.unusedSimpArgs false
/-! ### Plain: bytes read where they were put -/
theorem mid {a b c : List UInt8} {k n : Nat} (hk : k = a.length) (hn : n = b.length) : ((a ++ (b ++ c)).drop k).take n = b := by
  subst hk hn
  rw [List.drop_left, List.take_left]
theorem num_mid {a c : List UInt8} {k n x : Nat} (hk : k = a.length) (hx : x < 256 ^ n) : num (((a ++ (low n x ++ c)).drop k).take n) = x := by
  rw [mid hk (low_len n x).symm, num_low, Nat.mod_eq_of_lt hx]
theorem sgn_bits {t : Int} (h : inI t) : sgn64 (bits64 t) = t := by
  unfold sgn64 bits64
  obtain ⟨h1, h2⟩ := h
  split <;> omega
theorem sgn_mid {a c : List UInt8} {k : Nat} {t : Int} (hk : k = a.length) (ht : inI t) : sgn64 (num (((a ++ (low 8 (bits64 t) ++ c)).drop k).take 8)) = t := by
  rw [num_mid hk (bits64_lt t), sgn_bits ht]
theorem rdStr_mid {a t c : List UInt8} {k : Nat} {m : Int} (hk : k = a.length) (hm : (t.length : Int) ≤ m) (ht : t.length < 4294967296) : rdStr (a ++ (strB t ++ c)) k m = .ok (t, k + 4 + t.length) := by
  have e1 : a ++ (strB t ++ c) = a ++ (low 4 t.length ++ (t ++ c)) := by simp [strB]
  have e2 : a ++ (strB t ++ c) = (a ++ low 4 t.length) ++ (t ++ c) := by simp [strB]
  have hn : num (((a ++ (strB t ++ c)).drop k).take 4) = t.length := by rw [e1]; exact num_mid hk ht
  have hl : (a ++ (strB t ++ c)).length = k + 4 + t.length + c.length := by rw [List.length_append, List.length_append, strB_len]; omega
  rw [rdStr, if_neg (by omega), hn, if_neg (by omega), if_neg (by omega)]
  congr 2
  rw [e2]
  exact mid (by rw [List.length_append, low_len]; omega) rfl
theorem rdRec_mid {a c : List UInt8} {r : rc.D} {k : Nat} (hk : k = a.length) (hr : may r = true) : rdRec (a ++ (recB r ++ c)) k = some (r, k + (recB r).length) := by
  have hm := may_t hr
  have e1 : a ++ (recB r ++ c) = a ++ (low 8 (bits64 r.1) ++ (strB r.2.1 ++ (strB r.2.2 ++ c))) := by simp [recB]
  have e2 : a ++ (recB r ++ c) = (a ++ low 8 (bits64 r.1)) ++ (strB r.2.1 ++ (strB r.2.2 ++ c)) := by simp [recB]
  have e3 : a ++ (recB r ++ c) = (a ++ low 8 (bits64 r.1) ++ strB r.2.1) ++ (strB r.2.2 ++ c) := by simp [recB]
  have s1 : rdStr (a ++ (recB r ++ c)) (k + 8) 256 = .ok (r.2.1, k + 8 + 4 + r.2.1.length) := by
    rw [e2]; exact rdStr_mid (by rw [List.length_append, low_len]; omega) (by omega) (by omega)
  have s2 : rdStr (a ++ (recB r ++ c)) (k + 8 + 4 + r.2.1.length) 4096 = .ok (r.2.2, k + 8 + 4 + r.2.1.length + 4 + r.2.2.length) := by
    rw [e3]; exact rdStr_mid (by rw [List.length_append, List.length_append, low_len, strB_len]; omega) (by omega) (by omega)
  have s3 : sgn64 (num (((a ++ (recB r ++ c)).drop k).take 8)) = r.1 := by rw [e1]; exact sgn_mid hk ⟨by omega, by omega⟩
  have hl : (a ++ (recB r ++ c)).length = k + (recB r).length + c.length := by rw [List.length_append, List.length_append]; omega
  have hrl := recB_len r
  rw [rdRec, if_neg (by omega), s1]
  simp only []
  rw [s2, s3]
  refine congrArg some (Prod.ext rfl ?_)
  show k + 8 + 4 + r.2.1.length + 4 + r.2.2.length = k + (recB r).length
  omega
theorem rdRecs_mid : ∀ {l : List rc.D} {a c : List UInt8} {k : Nat} (hk : k = a.length) (hl : l.all may = true), rdRecs (a ++ (recsB l ++ c)) l.length k = some (l, k + (recsB l).length)
  | [], a, c, k, hk, hl => by simp [rdRecs, recsB]
  | r :: t, a, c, k, hk, hl => by
    rw [List.all_cons, Bool.and_eq_true] at hl
    have e0 : recsB (r :: t) = recB r ++ recsB t := by simp [recsB]
    have e1 : a ++ (recsB (r :: t) ++ c) = a ++ (recB r ++ (recsB t ++ c)) := by rw [e0, List.append_assoc]
    have e2 : a ++ (recsB (r :: t) ++ c) = (a ++ recB r) ++ (recsB t ++ c) := by rw [e1, List.append_assoc]
    have s1 : rdRec (a ++ (recsB (r :: t) ++ c)) k = some (r, k + (recB r).length) := by rw [e1]; exact rdRec_mid hk hl.1
    have s2 : rdRecs (a ++ (recsB (r :: t) ++ c)) t.length (k + (recB r).length) = some (t, k + (recB r).length + (recsB t).length) := by
      rw [e2]; exact rdRecs_mid (by rw [List.length_append]; omega) hl.2
    rw [List.length_cons, rdRecs, s1]
    simp only []
    rw [s2, e0, List.length_append]
    simp only [Option.map_some, Option.some.injEq, Prod.mk.injEq, true_and]
    omega
theorem rdRecL_mid {a c : List UInt8} {l : List rc.D} {k : Nat} (hk : k = a.length) (hm : l.all may = true) (hl : l.length ≤ 1024) : rdRecL (a ++ (bodyR l ++ c)) k = some (l, k + (bodyR l).length) := by
  have e1 : a ++ (bodyR l ++ c) = a ++ (low 4 l.length ++ (recsB l ++ c)) := by simp [bodyR]
  have e2 : a ++ (bodyR l ++ c) = (a ++ low 4 l.length) ++ (recsB l ++ c) := by simp [bodyR]
  have hn : num (((a ++ (bodyR l ++ c)).drop k).take 4) = l.length := by rw [e1]; exact num_mid hk (by omega)
  have s : rdRecs (a ++ (bodyR l ++ c)) l.length (k + 4) = some (l, k + 4 + (recsB l).length) := by
    rw [e2]; exact rdRecs_mid (by rw [List.length_append, low_len]; omega) hm
  have hll : (a ++ (bodyR l ++ c)).length = k + (bodyR l).length + c.length := by rw [List.length_append, List.length_append]; omega
  have hbl := bodyR_len l
  have hrl := recsB_len l
  rw [rdRecL, if_neg (by omega), hn, if_neg (by omega), s]
  simp only [Option.some.injEq, Prod.mk.injEq, true_and]
  omega
/-! ### Frames -/
theorem split_seal {b c : List UInt8} (h1 : 1 ≤ b.length) (h2 : b.length ≤ 1048568) : splitE (sealB b ++ c) = 0 ∧ splitN (sealB b ++ c) = b.length + 8 ∧ splitB (sealB b ++ c) = b := by
  have e1 : sealB b ++ c = [] ++ (low 4 (b.length + 4) ++ (low 4 (sumB b).toNat ++ (b ++ c))) := by simp [sealB]
  have e2 : sealB b ++ c = low 4 (b.length + 4) ++ (low 4 (sumB b).toNat ++ (b ++ c)) := by simp [sealB]
  have e3 : sealB b ++ c = (low 4 (b.length + 4) ++ low 4 (sumB b).toNat) ++ (b ++ c) := by simp [sealB]
  have n1 : num ((sealB b ++ c).take 4) = b.length + 4 := by
    have := num_mid (a := []) (c := low 4 (sumB b).toNat ++ (b ++ c)) (k := 0) (n := 4) (x := b.length + 4) rfl (by omega)
    rw [List.drop_zero, ← e1] at this
    exact this
  have n2 : num (((sealB b ++ c).drop 4).take 4) = (sumB b).toNat := by
    rw [e2]; exact num_mid (low_len _ _).symm (sumB b).isLt
  have hB : splitB (sealB b ++ c) = b := by
    rw [splitB, n1, e3]; exact mid (by simp [low_len]) (by omega)
  have hl : (sealB b ++ c).length = b.length + 8 + c.length := by rw [List.length_append, sealB_len]
  refine ⟨?_, by rw [splitN, n1], hB⟩
  rw [splitE, if_neg (by omega), n1, if_neg (by omega), if_neg (by omega), n2, hB, if_neg (fun h => h rfl)]
theorem rdQ_i {recs : List rc.D} (kind number part off most : Int) (hB : qB (kind, number, part, recs, off, most)) (hck : ckQ (kind, number, part, recs, off, most) = 0) :
    rdQ (bodyQ (kind, number, part, recs, off, most)) = some ((kind, number, part, recs, off, most), (bodyQ (kind, number, part, recs, off, most)).length) := by
  obtain ⟨hp, hk⟩ := ckQ_k hck
  have hlen := bodyQ_len hck
  obtain ⟨b1, b2, b3, b5, b6⟩ := hB
  have b2' : 0 ≤ number ∧ number ≤ 4294967295 := b2
  have hp' : 0 ≤ part ∧ part ≤ 65535 := hp
  have hk3 : 1 ≤ kind ∧ kind ≤ 3 := by
    rcases hk with ⟨k, _⟩ | ⟨k, _⟩ | ⟨k, _⟩ <;> (have k' : @Eq Int kind _ := k; omega)
  generalize hT : (if kind = 1 then bodyR recs else if kind = 2 then low 8 (bits64 off) ++ low 8 (bits64 most) else []) = T
  have e0 : bodyQ (kind, number, part, recs, off, most) = [UInt8.ofNat kind.toNat] ++ (low 4 number.toNat ++ (low 2 part.toNat ++ T)) := by rw [← hT]; rfl
  have e1 : bodyQ (kind, number, part, recs, off, most) = ([UInt8.ofNat kind.toNat] ++ low 4 number.toNat) ++ (low 2 part.toNat ++ T) := by rw [e0]; simp
  have e2 : bodyQ (kind, number, part, recs, off, most) = ([UInt8.ofNat kind.toNat] ++ low 4 number.toNat ++ low 2 part.toNat) ++ (T ++ []) := by rw [e0]; simp
  generalize bodyQ (kind, number, part, recs, off, most) = B at e0 e1 e2 hlen ⊢
  have hKQ : (kindQ B : Int) = kind := by
    rw [kindQ, e0]
    have h1 : ([UInt8.ofNat kind.toNat] ++ (low 4 number.toNat ++ (low 2 part.toNat ++ T))).take 1 = [UInt8.ofNat kind.toNat] := rfl
    rw [h1, num, num, UInt8.toNat_ofNat']
    omega
  have hNQ : (numQ B : Int) = number := by
    rw [numQ, e0, num_mid (a := [UInt8.ofNat kind.toNat]) (k := 1) rfl (by omega)]; omega
  have hPQ : (partQ B : Int) = part := by
    rw [partQ, e1, num_mid (by simp [low_len]) (by omega)]; omega
  have hl : B.length = 7 + T.length := by rw [e0]; simp [low_len]; omega
  rw [rdQ, if_neg (by omega), hNQ, hPQ, hKQ]
  rcases hk with ⟨k, hc, ho, hm, hs⟩ | ⟨k, hr, ho, hm⟩ | ⟨k, hr, ho, hm, h0⟩
  · have k1 : kind = 1 := k
    obtain ⟨hc1, hc2⟩ := carry_t hc
    rw [if_pos k1] at hT
    rw [if_pos (by omega), e2, ← hT, rdRecL_mid (by simp [low_len]) hc2 hc1]
    have ho' : off = 0 := ho
    have hm' : most = 0 := hm
    subst k1 ho' hm'
    simp [low_len]
    omega
  · have k2 : kind = 2 := k
    have hr' : recs = [] := hr
    subst k2 hr'
    rw [if_neg (by decide), if_pos rfl] at hT
    rw [if_neg (by omega), if_pos (by omega), if_neg (by rw [hl, ← hT]; simp [low_len])]
    have t1 : sgn64 (num ((B.drop 7).take 8)) = off := by
      rw [e2, ← hT, List.append_assoc (low 8 _)]; exact sgn_mid (by simp [low_len]) b5
    have t2 : sgn64 (num ((B.drop 15).take 8)) = most := by
      have e3 : B = ([UInt8.ofNat (2 : Int).toNat] ++ low 4 number.toNat ++ low 2 part.toNat ++ low 8 (bits64 off)) ++ (low 8 (bits64 most) ++ []) := by rw [e2, ← hT]; simp
      rw [e3]; exact sgn_mid (by simp [low_len]) b6
    rw [t1, t2]
    have : T.length = 16 := by rw [← hT]; simp [low_len]
    simp only [Option.some.injEq, Prod.mk.injEq, true_and]
    omega
  · have k3 : kind = 3 := k
    have hr' : recs = [] := hr
    have ho' : off = 0 := ho
    have hm' : most = 0 := hm
    subst k3 hr' ho' hm'
    rw [if_neg (by decide), if_neg (by decide)] at hT
    rw [if_neg (by omega), if_neg (by omega)]
    have : T.length = 0 := by rw [← hT]; rfl
    simp only [Option.some.injEq, Prod.mk.injEq, true_and]
    omega
theorem rdQ_body {x : reqT.D} (hB : qB x) (hck : ckQ x = 0) : rdQ (bodyQ x) = some (x, (bodyQ x).length) :=
  rdQ_i x.1 x.2.1 x.2.2.1 x.2.2.2.2.1 x.2.2.2.2.2 hB hck
/-! ### The program's walk -/
theorem Request_ok {S : Nat → Prop} {h : H} {v : Value} {f : List UInt8} {x : reqT.D} {k : Nat} (hb : By S h v f) (hl : f.length ≤ 140737488355328) (ho : openE rdQ f = 0) (hrd : rdQ (splitB f) = some (x, k)) (hck : ckQ x = 0) :
    Ok Try.prog 35 #[v] h fun r h' => (∃ cs, r = .tuple #[.agg cs.toArray, .int .i64 0] ∧ Rep nos reqT h' cs x) ∧ Ext h h' := by
  obtain ⟨sa, sc, rfl⟩ := hb.len
  refine c35_ok (args := [_]) (by simp) ?_
  simp (disch := omega) only [dm_t, wS, simprocAttr, IntKind.bits]
  intro ra hra
  simp (disch := omega) only [dm_t, wS, simprocAttr, IntKind.bits]
  intro xb hxb
  generalize hG : hupd h ra _ = G at hxb ⊢
  obtain ⟨e1, q1⟩ := new_ext hG hra
  clear hG
  generalize hG : hupd G xb _ = g2
  obtain ⟨e2, q2⟩ := new_ext hG hxb
  clear hG
  have hrx : ra ≠ xb := ne_of q1 hxb
  have E2 := e1.trans e2
  simp (disch := omega) only [dm_t, wS, simprocAttr, IntKind.bits]
  refine (open_ok (SlK.ext hb E2) hl (by rfl) q2 (fun g b s l r q _ => Q1_k r q)).k ?_
  rintro _ g3 ⟨rfl, f3, _, h3⟩
  obtain ⟨cs, d, k', h4, q3, h5⟩ := h3 ho
  rw [hrd] at h4
  obtain ⟨rfl, rfl⟩ : x = d ∧ k = k' := by simpa using h4
  rw [ho]
  have hlen := Rep.len h5
  have l3 : cellsAt g3 ⟨xb, 0, none⟩ 6 = some cs.toArray := cellsAt_all q3 6 hlen
  simp (disch := omega) only [dm_t, wS, simprocAttr, IntKind.bits, l3]
  refine (CkQ_ok h5).k ?_
  rintro _ g4 ⟨rfl, e4⟩
  rw [hck]
  have q4 := e4.at q3
  have r4 := e4.at (f3 _ _ (e2.at q1) hrx)
  have l4 : cellsAt g4 ⟨xb, 0, none⟩ 6 = some cs.toArray := cellsAt_all q4 6 hlen
  simp (disch := omega) only [dm_t, wS, simprocAttr, IntKind.bits, l4]
  refine ⟨hlen, storeH_all r4 (by rw [hlen]; rfl) (Rep.cells h5) ?_⟩
  generalize hG : hupd g4 ra _ = g5
  have q5 : g5 ra = some (.cells cs.toArray 26) := by rw [← hG, hupd_same]
  have f5 : Fr (fun y => y = ra) g4 g5 := by rw [← hG]; exact Fr.upd (S := fun y => y = ra) rfl _
  simp (disch := omega) only [dm_t, wS, simprocAttr, IntKind.bits, cellsAt_all q5 6 hlen]
  refine ⟨⟨cs, rfl, ?_⟩, ?_⟩
  · exact Rep.mono (Rep.fr (Rep.ext h5 e4) f5 fun y hy => by rw [hy, e2.at q1]; simp) fun _ _ _ h => h.elim
  · intro y o hy _
    have hyr : y ≠ ra := fun hh => by rw [hh, hra] at hy; cases hy
    have hyx : y ≠ xb := fun hh => by rw [hh, e1.bk hxb] at hy; cases hy
    exact f5 _ _ (e4.at (f3 _ _ (E2.at hy) hyx)) hyr
end Go.Proofs.Ytfeaaliocdkonaa.pr
