/-
  proto: ProtoCuts walked: a round.
-/
import Derived.Test.YtfeaaliocdkonaaQd
namespace Go.Proofs.Ytfeaaliocdkonaa.pr
open Go.Proofs.Ytfeaaliocdkonaa rr wi
set_option linter.unusedVariables false
set_option linter.unusedSimpArgs false
abbrev askT : Ty := .pair (.int .i64) (.sl .byte)
theorem rep_ask {S : Nat → Prop} {h : H} {cs : List Value} {x : askT.D} : Rep S askT h cs x ↔ ∃ s, cs = [.int .i64 x.1, s] ∧ inI x.1 ∧ By S h s x.2 := by
  constructor
  · rintro ⟨_, _, rfl, ⟨rfl, b1⟩, r1⟩
    obtain ⟨s, _, rfl, _⟩ := id r1
    exact ⟨s, rfl, b1, repB.1 r1⟩
  · rintro ⟨s, rfl, b1, r1⟩
    exact ⟨[_], [_], rfl, ⟨rfl, b1⟩, repB.2 r1⟩
theorem ask_at {S : Nat → Prop} {h : H} {v : Value} {l : List askT.D} (r : RepL S askT h v l) {i : Nat} (hi : i < l.length) :
    ∃ b o s, idxV1 2 v (.int .i64 (i : Int)) = some (.pointer (some ⟨b, o, none⟩)) ∧ cellAt h ⟨b, o, none⟩ = some (.int .i64 (l[i]).1) ∧ cellAt h ⟨b, o + 1, none⟩ = some s ∧ By S h s (l[i]).2 := by
  obtain ⟨b, o, cs, gi, _, g2, g3⟩ := r.load hi .i64 2 rfl
  obtain ⟨s, rfl, _, hs⟩ := rep_ask.1 g3
  exact ⟨b, o, s, gi, g2 0 (by omega), g2 1 (by omega), hs⟩
def totA (l : List askT.D) : Nat := (l.map fun x => x.2.length).sum
theorem tot_take {l : List askT.D} {i : Nat} (hi : i < l.length) : totA (l.take (i + 1)) = totA (l.take i) + (l[i]).2.length := by
  rw [show l.take (i + 1) = l.take i ++ [l[i]] by simp]
  simp only [totA, List.map_append, List.map_cons, List.map_nil, List.sum_append, List.sum_cons, List.sum_nil]
  omega
theorem tot_le {l : List askT.D} (i : Nat) : totA (l.take i) ≤ totA l := by
  have h : totA l = totA (l.take i) + totA (l.drop i) := by
    conv => lhs; rw [← List.take_append_drop i l]
    simp only [totA, List.map_append, List.sum_append]
  omega
/-- What holds ahead of a round. -/
structure PI (own : Nat → Nat) (h g : H) (pc wb : Nat) (l : List UInt8) (met : Bool) (vo vw : Value) (os : List (Nat × stT.D)) (sc : List askT.D) (i : Nat) : Prop where
  K : KS own h g pc wb l met l met vo vw (os.map fun o => o.1) (os.map fun o => o.2) os
  ll : l.length ≤ totA (sc.take i)
  ol : os.length ≤ i
  oc : ∀ o ∈ os, o.2.1.length ≤ 40000
section
variable {own : Nat → Nat} {h g : H} {pc wb i : Nat} {l : List UInt8} {met : Bool} {vo vw v : Value} {os : List (Nat × stT.D)} {sc : List askT.D} {Q0 : Post}
abbrev cEnv (v : Value) (pc wb : Nat) (vo vw : Value) (i : Nat) : Env := [(0, v), (5, .pointer (some ⟨pc, 0, none⟩)), (6, .pointer (some ⟨wb, 0, none⟩)), (7, vo), (8, vw), (9, .int .i64 (i : Int))]
/-- What follows a round: the next one. -/
def Nx (Q0 : Post) (h : H) (wb : Nat) (v : Value) (sc : List askT.D) (i : Nat) : Prop := ∀ own g pc l met vo vw os, PI own h g pc wb l met vo vw os sc (i + 1) → vc Try.prog c5_s33 Q0 (cEnv v pc wb vo vw i) g
/-- The round's end: how many are left. -/
theorem PC_left (N : Nx Q0 h wb v sc i) (P : PI own h g pc wb l met vo vw os sc (i + 1)) : vc Try.prog c5_s32 (blockQ 3 (seqQ Try.prog [0, 5, 6, 7, 8, 9] c5_s33 Q0)) (cEnv v pc wb vo vw i) g := by
  obtain ⟨s, c⟩ := P.K.cur
  obtain ⟨s2, q, r⟩ := P.K.st
  obtain ⟨sa, sc2, rfl⟩ := By.len r
  have w0 : cellAt g ⟨wb, 0, none⟩ = some (.slice sa l.length sc2) := by rw [cellAt_of q]; rfl
  simp (disch := omega) only [dm_t, wS, simprocAttr, IntKind.bits, w0]
  refine (Left_ok c).k ?_
  rintro _ _ ⟨rfl, rfl⟩
  have t := N own g pc l met vo vw os P
  revert t
  simp (disch := omega) only [dm_t, wS, simprocAttr, IntKind.bits, w0]
  exact id
/-- A round with a call that is none. -/
theorem PI.next (P : PI own h g pc wb l met vo vw os sc i) (hi : i < sc.length) : PI own h g pc wb l met vo vw os sc (i + 1) :=
  ⟨P.K, by rw [tot_take hi]; have := P.ll; omega, by have := P.ol; omega, P.oc⟩
theorem PC_round (hs : RepL nos askT h v sc) (hlen : sc.length ≤ 60) (hB : ∀ x ∈ sc, x.2.length ≤ 40000) (htot : totA sc ≤ 40000) (hi : i < sc.length) (N : Nx Q0 h wb v sc i) (P : PI own h g pc wb l met vo vw os sc i) :
    vc Try.prog c5_s13 Q0 (cEnv v pc wb vo vw i) g := by
  obtain ⟨va, vz, rfl⟩ := hs.len
  obtain ⟨b, o, w, i1, t1h, x1h, hw⟩ := ask_at hs hi
  have htt := tot_take hi
  have hle := tot_le (l := sc) i
  have hle2 := tot_le (l := sc) (i + 1)
  have hll := P.ll
  have hol := P.ol
  obtain ⟨kind, hkind⟩ : ∃ k : Int, k = (sc[i]).1 := ⟨_, rfl⟩
  obtain ⟨B, hBq⟩ : ∃ B : List UInt8, B = (sc[i]).2 := ⟨_, rfl⟩
  have hBl : B.length ≤ 40000 := by rw [hBq]; exact hB _ (List.getElem_mem hi)
  rw [← hkind] at t1h
  rw [← hBq] at hw htt
  have t1 := cellAt_ext P.K.E t1h
  have x1 := cellAt_ext P.K.E x1h
  by_cases k01 : kind = 0 ∨ kind = 1
  · unfold cEnv
    have K := P.K
    have rest : ∀ (g2 : H) (m : Value), Ext g g2 → OwB (fun y => g y = none) g2 5 m B → vc Try.prog c5_s15 (blockQ 4 (seqQ Try.prog [0, 5, 6, 7, 8, 9] c5_s32 (blockQ 3 (seqQ Try.prog [0, 5, 6, 7, 8, 9] c5_s33 Q0)))) [(0, .slice va sc.length vz), (5, .pointer (some ⟨pc, 0, none⟩)), (6, .pointer (some ⟨wb, 0, none⟩)), (7, vo), (8, vw), (9, .int .i64 (i : Int)), (10, m)] g2 := by
      intro g2 m e2 o2
      have K1 := K.base (e2.mono fun _ h => h.elim) 6
      have m1 : OwB (fun y => stp own g g2 6 y = 6) g2 5 m B := OwK.mono o2 fun y o ho hy => stp_new hy (by rw [ho]; simp)
      generalize stp own g g2 6 = own1 at K1 m1
      obtain ⟨s1, c1⟩ := K1.cur
      simp (disch := omega) only [dm_t, wS, simprocAttr, IntKind.bits]
      refine (Put_all c1 m1.s0 (by omega)).k ?_
      rintro _ g3 ⟨rfl, ⟨s3, c3⟩, f3⟩
      have K2 := K1.cu (n := 1) f3 (c3.imp (fun y hy => by
        rcases hy with ⟨hy | hy, hn⟩
        · rw [stp_old (K1.al y (by rw [hy]; decide)) hn]; exact hy
        · exact stp_new hy hn) fun y hy => stp_al (by rw [hy]; decide))
      have m2 := owk_stp (n := 1) m1 K1.al f3 (by decide) (by decide)
      generalize stp own1 g2 g3 1 = own2 at K2 m2
      clear m1 c1 c3 f3 K1
      obtain ⟨ma, mc, rfl⟩ := By.len m2.s0
      simp (disch := omega) only [dm_t, wS, simprocAttr, IntKind.bits]
      refine vc_loop1 (fun vk g' => ∃ (k : Nat) (own' : Nat → Nat) (B' : List UInt8), vk = .int .i64 (k : Int) ∧ k ≤ B.length ∧ B'.length = B.length ∧ KS own' h g' pc wb (if met = true then l else l ++ B) met l met vo vw (os.map fun o => o.1) (os.map fun o => o.2) os ∧ OwB (fun y => own' y = 6) g' 5 (.slice ma B.length mc) B') (fun vk _ => B.length - m1 vk) ?_ ?_
      · simp (disch := omega) only [dm_t, wS, simprocAttr, IntKind.bits]
        exact ⟨0, own2, B, rfl, by omega, rfl, K2, m2⟩
      rintro _ g4 ⟨k, own3, B', rfl, hk, hBl', K3, m3⟩
      by_cases hkl : k < B.length
      · obtain ⟨xb, xo, i2, t2, hO2, hat2, hst2⟩ := OwB.set (kk := .i64) m3 k rfl (by omega)
        have hb8 := (B'[k]'(by omega)).toNat_lt
        simp (disch := omega) only [dm_t, wS, simprocAttr, IntKind.bits, i2, t2]
        refine hst2 _ _ _ (bv8 _) ?_
        intro g5 m5 f5
        simp (disch := omega) only [dm_t, wS, simprocAttr, IntKind.bits]
        have f5' : Fr (fun y => own3 y = 6) g4 g5 := f5.mono fun y hy => by rw [hy]; exact hO2
        have m6 : OwB (fun y => stp own3 g4 g5 6 y = 6) g5 5 (.slice ma B.length mc) _ := OwK.mono m5 fun y o ho hy => by rw [stp_old (K3.al y (by rw [hy]; decide)) (by rw [ho]; simp)]; exact hy
        exact ⟨⟨k + 1, _, _, by simp, by omega, by rw [List.length_set]; exact hBl', K3.base f5' 6, m6⟩, by simp [m1]; omega⟩
      · obtain rfl : k = B.length := by omega
        obtain ⟨sw, qw, rw'⟩ := K3.st
        obtain ⟨swa, swc, rfl⟩ := By.len rw'
        have w1 : cellAt g4 ⟨wb, 1, none⟩ = some (.bool met) := by rw [cellAt_of qw]; rfl
        have w0 : cellAt g4 ⟨wb, 0, none⟩ = some (.slice swa l.length swc) := by rw [cellAt_of qw]; rfl
        cases met with
        | true =>
          rw [stE, if_pos rfl]
          simp (disch := omega) only [dm_t, wS, simprocAttr, IntKind.bits, w1]
          refine (num_ok _ _).k ?_
          rintro _ _ ⟨rfl, rfl⟩
          have t := N own3 g4 pc l true vo vw os ⟨by simpa using K3, by rw [htt]; omega, by omega, P.oc⟩
          revert t
          unfold cEnv
          simp (disch := omega) only [dm_t, wS, simprocAttr, IntKind.bits]
          exact id
        | false =>
          rw [stE, if_neg (by decide)]
          rw [if_neg (by decide)] at K3
          obtain ⟨wa', wc', rfl⟩ := By.len hw
          simp (disch := omega) only [dm_t, wS, simprocAttr, IntKind.bits, w1, w0, i1, cellAt_ext K3.E x1h]
          intro b5 hb5
          have o5 : OwB (fun y => g4 y = none) (hupd g4 b5 (.cells #[] 5)) 5 (.slice (some ⟨b5, 0, none⟩) 0 0) [] := olit1 (h := g4) (O := fun y => g4 y = none) (xs := []) rfl hb5
          generalize hG : hupd g4 b5 _ = g5 at o5 ⊢
          obtain ⟨e5, _⟩ := new_ext hG hb5
          clear hG
          simp (disch := omega) only [dm_t, wS, simprocAttr, IntKind.bits, cellAt_ext e5 w0, i1, cellAt_ext (K3.E.trans e5) x1h]
          refine appB o5 (fun y hy => e5.bk hy) (SlK.ext rw' e5) (by simp; omega) ?_
          intro v6 g6 o6 f6
          have e6 := Ext.step e5 f6
          rw [List.nil_append] at o6
          simp (disch := omega) only [dm_t, wS, simprocAttr, IntKind.bits, cellAt_ext e6 w0, i1, cellAt_ext (K3.E.trans e6) x1h]
          refine appB o6 (fun y hy => e6.bk hy) (hw.ext (K3.E.trans e6)) (by omega) ?_
          intro v7 g7 o7 f7
          have e7 := Ext.step e6 f7
          have q7 := e7.at qw
          obtain ⟨va7, vc7, rfl⟩ := By.len o7.s0
          simp (disch := omega) only [dm_t, wS, simprocAttr, IntKind.bits, cellAt_ext e7 w0, i1, cellAt_ext (K3.E.trans e7) x1h, storeH_0 q7]
          have f8 : Fr (fun y => own3 y = 4) g4 (hupd g7 wb (.cells #[.slice va7 (l ++ B).length vc7, .bool false] 61)) := (e7.mono fun _ h => h.elim).trans (Fr.upd (S := fun y => own3 y = 4) K3.w4 _)
          have o8 := OwK.fr o7 (Fr.upd (h := g7) (b := wb) (S := fun y => y = wb) rfl (.cells #[.slice va7 (l ++ B).length vc7, .bool false] 61)) fun y hy hn => by rw [hy, qw] at hn; cases hn
          have K4 := K3.sm (n := 0) f8 (hupd_same _ _ _) (OwK.sl o8 fun y hy hh => by
            have := stp0 hh
            exact K3.al y this hy)
          generalize stp own3 g4 _ 0 = own4 at K4
          generalize hupd g7 wb (.cells #[.slice va7 (l ++ B).length vc7, .bool false] 61) = g8 at K4 ⊢
          simp (disch := omega) only [dm_t, wS, simprocAttr, IntKind.bits]
          refine (num_ok _ _).k ?_
          rintro _ _ ⟨rfl, rfl⟩
          have t := PC_left N (⟨K4, by rw [List.length_append, htt]; omega, by omega, P.oc⟩ : PI own4 h g8 pc wb (l ++ B) false vo vw os sc (i + 1))
          revert t
          unfold cEnv
          simp (disch := omega) only [dm_t, wS, simprocAttr, IntKind.bits]
          exact id
    obtain ⟨wa', wc', rfl⟩ := By.len hw
    rcases k01 with k0 | k1
    · simp (disch := omega) only [dm_t, wS, simprocAttr, IntKind.bits, i1, t1, x1]
      intro b5 hb5
      have o5 : OwB (fun y => g y = none) (hupd g b5 (.cells #[] 5)) 5 (.slice (some ⟨b5, 0, none⟩) 0 0) [] := olit1 (h := g) (O := fun y => g y = none) (xs := []) rfl hb5
      generalize hG : hupd g b5 _ = g5 at o5 ⊢
      obtain ⟨e5, _⟩ := new_ext hG hb5
      clear hG
      simp (disch := omega) only [dm_t, wS, simprocAttr, IntKind.bits, i1, cellAt_ext e5 x1]
      refine appB o5 (fun y hy => e5.bk hy) (hw.ext (K.E.trans e5)) (by simp; omega) ?_
      intro v6 g6 o6 f6
      rw [List.nil_append] at o6
      have t := rest g6 v6 (Ext.step e5 f6) o6
      revert t
      simp (disch := omega) only [dm_t, wS, simprocAttr, IntKind.bits]
      exact id
    · have k0 : ¬ kind = 0 := by omega
      simp (disch := omega) only [dm_t, wS, simprocAttr, IntKind.bits, i1, t1, x1]
      intro b5 hb5
      have o5 : OwB (fun y => g y = none) (hupd g b5 (.cells #[] 5)) 5 (.slice (some ⟨b5, 0, none⟩) 0 0) [] := olit1 (h := g) (O := fun y => g y = none) (xs := []) rfl hb5
      generalize hG : hupd g b5 _ = g5 at o5 ⊢
      obtain ⟨e5, _⟩ := new_ext hG hb5
      clear hG
      simp (disch := omega) only [dm_t, wS, simprocAttr, IntKind.bits, i1, cellAt_ext e5 x1]
      refine appB o5 (fun y hy => e5.bk hy) (hw.ext (K.E.trans e5)) (by simp; omega) ?_
      intro v6 g6 o6 f6
      rw [List.nil_append] at o6
      have t := rest g6 v6 (Ext.step e5 f6) o6
      revert t
      simp (disch := omega) only [dm_t, wS, simprocAttr, IntKind.bits]
      exact id
  by_cases k25 : kind = 2 ∨ kind = 3 ∨ kind = 4 ∨ kind = 5
  · have n0 : ¬ kind = 0 := fun h => k01 (.inl h)
    have n1 : ¬ kind = 1 := fun h => k01 (.inr h)
    have K := P.K
    obtain ⟨s1, c1⟩ := K.cur
    have rest : ∀ (g1 : H) (x : Value) (s' : Value), OwB (fun y => g y = none) g1 5 x (nB l met) → CU (fun y => own y = 1) g1 pc s' (nL l met) (nM l met) → Fr (fun y => own y = 1) g g1 →
        vc Try.prog c5_s23 (blockQ 4 (seqQ Try.prog [0, 5, 6, 7, 8, 9] c5_s32 (blockQ 3 (seqQ Try.prog [0, 5, 6, 7, 8, 9] c5_s33 Q0)))) [(0, .slice va sc.length vz), (5, .pointer (some ⟨pc, 0, none⟩)), (6, .pointer (some ⟨wb, 0, none⟩)), (7, vo), (8, vw), (9, .int .i64 (i : Int)), (13, x), (14, .int .i64 (nE l met))] g1 := by
      intro g1 x s' ox c1' f1
      have K1 := K.cu (n := 6) f1 (c1'.imp (fun y hy => by rw [stp_old (K.al y (by rw [hy]; decide)) (c1'.al y hy)]; exact hy) fun y hy => stp_al (by rw [hy]; decide))
      have x1 : OwB (fun y => stp own g g1 6 y = 6) g1 5 x (nB l met) := OwK.mono ox fun y o ho hy => stp_new hy (by rw [ho]; simp)
      generalize stp own g g1 6 = own1 at K1 x1
      obtain ⟨sw, qw, rw'⟩ := K1.st
      simp (disch := omega) only [dm_t, wS, simprocAttr, IntKind.bits]
      refine (DNext_ok qw rw' (by rw [K1.w4]; decide) (by omega)).k ?_
      rintro _ g2 ⟨⟨wy, s2, rfl, ry, q2, r2⟩, f2⟩
      have f2' : Fr (fun y => own1 y = 4) g1 g2 := f2.mono fun y hy => by rw [hy]; exact K1.w4
      have K2 := K1.sm (n := 0) f2' q2 (SlK.mono r2 fun y o ho hy => stp0 hy)
      have x2 := owk_stp (n := 0) x1 K1.al f2' (by decide) (by decide)
      generalize stp own1 g1 g2 0 = own2 at K2 x2
      obtain ⟨xa, xc, rfl⟩ := By.len x2.s0
      simp (disch := omega) only [dm_t, wS, simprocAttr, IntKind.bits]
      refine cvbs_of x2.s0 ?_
      simp (disch := omega) only [dm_t, wS, simprocAttr, IntKind.bits]
      refine cvbs_of ry ?_
      simp (disch := omega) only [dm_t, wS, simprocAttr, IntKind.bits]
      refine (num_ok _ _).k ?_
      rintro _ _ ⟨rfl, rfl⟩
      simp (disch := omega) only [dm_t, wS, simprocAttr, IntKind.bits]
      refine vc_loop1 (fun vk g' => ∃ (k : Nat) (own' : Nat → Nat) (B' : List UInt8), vk = .int .i64 (k : Int) ∧ k ≤ (nB l met).length ∧ B'.length = (nB l met).length ∧ KS own' h g' pc wb (nL l met) (nM l met) (nL l met) (nM l met) vo vw (os.map fun o => o.1) (os.map fun o => o.2) os ∧ OwB (fun y => own' y = 6) g' 5 (.slice xa (nB l met).length xc) B') (fun vk _ => (nB l met).length - m1 vk) ?_ ?_
      · simp (disch := omega) only [dm_t, wS, simprocAttr, IntKind.bits]
        exact ⟨0, own2, nB l met, rfl, by omega, rfl, K2, x2⟩
      rintro _ g4 ⟨k, own3, B', rfl, hk, hBl', K3, m3⟩
      have hnl := nB_len l met
      by_cases hkl : k < (nB l met).length
      · obtain ⟨xb, xo, i2, t2, hO2, hat2, hst2⟩ := OwB.set (kk := .i64) m3 k rfl (by omega)
        have hb8 := (B'[k]'(by omega)).toNat_lt
        simp (disch := omega) only [dm_t, wS, simprocAttr, IntKind.bits, i2, t2]
        refine hst2 _ _ _ (bv8 _) ?_
        intro g5 m5 f5
        simp (disch := omega) only [dm_t, wS, simprocAttr, IntKind.bits]
        have f5' : Fr (fun y => own3 y = 6) g4 g5 := f5.mono fun y hy => by rw [hy]; exact hO2
        have m6 : OwB (fun y => stp own3 g4 g5 6 y = 6) g5 5 (.slice xa (nB l met).length xc) _ := OwK.mono m5 fun y o ho hy => by rw [stp_old (K3.al y (by rw [hy]; decide)) (by rw [ho]; simp)]; exact hy
        exact ⟨⟨k + 1, _, _, by simp, by omega, by rw [List.length_set]; exact hBl', K3.base f5' 6, m6⟩, by simp [m1]; omega⟩
      · obtain rfl : k = (nB l met).length := by omega
        have hnl2 := nL_len l met
        have t := PC_left N (⟨K3, by rw [htt]; omega, by omega, P.oc⟩ : PI own3 h g4 pc wb (nL l met) (nM l met) vo vw os sc (i + 1))
        revert t
        unfold cEnv
        simp (disch := omega) only [dm_t, wS, simprocAttr, IntKind.bits]
        exact id
    unfold cEnv
    rcases k25 with k2 | k2 | k2 | k2
    · simp (disch := omega) only [dm_t, wS, simprocAttr, IntKind.bits, i1, t1]
      refine (Next_all c1 (by omega)).k ?_
      rintro _ g1 ⟨⟨x, s', rfl, ox, c1'⟩, f1⟩
      have t := rest g1 x s' ox c1' f1
      revert t
      simp (disch := omega) only [dm_t, wS, simprocAttr, IntKind.bits]
      exact id
    · have n2 : ¬ kind = 2 := by omega
      simp (disch := omega) only [dm_t, wS, simprocAttr, IntKind.bits, i1, t1]
      refine (Next_all c1 (by omega)).k ?_
      rintro _ g1 ⟨⟨x, s', rfl, ox, c1'⟩, f1⟩
      have t := rest g1 x s' ox c1' f1
      revert t
      simp (disch := omega) only [dm_t, wS, simprocAttr, IntKind.bits]
      exact id
    · have n2 : ¬ kind = 2 := by omega
      have n3 : ¬ kind = 3 := by omega
      simp (disch := omega) only [dm_t, wS, simprocAttr, IntKind.bits, i1, t1]
      refine (Next_all c1 (by omega)).k ?_
      rintro _ g1 ⟨⟨x, s', rfl, ox, c1'⟩, f1⟩
      have t := rest g1 x s' ox c1' f1
      revert t
      simp (disch := omega) only [dm_t, wS, simprocAttr, IntKind.bits]
      exact id
    · have n2 : ¬ kind = 2 := by omega
      have n3 : ¬ kind = 3 := by omega
      have n4 : ¬ kind = 4 := by omega
      simp (disch := omega) only [dm_t, wS, simprocAttr, IntKind.bits, i1, t1]
      refine (Next_all c1 (by omega)).k ?_
      rintro _ g1 ⟨⟨x, s', rfl, ox, c1'⟩, f1⟩
      have t := rest g1 x s' ox c1' f1
      revert t
      simp (disch := omega) only [dm_t, wS, simprocAttr, IntKind.bits]
      exact id
  by_cases k6 : kind = 6
  · have n0 : ¬ kind = 0 := fun h => k01 (.inl h)
    have n1 : ¬ kind = 1 := fun h => k01 (.inr h)
    have n2 : ¬ kind = 2 := fun h => k25 (.inl h)
    have n3 : ¬ kind = 3 := fun h => k25 (.inr (.inl h))
    have n4 : ¬ kind = 4 := fun h => k25 (.inr (.inr (.inl h)))
    have n5 : ¬ kind = 5 := fun h => k25 (.inr (.inr (.inr h)))
    unfold cEnv
    simp (disch := omega) only [dm_t, wS, simprocAttr, IntKind.bits, i1, t1]
    have K := P.K
    have hol := P.ol
    refine push1 (bytes := 8) (v := .pointer (some ⟨pc, 0, none⟩)) (O := fun y => own y = 2 ∨ g y = none) (OwK.mono K.old fun y _ _ hy => .inl hy) (fun y hy => .inr hy) rfl (by simp; omega) (by simp; omega) ?_
    intro _ vo1 g1 _ o1 f1
    have f1' : Fr (fun y => own y = 2) g g1 := Fr.less f1 fun y hy => hy.1
    have K1 := K.pput (po' := os.map (fun o => o.1) ++ [pc]) f1' (by
      rw [List.map_append]
      refine OwK.mono o1 fun y o ho hy => ?_
      have hn : g1 y ≠ none := by rw [ho]; simp
      rcases hy with hy | hy
      · rw [stp_old (K.al y (by rw [hy]; decide)) hn]; exact hy
      · exact stp_new hy hn)
    obtain ⟨s1, q1, r1⟩ := K1.st
    have l2 : cellsAt g1 ⟨wb, 0, none⟩ 2 = some #[s1, .bool met] := cellsAt_all q1 2 rfl
    generalize stp own g g1 2 = own1 at K1 r1
    obtain ⟨sa1, sc1, rfl⟩ := By.len r1
    simp (disch := omega) only [dm_t, wS, simprocAttr, IntKind.bits, l2]
    refine OwL.push (bytes := 32) (z := #[.slice none 0 0, .bool false]) (row := [.slice sa1 l.length sc1, .bool met]) (x := (l, met)) (S := fun y => own1 y ≠ 0 ∨ g1 y = none) (O := fun y => own1 y = 3 ∨ g1 y = none) 2 rfl (OwL.mono (OwL.avoid K1.was) fun y _ _ hy => .inl hy) (fun y hy => .inr hy) (rep_st.2 ⟨_, rfl, ?_⟩) (by rfl) (by simp; omega) (by simp; omega) ?_
    · refine SlK.mono r1 fun y o ho hy => ?_
      rcases hy with hy | hy | hy
      · have := OwL.own K1.was hy
        omega
      · exact hy
      · rw [hy] at ho; cases ho
    intro _ vw2 g2 _ o2 f2
    have f2' : Fr (fun y => own1 y = 3) g1 g2 := Fr.less f2 fun y hy => hy.1
    have K2 := K1.wput (n := 3) (ws' := os.map (fun o => o.2) ++ [(l, met)]) f2' (by
      refine OwL.mono (OwL.subS o2 fun y hy => stp_or hy) fun y o ho hy => ?_
      have hn : g2 y ≠ none := by rw [ho]; simp
      rcases hy with hy | hy
      · rw [stp_old (K1.al y (by rw [hy]; decide)) hn]; exact hy
      · exact stp_new hy hn)
    generalize stp own1 g1 g2 3 = own2 at K2
    obtain ⟨s2, c2⟩ := K2.cur
    simp (disch := omega) only [dm_t, wS, simprocAttr, IntKind.bits]
    refine (Copy_ok c2 (by omega)).k ?_
    rintro _ g3 ⟨p', s', rfl, hp', c3, e3⟩
    have K3 := K2.copied e3 c3
    have t := PC_left N (⟨by simpa using K3, by rw [htt]; omega, by rw [List.length_append, List.length_cons, List.length_nil]; omega, fun o ho => by
      rcases List.mem_append.1 ho with ho | ho
      · exact P.oc o ho
      · simp only [List.mem_singleton] at ho; subst ho; exact (by omega : l.length ≤ 40000)⟩ : PI _ h g3 p' wb l met vo1 vw2 (os ++ [(pc, l, met)]) sc (i + 1))
    revert t
    unfold cEnv
    simp (disch := omega) only [dm_t, wS, simprocAttr, IntKind.bits]
    exact id
  · have n0 : ¬ kind = 0 := fun h => k01 (.inl h)
    have n1 : ¬ kind = 1 := fun h => k01 (.inr h)
    have n2 : ¬ kind = 2 := fun h => k25 (.inl h)
    have n3 : ¬ kind = 3 := fun h => k25 (.inr (.inl h))
    have n4 : ¬ kind = 4 := fun h => k25 (.inr (.inr (.inl h)))
    have n5 : ¬ kind = 5 := fun h => k25 (.inr (.inr (.inr h)))
    have t := PC_left N (P.next hi)
    revert t
    unfold cEnv
    simp (disch := omega) only [dm_t, wS, simprocAttr, IntKind.bits, i1, t1]
    exact id
end
end Go.Proofs.Ytfeaaliocdkonaa.pr
