/-
  proto: ProtoStream walked: the rounds.
-/
import Derived.Test.YtfeaaliocdkonaaQi
namespace Go.Proofs.Ytfeaaliocdkonaa.pr
open Go.Proofs.Ytfeaaliocdkonaa rr wi
set_option linter.unusedVariables false
set_option linter.unusedSimpArgs false
theorem step40 (c : Int) : ∃ n : Nat, (Int.tmod c 40 + 40) % 40 = n ∧ n < 40 ∧ -40 < Int.tmod c 40 ∧ Int.tmod c 40 < 40 := by
  have h1 := Int.lt_tmod_of_pos c (show (0 : Int) < 40 by decide)
  have h2 := Int.tmod_lt_of_pos c (show (0 : Int) < 40 by decide)
  exact ⟨((Int.tmod c 40 + 40) % 40).toNat, by omega, by omega, h1, h2⟩
theorem offs_ge (ws : List (List UInt8)) : 8 * ws.length ≤ offs ws := by
  induction ws with
  | nil => simp [offs]
  | cons w t ih =>
    have : offs (w :: t) = w.length + 8 + offs t := by simp [offs]
    rw [this, List.length_cons]; omega
theorem frs_len (b : List UInt8) : 8 * (frs b).length ≤ b.length := by
  have h1 := (fi_take (b := b) (frs b).length (Nat.le_refl _)).le
  rw [List.take_length] at h1
  have := offs_ge (frs b)
  omega
section
variable {h g1 : H} {xb rb wv ev pc : Nat} {vB vC vw : Value} {b : List UInt8} {cuts : List Int}
/-- What follows a round. -/
def SN (Q0 : Post) (g1 : H) (xb rb wv ev pc : Nat) (b : List UInt8) (cuts : List Int) (i : Nat) : Prop := ∀ (g : H) (k fm : Nat) (met : Bool), SI g1 g pc b k fm met → (met = true → splitE ((b.take fm).drop (offs ((frs b).take k))) = 300) → (met = false → splitE ((b.take fm).drop (offs ((frs b).take k))) = 111 ∧ (i = cuts.length → fm = b.length)) →
  vc Try.prog c4_s24 Q0 [(1, .pointer (some ⟨xb, 0, none⟩)), (2, .pointer (some ⟨rb, 0, none⟩)), (3, .pointer (some ⟨wv, 0, none⟩)), (4, .pointer (some ⟨ev, 0, none⟩)), (6, .pointer (some ⟨pc, 0, none⟩)), (11, .int .i64 (splitE (b.drop (offs (frs b))))), (12, .int .i64 (k : Int)), (13, .int .i64 (fm : Int)), (14, .bool met), (15, .int .i64 (i : Int))] g
theorem PS_inner {Q0 : Post} {i k to : Nat} {g2 : H} (A : SB h g1 xb rb wv ev pc vB vC vw b cuts) (N : SN Q0 g1 xb rb wv ev pc b cuts i) (hi : i ≤ cuts.length) (h2 : to ≤ b.length) (h3 : i = cuts.length → to = b.length) (I2 : SI g1 g2 pc b k to false) :
    vc Try.prog c4_s19 (blockQ 3 (seqQ Try.prog [1, 2, 3, 4, 6, 11, 12, 13, 14, 15] c4_s24 Q0)) [(1, .pointer (some ⟨xb, 0, none⟩)), (2, .pointer (some ⟨rb, 0, none⟩)), (3, .pointer (some ⟨wv, 0, none⟩)), (4, .pointer (some ⟨ev, 0, none⟩)), (6, .pointer (some ⟨pc, 0, none⟩)), (11, .int .i64 (splitE (b.drop (offs (frs b))))), (12, .int .i64 (k : Int)), (13, .int .i64 (to : Int)), (14, .bool false), (15, .int .i64 (i : Int))] g2 := by
  have hlb := A.lb
  have hlc := A.lc
  have hfl := frs_len b
  obtain ⟨wa, wc, rfl⟩ := A.rw'.len
  obtain ⟨ba, bc, rfl⟩ := By.len A.rB
  obtain ⟨ca, cc, rfl⟩ := A.rC.len
  obtain ⟨_, _, hbc⟩ := SlK.cap A.rB
  rw [one_len, bvs_len] at hbc
  simp (disch := omega) only [dm_t, wS, simprocAttr, IntKind.bits]
  refine vc_loop2 (fun vk vm g => ∃ k : Nat, vk = .int .i64 (k : Int) ∧ vm = .bool false ∧ SI g1 g pc b k to false) (fun vk _ _ => (frs b).length - m1 vk) ?_ ?_
  · simp (disch := omega) only [dm_t, wS, simprocAttr, IntKind.bits]
    exact ⟨k, rfl, I2⟩
  rintro _ _ g3 ⟨k3, rfl, rfl, I3⟩
  obtain ⟨D, s, c, hD⟩ := I3.cu
  have hkl := I3.kl
  obtain ⟨qx3, qr3, qw3, qe3⟩ := A.at1 I3.f
  have w03 : cellAt g3 ⟨wv, 0, none⟩ = some (.slice wa (frs b).length wc) := by rw [cellAt_of qw3]; rfl
  have hcl : ((b.take to).drop (offs ((frs b).take k3))).length ≤ 40000 := by rw [List.length_drop, List.length_take]; omega
  have hda := drop_take_app I3.o I3.fm
  obtain ⟨nx1, nx2⟩ := fi_next hkl
  have I4 : ∀ (g4 : H) (s' : Value) (l' : List UInt8) (m' : Bool) (kk : Nat), CU D g4 pc s' l' m' → l' = (b.take to).drop (offs ((frs b).take kk)) → Fr D g3 g4 → kk ≤ (frs b).length → offs ((frs b).take kk) ≤ to → SI g1 g4 pc b kk to m' := by
    intro g4 s' l' m' kk c' hl' f hkk hoo
    subst hl'
    refine ⟨⟨D, s', c', hD⟩, ?_, hkk, hoo, h2⟩
    intro y o hy hn
    exact f _ _ (I3.f _ _ hy hn) fun hd => (hD y hd).elim hn fun h0 => by rw [h0] at hy; cases hy
  simp (disch := omega) only [dm_t, wS, simprocAttr, IntKind.bits]
  refine (Next_all c (by omega)).k ?_
  rintro _ g4 ⟨⟨w, s', rfl, ow, c'⟩, f4⟩
  generalize hcle : (b.take to).drop (offs ((frs b).take k3)) = cl at *
  rcases splitE_cases cl with he | he | he
  · -- a frame
    obtain ⟨hsa1, hsa2, hsa3⟩ := split_app (m := b.drop to) he
    rw [← hda] at hsa1 hsa2 hsa3
    obtain ⟨hk4, hbody, hoff⟩ := nx1 hsa1
    obtain ⟨z1, z2, z3, z4⟩ := splitB_len he
    rw [hsa3] at hbody
    rw [hsa2] at hoff
    have hcll : cl.length = to - offs ((frs b).take k3) := by rw [← hcle, List.length_drop, List.length_take]; omega
    have hol := I3.o
    rw [show nE cl false = 0 from he] at *
    rw [show nB cl false = splitB cl from if_pos he] at ow
    rw [show nL cl false = cl.drop (splitN cl) from if_pos he, show nM cl false = decide (splitE cl = 300) from rfl, he] at c'
    have hI := I4 g4 s' _ _ (k3 + 1) c' (by rw [hoff, ← hcle, List.drop_drop]) f4 (by omega) (by rw [hoff]; omega)
    obtain ⟨qx4, qr4, qw4, qe4⟩ := A.at1 hI.f
    have w04 : cellAt g4 ⟨wv, 0, none⟩ = some (.slice wa (frs b).length wc) := by rw [cellAt_of qw4]; rfl
    have rw4 := RepL.fr A.rw' hI.f fun y hy => hy
    obtain ⟨pb, po, wi, i1, t1, r1⟩ := RepL.load1 rw4 hk4 .i64 rfl
    rw [hbody] at r1
    have r1' : By (fun y => y = pc) g4 wi (splitB cl) := repB.1 r1
    obtain ⟨wia, wic, rfl⟩ := By.len r1'
    obtain ⟨oa, oc, rfl⟩ := By.len ow.s0
    simp (disch := omega) only [dm_t, wS, simprocAttr, IntKind.bits]
    refine (num_ok _ _).k ?_
    rintro _ _ ⟨rfl, rfl⟩
    simp (disch := omega) only [dm_t, wS, simprocAttr, IntKind.bits]
    refine (num_ok _ _).k ?_
    rintro _ _ ⟨rfl, rfl⟩
    simp (disch := omega) only [dm_t, wS, simprocAttr, IntKind.bits]
    refine (num_ok _ _).k ?_
    rintro _ _ ⟨rfl, rfl⟩
    have fin : (∃ k : Nat, Value.int .i64 ((k3 : Int) + 1) = .int .i64 (k : Int) ∧ SI g1 g4 pc b k to false) ∧ (frs b).length - m1 (Value.int .i64 ((k3 : Int) + 1)) < (frs b).length - m1 (Value.int .i64 (k3 : Int)) := ⟨⟨k3 + 1, by simp, hI⟩, by simp [m1]; omega⟩
    simp (disch := omega) only [dm_t, wS, simprocAttr, IntKind.bits, w04, i1, t1]
    refine ⟨?_, ?_⟩
    · refine cvbs_of ow.s0 ?_
      simp (disch := omega) only [dm_t, wS, simprocAttr, IntKind.bits, w04, i1, t1]
      refine cvbs_of r1' ?_
      simp (disch := omega) only [dm_t, wS, simprocAttr, IntKind.bits, w04, i1, t1]
      exact fin
    · refine cvbs_of r1' ?_
      simp (disch := omega) only [dm_t, wS, simprocAttr, IntKind.bits, w04, i1, t1]
      refine cvbs_of ow.s0 ?_
      simp (disch := omega) only [dm_t, wS, simprocAttr, IntKind.bits, w04, i1, t1]
      exact fin
  · -- more is wanted
    have he0 : ¬ splitE cl = 0 := by rw [he]; decide
    rw [show nE cl false = 111 from he] at *
    rw [show nL cl false = cl from if_neg he0, show nM cl false = decide (splitE cl = 300) from rfl, he] at c'
    have hI := I4 g4 s' _ _ k3 c' hcle.symm f4 (by omega) I3.o
    simp (disch := omega) only [dm_t, wS, simprocAttr, IntKind.bits]
    refine (num_ok _ _).k ?_
    rintro _ _ ⟨rfl, rfl⟩
    have t := N g4 k3 to false hI (fun h => by cases h) fun _ => ⟨by rw [hcle]; exact he, h3⟩
    revert t
    simp (disch := omega) only [dm_t, wS, simprocAttr, IntKind.bits]
    exact id
  · -- no frame
    have he0 : ¬ splitE cl = 0 := by rw [he]; decide
    rw [show nE cl false = 300 from he] at *
    rw [show nL cl false = cl from if_neg he0, show nM cl false = decide (splitE cl = 300) from rfl, he] at c'
    have hI := I4 g4 s' _ _ k3 c' hcle.symm f4 (by omega) I3.o
    simp (disch := omega) only [dm_t, wS, simprocAttr, IntKind.bits]
    refine (num_ok _ _).k ?_
    rintro _ _ ⟨rfl, rfl⟩
    simp (disch := omega) only [dm_t, wS, simprocAttr, IntKind.bits]
    refine (num_ok _ _).k ?_
    rintro _ _ ⟨rfl, rfl⟩
    have t := N g4 k3 to true hI (fun _ => by rw [hcle]; exact he) fun h => by cases h
    revert t
    simp (disch := omega) only [dm_t, wS, simprocAttr, IntKind.bits]
    exact id
theorem PS_piece {Q0 : Post} {i k fm to : Nat} {g : H} (A : SB h g1 xb rb wv ev pc vB vC vw b cuts) (N : SN Q0 g1 xb rb wv ev pc b cuts i) (hi : i ≤ cuts.length) (I : SI g1 g pc b k fm false) (h1 : fm ≤ to) (h2 : to ≤ b.length) (h3 : i = cuts.length → to = b.length) :
    vc Try.prog c4_s17 (blockQ 3 (seqQ Try.prog [1, 2, 3, 4, 6, 11, 12, 13, 14, 15] c4_s24 Q0)) [(1, .pointer (some ⟨xb, 0, none⟩)), (2, .pointer (some ⟨rb, 0, none⟩)), (3, .pointer (some ⟨wv, 0, none⟩)), (4, .pointer (some ⟨ev, 0, none⟩)), (6, .pointer (some ⟨pc, 0, none⟩)), (11, .int .i64 (splitE (b.drop (offs (frs b))))), (12, .int .i64 (k : Int)), (13, .int .i64 (fm : Int)), (14, .bool false), (15, .int .i64 (i : Int)), (16, .int .i64 (to : Int))] g := by
  have hlb := A.lb
  have hlc := A.lc
  have hfl := frs_len b
  obtain ⟨wa, wc, rfl⟩ := A.rw'.len
  obtain ⟨ba, bc, rfl⟩ := By.len A.rB
  obtain ⟨ca, cc, rfl⟩ := A.rC.len
  obtain ⟨_, _, hbc⟩ := SlK.cap A.rB
  rw [one_len, bvs_len] at hbc
  obtain ⟨qx, qr, qw, qe⟩ := A.at1 I.f
  have x0' : cellAt g ⟨xb, 0, none⟩ = some (.slice ba b.length bc) := by rw [cellAt_of qx]; rfl
  obtain ⟨D, s, c, hD⟩ := I.cu
  have sB := SlK.fr A.rB I.f fun y hy => hy
  simp (disch := omega) only [dm_t, wS, simprocAttr, IntKind.bits, x0']
  refine By.cutK sB fm to bc rfl rfl rfl (by omega) (.inr rfl) ?_
  intro w2 s2
  simp (disch := omega) only [dm_t, wS, simprocAttr, IntKind.bits]
  refine (Put_all c s2 (by simp only [List.length_drop, List.length_take]; omega)).k ?_
  rintro _ g2 ⟨rfl, ⟨s', c'⟩, f2⟩
  rw [if_neg (by decide), piece_app I.o h1 h2] at c'
  rw [stE, if_neg (by decide)]
  have I2 : SI g1 g2 pc b k to false := by
    refine ⟨⟨_, s', c', ?_⟩, ?_, I.kl, Nat.le_trans I.o h1, h2⟩
    · rintro y ⟨hy | hy, _⟩
      · exact hD y hy
      · by_cases hyp : y = pc
        · exact .inl hyp
        · exact .inr (I.f.back hy (fun z hz => by rw [hz]; exact c.obj ▸ (by simp)))
    · intro y o hy hn
      exact f2 _ _ (I.f _ _ hy hn) fun hd => (hD y hd).elim hn fun h0 => by rw [h0] at hy; cases hy
  simp (disch := omega) only [dm_t, wS, simprocAttr, IntKind.bits]
  refine (num_ok _ _).k ?_
  rintro _ _ ⟨rfl, rfl⟩
  have t := PS_inner A N hi h2 h3 I2
  revert t
  simp (disch := omega) only [dm_t, wS, simprocAttr, IntKind.bits]
  exact id
theorem PS_loop (A : SB h g1 xb rb wv ev pc vB vC vw b cuts) :
    vc Try.prog c4_s12 (QS h) [(1, .pointer (some ⟨xb, 0, none⟩)), (2, .pointer (some ⟨rb, 0, none⟩)), (3, .pointer (some ⟨wv, 0, none⟩)), (4, .pointer (some ⟨ev, 0, none⟩)), (6, .pointer (some ⟨pc, 0, none⟩)), (11, .int .i64 (splitE (b.drop (offs (frs b)))))] g1 := by
  have hlb := A.lb
  have hlc := A.lc
  have hfl := frs_len b
  obtain ⟨wa, wc, rfl⟩ := A.rw'.len
  obtain ⟨ba, bc, rfl⟩ := By.len A.rB
  obtain ⟨ca, cc, rfl⟩ := A.rC.len
  obtain ⟨_, _, hbc⟩ := SlK.cap A.rB
  rw [one_len, bvs_len] at hbc
  simp (disch := omega) only [dm_t, wS, simprocAttr, IntKind.bits]
  refine vc_loop4 (fun vk vf vm vi g => ∃ (i k fm : Nat) (met : Bool), vi = .int .i64 (i : Int) ∧ vk = .int .i64 (k : Int) ∧ vf = .int .i64 (fm : Int) ∧ vm = .bool met ∧ i ≤ cuts.length + 1 ∧ SI g1 g pc b k fm met ∧
    (met = true → splitE ((b.take fm).drop (offs ((frs b).take k))) = 300) ∧ (met = false → i = cuts.length + 1 → fm = b.length ∧ splitE ((b.take fm).drop (offs ((frs b).take k))) = 111)) (fun _ _ _ vi _ => cuts.length + 1 - m1 vi) ?_ ?_
  · simp (disch := omega) only [dm_t, wS, simprocAttr, IntKind.bits]
    refine ⟨0, 0, 0, false, rfl, rfl, rfl, rfl, by omega, ⟨⟨fun y => y = pc, .slice none 0 0, ?_, fun y hy => .inl hy⟩, Fr.refl _ _, by omega, by simp [offs], by omega⟩, fun h => (by cases h), fun _ h => (by omega)⟩
    simpa using A.cu
  rintro _ _ _ _ g ⟨i, k, fm, met, rfl, rfl, rfl, rfl, hi, I, hm1, hm2⟩
  obtain ⟨qx, qr, qw, qe⟩ := A.at1 I.f
  have w0 : cellAt g ⟨wv, 0, none⟩ = some (.slice wa (frs b).length wc) := by rw [cellAt_of qw]; rfl
  have x0' : cellAt g ⟨xb, 0, none⟩ = some (.slice ba b.length bc) := by rw [cellAt_of qx]; rfl
  have x1' : cellAt g ⟨xb, 1, none⟩ = some (.slice ca cuts.length cc) := by rw [cellAt_of qx]; rfl
  by_cases hic : i ≤ cuts.length
  case neg =>
    have hic' : i = cuts.length + 1 := by omega
    have t := PS_end A I (by
      cases met with
      | true => rw [if_pos rfl]; exact hm1 rfl
      | false => rw [if_neg (by decide)]; exact hm2 rfl hic')
    revert t
    simp (disch := omega) only [dm_t, wS, simprocAttr, IntKind.bits, x1']
    exact id
  cases met with
  | true =>
    have t := PS_end A I (by rw [if_pos rfl]; exact hm1 rfl)
    revert t
    simp (disch := omega) only [dm_t, wS, simprocAttr, IntKind.bits, x1']
    exact id
  | false =>
  generalize hQ0 : lq4 _ _ _ _ _ _ _ _ _ _ = Q0
  have N : SN Q0 g1 xb rb wv ev pc b cuts i := by
    intro g4 k4 fm4 met4 I4 h1 h2
    rw [← hQ0]
    simp (disch := omega) only [dm_t, wS, simprocAttr, IntKind.bits]
    refine ⟨⟨i + 1, k4, fm4, met4, by simp, rfl, rfl, rfl, by omega, I4, h1, fun hm h => ⟨(h2 hm).2 (by omega), (h2 hm).1⟩⟩, by simp [m1]; omega⟩
  by_cases hil : i < cuts.length
  · obtain ⟨pb, po, i1, t1⟩ := S1.load (repI (RepL.fr A.rC I.f fun y hy => hy)).1 (i := i) (by simpa using hil) .i64
    rw [List.getElem_map] at t1
    generalize cuts[i] = cc1 at t1
    obtain ⟨n, hn, hn2, hn3, hn4⟩ := step40 cc1
    have hfm := I.fm
    have hmin : min (b.length : Int) ((fm : Int) + (n : Int)) = ((min b.length (fm + n) : Nat) : Int) := by omega
    have t := PS_piece A N hic I (to := min b.length (fm + n)) (by omega) (by omega) (fun h => by omega)
    revert t
    simp (disch := omega) only [dm_t, wS, simprocAttr, IntKind.bits, x0', x1', i1, t1, hn, hmin]
    exact id
  · have t := PS_piece A N hic I I.fm (Nat.le_refl _) (fun _ => rfl)
    revert t
    simp (disch := omega) only [dm_t, wS, simprocAttr, IntKind.bits, x0', x1']
    exact id
end
end Go.Proofs.Ytfeaaliocdkonaa.pr
