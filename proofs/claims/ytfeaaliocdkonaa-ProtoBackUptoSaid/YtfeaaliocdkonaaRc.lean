/-
  proto: both frames by a cutter, in pieces.
-/
import Derived.Test.YtfeaaliocdkonaaQh
import Derived.Test.YtfeaaliocdkonaaQd
namespace Go.Proofs.Ytfeaaliocdkonaa.pr
open Go.Proofs.Ytfeaaliocdkonaa rr wi
set_option linter.unusedVariables false
set_option linter.unusedSimpArgs false
theorem ok_ok {S : Nat → Prop} {h : H} {v : Value} {l : List Int} (hs : S1 S h v (l.map (.int .i64))) (hl : l.length ≤ 100) : Ok Try.prog 34 #[v] h fun w h' => w = .bool (l.all fun x => decide (x = 0)) ∧ h = h' := by
  obtain ⟨sa, sc, rfl⟩ := S1.len hs
  simp only [List.length_map] at hs ⊢
  refine c34_ok (args := [_]) (by simp) ?_
  simp (disch := omega) only [dm_t, wS, simprocAttr, IntKind.bits]
  refine vc_loop1 (fun vi h' => h' = h ∧ ∃ i : Nat, vi = .int .i64 (i : Int) ∧ i ≤ l.length ∧ ((l.take i).all fun x => decide (x = 0)) = true) (fun vi _ => l.length - m1 vi) ?_ ?_
  · simp (disch := omega) only [dm_t, wS, simprocAttr, IntKind.bits]
    exact ⟨0, rfl, by omega, rfl⟩
  rintro _ g ⟨rfl, i, rfl, hi, hall⟩
  by_cases hil : i < l.length
  · obtain ⟨b, o, i1, t1⟩ := S1.load hs (i := i) (by simpa using hil) .i64
    rw [List.getElem_map] at t1
    by_cases hz : l[i] = 0
    · rw [hz] at t1
      simp (disch := omega) only [dm_t, wS, simprocAttr, IntKind.bits, i1, t1]
      refine (num_ok _ _).k ?_
      rintro _ _ ⟨rfl, rfl⟩
      simp (disch := omega) only [dm_t, wS, simprocAttr, IntKind.bits]
      refine ⟨⟨i + 1, by simp, by omega, ?_⟩, by simp [m1]; omega⟩
      rw [show l.take (i + 1) = l.take i ++ [l[i]] by simp, List.all_append, hall]
      simp [hz]
    · have hno : (l.all fun x => decide (x = 0)) = false := by
        rw [Bool.eq_false_iff]; intro ha
        exact hz (of_decide_eq_true (List.all_eq_true.1 ha _ (List.getElem_mem hil)))
      generalize l[i] = e at t1 hz
      simp (disch := omega) only [dm_t, wS, simprocAttr, IntKind.bits, i1, t1]
      refine (num_ok _ _).k ?_
      rintro _ _ ⟨rfl, rfl⟩
      simp (disch := omega) only [dm_t, wS, simprocAttr, IntKind.bits]
      rw [hno]
  · obtain rfl : i = l.length := by omega
    rw [List.take_length] at hall
    simp (disch := omega) only [dm_t, wS, simprocAttr, IntKind.bits]
    rw [hall]
theorem one_ok {h : H} {b : Nat} {E : TypeId} (e : Int) : Ok Try.prog 34 #[.slice (some ⟨b, 0, none⟩) 1 1] (hupd h b (.cells #[.int .i64 e] E)) fun w h' => w = .bool (decide (e = 0)) ∧ hupd h b (.cells #[.int .i64 e] E) = h' :=
  (ok_ok (S := nos) (l := [e]) (slit1 [_] rfl) (by simp)).mono fun v h' ⟨h1, h2⟩ => ⟨by rw [h1]; simp, h2⟩
/-- Two frames behind one another. -/
structure Two (f g bf bg : List UInt8) : Prop where
  f : f = sealB bf
  g : g = sealB bg
  lf : 1 ≤ bf.length ∧ bf.length ≤ 1048568
  lg : 1 ≤ bg.length ∧ bg.length ≤ 1048568
theorem Two.frs {f g bf bg : List UInt8} (T : Two f g bf bg) : pr.frs (f ++ g) = [bf, bg] ∧ (f ++ g).length = bf.length + bg.length + 16 ∧ offs [bf, bg] = (f ++ g).length := by
  obtain ⟨h1, h2, h3, h4⟩ := T
  obtain ⟨a1, a2, a3⟩ := split_seal (c := g) h3.1 h3.2
  rw [← h1] at a1 a2 a3
  obtain ⟨b1, b2, b3⟩ := split_seal (c := []) h4.1 h4.2
  rw [List.append_nil, ← h2] at b1 b2 b3
  have hlf : f.length = bf.length + 8 := by rw [h1, sealB_len]
  have hlg : g.length = bg.length + 8 := by rw [h2, sealB_len]
  have hd : (f ++ g).drop (bf.length + 8) = g := by rw [← hlf]; exact List.drop_left
  have hd2 : g.drop (bg.length + 8) = [] := by rw [← hlg]; exact List.drop_length
  refine ⟨?_, by rw [List.length_append]; omega, by simp [offs]; omega⟩
  rw [frs_ok a1, a2, a3, hd, frs_ok b1, b2, b3, hd2]
  rfl
structure PK (own : Nat → Nat) (h g : H) (pc : Nat) (va vt : Value) (b : List UInt8) (k fm : Nat) : Prop where
  cu : ∃ s, CU (fun y => own y = 1) g pc s ((b.take fm).drop (offs ((frs b).take k))) false
  td : OwL (fun y => own y ≠ 0) (.sl .byte) (fun y => own y = 3) g 30 vt ((frs b).take k)
  al : By (fun y => own y ≠ 0) g va b
  hown : ∀ y, own y ≠ 0 → h y = none ∧ g y ≠ none
  E : Ext h g
  kl : k ≤ (frs b).length
  o : offs ((frs b).take k) ≤ fm
  fm : fm ≤ b.length
section
variable {own : Nat → Nat} {h g g' : H} {pc k fm n : Nat} {va vt : Value} {b : List UInt8}
theorem PK.hn (K : PK own h g pc va vt b k fm) : ∀ y, stp own g g' n y ≠ 0 → h y = none ∧ g' y ≠ none := by
  intro y hy
  refine ⟨?_, stp_al hy⟩
  rcases stp_or hy with h1 | h1
  · exact (K.hown y h1).1
  · exact K.E.bk h1
theorem PK.aln (K : PK own h g pc va vt b k fm) : ∀ y, own y ≠ 0 → g y ≠ none := fun y hy => (K.hown y hy).2
theorem PK.e1 (K : PK own h g pc va vt b k fm) (f : Fr (fun y => own y = 1) g g') : Ext h g' := Ext.step' K.E f fun y hy => (K.hown y (by rw [hy]; decide)).1
theorem PK.e3 (K : PK own h g pc va vt b k fm) (f : Fr (fun y => own y = 3) g g') : Ext h g' := Ext.step' K.E f fun y hy => (K.hown y (by rw [hy]; decide)).1
/-- New blocks alone. -/
theorem PK.ext (K : PK own h g pc va vt b k fm) (e : Ext g g') : PK (stp own g g' 0) h g' pc va vt b k fm := by
  obtain ⟨s, c⟩ := K.cu
  have f : Fr (fun y => own y = 6) g g' := e.mono fun _ h => h.elim
  exact ⟨⟨s, cu_stp c f (by decide) (by decide)⟩, owl_stp K.td K.aln f (by decide) (by decide) (by decide), by_stp K.al f (by decide), K.hn, K.E.trans e, K.kl, K.o, K.fm⟩
/-- The cutter has changed. -/
theorem PK.put (K : PK own h g pc va vt b k fm) (f : Fr (fun y => own y = 1) g g') (n : Nat) {k' fm' : Nat} {s' : Value} (c' : CU (fun y => stp own g g' n y = 1) g' pc s' ((b.take fm').drop (offs ((frs b).take k'))) false) (td' : k' = k) (ho : offs ((frs b).take k') ≤ fm') (hfm : fm' ≤ b.length) : PK (stp own g g' n) h g' pc va vt b k' fm' := by
  subst td'
  exact ⟨⟨s', c'⟩, owl_stp K.td K.aln f (by decide) (by decide) (by decide), by_stp K.al f (by decide), K.hn, K.e1 f, K.kl, ho, hfm⟩
end
end Go.Proofs.Ytfeaaliocdkonaa.pr
namespace Go.Proofs.Ytfeaaliocdkonaa.pr
open Go.Proofs.Ytfeaaliocdkonaa rr wi
set_option linter.unusedVariables false
set_option linter.unusedSimpArgs false
abbrev QP (h : H) : Post := retQ [6] (okR fun v h' => v = .bool true ∧ Ext h h')
abbrev pEnv (vf vg vc : Value) (pc : Nat) (va : Value) : Env := [(0, vf), (1, vg), (2, vc), (7, .pointer (some ⟨pc, 0, none⟩)), (8, va)]
section
variable {own : Nat → Nat} {h g : H} {pc k i : Nat} {va vt vf vg vcu : Value} {f1 g1 bf bg : List UInt8} {cuts : List Int}
/-- What follows a round. -/
def PN (Q0 : Post) (h : H) (vf vg vcu va : Value) (pc : Nat) (b : List UInt8) (cuts : List Int) (i : Nat) : Prop := ∀ (own : Nat → Nat) (g : H) (k fm : Nat) (vt : Value), PK own h g pc va vt b k fm → ¬ splitE ((b.take fm).drop (offs ((frs b).take k))) = 0 → (i = cuts.length → fm = b.length) →
  vc Try.prog c37_s16 Q0 [(0, vf), (1, vg), (2, vcu), (7, .pointer (some ⟨pc, 0, none⟩)), (8, va), (9, vt), (10, .int .i64 (fm : Int)), (11, .int .i64 (i : Int))] g
theorem PP_inner {Q0 : Post} {b : List UInt8} {to : Nat} (hb300 : ∀ k fm, k ≤ (frs b).length → offs ((frs b).take k) ≤ fm → fm ≤ b.length → ¬ splitE ((b.take fm).drop (offs ((frs b).take k))) = 300) (h2l : (frs b).length = 2) (hbl : b.length ≤ 3000000) (N : PN Q0 h vf vg vcu va pc b cuts i) (h3 : i = cuts.length → to = b.length) (K : PK own h g pc va vt b k to) :
    vc Try.prog c37_s12 (blockQ 1 (seqQ Try.prog [0, 1, 2, 7, 8, 9, 10, 11] c37_s16 Q0)) [(0, vf), (1, vg), (2, vcu), (7, .pointer (some ⟨pc, 0, none⟩)), (8, va), (9, vt), (10, .int .i64 (to : Int)), (11, .int .i64 (i : Int))] g := by
  simp (disch := omega) only [dm_t, wS, simprocAttr, IntKind.bits]
  refine vc_loop1 (fun vt' g' => ∃ (own' : Nat → Nat) (k' : Nat), PK own' h g' pc va vt' b k' to) (fun vt' _ => 2 - mlen vt') ?_ ?_
  · simp (disch := omega) only [dm_t, wS, simprocAttr, IntKind.bits]
    exact ⟨own, k, K⟩
  rintro vt3 g3 ⟨own3, k3, K3⟩
  obtain ⟨s, c⟩ := K3.cu
  have hkl := K3.kl
  have hfm := K3.fm
  have hoo := K3.o
  have hcl : ((b.take to).drop (offs ((frs b).take k3))).length ≤ 3000000 := by rw [List.length_drop, List.length_take]; omega
  have hda := drop_take_app K3.o K3.fm
  obtain ⟨nx1, nx2⟩ := fi_next hkl
  have h300 := hb300 k3 to hkl hoo hfm
  obtain ⟨ta, tz, htl⟩ := K3.td.len
  have htk : ((frs b).take k3).length = k3 := by rw [List.length_take]; omega
  rw [htk] at htl
  subst htl
  simp (disch := omega) only [dm_t, wS, simprocAttr, IntKind.bits]
  refine (Next_all c (by omega)).k ?_
  rintro _ g4 ⟨⟨w, s', rfl, ow, c'⟩, f4⟩
  generalize hcle : (b.take to).drop (offs ((frs b).take k3)) = cl at *
  rcases splitE_cases cl with he | he | he
  · obtain ⟨hsa1, hsa2, hsa3⟩ := split_app (m := b.drop to) he
    rw [← hda] at hsa1 hsa2 hsa3
    obtain ⟨hk4, hbody, hoff⟩ := nx1 hsa1
    obtain ⟨z1, z2, z3, z4⟩ := splitB_len he
    rw [hsa3] at hbody
    rw [hsa2] at hoff
    have hcll : cl.length = to - offs ((frs b).take k3) := by rw [← hcle, List.length_drop, List.length_take]; omega
    rw [show nE cl false = 0 from he] at *
    rw [show nB cl false = splitB cl from if_pos he] at ow
    rw [show nL cl false = cl.drop (splitN cl) from if_pos he, show nM cl false = decide (splitE cl = 300) from rfl, he] at c'
    have c1 : CU (fun y => stp own3 g3 g4 0 y = 1) g4 pc s' ((b.take to).drop (offs ((frs b).take (k3 + 1)))) false := by
      rw [hoff, ← List.drop_drop, hcle]
      exact c'.imp (fun y hy => by rw [stp_old (K3.aln y (by rw [hy]; decide)) (c'.al y hy)]; exact hy) fun y hy => stp_al (by rw [hy]; decide)
    have t1 := owl_stp (n := 0) K3.td K3.aln f4 (by decide) (by decide) (by decide)
    have a1 := by_stp (n := 0) K3.al f4 (by decide)
    have hn1 : ∀ y, stp own3 g3 g4 0 y ≠ 0 → h y = none ∧ g4 y ≠ none := K3.hn
    have E4 := K3.e1 f4
    have w1 : By (fun y => stp own3 g3 g4 0 y ≠ 0) g4 w (splitB cl) := OwK.sl ow fun y hy hh => by
      have := stp0 hh
      exact K3.aln y this hy
    generalize stp own3 g3 g4 0 = own4 at c1 t1 a1 hn1 w1
    obtain ⟨wa, wc, rfl⟩ := By.len w1
    simp (disch := omega) only [dm_t, wS, simprocAttr, IntKind.bits]
    refine (num_ok _ _).k ?_
    rintro _ _ ⟨rfl, rfl⟩
    simp (disch := omega) only [dm_t, wS, simprocAttr, IntKind.bits]
    intro lb hlb
    refine (one_ok 0).k ?_
    rintro _ _ ⟨rfl, rfl⟩
    have eL := Ext.new hlb (.cells #[.int .i64 0] 33)
    have f6 : Fr (fun y => own4 y = 6) g4 (hupd g4 lb (.cells #[.int .i64 0] 33)) := eL.mono fun _ h => h.elim
    have hal4 : ∀ y, own4 y ≠ 0 → g4 y ≠ none := fun y hy => (hn1 y hy).2
    have c5 := cu_stp (n := 0) c1 f6 (by decide) (by decide)
    have t5 := owl_stp (n := 0) t1 hal4 f6 (by decide) (by decide) (by decide)
    have a5 := by_stp (n := 0) a1 f6 (by decide)
    have w5 := by_stp (n := 0) w1 f6 (by decide)
    have hn5 : ∀ y, stp own4 g4 (hupd g4 lb (.cells #[.int .i64 0] 33)) 0 y ≠ 0 → h y = none ∧ hupd g4 lb (.cells #[.int .i64 0] 33) y ≠ none := fun y hy => ⟨(hn1 y (stp0 hy)).1, stp_al hy⟩
    have E5 := E4.trans eL
    generalize stp own4 g4 (hupd g4 lb (.cells #[.int .i64 0] 33)) 0 = own5 at c5 t5 a5 w5 hn5
    generalize hupd g4 lb (.cells #[.int .i64 0] 33) = g5 at c5 t5 a5 w5 hn5 E5 ⊢
    have hal5 : ∀ y, own5 y ≠ 0 → g5 y ≠ none := fun y hy => (hn5 y hy).2
    simp (disch := omega) only [dm_t, wS, simprocAttr, IntKind.bits]
    refine OwL.push (bytes := 24) (z := #[.slice none 0 0]) (row := [.slice wa (splitB cl).length wc]) (x := splitB cl) (S := fun y => own5 y ≠ 0 ∨ g5 y = none) (O := fun y => own5 y = 3 ∨ g5 y = none) 1 rfl (OwL.mono (OwL.avoid t5) fun y _ _ hy => .inl hy) (fun y hy => .inr hy) (repB.2 ?_) (by rfl) (by rw [htk]; omega) (by rw [htk]; omega) ?_
    · refine SlK.mono w5 fun y o ho hy => ?_
      rcases hy with hy | hy | hy
      · have := OwL.own t5 hy
        omega
      · exact hy
      · rw [hy] at ho; cases ho
    intro _ vt6 g6 _ o6 f6'
    have f6 : Fr (fun y => own5 y = 3) g5 g6 := Fr.less f6' fun y hy => hy.1
    have hsn : (frs b).take (k3 + 1) = (frs b).take k3 ++ [splitB cl] := by
      rw [← hbody]; simp
    have K6 : PK (stp own5 g5 g6 3) h g6 pc va vt6 b (k3 + 1) to := by
      refine ⟨⟨s', cu_stp c5 f6 (by decide) (by decide)⟩, ?_, by_stp a5 f6 (by decide), ?_, Ext.step' E5 f6 fun y hy => (hn5 y (by rw [hy]; decide)).1, by omega, by rw [hoff]; omega, hfm⟩
      · rw [hsn]
        refine OwL.mono (OwL.subS o6 fun y hy => stp_or hy) fun y o ho hy => ?_
        have hn : g6 y ≠ none := by rw [ho]; simp
        rcases hy with hy | hy
        · rw [stp_old (hal5 y (by rw [hy]; decide)) hn]; exact hy
        · exact stp_new hy hn
      · intro y hy
        refine ⟨?_, stp_al hy⟩
        rcases stp_or hy with h1 | h1
        · exact (hn5 y h1).1
        · exact E5.bk h1
    obtain ⟨ta6, tz6, htl6⟩ := K6.td.len
    have htk6 : ((frs b).take (k3 + 1)).length = k3 + 1 := by rw [List.length_take]; omega
    rw [htk6] at htl6
    subst htl6
    simp (disch := omega) only [dm_t, wS, simprocAttr, IntKind.bits]
    exact ⟨⟨_, _, K6⟩, by simp only [mlen]; omega⟩
  · have he0 : ¬ splitE cl = 0 := by rw [he]; decide
    rw [show nE cl false = 111 from he] at *
    rw [show nL cl false = cl from if_neg he0, show nM cl false = decide (splitE cl = 300) from rfl, he] at c'
    have K4 := K3.put (n := 0) (k' := k3) (fm' := to) f4 (by rw [hcle]; exact c'.imp (fun y hy => by rw [stp_old (K3.aln y (by rw [hy]; decide)) (c'.al y hy)]; exact hy) fun y hy => stp_al (by rw [hy]; decide)) rfl hoo hfm
    have t := N _ g4 k3 to _ K4 (by rw [hcle]; exact he0) h3
    simp (disch := omega) only [dm_t, wS, simprocAttr, IntKind.bits]
    refine (num_ok _ _).k ?_
    rintro _ _ ⟨rfl, rfl⟩
    revert t
    simp (disch := omega) only [dm_t, wS, simprocAttr, IntKind.bits]
    exact id
  · exact absurd he h300
end
end Go.Proofs.Ytfeaaliocdkonaa.pr
namespace Go.Proofs.Ytfeaaliocdkonaa.pr
open Go.Proofs.Ytfeaaliocdkonaa rr wi
set_option linter.unusedVariables false
set_option linter.unusedSimpArgs false
theorem step9 (c : Int) : ∃ n : Nat, (Int.tmod c 9 + 9) % 9 = n ∧ n < 9 ∧ -9 < Int.tmod c 9 ∧ Int.tmod c 9 < 9 := by
  have h1 := Int.lt_tmod_of_pos c (show (0 : Int) < 9 by decide)
  have h2 := Int.tmod_lt_of_pos c (show (0 : Int) < 9 by decide)
  exact ⟨((Int.tmod c 9 + 9) % 9).toNat, by omega, by omega, h1, h2⟩
section
variable {own : Nat → Nat} {h g : H} {pc k i fm : Nat} {va vt vf vg vcu : Value} {f1 g1 bf bg : List UInt8} {cuts : List Int}
theorem PP_piece {Q0 : Post} {b : List UInt8} {to : Nat} (hb300 : ∀ k fm, k ≤ (frs b).length → offs ((frs b).take k) ≤ fm → fm ≤ b.length → ¬ splitE ((b.take fm).drop (offs ((frs b).take k))) = 300) (h2l : (frs b).length = 2) (hbl : b.length ≤ 3000000) (N : PN Q0 h vf vg vcu va pc b cuts i) (h1 : fm ≤ to) (h2 : to ≤ b.length) (h3 : i = cuts.length → to = b.length) (K : PK own h g pc va vt b k fm) :
    vc Try.prog c37_s10 (blockQ 1 (seqQ Try.prog [0, 1, 2, 7, 8, 9, 10, 11] c37_s16 Q0)) [(0, vf), (1, vg), (2, vcu), (7, .pointer (some ⟨pc, 0, none⟩)), (8, va), (9, vt), (10, .int .i64 (fm : Int)), (11, .int .i64 (i : Int)), (12, .int .i64 (to : Int))] g := by
  obtain ⟨s, c⟩ := K.cu
  obtain ⟨aa, ac, rfl⟩ := By.len K.al
  obtain ⟨_, _, hac⟩ := SlK.cap K.al
  rw [one_len, bvs_len] at hac
  simp (disch := omega) only [dm_t, wS, simprocAttr, IntKind.bits]
  refine By.cutK K.al fm to ac rfl rfl rfl (by omega) (.inr rfl) ?_
  intro w2 s2
  simp (disch := omega) only [dm_t, wS, simprocAttr, IntKind.bits]
  refine (Put_all c s2 (by simp only [List.length_drop, List.length_take]; omega)).k ?_
  rintro _ g2 ⟨rfl, ⟨s', c'⟩, f2⟩
  rw [if_neg (by decide), piece_app K.o h1 h2] at c'
  rw [stE, if_neg (by decide)]
  have K2 := K.put (n := 1) (k' := k) (fm' := to) f2 (c'.imp (fun y hy => by
    rcases hy with ⟨hy | hy, hn⟩
    · rw [stp_old (K.aln y (by rw [hy]; decide)) hn]; exact hy
    · exact stp_new hy hn) fun y hy => stp_al (by rw [hy]; decide)) rfl (Nat.le_trans K.o h1) h2
  simp (disch := omega) only [dm_t, wS, simprocAttr, IntKind.bits]
  intro lb hlb
  refine (one_ok 0).k ?_
  rintro _ _ ⟨rfl, rfl⟩
  have K3 := K2.ext (Ext.new hlb (.cells #[.int .i64 0] 33))
  have t := PP_inner hb300 h2l hbl N h3 K3
  revert t
  simp (disch := omega) only [dm_t, wS, simprocAttr, IntKind.bits]
  exact id
theorem pieces_ok (T : Two f1 g1 bf bg) (hf : By nos h vf f1) (hg : By nos h vg g1) (hc : RepL nos (.int .i64) h vcu cuts) (hcl : cuts.length ≤ 100) :
    Ok Try.prog 37 #[vf, vg, vcu] h fun v h' => v = .bool true ∧ Ext h h' := by
  obtain ⟨hfr, hbl, hof⟩ := T.frs
  have hlf := T.lf
  have hlg := T.lg
  obtain ⟨fa, fc, rfl⟩ := By.len hf
  obtain ⟨ga, gc, rfl⟩ := By.len hg
  obtain ⟨ca, cc, rfl⟩ := hc.len
  have hl1 : f1.length = bf.length + 8 := by rw [T.f, sealB_len]
  have hl2 : g1.length = bg.length + 8 := by rw [T.g, sealB_len]
  have h2l : (frs (f1 ++ g1)).length = 2 := by rw [hfr]; rfl
  have hend : (f1 ++ g1).drop (offs (frs (f1 ++ g1))) = [] := by rw [hfr, hof]; exact List.drop_length
  have hb300 : ∀ k fm, k ≤ (frs (f1 ++ g1)).length → offs ((frs (f1 ++ g1)).take k) ≤ fm → fm ≤ (f1 ++ g1).length → ¬ splitE (((f1 ++ g1).take fm).drop (offs ((frs (f1 ++ g1)).take k))) = 300 := by
    intro k fm h1 h2 h3 h4
    have h5 := split_bad (m := (f1 ++ g1).drop fm) h4
    rw [← drop_take_app h2 h3] at h5
    have hk := (fi_next h1).2 (by rw [h5]; decide)
    rw [hk, List.take_length, hend] at h5
    exact absurd h5 (by decide)
  refine c37_ok (args := [_, _, _]) (by simp) ?_
  simp (disch := omega) only [dm_t, wS, simprocAttr, IntKind.bits]
  refine (New_c h).k ?_
  rintro _ g2 ⟨pc, rfl, hpc, c2, e2⟩
  simp (disch := omega) only [dm_t, wS, simprocAttr, IntKind.bits]
  intro b5 hb5
  have o5 : OwB (fun y => g2 y = none) (hupd g2 b5 (.cells #[] 5)) 5 (.slice (some ⟨b5, 0, none⟩) 0 0) [] := olit1 (h := g2) (O := fun y => g2 y = none) (xs := []) rfl hb5
  generalize hG : hupd g2 b5 _ = g5 at o5 ⊢
  obtain ⟨e5, _⟩ := new_ext hG hb5
  clear hG
  simp (disch := omega) only [dm_t, wS, simprocAttr, IntKind.bits]
  refine appB o5 (fun y hy => e5.bk hy) (hf.ext (e2.trans e5)) (by simp; omega) ?_
  intro v6 g6 o6 f6
  have e6 := Ext.step e5 f6
  rw [List.nil_append] at o6
  simp (disch := omega) only [dm_t, wS, simprocAttr, IntKind.bits]
  refine appB o6 (fun y hy => e6.bk hy) (hg.ext (e2.trans e6)) (by omega) ?_
  intro v7 g7 o7 f7
  have e7 := Ext.step e6 f7
  have E7 := e2.trans e7
  have c7 := c2.ext e7
  have hbl2 : (f1 ++ g1).length ≤ 3000000 := by omega
  have P0 : PK (fun y => if y = pc then 1 else 0) h g7 pc v7 (.slice none 0 0) (f1 ++ g1) 0 0 := by
    refine ⟨⟨_, CU.imp (T := fun y => (if y = pc then 1 else 0) = 1) (by simpa using c7) (fun y hy => by rw [if_pos hy]) fun y hy => ?_⟩, OwL.nil, OwK.sl o7 fun y hy hh => ?_, fun y hy => ?_, E7, by omega, by simp [offs], by omega⟩
    · by_cases hyp : y = pc
      · rw [hyp, c7.obj]; simp
      · rw [if_neg hyp] at hy; cases hy
    · by_cases hyp : y = pc
      · rw [hyp, c2.obj] at hy; cases hy
      · rw [if_neg hyp] at hh; exact hh rfl
    · by_cases hyp : y = pc
      · rw [hyp]; exact ⟨hpc, by rw [c7.obj]; simp⟩
      · rw [if_neg hyp] at hy; exact absurd rfl hy
  generalize hbb : f1 ++ g1 = b at *
  simp (disch := omega) only [dm_t, wS, simprocAttr, IntKind.bits]
  refine vc_loop3 (fun vt vf' vi g' => ∃ (i k fm : Nat) (own : Nat → Nat), vi = .int .i64 (i : Int) ∧ vf' = .int .i64 (fm : Int) ∧ i ≤ cuts.length + 1 ∧ PK own h g' pc v7 vt b k fm ∧ (i = cuts.length + 1 → fm = b.length ∧ ¬ splitE ((b.take fm).drop (offs ((frs b).take k))) = 0)) (fun _ _ vi _ => cuts.length + 1 - m1 vi) ?_ ?_
  · simp (disch := omega) only [dm_t, wS, simprocAttr, IntKind.bits]
    exact ⟨0, 0, 0, _, rfl, rfl, by omega, P0, fun h => by omega⟩
  rintro vt _ _ g8 ⟨i, k, fm, own, rfl, rfl, hi, K, hlast⟩
  by_cases hic : i ≤ cuts.length
  · generalize hQ0 : lq3 _ _ _ _ _ _ _ _ _ = Q0
    have N : PN Q0 h (.slice fa f1.length fc) (.slice ga g1.length gc) (.slice ca cuts.length cc) v7 pc b cuts i := by
      intro own9 g9 k9 fm9 vt9 K9 h1 h2
      rw [← hQ0]
      simp (disch := omega) only [dm_t, wS, simprocAttr, IntKind.bits]
      exact ⟨⟨i + 1, k9, fm9, own9, by simp, rfl, by omega, K9, fun h => ⟨h2 (by omega), h1⟩⟩, by simp [m1]; omega⟩
    obtain ⟨aa, ac, rfl⟩ := By.len K.al
    by_cases hil : i < cuts.length
    · obtain ⟨pb, po, i1, t1⟩ := S1.load (repI (hc.ext K.E)).1 (i := i) (by simpa using hil) .i64
      rw [List.getElem_map] at t1
      generalize cuts[i] = cc1 at t1
      obtain ⟨n, hn, hn2, hn3, hn4⟩ := step9 cc1
      have hfm := K.fm
      have hmin : min ((fm : Int) + (n : Int)) (b.length : Int) = ((min (fm + n) b.length : Nat) : Int) := by omega
      have t := PP_piece (to := min (fm + n) b.length) hb300 h2l hbl2 N (by omega) (by omega) (fun h => by omega) K
      revert t
      simp (disch := omega) only [dm_t, wS, simprocAttr, IntKind.bits, i1, t1, hn, hmin]
      exact id
    · have t := PP_piece (to := b.length) hb300 h2l hbl2 N K.fm (by omega) (fun _ => rfl) K
      revert t
      simp (disch := omega) only [dm_t, wS, simprocAttr, IntKind.bits]
      exact id
  · obtain ⟨h1, h2⟩ := hlast (by omega)
    subst h1
    rw [List.take_length] at h2
    have hk := (fi_next K.kl).2 h2
    subst hk
    obtain ⟨s, c⟩ := K.cu
    rw [List.take_length, List.take_length, hend] at c
    have td := K.td
    rw [List.take_length, hfr] at td
    obtain ⟨ta, tz, rfl⟩ := td.len
    have tr := td.rep
    obtain ⟨p0, o0, w0, i0, t0, r0⟩ := RepL.load1 tr (i := 0) (by simp) .i64 rfl
    obtain ⟨p1, o1', w1, i1, t1, r1⟩ := RepL.load1 tr (i := 1) (by simp) .i64 rfl
    have r0' : By nos g8 w0 bf := repB.1 r0
    have r1' : By nos g8 w1 bg := repB.1 r1
    obtain ⟨a0, z0, rfl⟩ := By.len r0'
    obtain ⟨a1, z1, rfl⟩ := By.len r1'
    have df : (f1.drop 8).take (f1.length - 8) = bf := by
      rw [List.take_of_length_le (by rw [List.length_drop]; omega), T.f]
      have := mid (a := low 4 (bf.length + 4) ++ low 4 (sumB bf).toNat) (b := bf) (c := []) (k := 8) (n := bf.length) (by simp [low_len]) rfl
      rw [List.append_nil, List.take_of_length_le (by simp [low_len]; omega)] at this
      simpa [sealB] using this
    have dg : (g1.drop 8).take (g1.length - 8) = bg := by
      rw [List.take_of_length_le (by rw [List.length_drop]; omega), T.g]
      have := mid (a := low 4 (bg.length + 4) ++ low 4 (sumB bg).toNat) (b := bg) (c := []) (k := 8) (n := bg.length) (by simp [low_len]) rfl
      rw [List.append_nil, List.take_of_length_le (by simp [low_len]; omega)] at this
      simpa [sealB] using this
    have i0' : idxV1 1 (.slice ta 2 tz) (.int .i64 0) = some (.pointer (some ⟨p0, o0, none⟩)) := i0
    have i1' : idxV1 1 (.slice ta 2 tz) (.int .i64 1) = some (.pointer (some ⟨p1, o1', none⟩)) := i1
    have E8 := K.E
    obtain ⟨_, _, hfc⟩ := SlK.cap hf
    rw [one_len, bvs_len] at hfc
    obtain ⟨_, _, hgc⟩ := SlK.cap hg
    rw [one_len, bvs_len] at hgc
    simp (disch := omega) only [dm_t, wS, simprocAttr, IntKind.bits, List.length_cons, List.length_nil, i0', t0]
    refine By.cutK (hf.ext E8) 8 f1.length fc (by rfl) rfl rfl (by omega) (.inr rfl) ?_
    intro wf sf
    rw [df] at sf
    obtain ⟨wfa, wfc, rfl⟩ := By.len sf
    simp (disch := omega) only [dm_t, wS, simprocAttr, IntKind.bits, i0', t0]
    refine ⟨?_, ?_⟩
    · refine cvbs_of r0' ?_
      simp (disch := omega) only [dm_t, wS, simprocAttr, IntKind.bits, i0', t0]
      refine cvbs_of sf ?_
      simp (disch := omega) only [dm_t, wS, simprocAttr, IntKind.bits, i0', t0, i1', t1]
      refine By.cutK (hg.ext E8) 8 g1.length gc (by rfl) rfl rfl (by omega) (.inr rfl) ?_
      intro wg sg
      rw [dg] at sg
      simp (disch := omega) only [dm_t, wS, simprocAttr, IntKind.bits, i0', t0, i1', t1]
      refine ⟨?_, ?_⟩
      · refine cvbs_of r1' ?_
        simp (disch := omega) only [dm_t, wS, simprocAttr, IntKind.bits, i0', t0, i1', t1]
        refine cvbs_of sg ?_
        simp (disch := omega) only [dm_t, wS, simprocAttr, IntKind.bits, i0', t0, i1', t1]
        refine (Left_ok c).k ?_
        rintro _ _ ⟨rfl, rfl⟩
        simp (disch := omega) only [dm_t, wS, simprocAttr, IntKind.bits, i0', t0, i1', t1, List.length_nil]
        exact E8
      · refine cvbs_of sg ?_
        simp (disch := omega) only [dm_t, wS, simprocAttr, IntKind.bits, i0', t0, i1', t1]
        refine cvbs_of r1' ?_
        simp (disch := omega) only [dm_t, wS, simprocAttr, IntKind.bits, i0', t0, i1', t1]
        refine (Left_ok c).k ?_
        rintro _ _ ⟨rfl, rfl⟩
        simp (disch := omega) only [dm_t, wS, simprocAttr, IntKind.bits, i0', t0, i1', t1, List.length_nil]
        exact E8
    · refine cvbs_of sf ?_
      simp (disch := omega) only [dm_t, wS, simprocAttr, IntKind.bits, i0', t0]
      refine cvbs_of r0' ?_
      simp (disch := omega) only [dm_t, wS, simprocAttr, IntKind.bits, i0', t0, i1', t1]
      refine By.cutK (hg.ext E8) 8 g1.length gc (by rfl) rfl rfl (by omega) (.inr rfl) ?_
      intro wg sg
      rw [dg] at sg
      simp (disch := omega) only [dm_t, wS, simprocAttr, IntKind.bits, i0', t0, i1', t1]
      refine ⟨?_, ?_⟩
      · refine cvbs_of r1' ?_
        simp (disch := omega) only [dm_t, wS, simprocAttr, IntKind.bits, i0', t0, i1', t1]
        refine cvbs_of sg ?_
        simp (disch := omega) only [dm_t, wS, simprocAttr, IntKind.bits, i0', t0, i1', t1]
        refine (Left_ok c).k ?_
        rintro _ _ ⟨rfl, rfl⟩
        simp (disch := omega) only [dm_t, wS, simprocAttr, IntKind.bits, i0', t0, i1', t1, List.length_nil]
        exact E8
      · refine cvbs_of sg ?_
        simp (disch := omega) only [dm_t, wS, simprocAttr, IntKind.bits, i0', t0, i1', t1]
        refine cvbs_of r1' ?_
        simp (disch := omega) only [dm_t, wS, simprocAttr, IntKind.bits, i0', t0, i1', t1]
        refine (Left_ok c).k ?_
        rintro _ _ ⟨rfl, rfl⟩
        simp (disch := omega) only [dm_t, wS, simprocAttr, IntKind.bits, i0', t0, i1', t1, List.length_nil]
        exact E8
end
end Go.Proofs.Ytfeaaliocdkonaa.pr
