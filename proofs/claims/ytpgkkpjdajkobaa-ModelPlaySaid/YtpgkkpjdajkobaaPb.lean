/-
  model: ModelPlay; the kinds 5, 6, and none.
-/
import Derived.Test.YtpgkkpjdajkobaaPa
namespace Go.Proofs.Ytpgkkpjdajkobaa.mo
open Go.Proofs.Ytpgkkpjdajkobaa rr
set_option linter.unusedVariables false
set_option linter.unusedSimpArgs false
section
variable {S S' T : Nat → Prop} {h g g' : H} {L L' : List Nat} {p q rp wp : Nat} {pv qv rv wv : Value} {vs ws rs zs : List Value} {ps qs : List (List rc.D)}
theorem RY.setL {h' : H} {j r' : Nat} {rv' w : Value} {l : List rc.D} (X : RY S' g p pv vs ps) (hi : j < ps.length) (hobj : h' r' = some (.cells #[rv'] 59)) (hpar : S1 S h' rv' (vs.set j w)) (hw : RepL S rc h' w l) (f : Fr T g h') (hT : ∀ y, T y → S' y) (hS : ∀ y, S y → S' y) : RY S h' r' rv' (vs.set j w) (ps.set j l) := by
  refine ⟨hobj, by simp [X.len], hpar, ?_⟩
  intro k v l' hv hl
  rw [List.getElem?_set] at hv hl
  by_cases hij : j = k
  · rw [if_pos hij, if_pos (by rw [X.len]; exact hi)] at hv
    rw [if_pos hij, if_pos hi] at hl
    simp only [Option.some.injEq] at hv hl
    subst hv hl
    exact hw
  · rw [if_neg hij] at hv hl
    exact ((X.lst k v l' hv hl).fr f hT).mono fun y _ _ hy => hS y hy
/-- A model's step, the others beside it. -/
theorem M2.step {vs' : List Value} {ps' : List (List rc.D)} (Z : M2 L h g p q pv qv vs ws ps qs) (X' : MX (fun y => MF q qv ws y ∨ y ∈ L) h g' p pv vs' ps') (hM : ∀ y, MF p pv vs' y → MF p pv vs y ∨ g y = none) (f : Fr (MF p pv vs) g g') : M2 L h g' p q pv qv vs' ws ps' qs := by
  have Y1 : MX (fun y => MF p pv vs y ∨ MF p pv vs' y ∨ y ∈ L) h g q qv ws qs := Z.Y.avoid fun y hy => by
    rcases hy with h | h | h
    · exact .inl (.inl h)
    · exact (hM y h).elim (fun h => .inl (.inl h)) .inr
    · exact .inl (.inr h)
  have Y2 := Y1.fr f fun y hy => .inl hy
  refine ⟨X', Y2.avoid fun y hy => .inl (.inr hy), Ext.step' Z.E f fun y hy => (Z.X.own hy).1, fun y hy => ⟨?_, (Z.T y hy).2⟩⟩
  cases hc : g y with
  | none => exact absurd hc (Z.T y hy).1
  | some o => rw [f y o hc (Z.keep hy)]; simp
theorem RY.mstep {vs' : List Value} {ls : List (List rc.D)} (R : RY (SS L p q pv qv vs ws) g rp rv rs ls) (Z : M2 L h g p q pv qv vs ws ps qs) (mr : rp ∈ L) (hM : ∀ y, MF p pv vs' y → MF p pv vs y ∨ g y = none) (f : Fr (MF p pv vs) g g') : RY (SS L p q pv qv vs' ws) g' rp rv rs ls := by
  have R1 : RY (fun y => SS L p q pv qv vs ws y ∨ g y = none) g rp rv rs ls := R.avoid fun y h => h
  refine (R1.fr f (fun y hy => .inl (.inl hy)) (Z.keep mr)).mono fun y _ _ h => ?_
  rcases h with h | h | h
  · exact (hM y h).imp (fun h => .inl h) id
  · exact .inl (.inr (.inl h))
  · exact .inl (.inr (.inr h))
variable {x : stepT.D} {c d sv : Value} {n i sb : Nat}
theorem pl_5 {Q : Post} (P : PX L h g p q rp wp pv qv rv wv vs ws rs zs ps qs) (K : SP h x c d) (ms : sb ∈ L) (k : g sb = some (.cells (sCs x c d).toArray 39)) (hps : ∀ l ∈ ps, lims l) (hn : ps.length = n) (hn2 : n ≤ 1000) (h5 : @Eq Int x.1 5)
    (hQ1 : ∀ G, Ext g G → vc Try.prog c5_s36 Q [(0, .int .i64 (n : Int)), (1, sv), (5, .pointer (some ⟨p, 0, none⟩)), (7, .pointer (some ⟨rp, 0, none⟩)), (8, .pointer (some ⟨q, 0, none⟩)), (9, .pointer (some ⟨wp, 0, none⟩)), (10, .int .i64 (i : Int)), (11, .pointer (some ⟨sb, 0, none⟩)), (12, .bool true)] G)
    (hQ2 : ∀ (G : H) (r' : Nat) (rv' : Value) (vs' rs' : List Value) (j e : Nat), PX (r' :: L) h G p q r' wp pv qv rv' wv vs' ws rs' zs (ps.set j ((ps.getD j []).take e)) qs → G sb = some (.cells (sCs x c d).toArray 39) → vc Try.prog c5_s36 Q [(0, .int .i64 (n : Int)), (1, sv), (5, .pointer (some ⟨p, 0, none⟩)), (7, .pointer (some ⟨r', 0, none⟩)), (8, .pointer (some ⟨q, 0, none⟩)), (9, .pointer (some ⟨wp, 0, none⟩)), (10, .int .i64 (i : Int)), (11, .pointer (some ⟨sb, 0, none⟩)), (12, .bool true)] G) : vc Try.prog c5_s10 Q [(0, .int .i64 (n : Int)), (1, sv), (5, .pointer (some ⟨p, 0, none⟩)), (7, .pointer (some ⟨rp, 0, none⟩)), (8, .pointer (some ⟨q, 0, none⟩)), (9, .pointer (some ⟨wp, 0, none⟩)), (10, .int .i64 (i : Int)), (11, .pointer (some ⟨sb, 0, none⟩)), (12, .bool true)] g := by
  have s := sbC k
  have c0 := s.c0
  rw [h5] at c0
  have hi1 := K.i1
  have hi2 := K.i2
  unfold inI at hi1 hi2
  simp (disch := omega) only [dm_t, wA, wB, wL, wW, wY, Int.fdiv_eq_ediv_of_nonneg, Int.tdiv_eq_ediv_of_nonneg, Int.tmod_eq_emod_of_nonneg, chk_pos, decT, decF, br_pos, br_neg, wX, ↓reduceIte, Nat.reduceEqDiff, Nat.reduceAdd, Nat.reduceSub, Nat.reduceMul, Nat.reduceLeDiff, Nat.reduceLT, Nat.reduceMod, Nat.reduceDiv, Int.reduceToNat, Nat.min_eq_left, IntKind.bits, Int.reducePow, Int.reduceLT, Int.reduceLE, Int.reduceEq, Int.reduceNe, Int.reduceAdd, Int.reduceSub, and_self, reduceCtorEq, decide_eq_true_eq, decide_eq_false_iff_not, eq_self, implies_true, exists_const, Option.isNone_some, Option.isNone_none, Option.isSome_some, Option.isSome_none, Option.getD_some, c0, s.c1, s.c2]
  refine (Cut_ok P.Z.X (fun y hy => P.Z.there (.inr hy)) _ _ fun l hl => by have := (hps l hl).1; omega).k ?_
  intro v g2 hcut
  by_cases hin : inP ps x.2.1
  · obtain ⟨j, hj⟩ : ∃ j : Nat, @Eq Int x.2.1 (j : Int) := ⟨Int.toNat x.2.1, by have := hin.1; omega⟩
    have hjl : j < ps.length := by have := hin.2; rw [hj] at this; omega
    have hg : ps.getD (Int.toNat x.2.1) [] = ps[j] := by rw [hj, Int.toNat_natCast, List.getD_eq_getElem?_getD, List.getElem?_eq_getElem hjl]; rfl
    have hg2 : ps.getD j [] = ps[j] := by rw [List.getD_eq_getElem?_getD, List.getElem?_eq_getElem hjl]; rfl
    rw [CutR, if_pos hin, hg] at hcut
    have ll := (hps _ (List.getElem_mem hjl)).1
    by_cases he : @LE.le Int _ 0 x.2.2.1 ∧ @LE.le Int _ x.2.2.1 ps[j].length
    · rw [if_pos he] at hcut
      obtain ⟨rfl, vs', X', hM, f⟩ := hcut
      obtain ⟨e, hee⟩ : ∃ e : Nat, @Eq Int x.2.2.1 (e : Int) := ⟨Int.toNat x.2.2.1, by have := he.1; omega⟩
      have hel : e ≤ ps[j].length := by have := he.2; rw [hee] at this; omega
      rw [hj, hee, Int.toNat_natCast, Int.toNat_natCast] at X'
      have Z2 := P.Z.step X' (fun y hy => .inl (hM y hy)) f
      have R2 := P.R.mstep P.Z P.mr (fun y hy => .inl (hM y hy)) f
      have W2 := P.W.mstep P.Z P.mw (fun y hy => .inl (hM y hy)) f
      have k2 := f _ _ k (P.Z.keep ms)
      have s2 := sbC k2
      have c1 := s2.c1
      have c2 := s2.c2
      rw [hj] at c1
      rw [hee] at c2
      have pc := R2.cell
      obtain ⟨b1, o1, a1, n1, i1, t1, hrj, r1⟩ := R2.row hjl .i64
      obtain ⟨ra, rn, rfl⟩ := R2.slen
      simp (disch := omega) only [dm_t, wA, wB, wL, wW, wY, Int.fdiv_eq_ediv_of_nonneg, Int.tdiv_eq_ediv_of_nonneg, Int.tmod_eq_emod_of_nonneg, chk_pos, decT, decF, br_pos, br_neg, wX, ↓reduceIte, Nat.reduceEqDiff, Nat.reduceAdd, Nat.reduceSub, Nat.reduceMul, Nat.reduceLeDiff, Nat.reduceLT, Nat.reduceMod, Nat.reduceDiv, Int.reduceToNat, Nat.min_eq_left, IntKind.bits, Int.reducePow, Int.reduceLT, Int.reduceLE, Int.reduceEq, Int.reduceNe, Int.reduceAdd, Int.reduceSub, and_self, reduceCtorEq, decide_eq_true_eq, decide_eq_false_iff_not, eq_self, implies_true, exists_const, Option.isNone_some, Option.isNone_none, Option.isSome_some, Option.isSome_none, Option.getD_some, c1, c2, pc, i1, t1]
      refine (RCopy_ok R2 (fun y hy => Z2.there hy) (by omega)).k ?_
      rintro _ g3 ⟨r3, rv3, rfl, hr3, R3, o3, e3⟩
      have k3 := e3.at k2
      have s3 := sbC k3
      have c13 := s3.c1
      have c23 := s3.c2
      rw [hj] at c13
      rw [hee] at c23
      have hrl : j < rs.length := by rw [P.R.len]; exact hjl
      obtain ⟨b3, o3', i3, a3, t3, st⟩ := O1.put o3 hrl .i64
      have hrs : rs[j] = .slice a1 ps[j].length n1 := by rw [List.getElem?_eq_getElem hrl] at hrj; exact Option.some.inj hrj
      rw [hrs] at t3
      obtain ⟨na, nn, rfl⟩ := R3.slen
      have hcap := r1.cap
      have R2' : RY (fun y => SS L p q pv qv vs' ws y ∨ g2 y = none) g3 rp _ rs ps := (R2.avoid fun y h => h).ext e3
      have hfr := o3.own a3
      have r3l : RepL (fun y => SS L p q pv qv vs' ws y ∨ g2 y = none) rc g3 (.slice a1 ps[j].length n1) ps[j] := R2'.lst j _ _ hrj (List.getElem?_eq_getElem hjl)
      simp (disch := omega) only [dm_t, wA, wB, wL, wW, wY, Int.fdiv_eq_ediv_of_nonneg, Int.tdiv_eq_ediv_of_nonneg, Int.tmod_eq_emod_of_nonneg, chk_pos, decT, decF, br_pos, br_neg, wX, ↓reduceIte, Nat.reduceEqDiff, Nat.reduceAdd, Nat.reduceSub, Nat.reduceMul, Nat.reduceLeDiff, Nat.reduceLT, Nat.reduceMod, Nat.reduceDiv, Int.reduceToNat, Nat.min_eq_left, IntKind.bits, Int.reducePow, Int.reduceLT, Int.reduceLE, Int.reduceEq, Int.reduceNe, Int.reduceAdd, Int.reduceSub, and_self, reduceCtorEq, decide_eq_true_eq, decide_eq_false_iff_not, eq_self, implies_true, exists_const, Option.isNone_some, Option.isNone_none, Option.isSome_some, Option.isSome_none, Option.getD_some, c13, c23, R3.cell, i3, t3]
      refine RepL.cutK r3l sz_rc 0 e e rfl (by simp) (by simp) (by omega) (.inl rfl) ?_
      intro v4 hv4
      rw [List.drop_zero, Nat.sub_zero] at hv4
      obtain ⟨v4a, v4n, rfl⟩ := hv4.len
      simp (disch := omega) only [dm_t, wA, wB, wL, wW, wY, Int.fdiv_eq_ediv_of_nonneg, Int.tdiv_eq_ediv_of_nonneg, Int.tmod_eq_emod_of_nonneg, chk_pos, decT, decF, br_pos, br_neg, wX, ↓reduceIte, Nat.reduceEqDiff, Nat.reduceAdd, Nat.reduceSub, Nat.reduceMul, Nat.reduceLeDiff, Nat.reduceLT, Nat.reduceMod, Nat.reduceDiv, Int.reduceToNat, Nat.min_eq_left, IntKind.bits, Int.reducePow, Int.reduceLT, Int.reduceLE, Int.reduceEq, Int.reduceNe, Int.reduceAdd, Int.reduceSub, and_self, reduceCtorEq, decide_eq_true_eq, decide_eq_false_iff_not, eq_self, implies_true, exists_const, Option.isNone_some, Option.isNone_none, Option.isSome_some, Option.isSome_none, Option.getD_some, c13, c23, R3.cell, i3, t3]
      refine st _ _ rfl fun g4 o4 f4 => ?_
      have E24 : Ext g2 g4 := Ext.step' e3 f4 fun y hy => by rw [hy]; exact hfr.1
      have q4 : g4 r3 = some _ := f4 _ _ R3.obj hfr.2.symm
      have hSn : ∀ y, SS (r3 :: L) p q pv qv vs' ws y → SS L p q pv qv vs' ws y ∨ g2 y = none := fun y hy => (SS.new hy).imp id fun h => by rw [h]; exact hr3
      have R4 := RY.setL R2' hjl q4 (OwK.sl o4 fun y hy hs => (SS.new hs).elim (fun h => Z2.there h hy.1) hy.2) ((hv4.fr f4 fun y hy => .inr (by rw [hy]; exact hfr.1)).mono fun y _ _ hy => hSn y hy) f4 (fun y hy => .inr (by rw [hy]; exact hfr.1)) hSn
      have P4 : PX (r3 :: L) h g4 p q r3 wp pv qv _ wv vs' ws _ zs _ qs := ⟨Z2.new hr3 E24 q4, R4, (W2.avoid fun y hy => (SS.new hy).elim .inl fun h => .inr (by rw [h]; exact hr3)).ext E24, List.mem_cons_self, List.mem_cons_of_mem _ P.mw, fun hh => Z2.there (.inr (.inr P.mw)) (hh ▸ hr3)⟩
      rw [← hg2] at P4
      have k9 := hQ2 g4 r3 _ vs' _ j e P4 (E24.at k2)
      simp (disch := omega) only [dm_t, wA, wB, wL, wW, wY, Int.fdiv_eq_ediv_of_nonneg, Int.tdiv_eq_ediv_of_nonneg, Int.tmod_eq_emod_of_nonneg, chk_pos, decT, decF, br_pos, br_neg, wX, ↓reduceIte, Nat.reduceEqDiff, Nat.reduceAdd, Nat.reduceSub, Nat.reduceMul, Nat.reduceLeDiff, Nat.reduceLT, Nat.reduceMod, Nat.reduceDiv, Int.reduceToNat, Nat.min_eq_left, IntKind.bits, Int.reducePow, Int.reduceLT, Int.reduceLE, Int.reduceEq, Int.reduceNe, Int.reduceAdd, Int.reduceSub, and_self, reduceCtorEq, decide_eq_true_eq, decide_eq_false_iff_not, eq_self, implies_true, exists_const, Option.isNone_some, Option.isNone_none, Option.isSome_some, Option.isSome_none, Option.getD_some, k9]
    · rw [if_neg he] at hcut
      obtain ⟨rfl, rfl⟩ := hcut
      have k9 := hQ1 g (Ext.refl _)
      have c1 := s.c1
      rw [hj] at c1
      have pc := P.R.cell
      obtain ⟨b1, o1, a1, n1, i1, t1, -, r1⟩ := P.R.row hjl .i64
      obtain ⟨ra, rn, rfl⟩ := P.R.slen
      by_cases he1 : @LT.lt Int _ x.2.2.1 0
      · simp (disch := omega) only [dm_t, wA, wB, wL, wW, wY, Int.fdiv_eq_ediv_of_nonneg, Int.tdiv_eq_ediv_of_nonneg, Int.tmod_eq_emod_of_nonneg, chk_pos, decT, decF, br_pos, br_neg, wX, ↓reduceIte, Nat.reduceEqDiff, Nat.reduceAdd, Nat.reduceSub, Nat.reduceMul, Nat.reduceLeDiff, Nat.reduceLT, Nat.reduceMod, Nat.reduceDiv, Int.reduceToNat, Nat.min_eq_left, IntKind.bits, Int.reducePow, Int.reduceLT, Int.reduceLE, Int.reduceEq, Int.reduceNe, Int.reduceAdd, Int.reduceSub, and_self, reduceCtorEq, decide_eq_true_eq, decide_eq_false_iff_not, eq_self, implies_true, exists_const, Option.isNone_some, Option.isNone_none, Option.isSome_some, Option.isSome_none, Option.getD_some, c1, s.c2, pc, i1, t1, k9]
      · have he2 : @LT.lt Int _ ps[j].length x.2.2.1 := by
          have : ¬ (@LE.le Int _ 0 x.2.2.1 ∧ @LE.le Int _ x.2.2.1 ps[j].length) := he
          omega
        simp (disch := omega) only [dm_t, wA, wB, wL, wW, wY, Int.fdiv_eq_ediv_of_nonneg, Int.tdiv_eq_ediv_of_nonneg, Int.tmod_eq_emod_of_nonneg, chk_pos, decT, decF, br_pos, br_neg, wX, ↓reduceIte, Nat.reduceEqDiff, Nat.reduceAdd, Nat.reduceSub, Nat.reduceMul, Nat.reduceLeDiff, Nat.reduceLT, Nat.reduceMod, Nat.reduceDiv, Int.reduceToNat, Nat.min_eq_left, IntKind.bits, Int.reducePow, Int.reduceLT, Int.reduceLE, Int.reduceEq, Int.reduceNe, Int.reduceAdd, Int.reduceSub, and_self, reduceCtorEq, decide_eq_true_eq, decide_eq_false_iff_not, eq_self, implies_true, exists_const, Option.isNone_some, Option.isNone_none, Option.isSome_some, Option.isSome_none, Option.getD_some, c1, s.c2, pc, i1, t1, k9]
  · rw [CutR, if_neg hin] at hcut
    obtain ⟨rfl, rfl⟩ := hcut
    have k9 := hQ1 g (Ext.refl _)
    by_cases h1 : @LT.lt Int _ x.2.1 0
    · simp (disch := omega) only [dm_t, wA, wB, wL, wW, wY, Int.fdiv_eq_ediv_of_nonneg, Int.tdiv_eq_ediv_of_nonneg, Int.tmod_eq_emod_of_nonneg, chk_pos, decT, decF, br_pos, br_neg, wX, ↓reduceIte, Nat.reduceEqDiff, Nat.reduceAdd, Nat.reduceSub, Nat.reduceMul, Nat.reduceLeDiff, Nat.reduceLT, Nat.reduceMod, Nat.reduceDiv, Int.reduceToNat, Nat.min_eq_left, IntKind.bits, Int.reducePow, Int.reduceLT, Int.reduceLE, Int.reduceEq, Int.reduceNe, Int.reduceAdd, Int.reduceSub, and_self, reduceCtorEq, decide_eq_true_eq, decide_eq_false_iff_not, eq_self, implies_true, exists_const, Option.isNone_some, Option.isNone_none, Option.isSome_some, Option.isSome_none, Option.getD_some, s.c1, k9]
    · have h2 : @LE.le Int _ n x.2.1 := by
        have : ¬ (@LE.le Int _ 0 x.2.1 ∧ @LT.lt Int _ x.2.1 ps.length) := hin
        rw [← hn]
        omega
      simp (disch := omega) only [dm_t, wA, wB, wL, wW, wY, Int.fdiv_eq_ediv_of_nonneg, Int.tdiv_eq_ediv_of_nonneg, Int.tmod_eq_emod_of_nonneg, chk_pos, decT, decF, br_pos, br_neg, wX, ↓reduceIte, Nat.reduceEqDiff, Nat.reduceAdd, Nat.reduceSub, Nat.reduceMul, Nat.reduceLeDiff, Nat.reduceLT, Nat.reduceMod, Nat.reduceDiv, Int.reduceToNat, Nat.min_eq_left, IntKind.bits, Int.reducePow, Int.reduceLT, Int.reduceLE, Int.reduceEq, Int.reduceNe, Int.reduceAdd, Int.reduceSub, and_self, reduceCtorEq, decide_eq_true_eq, decide_eq_false_iff_not, eq_self, implies_true, exists_const, Option.isNone_some, Option.isNone_none, Option.isSome_some, Option.isSome_none, Option.getD_some, s.c1, k9]
theorem pl_6 {Q : Post} (P : PX L h g p q rp wp pv qv rv wv vs ws rs zs ps qs) (k : g sb = some (.cells (sCs x c d).toArray 39)) (hps : ∀ l ∈ ps, lims l) (hn2 : ps.length ≤ 1000) (h6 : @Eq Int x.1 6)
    (hQ : ∀ (G : H) (p' r' : Nat) (pv' rv' : Value) (vs' rs' : List Value), PX (r' :: L) h G p' p r' rp pv' pv rv' rv vs' vs rs' rs ps ps → G sb = some (.cells (sCs x c d).toArray 39) → vc Try.prog c5_s36 Q [(0, .int .i64 (n : Int)), (1, sv), (5, .pointer (some ⟨p', 0, none⟩)), (7, .pointer (some ⟨r', 0, none⟩)), (8, .pointer (some ⟨p, 0, none⟩)), (9, .pointer (some ⟨rp, 0, none⟩)), (10, .int .i64 (i : Int)), (11, .pointer (some ⟨sb, 0, none⟩)), (12, .bool true)] G) : vc Try.prog c5_s10 Q [(0, .int .i64 (n : Int)), (1, sv), (5, .pointer (some ⟨p, 0, none⟩)), (7, .pointer (some ⟨rp, 0, none⟩)), (8, .pointer (some ⟨q, 0, none⟩)), (9, .pointer (some ⟨wp, 0, none⟩)), (10, .int .i64 (i : Int)), (11, .pointer (some ⟨sb, 0, none⟩)), (12, .bool true)] g := by
  have s := sbC k
  have c0 := s.c0
  rw [h6] at c0
  simp (disch := omega) only [dm_t, wA, wB, wL, wW, wY, Int.fdiv_eq_ediv_of_nonneg, Int.tdiv_eq_ediv_of_nonneg, Int.tmod_eq_emod_of_nonneg, chk_pos, decT, decF, br_pos, br_neg, wX, ↓reduceIte, Nat.reduceEqDiff, Nat.reduceAdd, Nat.reduceSub, Nat.reduceMul, Nat.reduceLeDiff, Nat.reduceLT, Nat.reduceMod, Nat.reduceDiv, Int.reduceToNat, Nat.min_eq_left, IntKind.bits, Int.reducePow, Int.reduceLT, Int.reduceLE, Int.reduceEq, Int.reduceNe, Int.reduceAdd, Int.reduceSub, and_self, reduceCtorEq, decide_eq_true_eq, decide_eq_false_iff_not, eq_self, implies_true, exists_const, Option.isNone_some, Option.isNone_none, Option.isSome_some, Option.isSome_none, Option.getD_some, c0]
  refine (Copy_ok P.Z.X hps).k ?_
  rintro _ g2 ⟨q2, qv2, ws2, rfl, Y, e2⟩
  have Z2 : M2 L h g2 p q2 pv qv2 vs ws2 ps ps := MX.disj P.Z.X Y e2 P.Z.E P.Z.T fun y hy => .inr hy
  have R2 : RY (SS L p q2 pv qv2 vs ws2) g2 rp rv rs ps := (P.R.avoid fun y hy => hy.elim (fun h => .inl (.inl h)) fun h => h.elim (fun h => .inr (Y.own h).1) fun h => .inl (.inr (.inr h))).ext e2
  simp (disch := omega) only [dm_t, wA, wB, wL, wW, wY, Int.fdiv_eq_ediv_of_nonneg, Int.tdiv_eq_ediv_of_nonneg, Int.tmod_eq_emod_of_nonneg, chk_pos, decT, decF, br_pos, br_neg, wX, ↓reduceIte, Nat.reduceEqDiff, Nat.reduceAdd, Nat.reduceSub, Nat.reduceMul, Nat.reduceLeDiff, Nat.reduceLT, Nat.reduceMod, Nat.reduceDiv, Int.reduceToNat, Nat.min_eq_left, IntKind.bits, Int.reducePow, Int.reduceLT, Int.reduceLE, Int.reduceEq, Int.reduceNe, Int.reduceAdd, Int.reduceSub, and_self, reduceCtorEq, decide_eq_true_eq, decide_eq_false_iff_not, eq_self, implies_true, exists_const, Option.isNone_some, Option.isNone_none, Option.isSome_some, Option.isSome_none, Option.getD_some]
  refine (RCopy_ok R2 (fun y hy => Z2.there hy) hn2).k ?_
  rintro _ g3 ⟨r3, rv3, rfl, hr3, R3, -, e3⟩
  have Z3 := (Z2.new hr3 e3 R3.obj).symm
  have P3 : PX (r3 :: L) h g3 q2 p r3 rp qv2 pv rv3 rv ws2 vs rs rs ps ps := ⟨Z3, R3.mono fun y _ _ hy => SS.new (SS.symm hy), (R2.avoid fun y hy => (SS.new (SS.symm hy)).elim .inl fun h => .inr (by rw [h]; exact hr3)).ext e3, List.mem_cons_self, List.mem_cons_of_mem _ P.mr, fun hh => Z2.there (.inr (.inr P.mr)) (hh ▸ hr3)⟩
  have k9 := hQ g3 _ _ _ _ _ _ P3 (e3.at (e2.at k))
  simp (disch := omega) only [dm_t, wA, wB, wL, wW, wY, Int.fdiv_eq_ediv_of_nonneg, Int.tdiv_eq_ediv_of_nonneg, Int.tmod_eq_emod_of_nonneg, chk_pos, decT, decF, br_pos, br_neg, wX, ↓reduceIte, Nat.reduceEqDiff, Nat.reduceAdd, Nat.reduceSub, Nat.reduceMul, Nat.reduceLeDiff, Nat.reduceLT, Nat.reduceMod, Nat.reduceDiv, Int.reduceToNat, Nat.min_eq_left, IntKind.bits, Int.reducePow, Int.reduceLT, Int.reduceLE, Int.reduceEq, Int.reduceNe, Int.reduceAdd, Int.reduceSub, and_self, reduceCtorEq, decide_eq_true_eq, decide_eq_false_iff_not, eq_self, implies_true, exists_const, Option.isNone_some, Option.isNone_none, Option.isSome_some, Option.isSome_none, Option.getD_some, k9]
theorem pl_0 {Q : Post} (k : g sb = some (.cells (sCs x c d).toArray 39)) (h0 : ¬ @Eq Int x.1 1 ∧ ¬ @Eq Int x.1 2 ∧ ¬ @Eq Int x.1 3 ∧ ¬ @Eq Int x.1 4 ∧ ¬ @Eq Int x.1 5 ∧ ¬ @Eq Int x.1 6 ∧ ¬ @Eq Int x.1 8)
    (hQ : vc Try.prog c5_s36 Q [(0, .int .i64 (n : Int)), (1, sv), (5, .pointer (some ⟨p, 0, none⟩)), (7, .pointer (some ⟨rp, 0, none⟩)), (8, .pointer (some ⟨q, 0, none⟩)), (9, .pointer (some ⟨wp, 0, none⟩)), (10, .int .i64 (i : Int)), (11, .pointer (some ⟨sb, 0, none⟩)), (12, .bool true)] g) : vc Try.prog c5_s10 Q [(0, .int .i64 (n : Int)), (1, sv), (5, .pointer (some ⟨p, 0, none⟩)), (7, .pointer (some ⟨rp, 0, none⟩)), (8, .pointer (some ⟨q, 0, none⟩)), (9, .pointer (some ⟨wp, 0, none⟩)), (10, .int .i64 (i : Int)), (11, .pointer (some ⟨sb, 0, none⟩)), (12, .bool true)] g := by
  have s := sbC k
  obtain ⟨h1, h2, h3, h4, h5, h6, h8⟩ := h0
  simp (disch := omega) only [dm_t, wA, wB, wL, wW, wY, Int.fdiv_eq_ediv_of_nonneg, Int.tdiv_eq_ediv_of_nonneg, Int.tmod_eq_emod_of_nonneg, chk_pos, decT, decF, br_pos, br_neg, wX, ↓reduceIte, Nat.reduceEqDiff, Nat.reduceAdd, Nat.reduceSub, Nat.reduceMul, Nat.reduceLeDiff, Nat.reduceLT, Nat.reduceMod, Nat.reduceDiv, Int.reduceToNat, Nat.min_eq_left, IntKind.bits, Int.reducePow, Int.reduceLT, Int.reduceLE, Int.reduceEq, Int.reduceNe, Int.reduceAdd, Int.reduceSub, and_self, reduceCtorEq, decide_eq_true_eq, decide_eq_false_iff_not, eq_self, implies_true, exists_const, Option.isNone_some, Option.isNone_none, Option.isSome_some, Option.isSome_none, Option.getD_some, s.c0, h1, h2, h3, h4, h5, h6, h8, hQ]
end
end Go.Proofs.Ytpgkkpjdajkobaa.mo
