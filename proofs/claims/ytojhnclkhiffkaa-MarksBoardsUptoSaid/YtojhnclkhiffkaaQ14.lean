/-
  sort: pdqsort.
-/
import Derived.Test.YtojhnclkhiffkaaQ12
import Derived.Test.YtojhnclkhiffkaaQ13
import Derived.Test.YtojhnclkhiffkaaQ5
import Derived.Test.YtojhnclkhiffkaaQ11
/-
  sort: pdqsort.
-/
namespace Go.Proofs.Ytojhnclkhiffkaa.so
open Go.Proofs.Ytojhnclkhiffkaa
variable {PX : Cx Try.prog}
set_option linter.unusedVariables false
set_option linter.unusedSimpArgs false
/-- All pairs are in order but those within a2, b2. -/
def Done (a b a2 b2 : Nat) (zs : List Row) : Prop := ∀ p q, a ≤ p → p < q → q < b → ¬ (a2 ≤ p ∧ q < b2) → le (gt zs p) (gt zs q)
/-- No two rows are alike. -/
def Dist (xs : List Row) : Prop := xs.Pairwise fun r s => lt r s ∨ lt s r
section
variable {a b a2 b2 m : Nat} {xs zs ws : List Row}
theorem Dist.perm (d : Dist xs) (p : zs.Perm xs) : Dist zs := p.symm.pairwise d fun h => h.symm
theorem Dist.at (d : Dist xs) {i j : Nat} (hi : i < j) (hj : j < xs.length) : lt (gt xs i) (gt xs j) ∨ lt (gt xs j) (gt xs i) := by
  rw [gt_of (show i < xs.length by omega), gt_of hj]
  exact List.pairwise_iff_getElem.1 d i j (by omega) hj hi
theorem Done.start : Done a b a b zs := fun p q h1 h2 h3 h4 => absurd ⟨h1, h3⟩ h4
theorem Done.rg (d : Done a b a2 b2 zs) (r : Rg a2 b2 zs ws) (ha : a ≤ a2) (hb : b2 ≤ b) : Done a b a2 b2 ws := fun p q h1 h2 h3 h4 => by
  by_cases hp : a2 ≤ p ∧ p < b2
  · obtain ⟨p', k1, k2, k3⟩ := r.ins p hp.1 hp.2
    rw [k3, r.out q (by omega)]
    exact d p' q (by omega) (by omega) h3 (by omega)
  · rw [r.out p (by omega)]
    by_cases hq : a2 ≤ q ∧ q < b2
    · obtain ⟨q', k1, k2, k3⟩ := r.ins q hq.1 hq.2
      rw [k3]
      exact d p q' h1 (by omega) (by omega) (by omega)
    · rw [r.out q (by omega)]
      exact d p q h1 h2 h3 h4
theorem Done.all (d : Done a b a2 b2 zs) (s : Srt a2 b2 zs) : Srt a b zs := fun p q h1 h2 h3 => by
  by_cases h : a2 ≤ p ∧ q < b2
  · exact s p q h.1 h2 h.2
  · exact d p q h1 h2 h3 h
theorem Parted.rl (p : Parted a b m zs) (r : Rg a m zs ws) : Parted a b m ws := ⟨p.am, p.mb, fun k h1 h2 => by
  obtain ⟨k', k1, k2, k3⟩ := r.ins k h1 h2
  rw [k3, r.out m (.inr (Nat.le_refl _))]
  exact p.l k' k1 k2, fun k h1 h2 => by
  rw [r.out m (.inr (Nat.le_refl _)), r.out k (by omega)]
  exact p.r k h1 h2⟩
theorem Parted.rr (p : Parted a b m zs) (r : Rg (m + 1) b zs ws) : Parted a b m ws := ⟨p.am, p.mb, fun k h1 h2 => by
  rw [r.out m (by omega), r.out k (by omega)]
  exact p.l k h1 h2, fun k h1 h2 => by
  obtain ⟨k', k1, k2, k3⟩ := r.ins k h1 h2
  rw [k3, r.out m (by omega)]
  exact p.r k' k1 k2⟩
theorem Done.left (d : Done a b a2 b2 ws) (p : Parted a2 b2 m ws) (s : Srt a2 m ws) : Done a b (m + 1) b2 ws := fun u v h1 h2 h3 h4 => by
  by_cases h : a2 ≤ u ∧ v < b2
  · have hum : u ≤ m := by omega
    by_cases hvm : v < m
    · exact s u v h.1 h2 hvm
    by_cases hv : v = m
    · rw [hv]; exact le_of_lt (p.l u h.1 (by omega))
    · have hr := p.r v (by omega) h.2
      by_cases hu : u = m
      · rw [hu]; exact hr
      · exact le_tr (le_of_lt (p.l u h.1 (by omega))) hr
  · exact d u v h1 h2 h3 h
theorem Done.right (d : Done a b a2 b2 ws) (p : Parted a2 b2 m ws) (s : Srt (m + 1) b2 ws) : Done a b a2 m ws := fun u v h1 h2 h3 h4 => by
  by_cases h : a2 ≤ u ∧ v < b2
  · have hvm : m ≤ v := by omega
    by_cases hum : m < u
    · exact s u v hum h2 h.2
    by_cases hu : u = m
    · rw [hu]; exact p.r v (by omega) h.2
    · have hl := le_of_lt (p.l u h.1 (by omega))
      by_cases hv : v = m
      · rw [hv]; exact hl
      · exact le_tr hl (p.r v (by omega) h.2)
  · exact d u v h1 h2 h3 h
theorem Parted.pre (p : Parted a b m zs) : Pre (m + 1) b zs := fun _ k h1 h2 => p.r k (by omega) h2
theorem Pre.sub (p : Pre a b zs) (h : m ≤ b) : Pre a m zs := fun h0 k h1 h2 => p h0 k h1 (by omega)
end
/-- What sorting a range brings. -/
def SortR (h : H) (sv : Value) (xs : List Row) (a b : Nat) (h' : H) : Prop := ∃ ys, DX h h' sv ys ∧ Rg a b xs ys ∧ Srt a b ys
/-- Shorter ranges are sorted. -/
def IHq (sv : Value) (n : Nat) : Prop := ∀ (a b : Nat) (lim : Int) (h : H) (xs : List Row), b - a < n → DX h h sv xs → a ≤ b → b ≤ xs.length → xs.length ≤ 134217727 → Pre a b xs → Dist xs → 0 ≤ lim → lim ≤ 64 →
  Ok PX 49 #[sv, .int .i64 (a : Int), .int .i64 (b : Int), .int .i64 lim, lessV] h fun _ h' => SortR h sv xs a b h'
section
variable {Q0 : Post} {h : H} {sv : Value} {xs : List Row} {a b a2 b2 : Nat} {lim : Int}
def N19 (Q0 : Post) (h : H) (sv : Value) (xs : List Row) (a b a2 b2 : Nat) (lim : Int) : Prop := ∀ (g : H) (m : Nat) (zs : List Row) (w1 w2 : Bool), a2 ≤ m → m < b2 → DX h g sv zs → Rg a b xs zs → Pre (m + 1) b2 zs → Done a b (m + 1) b2 zs →
  vc PX c49_s19 (blockQ 1 Q0) [(0, sv), (2, .int .i64 (b2 : Int)), (3, .int .i64 lim), (4, lessV), (10, .bool w1), (11, .bool w2), (16, .int .i64 (m : Int))] g
def N21 (Q0 : Post) (h : H) (sv : Value) (xs : List Row) (a b a2 b2 : Nat) (lim : Int) : Prop := ∀ (g : H) (m : Nat) (zs : List Row) (w1 w2 : Bool), a2 ≤ m → m < b2 → DX h g sv zs → Rg a b xs zs → Pre a2 m zs → Done a b a2 m zs →
  vc PX c49_s21 (blockQ 1 Q0) [(0, sv), (1, .int .i64 (a2 : Int)), (3, .int .i64 lim), (4, lessV), (10, .bool w1), (11, .bool w2), (16, .int .i64 (m : Int))] g
/-- From partition on. -/
theorem Pdq_split (n19 : N19 (PX := PX) Q0 h sv xs a b a2 b2 lim) (n21 : N21 (PX := PX) Q0 h sv xs a b a2 b2 lim) (ih : IHq (PX := PX) sv (b2 - a2)) (hl1 : 0 ≤ lim) (hl2 : lim ≤ 64) (ha : a ≤ a2) (hab : a2 + 12 < b2) (hb : b2 ≤ b) (hbx : b ≤ xs.length) (hxl : xs.length ≤ 134217727) (hd : Dist xs)
    {g : H} {zs : List Row} {p : Nat} (hp1 : a2 ≤ p) (hp2 : p < b2) (D : DX h g sv zs) (R : Rg a b xs zs) (P : Pre a2 b2 zs) (dn : Done a b a2 b2 zs) :
    vc PX c49_s13 (blockQ 1 Q0) [(0, sv), (1, .int .i64 (a2 : Int)), (2, .int .i64 (b2 : Int)), (3, .int .i64 lim), (4, lessV), (12, .int .i64 ((b2 - a2 : Nat) : Int)), (13, .int .i64 (p : Int))] g := by
  have hlen := R.len
  have e1 : ∀ m : Nat, a2 ≤ m → (m : Int) - (a2 : Int) = ((m - a2 : Nat) : Int) := fun m h => by omega
  have e2 : ∀ m : Nat, m ≤ b2 → (b2 : Int) - (m : Int) = ((b2 - m : Nat) : Int) := fun m h => by omega
  have e3 : (((b2 - a2 : Nat) : Int)) / 8 = (((b2 - a2) / 8 : Nat) : Int) := by omega
  simp (disch := omega) only [dm_t, wA, wB, wL, wW, wY, Int.fdiv_eq_ediv_of_nonneg, Int.tdiv_eq_ediv_of_nonneg, Int.tmod_eq_emod_of_nonneg, chk_pos, decT, decF, br_pos, br_neg, wX, ↓reduceIte, Nat.reduceEqDiff, Nat.reduceAdd, Nat.reduceSub, Nat.reduceMul, Nat.reduceLeDiff, Nat.reduceLT, Nat.reduceMod, Nat.reduceDiv, Int.reduceToNat, Nat.min_eq_left, IntKind.bits, Int.reducePow, Int.reduceLT, Int.reduceLE, Int.reduceEq, Int.reduceNe, Int.reduceAdd, Int.reduceSub, and_self, reduceCtorEq, decide_eq_true_eq, decide_eq_false_iff_not, eq_self, implies_true, exists_const, Option.isNone_some, Option.isNone_none, Option.isSome_some, Option.isSome_none, Option.getD_some]
  refine (Part_ok D.self (a := a2) (b := b2) (p := p) (by omega) (by omega) (by omega) hp1 hp2).k ?_
  intro v g2 hR
  obtain ⟨m, ys, f, hv, D2, R2, T⟩ := hR
  have hm1 := T.am
  have hm2 := T.mb
  simp (disch := omega) only [dm_t, wA, wB, wL, wW, wY, Int.fdiv_eq_ediv_of_nonneg, Int.tdiv_eq_ediv_of_nonneg, Int.tmod_eq_emod_of_nonneg, chk_pos, decT, decF, br_pos, br_neg, wX, ↓reduceIte, Nat.reduceEqDiff, Nat.reduceAdd, Nat.reduceSub, Nat.reduceMul, Nat.reduceLeDiff, Nat.reduceLT, Nat.reduceMod, Nat.reduceDiv, Int.reduceToNat, Nat.min_eq_left, IntKind.bits, Int.reducePow, Int.reduceLT, Int.reduceLE, Int.reduceEq, Int.reduceNe, Int.reduceAdd, Int.reduceSub, and_self, reduceCtorEq, decide_eq_true_eq, decide_eq_false_iff_not, eq_self, implies_true, exists_const, Option.isNone_some, Option.isNone_none, Option.isSome_some, Option.isSome_none, Option.getD_some, hv, e1, e2, e3]
  have D2' := D.from D2
  have R2' := R.trans (R2.mono ha hb)
  have P2 := P.rg R2
  have dn2 := dn.rg R2 ha hb
  have hlen2 := R2'.len
  have hd2 := hd.perm R2'.perm
  by_cases hlr : m - a2 < b2 - m
  · rw [br_pos (by omega)]
    simp (disch := omega) only [dm_t, wA, wB, wL, wW, wY, Int.fdiv_eq_ediv_of_nonneg, Int.tdiv_eq_ediv_of_nonneg, Int.tmod_eq_emod_of_nonneg, chk_pos, decT, decF, br_pos, br_neg, wX, ↓reduceIte, Nat.reduceEqDiff, Nat.reduceAdd, Nat.reduceSub, Nat.reduceMul, Nat.reduceLeDiff, Nat.reduceLT, Nat.reduceMod, Nat.reduceDiv, Int.reduceToNat, Nat.min_eq_left, IntKind.bits, Int.reducePow, Int.reduceLT, Int.reduceLE, Int.reduceEq, Int.reduceNe, Int.reduceAdd, Int.reduceSub, and_self, reduceCtorEq, decide_eq_true_eq, decide_eq_false_iff_not, eq_self, implies_true, exists_const, Option.isNone_some, Option.isNone_none, Option.isSome_some, Option.isSome_none, Option.getD_some]
    refine (ih a2 m lim g2 ys (by omega) D2.self hm1 (by omega) (by omega) (P2.sub (by omega)) hd2 hl1 hl2).k ?_
    intro v3 g3 hS
    obtain ⟨ws, D3, R3, S3⟩ := hS
    have R3' := R3.mono (a' := a2) (b' := b2) (by omega) (by omega)
    have T3 := T.rl R3
    have t := n19 g3 m ws (decide ((((b2 - a2) / 8 : Nat) : Int) ≤ ((m - a2 : Nat) : Int))) f hm1 hm2 (D2'.from D3) (R2'.trans (R3'.mono ha hb)) T3.pre ((dn2.rg R3' ha hb).left T3 S3)
    revert t
    simp (disch := omega) only [dm_t, wA, wB, wL, wW, wY, Int.fdiv_eq_ediv_of_nonneg, Int.tdiv_eq_ediv_of_nonneg, Int.tmod_eq_emod_of_nonneg, chk_pos, decT, decF, br_pos, br_neg, wX, ↓reduceIte, Nat.reduceEqDiff, Nat.reduceAdd, Nat.reduceSub, Nat.reduceMul, Nat.reduceLeDiff, Nat.reduceLT, Nat.reduceMod, Nat.reduceDiv, Int.reduceToNat, Nat.min_eq_left, IntKind.bits, Int.reducePow, Int.reduceLT, Int.reduceLE, Int.reduceEq, Int.reduceNe, Int.reduceAdd, Int.reduceSub, and_self, reduceCtorEq, decide_eq_true_eq, decide_eq_false_iff_not, eq_self, implies_true, exists_const, Option.isNone_some, Option.isNone_none, Option.isSome_some, Option.isSome_none, Option.getD_some]
    exact id
  · rw [br_neg (by omega)]
    have e4 : ((m + 1 : Nat) : Int) = (m : Int) + 1 := by omega
    simp (disch := omega) only [dm_t, wA, wB, wL, wW, wY, Int.fdiv_eq_ediv_of_nonneg, Int.tdiv_eq_ediv_of_nonneg, Int.tmod_eq_emod_of_nonneg, chk_pos, decT, decF, br_pos, br_neg, wX, ↓reduceIte, Nat.reduceEqDiff, Nat.reduceAdd, Nat.reduceSub, Nat.reduceMul, Nat.reduceLeDiff, Nat.reduceLT, Nat.reduceMod, Nat.reduceDiv, Int.reduceToNat, Nat.min_eq_left, IntKind.bits, Int.reducePow, Int.reduceLT, Int.reduceLE, Int.reduceEq, Int.reduceNe, Int.reduceAdd, Int.reduceSub, and_self, reduceCtorEq, decide_eq_true_eq, decide_eq_false_iff_not, eq_self, implies_true, exists_const, Option.isNone_some, Option.isNone_none, Option.isSome_some, Option.isSome_none, Option.getD_some]
    have t0 := ih (m + 1) b2 lim g2 ys (by omega) D2.self (by omega) (by omega) (by omega) T.pre hd2 hl1 hl2
    rw [e4] at t0
    refine t0.k ?_
    intro v3 g3 hS
    obtain ⟨ws, D3, R3, S3⟩ := hS
    have R3' := R3.mono (a' := a2) (b' := b2) (by omega) (by omega)
    have T3 := T.rr R3
    have P3 : Pre a2 m ws := fun h0 k h1 h2 => by
      rw [R3.out (a2 - 1) (by omega), R3.out k (by omega)]
      exact P2 h0 k h1 (by omega)
    have t := n21 g3 m ws (decide ((((b2 - a2) / 8 : Nat) : Int) ≤ ((b2 - m : Nat) : Int))) f hm1 hm2 (D2'.from D3) (R2'.trans (R3'.mono ha hb)) P3 ((dn2.rg R3' ha hb).right T3 S3)
    revert t
    simp (disch := omega) only [dm_t, wA, wB, wL, wW, wY, Int.fdiv_eq_ediv_of_nonneg, Int.tdiv_eq_ediv_of_nonneg, Int.tmod_eq_emod_of_nonneg, chk_pos, decT, decF, br_pos, br_neg, wX, ↓reduceIte, Nat.reduceEqDiff, Nat.reduceAdd, Nat.reduceSub, Nat.reduceMul, Nat.reduceLeDiff, Nat.reduceLT, Nat.reduceMod, Nat.reduceDiv, Int.reduceToNat, Nat.min_eq_left, IntKind.bits, Int.reducePow, Int.reduceLT, Int.reduceLE, Int.reduceEq, Int.reduceNe, Int.reduceAdd, Int.reduceSub, and_self, reduceCtorEq, decide_eq_true_eq, decide_eq_false_iff_not, eq_self, implies_true, exists_const, Option.isNone_some, Option.isNone_none, Option.isSome_some, Option.isSome_none, Option.getD_some]
    exact id
def NR (Q0 : Post) (h : H) (sv : Value) (xs : List Row) (a b : Nat) : Prop := ∀ (e : Env) (g : H), SortR h sv xs a b g → Q0 Exit.ret e g
structure PC (h : H) (sv : Value) (xs : List Row) (a b a2 b2 : Nat) (g : H) (zs : List Row) : Prop where
  D : DX h g sv zs
  R : Rg a b xs zs
  P : Pre a2 b2 zs
  dn : Done a b a2 b2 zs
theorem PC.ext {g g' : H} {zs : List Row} (c : PC h sv xs a b a2 b2 g zs) (e : Ext g g') : PC h sv xs a b a2 b2 g' zs := ⟨c.D.ext e, c.R, c.P, c.dn⟩
theorem PC.rg {g g' : H} {zs ys : List Row} (c : PC h sv xs a b a2 b2 g zs) (ha : a ≤ a2) (hb : b2 ≤ b) (d : DX g g' sv ys) (r : Rg a2 b2 zs ys) : PC h sv xs a b a2 b2 g' ys := ⟨c.D.from d, c.R.trans (r.mono ha hb), c.P.rg r, c.dn.rg r ha hb⟩
theorem PC.all {g : H} {zs : List Row} (c : PC h sv xs a b a2 b2 g zs) (s : Srt a2 b2 zs) : SortR h sv xs a b g := ⟨zs, c.D, c.R, c.dn.all s⟩
theorem Pdq_s11 (n19 : N19 (PX := PX) Q0 h sv xs a b a2 b2 lim) (n21 : N21 (PX := PX) Q0 h sv xs a b a2 b2 lim) (ih : IHq (PX := PX) sv (b2 - a2)) (hl1 : 0 ≤ lim) (hl2 : lim ≤ 64) (ha : a ≤ a2) (hab : a2 + 12 < b2) (hb : b2 ≤ b) (hbx : b ≤ xs.length) (hxl : xs.length ≤ 134217727) (hd : Dist xs)
    {g : H} {zs : List Row} {p : Nat} {w1 w2 : Bool} (hp1 : a2 ≤ p) (hp2 : p < b2) (C : PC h sv xs a b a2 b2 g zs) :
    vc PX c49_s11 (blockQ 1 Q0) [(0, sv), (1, .int .i64 (a2 : Int)), (2, .int .i64 (b2 : Int)), (3, .int .i64 lim), (4, lessV), (10, .bool w1), (11, .bool w2), (12, .int .i64 ((b2 - a2 : Nat) : Int)), (13, .int .i64 (p : Int))] g := by
  have hlen := C.R.len
  by_cases h0 : 0 < a2
  · obtain ⟨b1, o1, i1, t1⟩ := C.D.at (i := a2 - 1) (by omega) (e := (a2 : Int) - 1) (by omega)
    obtain ⟨b2', o2, i2, t2⟩ := C.D.at (i := p) (by omega) rfl
    have hlt : lt (gt zs (a2 - 1)) (gt zs p) := (hd.perm C.R.perm).at (i := a2 - 1) (j := p) (by omega) (by omega) |>.elim id fun h => absurd h (C.P h0 p hp1 hp2)
    simp (disch := omega) only [dm_t, wA, wB, wL, wW, wY, Int.fdiv_eq_ediv_of_nonneg, Int.tdiv_eq_ediv_of_nonneg, Int.tmod_eq_emod_of_nonneg, chk_pos, decT, decF, br_pos, br_neg, wX, ↓reduceIte, Nat.reduceEqDiff, Nat.reduceAdd, Nat.reduceSub, Nat.reduceMul, Nat.reduceLeDiff, Nat.reduceLT, Nat.reduceMod, Nat.reduceDiv, Int.reduceToNat, Nat.min_eq_left, IntKind.bits, Int.reducePow, Int.reduceLT, Int.reduceLE, Int.reduceEq, Int.reduceNe, Int.reduceAdd, Int.reduceSub, and_self, reduceCtorEq, decide_eq_true_eq, decide_eq_false_iff_not, eq_self, implies_true, exists_const, Option.isNone_some, Option.isNone_none, Option.isSome_some, Option.isSome_none, Option.getD_some, i1, t1, i2, t2]
    refine ⟨rfl, (less_ok g (C.D.gd (i := a2 - 1) (by omega)) (C.D.gd (i := p) (by omega))).k ?_⟩
    rintro v g3 ⟨⟨c, hv, hc⟩, e3⟩
    have t1' := cellsAt_ext e3 t1
    have t2' := cellsAt_ext e3 t2
    have hc0 := hc.2 hlt
    have C3 := C.ext e3
    have t := Pdq_split n19 n21 ih hl1 hl2 ha hab hb hbx hxl hd hp1 hp2 C3.D C3.R C3.P C3.dn
    revert t
    simp (disch := omega) only [dm_t, wA, wB, wL, wW, wY, Int.fdiv_eq_ediv_of_nonneg, Int.tdiv_eq_ediv_of_nonneg, Int.tmod_eq_emod_of_nonneg, chk_pos, decT, decF, br_pos, br_neg, wX, ↓reduceIte, Nat.reduceEqDiff, Nat.reduceAdd, Nat.reduceSub, Nat.reduceMul, Nat.reduceLeDiff, Nat.reduceLT, Nat.reduceMod, Nat.reduceDiv, Int.reduceToNat, Nat.min_eq_left, IntKind.bits, Int.reducePow, Int.reduceLT, Int.reduceLE, Int.reduceEq, Int.reduceNe, Int.reduceAdd, Int.reduceSub, and_self, reduceCtorEq, decide_eq_true_eq, decide_eq_false_iff_not, eq_self, implies_true, exists_const, Option.isNone_some, Option.isNone_none, Option.isSome_some, Option.isSome_none, Option.getD_some, hv, i1, t1', i2, t2']
    exact id
  · have t := Pdq_split n19 n21 ih hl1 hl2 ha hab hb hbx hxl hd hp1 hp2 C.D C.R C.P C.dn
    revert t
    simp (disch := omega) only [dm_t, wA, wB, wL, wW, wY, Int.fdiv_eq_ediv_of_nonneg, Int.tdiv_eq_ediv_of_nonneg, Int.tmod_eq_emod_of_nonneg, chk_pos, decT, decF, br_pos, br_neg, wX, ↓reduceIte, Nat.reduceEqDiff, Nat.reduceAdd, Nat.reduceSub, Nat.reduceMul, Nat.reduceLeDiff, Nat.reduceLT, Nat.reduceMod, Nat.reduceDiv, Int.reduceToNat, Nat.min_eq_left, IntKind.bits, Int.reducePow, Int.reduceLT, Int.reduceLE, Int.reduceEq, Int.reduceNe, Int.reduceAdd, Int.reduceSub, and_self, reduceCtorEq, decide_eq_true_eq, decide_eq_false_iff_not, eq_self, implies_true, exists_const, Option.isNone_some, Option.isNone_none, Option.isSome_some, Option.isSome_none, Option.getD_some]
    exact id
theorem Pdq_s10 (nr : NR Q0 h sv xs a b) (n19 : N19 (PX := PX) Q0 h sv xs a b a2 b2 lim) (n21 : N21 (PX := PX) Q0 h sv xs a b a2 b2 lim) (ih : IHq (PX := PX) sv (b2 - a2)) (hl1 : 0 ≤ lim) (hl2 : lim ≤ 64) (ha : a ≤ a2) (hab : a2 + 12 < b2) (hb : b2 ≤ b) (hbx : b ≤ xs.length) (hxl : xs.length ≤ 134217727) (hd : Dist xs)
    {g : H} {zs : List Row} {p : Nat} {w1 w2 : Bool} {t : Int} (hp1 : a2 ≤ p) (hp2 : p < b2) (C : PC h sv xs a b a2 b2 g zs) :
    vc PX c49_s10 (blockQ 1 Q0) [(0, sv), (1, .int .i64 (a2 : Int)), (2, .int .i64 (b2 : Int)), (3, .int .i64 lim), (4, lessV), (10, .bool w1), (11, .bool w2), (12, .int .i64 ((b2 - a2 : Nat) : Int)), (13, .int .i64 (p : Int)), (14, .int .i64 t)] g := by
  have hlen := C.R.len
  have k11 : ∀ (g : H) (zs : List Row), PC h sv xs a b a2 b2 g zs → vc PX c49_s11 (blockQ 1 Q0) [(0, sv), (1, .int .i64 (a2 : Int)), (2, .int .i64 (b2 : Int)), (3, .int .i64 lim), (4, lessV), (10, .bool w1), (11, .bool w2), (12, .int .i64 ((b2 - a2 : Nat) : Int)), (13, .int .i64 (p : Int))] g := fun g zs C => Pdq_s11 n19 n21 ih hl1 hl2 ha hab hb hbx hxl hd hp1 hp2 C
  have t0 := k11 g zs C
  cases w1 with
  | false =>
    revert t0
    simp (disch := omega) only [dm_t, wA, wB, wL, wW, wY, Int.fdiv_eq_ediv_of_nonneg, Int.tdiv_eq_ediv_of_nonneg, Int.tmod_eq_emod_of_nonneg, chk_pos, decT, decF, br_pos, br_neg, wX, ↓reduceIte, Nat.reduceEqDiff, Nat.reduceAdd, Nat.reduceSub, Nat.reduceMul, Nat.reduceLeDiff, Nat.reduceLT, Nat.reduceMod, Nat.reduceDiv, Int.reduceToNat, Nat.min_eq_left, IntKind.bits, Int.reducePow, Int.reduceLT, Int.reduceLE, Int.reduceEq, Int.reduceNe, Int.reduceAdd, Int.reduceSub, and_self, reduceCtorEq, decide_eq_true_eq, decide_eq_false_iff_not, eq_self, implies_true, exists_const, Option.isNone_some, Option.isNone_none, Option.isSome_some, Option.isSome_none, Option.getD_some]
    exact id
  | true =>
    cases w2 with
    | false =>
      revert t0
      simp (disch := omega) only [dm_t, wA, wB, wL, wW, wY, Int.fdiv_eq_ediv_of_nonneg, Int.tdiv_eq_ediv_of_nonneg, Int.tmod_eq_emod_of_nonneg, chk_pos, decT, decF, br_pos, br_neg, wX, ↓reduceIte, Nat.reduceEqDiff, Nat.reduceAdd, Nat.reduceSub, Nat.reduceMul, Nat.reduceLeDiff, Nat.reduceLT, Nat.reduceMod, Nat.reduceDiv, Int.reduceToNat, Nat.min_eq_left, IntKind.bits, Int.reducePow, Int.reduceLT, Int.reduceLE, Int.reduceEq, Int.reduceNe, Int.reduceAdd, Int.reduceSub, and_self, reduceCtorEq, decide_eq_true_eq, decide_eq_false_iff_not, eq_self, implies_true, exists_const, Option.isNone_some, Option.isNone_none, Option.isSome_some, Option.isSome_none, Option.getD_some]
      exact id
    | true =>
      by_cases ht : t = 1
      · subst ht
        clear t0
        simp (disch := omega) only [dm_t, wA, wB, wL, wW, wY, Int.fdiv_eq_ediv_of_nonneg, Int.tdiv_eq_ediv_of_nonneg, Int.tmod_eq_emod_of_nonneg, chk_pos, decT, decF, br_pos, br_neg, wX, ↓reduceIte, Nat.reduceEqDiff, Nat.reduceAdd, Nat.reduceSub, Nat.reduceMul, Nat.reduceLeDiff, Nat.reduceLT, Nat.reduceMod, Nat.reduceDiv, Int.reduceToNat, Nat.min_eq_left, IntKind.bits, Int.reducePow, Int.reduceLT, Int.reduceLE, Int.reduceEq, Int.reduceNe, Int.reduceAdd, Int.reduceSub, and_self, reduceCtorEq, decide_eq_true_eq, decide_eq_false_iff_not, eq_self, implies_true, exists_const, Option.isNone_some, Option.isNone_none, Option.isSome_some, Option.isSome_none, Option.getD_some]
        refine (PI_ok C.D.self (a := a2) (b := b2) (by omega) (by omega) (by omega) C.P).k ?_
        intro v g2 hv
        obtain ⟨r, ys, hv, D2, R2, S2⟩ := hv
        have C2 := C.rg ha hb D2 R2
        cases r with
        | true =>
          simp (disch := omega) only [dm_t, wA, wB, wL, wW, wY, Int.fdiv_eq_ediv_of_nonneg, Int.tdiv_eq_ediv_of_nonneg, Int.tmod_eq_emod_of_nonneg, chk_pos, decT, decF, br_pos, br_neg, wX, ↓reduceIte, Nat.reduceEqDiff, Nat.reduceAdd, Nat.reduceSub, Nat.reduceMul, Nat.reduceLeDiff, Nat.reduceLT, Nat.reduceMod, Nat.reduceDiv, Int.reduceToNat, Nat.min_eq_left, IntKind.bits, Int.reducePow, Int.reduceLT, Int.reduceLE, Int.reduceEq, Int.reduceNe, Int.reduceAdd, Int.reduceSub, and_self, reduceCtorEq, decide_eq_true_eq, decide_eq_false_iff_not, eq_self, implies_true, exists_const, Option.isNone_some, Option.isNone_none, Option.isSome_some, Option.isSome_none, Option.getD_some, hv]
          exact nr _ g2 (C2.all (S2 rfl))
        | false =>
          have t1 := k11 g2 ys C2
          revert t1
          simp (disch := omega) only [dm_t, wA, wB, wL, wW, wY, Int.fdiv_eq_ediv_of_nonneg, Int.tdiv_eq_ediv_of_nonneg, Int.tmod_eq_emod_of_nonneg, chk_pos, decT, decF, br_pos, br_neg, wX, ↓reduceIte, Nat.reduceEqDiff, Nat.reduceAdd, Nat.reduceSub, Nat.reduceMul, Nat.reduceLeDiff, Nat.reduceLT, Nat.reduceMod, Nat.reduceDiv, Int.reduceToNat, Nat.min_eq_left, IntKind.bits, Int.reducePow, Int.reduceLT, Int.reduceLE, Int.reduceEq, Int.reduceNe, Int.reduceAdd, Int.reduceSub, and_self, reduceCtorEq, decide_eq_true_eq, decide_eq_false_iff_not, eq_self, implies_true, exists_const, Option.isNone_some, Option.isNone_none, Option.isSome_some, Option.isSome_none, Option.getD_some, hv]
          exact id
      · revert t0
        simp (disch := omega) only [dm_t, wA, wB, wL, wW, wY, Int.fdiv_eq_ediv_of_nonneg, Int.tdiv_eq_ediv_of_nonneg, Int.tmod_eq_emod_of_nonneg, chk_pos, decT, decF, br_pos, br_neg, wX, ↓reduceIte, Nat.reduceEqDiff, Nat.reduceAdd, Nat.reduceSub, Nat.reduceMul, Nat.reduceLeDiff, Nat.reduceLT, Nat.reduceMod, Nat.reduceDiv, Int.reduceToNat, Nat.min_eq_left, IntKind.bits, Int.reducePow, Int.reduceLT, Int.reduceLE, Int.reduceEq, Int.reduceNe, Int.reduceAdd, Int.reduceSub, and_self, reduceCtorEq, decide_eq_true_eq, decide_eq_false_iff_not, eq_self, implies_true, exists_const, Option.isNone_some, Option.isNone_none, Option.isSome_some, Option.isSome_none, Option.getD_some]
        exact id
theorem Pdq_s6 (nr : NR Q0 h sv xs a b) (n19 : N19 (PX := PX) Q0 h sv xs a b a2 b2 lim) (n21 : N21 (PX := PX) Q0 h sv xs a b a2 b2 lim) (ih : IHq (PX := PX) sv (b2 - a2)) (hl1 : 0 ≤ lim) (hl2 : lim ≤ 64) (ha : a ≤ a2) (hab : a2 + 12 < b2) (hb : b2 ≤ b) (hbx : b ≤ xs.length) (hxl : xs.length ≤ 134217727) (hd : Dist xs)
    {g : H} {zs : List Row} {w1 w2 : Bool} (C : PC h sv xs a b a2 b2 g zs) :
    vc PX c49_s6 (blockQ 1 Q0) [(0, sv), (1, .int .i64 (a2 : Int)), (2, .int .i64 (b2 : Int)), (3, .int .i64 lim), (4, lessV), (10, .bool w1), (11, .bool w2), (12, .int .i64 ((b2 - a2 : Nat) : Int))] g := by
  have hlen := C.R.len
  simp (disch := omega) only [dm_t, wA, wB, wL, wW, wY, Int.fdiv_eq_ediv_of_nonneg, Int.tdiv_eq_ediv_of_nonneg, Int.tmod_eq_emod_of_nonneg, chk_pos, decT, decF, br_pos, br_neg, wX, ↓reduceIte, Nat.reduceEqDiff, Nat.reduceAdd, Nat.reduceSub, Nat.reduceMul, Nat.reduceLeDiff, Nat.reduceLT, Nat.reduceMod, Nat.reduceDiv, Int.reduceToNat, Nat.min_eq_left, IntKind.bits, Int.reducePow, Int.reduceLT, Int.reduceLE, Int.reduceEq, Int.reduceNe, Int.reduceAdd, Int.reduceSub, and_self, reduceCtorEq, decide_eq_true_eq, decide_eq_false_iff_not, eq_self, implies_true, exists_const, Option.isNone_some, Option.isNone_none, Option.isSome_some, Option.isSome_none, Option.getD_some]
  refine (Piv_ok C.D.self (a := a2) (b := b2) (by omega) (by omega) (by omega)).k ?_
  intro v g2 hv
  obtain ⟨p, t, hv, hp1, hp2, e2⟩ := hv
  have C2 := C.ext e2
  by_cases ht : t = 2
  · have t1 : ∀ (g : H) (zs : List Row), PC h sv xs a b a2 b2 g zs → _ := fun g zs C => Pdq_s10 nr n19 n21 ih hl1 hl2 ha hab hb hbx hxl hd (w1 := w1) (w2 := w2) (p := b2 - 1 - (p - a2)) (t := 1) (by omega) (by omega) C
    have e5 : ((b2 : Int) - 1) - ((p : Int) - (a2 : Int)) = ((b2 - 1 - (p - a2) : Nat) : Int) := by omega
    simp (disch := omega) only [dm_t, wA, wB, wL, wW, wY, Int.fdiv_eq_ediv_of_nonneg, Int.tdiv_eq_ediv_of_nonneg, Int.tmod_eq_emod_of_nonneg, chk_pos, decT, decF, br_pos, br_neg, wX, ↓reduceIte, Nat.reduceEqDiff, Nat.reduceAdd, Nat.reduceSub, Nat.reduceMul, Nat.reduceLeDiff, Nat.reduceLT, Nat.reduceMod, Nat.reduceDiv, Int.reduceToNat, Nat.min_eq_left, IntKind.bits, Int.reducePow, Int.reduceLT, Int.reduceLE, Int.reduceEq, Int.reduceNe, Int.reduceAdd, Int.reduceSub, and_self, reduceCtorEq, decide_eq_true_eq, decide_eq_false_iff_not, eq_self, implies_true, exists_const, Option.isNone_some, Option.isNone_none, Option.isSome_some, Option.isSome_none, Option.getD_some, hv, ht]
    refine (Rev_ok C2.D.self (a := a2) (b := b2) (cv := lessV) (by omega) (by omega) (by omega)).k ?_
    intro v3 g3 h3
    obtain ⟨ys, D3, R3⟩ := h3
    have t2 := t1 g3 ys (C2.rg ha hb D3 R3)
    revert t2
    simp (disch := omega) only [dm_t, wA, wB, wL, wW, wY, Int.fdiv_eq_ediv_of_nonneg, Int.tdiv_eq_ediv_of_nonneg, Int.tmod_eq_emod_of_nonneg, chk_pos, decT, decF, br_pos, br_neg, wX, ↓reduceIte, Nat.reduceEqDiff, Nat.reduceAdd, Nat.reduceSub, Nat.reduceMul, Nat.reduceLeDiff, Nat.reduceLT, Nat.reduceMod, Nat.reduceDiv, Int.reduceToNat, Nat.min_eq_left, IntKind.bits, Int.reducePow, Int.reduceLT, Int.reduceLE, Int.reduceEq, Int.reduceNe, Int.reduceAdd, Int.reduceSub, and_self, reduceCtorEq, decide_eq_true_eq, decide_eq_false_iff_not, eq_self, implies_true, exists_const, Option.isNone_some, Option.isNone_none, Option.isSome_some, Option.isSome_none, Option.getD_some, e5]
    exact id
  · have t2 := Pdq_s10 nr n19 n21 ih hl1 hl2 ha hab hb hbx hxl hd (w1 := w1) (w2 := w2) (t := t) hp1 hp2 C2
    revert t2
    simp (disch := omega) only [dm_t, wA, wB, wL, wW, wY, Int.fdiv_eq_ediv_of_nonneg, Int.tdiv_eq_ediv_of_nonneg, Int.tmod_eq_emod_of_nonneg, chk_pos, decT, decF, br_pos, br_neg, wX, ↓reduceIte, Nat.reduceEqDiff, Nat.reduceAdd, Nat.reduceSub, Nat.reduceMul, Nat.reduceLeDiff, Nat.reduceLT, Nat.reduceMod, Nat.reduceDiv, Int.reduceToNat, Nat.min_eq_left, IntKind.bits, Int.reducePow, Int.reduceLT, Int.reduceLE, Int.reduceEq, Int.reduceNe, Int.reduceAdd, Int.reduceSub, and_self, reduceCtorEq, decide_eq_true_eq, decide_eq_false_iff_not, eq_self, implies_true, exists_const, Option.isNone_some, Option.isNone_none, Option.isSome_some, Option.isSome_none, Option.getD_some, hv]
    exact id
end
/-- Any range is sorted. -/
theorem Pdq_ih (sv : Value) : ∀ n, IHq (PX := PX) sv n := by
  intro n
  induction n with
  | zero => intro a b lim h xs hn; omega
  | succ n IH =>
    intro a b lim h xs hn d hab hb hxl hp hd hl1 hl2
    refine c49_ok (args := [_, _, _, _, _]) (by simp) ?_
    simp (disch := omega) only [dm_t, wA, wB, wL, wW, wY, Int.fdiv_eq_ediv_of_nonneg, Int.tdiv_eq_ediv_of_nonneg, Int.tmod_eq_emod_of_nonneg, chk_pos, decT, decF, br_pos, br_neg, wX, ↓reduceIte, Nat.reduceEqDiff, Nat.reduceAdd, Nat.reduceSub, Nat.reduceMul, Nat.reduceLeDiff, Nat.reduceLT, Nat.reduceMod, Nat.reduceDiv, Int.reduceToNat, Nat.min_eq_left, IntKind.bits, Int.reducePow, Int.reduceLT, Int.reduceLE, Int.reduceEq, Int.reduceNe, Int.reduceAdd, Int.reduceSub, and_self, reduceCtorEq, decide_eq_true_eq, decide_eq_false_iff_not, eq_self, implies_true, exists_const, Option.isNone_some, Option.isNone_none, Option.isSome_some, Option.isSome_none, Option.getD_some]
    refine vc_loop5 (fun va vb vl v10 v11 g => ∃ (a2 b2 : Nat) (lim : Int) (w1 w2 : Bool) (zs : List Row), va = .int .i64 (a2 : Int) ∧ vb = .int .i64 (b2 : Int) ∧ vl = .int .i64 lim ∧ v10 = .bool w1 ∧ v11 = .bool w2 ∧ a ≤ a2 ∧ a2 ≤ b2 ∧ b2 ≤ b ∧ 0 ≤ lim ∧ lim ≤ 64 ∧ PC h sv xs a b a2 b2 g zs) (fun va vb _ _ _ _ => m1 vb - m1 va) ?_ ?_
    · simp (disch := omega) only [dm_t, wA, wB, wL, wW, wY, Int.fdiv_eq_ediv_of_nonneg, Int.tdiv_eq_ediv_of_nonneg, Int.tmod_eq_emod_of_nonneg, chk_pos, decT, decF, br_pos, br_neg, wX, ↓reduceIte, Nat.reduceEqDiff, Nat.reduceAdd, Nat.reduceSub, Nat.reduceMul, Nat.reduceLeDiff, Nat.reduceLT, Nat.reduceMod, Nat.reduceDiv, Int.reduceToNat, Nat.min_eq_left, IntKind.bits, Int.reducePow, Int.reduceLT, Int.reduceLE, Int.reduceEq, Int.reduceNe, Int.reduceAdd, Int.reduceSub, and_self, reduceCtorEq, decide_eq_true_eq, decide_eq_false_iff_not, eq_self, implies_true, exists_const, Option.isNone_some, Option.isNone_none, Option.isSome_some, Option.isSome_none, Option.getD_some]
      exact ⟨a, b, lim, true, true, xs, rfl, rfl, rfl, rfl, rfl, by omega, hab, by omega, hl1, hl2, d, Rg.refl _ _ _, hp, Done.start⟩
    rintro _ _ _ _ _ g ⟨a2, b2, lim2, w1, w2, zs, rfl, rfl, rfl, rfl, rfl, ha, hab2, hb2, hm1, hm2, C⟩
    have hlen := C.R.len
    generalize hQ0 : lq5 _ _ _ _ _ _ _ _ _ _ _ = Q0
    have nr : NR Q0 h sv xs a b := by
      intro e g hS
      rw [← hQ0]
      simp (disch := omega) only [dm_t, wA, wB, wL, wW, wY, Int.fdiv_eq_ediv_of_nonneg, Int.tdiv_eq_ediv_of_nonneg, Int.tmod_eq_emod_of_nonneg, chk_pos, decT, decF, br_pos, br_neg, wX, ↓reduceIte, Nat.reduceEqDiff, Nat.reduceAdd, Nat.reduceSub, Nat.reduceMul, Nat.reduceLeDiff, Nat.reduceLT, Nat.reduceMod, Nat.reduceDiv, Int.reduceToNat, Nat.min_eq_left, IntKind.bits, Int.reducePow, Int.reduceLT, Int.reduceLE, Int.reduceEq, Int.reduceNe, Int.reduceAdd, Int.reduceSub, and_self, reduceCtorEq, decide_eq_true_eq, decide_eq_false_iff_not, eq_self, implies_true, exists_const, Option.isNone_some, Option.isNone_none, Option.isSome_some, Option.isSome_none, Option.getD_some]
      exact hS
    have n19 : ∀ lim, 0 ≤ lim → lim ≤ 64 → N19 (PX := PX) Q0 h sv xs a b a2 b2 lim := by
      intro lim hl1 hl2 g m zs w1 w2 hm1 hm2 D R P dn
      rw [← hQ0]
      simp (disch := omega) only [dm_t, wA, wB, wL, wW, wY, Int.fdiv_eq_ediv_of_nonneg, Int.tdiv_eq_ediv_of_nonneg, Int.tmod_eq_emod_of_nonneg, chk_pos, decT, decF, br_pos, br_neg, wX, ↓reduceIte, Nat.reduceEqDiff, Nat.reduceAdd, Nat.reduceSub, Nat.reduceMul, Nat.reduceLeDiff, Nat.reduceLT, Nat.reduceMod, Nat.reduceDiv, Int.reduceToNat, Nat.min_eq_left, IntKind.bits, Int.reducePow, Int.reduceLT, Int.reduceLE, Int.reduceEq, Int.reduceNe, Int.reduceAdd, Int.reduceSub, and_self, reduceCtorEq, decide_eq_true_eq, decide_eq_false_iff_not, eq_self, implies_true, exists_const, Option.isNone_some, Option.isNone_none, Option.isSome_some, Option.isSome_none, Option.getD_some]
      exact ⟨⟨m + 1, b2, lim, w1, w2, zs, by simp, rfl, rfl, rfl, rfl, by omega, by omega, hb2, hl1, hl2, D, R, P, dn⟩, by simp [m1]; omega⟩
    have n21 : ∀ lim, 0 ≤ lim → lim ≤ 64 → N21 (PX := PX) Q0 h sv xs a b a2 b2 lim := by
      intro lim hl1 hl2 g m zs w1 w2 hm1 hm2 D R P dn
      rw [← hQ0]
      simp (disch := omega) only [dm_t, wA, wB, wL, wW, wY, Int.fdiv_eq_ediv_of_nonneg, Int.tdiv_eq_ediv_of_nonneg, Int.tmod_eq_emod_of_nonneg, chk_pos, decT, decF, br_pos, br_neg, wX, ↓reduceIte, Nat.reduceEqDiff, Nat.reduceAdd, Nat.reduceSub, Nat.reduceMul, Nat.reduceLeDiff, Nat.reduceLT, Nat.reduceMod, Nat.reduceDiv, Int.reduceToNat, Nat.min_eq_left, IntKind.bits, Int.reducePow, Int.reduceLT, Int.reduceLE, Int.reduceEq, Int.reduceNe, Int.reduceAdd, Int.reduceSub, and_self, reduceCtorEq, decide_eq_true_eq, decide_eq_false_iff_not, eq_self, implies_true, exists_const, Option.isNone_some, Option.isNone_none, Option.isSome_some, Option.isSome_none, Option.getD_some]
      exact ⟨⟨a2, m, lim, w1, w2, zs, rfl, rfl, rfl, rfl, rfl, by omega, by omega, by omega, hl1, hl2, D, R, P, dn⟩, by simp [m1]; omega⟩
    have ih : IHq (PX := PX) sv (b2 - a2) := fun a b lim h xs hn => IH a b lim h xs (by omega)
    clear hQ0
    have e6 : (b2 : Int) - (a2 : Int) = ((b2 - a2 : Nat) : Int) := by omega
    by_cases h12 : b2 - a2 ≤ 12
    · simp (disch := omega) only [dm_t, wA, wB, wL, wW, wY, Int.fdiv_eq_ediv_of_nonneg, Int.tdiv_eq_ediv_of_nonneg, Int.tmod_eq_emod_of_nonneg, chk_pos, decT, decF, br_pos, br_neg, wX, ↓reduceIte, Nat.reduceEqDiff, Nat.reduceAdd, Nat.reduceSub, Nat.reduceMul, Nat.reduceLeDiff, Nat.reduceLT, Nat.reduceMod, Nat.reduceDiv, Int.reduceToNat, Nat.min_eq_left, IntKind.bits, Int.reducePow, Int.reduceLT, Int.reduceLE, Int.reduceEq, Int.reduceNe, Int.reduceAdd, Int.reduceSub, and_self, reduceCtorEq, decide_eq_true_eq, decide_eq_false_iff_not, eq_self, implies_true, exists_const, Option.isNone_some, Option.isNone_none, Option.isSome_some, Option.isSome_none, Option.getD_some, e6]
      refine (Ins_ok C.D.self (a := a2) (b := b2) hab2 (by omega) (by omega)).k ?_
      intro v g2 h2
      obtain ⟨ys, D2, R2, S2⟩ := h2
      simp (disch := omega) only [dm_t, wA, wB, wL, wW, wY, Int.fdiv_eq_ediv_of_nonneg, Int.tdiv_eq_ediv_of_nonneg, Int.tmod_eq_emod_of_nonneg, chk_pos, decT, decF, br_pos, br_neg, wX, ↓reduceIte, Nat.reduceEqDiff, Nat.reduceAdd, Nat.reduceSub, Nat.reduceMul, Nat.reduceLeDiff, Nat.reduceLT, Nat.reduceMod, Nat.reduceDiv, Int.reduceToNat, Nat.min_eq_left, IntKind.bits, Int.reducePow, Int.reduceLT, Int.reduceLE, Int.reduceEq, Int.reduceNe, Int.reduceAdd, Int.reduceSub, and_self, reduceCtorEq, decide_eq_true_eq, decide_eq_false_iff_not, eq_self, implies_true, exists_const, Option.isNone_some, Option.isNone_none, Option.isSome_some, Option.isSome_none, Option.getD_some]
      exact nr _ g2 ((C.rg ha hb2 D2 R2).all S2)
    by_cases h0 : lim2 = 0
    · simp (disch := omega) only [dm_t, wA, wB, wL, wW, wY, Int.fdiv_eq_ediv_of_nonneg, Int.tdiv_eq_ediv_of_nonneg, Int.tmod_eq_emod_of_nonneg, chk_pos, decT, decF, br_pos, br_neg, wX, ↓reduceIte, Nat.reduceEqDiff, Nat.reduceAdd, Nat.reduceSub, Nat.reduceMul, Nat.reduceLeDiff, Nat.reduceLT, Nat.reduceMod, Nat.reduceDiv, Int.reduceToNat, Nat.min_eq_left, IntKind.bits, Int.reducePow, Int.reduceLT, Int.reduceLE, Int.reduceEq, Int.reduceNe, Int.reduceAdd, Int.reduceSub, and_self, reduceCtorEq, decide_eq_true_eq, decide_eq_false_iff_not, eq_self, implies_true, exists_const, Option.isNone_some, Option.isNone_none, Option.isSome_some, Option.isSome_none, Option.getD_some, e6, h0]
      refine (Heap_ok C.D.self (a := a2) (b := b2) (by omega) (by omega) (by omega)).k ?_
      intro v g2 h2
      obtain ⟨ys, D2, R2, S2⟩ := h2
      simp (disch := omega) only [dm_t, wA, wB, wL, wW, wY, Int.fdiv_eq_ediv_of_nonneg, Int.tdiv_eq_ediv_of_nonneg, Int.tmod_eq_emod_of_nonneg, chk_pos, decT, decF, br_pos, br_neg, wX, ↓reduceIte, Nat.reduceEqDiff, Nat.reduceAdd, Nat.reduceSub, Nat.reduceMul, Nat.reduceLeDiff, Nat.reduceLT, Nat.reduceMod, Nat.reduceDiv, Int.reduceToNat, Nat.min_eq_left, IntKind.bits, Int.reducePow, Int.reduceLT, Int.reduceLE, Int.reduceEq, Int.reduceNe, Int.reduceAdd, Int.reduceSub, and_self, reduceCtorEq, decide_eq_true_eq, decide_eq_false_iff_not, eq_self, implies_true, exists_const, Option.isNone_some, Option.isNone_none, Option.isSome_some, Option.isSome_none, Option.getD_some]
      exact nr _ g2 ((C.rg ha hb2 D2 R2).all S2)
    cases w1 with
    | false =>
      simp (disch := omega) only [dm_t, wA, wB, wL, wW, wY, Int.fdiv_eq_ediv_of_nonneg, Int.tdiv_eq_ediv_of_nonneg, Int.tmod_eq_emod_of_nonneg, chk_pos, decT, decF, br_pos, br_neg, wX, ↓reduceIte, Nat.reduceEqDiff, Nat.reduceAdd, Nat.reduceSub, Nat.reduceMul, Nat.reduceLeDiff, Nat.reduceLT, Nat.reduceMod, Nat.reduceDiv, Int.reduceToNat, Nat.min_eq_left, IntKind.bits, Int.reducePow, Int.reduceLT, Int.reduceLE, Int.reduceEq, Int.reduceNe, Int.reduceAdd, Int.reduceSub, and_self, reduceCtorEq, decide_eq_true_eq, decide_eq_false_iff_not, eq_self, implies_true, exists_const, Option.isNone_some, Option.isNone_none, Option.isSome_some, Option.isSome_none, Option.getD_some, e6]
      refine (Brk_ok C.D.self (a := a2) (b := b2) (cv := lessV) (by omega) (by omega) (by omega)).k ?_
      intro v g2 h2
      obtain ⟨ys, D2, R2⟩ := h2
      have t := Pdq_s6 nr (n19 (lim2 - 1) (by omega) (by omega)) (n21 (lim2 - 1) (by omega) (by omega)) ih (by omega) (by omega) ha (by omega) hb2 hb hxl hd (w1 := false) (w2 := w2) (C.rg ha hb2 D2 R2)
      revert t
      simp (disch := omega) only [dm_t, wA, wB, wL, wW, wY, Int.fdiv_eq_ediv_of_nonneg, Int.tdiv_eq_ediv_of_nonneg, Int.tmod_eq_emod_of_nonneg, chk_pos, decT, decF, br_pos, br_neg, wX, ↓reduceIte, Nat.reduceEqDiff, Nat.reduceAdd, Nat.reduceSub, Nat.reduceMul, Nat.reduceLeDiff, Nat.reduceLT, Nat.reduceMod, Nat.reduceDiv, Int.reduceToNat, Nat.min_eq_left, IntKind.bits, Int.reducePow, Int.reduceLT, Int.reduceLE, Int.reduceEq, Int.reduceNe, Int.reduceAdd, Int.reduceSub, and_self, reduceCtorEq, decide_eq_true_eq, decide_eq_false_iff_not, eq_self, implies_true, exists_const, Option.isNone_some, Option.isNone_none, Option.isSome_some, Option.isSome_none, Option.getD_some]
      exact id
    | true =>
      have t := Pdq_s6 nr (n19 lim2 (by omega) (by omega)) (n21 lim2 (by omega) (by omega)) ih (by omega) (by omega) ha (by omega) hb2 hb hxl hd (w1 := true) (w2 := w2) C
      revert t
      simp (disch := omega) only [dm_t, wA, wB, wL, wW, wY, Int.fdiv_eq_ediv_of_nonneg, Int.tdiv_eq_ediv_of_nonneg, Int.tmod_eq_emod_of_nonneg, chk_pos, decT, decF, br_pos, br_neg, wX, ↓reduceIte, Nat.reduceEqDiff, Nat.reduceAdd, Nat.reduceSub, Nat.reduceMul, Nat.reduceLeDiff, Nat.reduceLT, Nat.reduceMod, Nat.reduceDiv, Int.reduceToNat, Nat.min_eq_left, IntKind.bits, Int.reducePow, Int.reduceLT, Int.reduceLE, Int.reduceEq, Int.reduceNe, Int.reduceAdd, Int.reduceSub, and_self, reduceCtorEq, decide_eq_true_eq, decide_eq_false_iff_not, eq_self, implies_true, exists_const, Option.isNone_some, Option.isNone_none, Option.isSome_some, Option.isSome_none, Option.getD_some, e6]
      exact id
end Go.Proofs.Ytojhnclkhiffkaa.so

/-
  sort: SortFunc.
-/
namespace Go.Proofs.Ytojhnclkhiffkaa.so
open Go.Proofs.Ytojhnclkhiffkaa
variable {PX : Cx Try.prog}
set_option linter.unusedVariables false
set_option linter.unusedSimpArgs false
theorem SortF_ok {h : H} {sv : Value} {xs : List Row} (d : DX h h sv xs) (hl : xs.length ≤ 134217727) (hd : Dist xs) :
    Ok PX 36 #[sv, lessV] h fun _ h' => ∃ ys, DX h h' sv ys ∧ ys.Perm xs ∧ Srt 0 xs.length ys := by
  obtain ⟨a, c, rfl⟩ := d.ow.s0.len
  refine c36_ok (args := [_, _]) (by simp) ?_
  simp (disch := omega) only [dm_t, wA, wB, wL, wW, wY, Int.fdiv_eq_ediv_of_nonneg, Int.tdiv_eq_ediv_of_nonneg, Int.tmod_eq_emod_of_nonneg, chk_pos, decT, decF, br_pos, br_neg, wX, ↓reduceIte, Nat.reduceEqDiff, Nat.reduceAdd, Nat.reduceSub, Nat.reduceMul, Nat.reduceLeDiff, Nat.reduceLT, Nat.reduceMod, Nat.reduceDiv, Int.reduceToNat, Nat.min_eq_left, IntKind.bits, Int.reducePow, Int.reduceLT, Int.reduceLE, Int.reduceEq, Int.reduceNe, Int.reduceAdd, Int.reduceSub, and_self, reduceCtorEq, decide_eq_true_eq, decide_eq_false_iff_not, eq_self, implies_true, exists_const, Option.isNone_some, Option.isNone_none, Option.isSome_some, Option.isSome_none, Option.getD_some]
  refine (Len_ok (n := xs.length) (by omega)).k ?_
  rintro _ _ ⟨⟨k, rfl, hk, _⟩, rfl⟩
  have t := Pdq_ih (PX := PX) (.slice a xs.length c) (xs.length + 1) 0 xs.length (k : Int) h xs (by omega) d (by omega) (Nat.le_refl _) hl (fun h => absurd h (by omega)) hd (by omega) (by omega)
  simp (disch := omega) only [dm_t, wA, wB, wL, wW, wY, Int.fdiv_eq_ediv_of_nonneg, Int.tdiv_eq_ediv_of_nonneg, Int.tmod_eq_emod_of_nonneg, chk_pos, decT, decF, br_pos, br_neg, wX, ↓reduceIte, Nat.reduceEqDiff, Nat.reduceAdd, Nat.reduceSub, Nat.reduceMul, Nat.reduceLeDiff, Nat.reduceLT, Nat.reduceMod, Nat.reduceDiv, Int.reduceToNat, Nat.min_eq_left, IntKind.bits, Int.reducePow, Int.reduceLT, Int.reduceLE, Int.reduceEq, Int.reduceNe, Int.reduceAdd, Int.reduceSub, and_self, reduceCtorEq, decide_eq_true_eq, decide_eq_false_iff_not, eq_self, implies_true, exists_const, Option.isNone_some, Option.isNone_none, Option.isSome_some, Option.isSome_none, Option.getD_some]
  refine t.k ?_
  intro v g hS
  obtain ⟨ys, D, R, S⟩ := hS
  simp (disch := omega) only [dm_t, wA, wB, wL, wW, wY, Int.fdiv_eq_ediv_of_nonneg, Int.tdiv_eq_ediv_of_nonneg, Int.tmod_eq_emod_of_nonneg, chk_pos, decT, decF, br_pos, br_neg, wX, ↓reduceIte, Nat.reduceEqDiff, Nat.reduceAdd, Nat.reduceSub, Nat.reduceMul, Nat.reduceLeDiff, Nat.reduceLT, Nat.reduceMod, Nat.reduceDiv, Int.reduceToNat, Nat.min_eq_left, IntKind.bits, Int.reducePow, Int.reduceLT, Int.reduceLE, Int.reduceEq, Int.reduceNe, Int.reduceAdd, Int.reduceSub, and_self, reduceCtorEq, decide_eq_true_eq, decide_eq_false_iff_not, eq_self, implies_true, exists_const, Option.isNone_some, Option.isNone_none, Option.isSome_some, Option.isSome_none, Option.getD_some]
  exact ⟨ys, D, R.perm, S⟩
end Go.Proofs.Ytojhnclkhiffkaa.so

/-
  The plain law of a run of boards: versions 1, 2, .., each writer's in its order.
-/
namespace Go.Proofs.Ytojhnclkhiffkaa.mk
open Go.Proofs.Ytojhnclkhiffkaa Go.Conc
set_option linter.unusedVariables false
set_option linter.unusedSimpArgs false
section
variable {n : Nat} {xss : Nat → List Int} {post : Value → H → Prop} {fin : Value → H → Prop} {γ : List Value}
theorem pos_of (h : (bpr n xss post fin).Hst e00 γ) : ∀ p v, γ[p]? = some v → (p = 0 ∧ v = e00) ∨ ∃ e, v = encE e ∧ e.ver = p := by
  induction h with
  | one =>
    intro p v hv
    cases p with
    | zero => simp at hv; exact .inl ⟨rfl, hv.symm⟩
    | succ p => simp at hv
  | snoc hg hok ih =>
    rename_i γ' v'
    obtain ⟨e, rfl, N⟩ := hok
    intro p v hv
    rcases Nat.lt_or_ge p γ'.length with hp | hp
    · rw [List.getElem?_append_left hp] at hv
      exact ih p v hv
    · rw [List.getElem?_append_right hp] at hv
      have hp' : p - γ'.length = 0 := by
        have := (List.getElem?_eq_some_iff.1 hv).1
        simp at this
        omega
      rw [hp'] at hv
      simp at hv
      subst hv
      refine .inr ⟨e, rfl, ?_⟩
      rw [N.ver]
      have := bh_len hg
      omega
theorem ver_uniq (h : (bpr n xss post fin).Hst e00 γ) {e e' : Ent} (h1 : encE e ∈ γ) (h2 : encE e' ∈ γ) (hv : e.ver = e'.ver) : e = e' := by
  have ne : ∀ e : Ent, encE e ≠ e00 := fun e he => by
    have := congrArg decE he
    rw [dec_enc] at this
    cases this
  obtain ⟨p, hp⟩ := List.getElem?_of_mem h1
  obtain ⟨q, hq⟩ := List.getElem?_of_mem h2
  rcases pos_of h p _ hp with ⟨_, a⟩ | ⟨e1, a, b⟩
  · exact absurd a (ne e)
  rcases pos_of h q _ hq with ⟨_, c⟩ | ⟨e2, c, d⟩
  · exact absurd c (ne e')
  have a' := enc_inj a
  have c' := enc_inj c
  subst a' c'
  have : p = q := by omega
  subst this
  rw [hp] at hq
  exact enc_inj (Option.some.inj hq)
theorem ownV_ne {k : Nat} {e : Ent} (h : e.k ≠ k) : ownV k (γ ++ [encE e]) = ownV k γ := by
  unfold ownV
  rw [List.filter_append, List.filter_cons_of_neg (by rw [byE_enc]; simpa using h)]
  simp
theorem ownV_at (h : (bpr n xss post fin).Hst e00 γ) : ∀ k t ver, 1 ≤ k → (ownV k γ)[t]? = some ver → ∃ e, encE e ∈ γ ∧ e.ver = ver ∧ e.k = k ∧ e.len = t + 1 := by
  induction h with
  | one =>
    intro k t ver hk hv
    have : byE e00 = 0 := rfl
    unfold ownV at hv
    rw [List.filter_cons_of_neg (by rw [this]; simp; omega)] at hv
    simp at hv
  | snoc hg hok ih =>
    rename_i γ' v'
    obtain ⟨e, rfl, N⟩ := hok
    intro k t ver hk hv
    by_cases he : e.k = k
    · rw [ownV_snoc he] at hv
      rcases Nat.lt_or_ge t (ownV k γ').length with ht | ht
      · rw [List.getElem?_append_left ht] at hv
        obtain ⟨e2, h1, h2⟩ := ih k t ver hk hv
        exact ⟨e2, List.mem_append_left _ h1, h2⟩
      · rw [List.getElem?_append_right ht] at hv
        have ht' : t - (ownV k γ').length = 0 := by
          have := (List.getElem?_eq_some_iff.1 hv).1
          simp at this
          omega
        rw [ht'] at hv
        simp at hv
        refine ⟨e, by simp, hv, he, ?_⟩
        rw [N.len, he, ← ownV_len]
        omega
    · rw [ownV_ne he] at hv
      obtain ⟨e2, h1, h2⟩ := ih k t ver hk hv
      exact ⟨e2, List.mem_append_left _ h1, h2⟩
def allV (γ : List Value) : Nat → List Nat
  | 0 => []
  | i + 1 => allV γ i ++ ownV (i + 1) γ
theorem allV_snoc {e : Ent} (h1 : 1 ≤ e.k) : ∀ i, (e.k ≤ i → (allV (γ ++ [encE e]) i).Perm (allV γ i ++ [e.ver])) ∧ (i < e.k → allV (γ ++ [encE e]) i = allV γ i)
  | 0 => ⟨fun h => by omega, fun _ => rfl⟩
  | i + 1 => by
    obtain ⟨h2, h3⟩ := allV_snoc (e := e) h1 i
    refine ⟨fun h => ?_, fun h => ?_⟩
    · by_cases he : e.k = i + 1
      · simp only [allV]
        rw [h3 (by omega), ownV_snoc he, List.append_assoc]
      · simp only [allV]
        rw [ownV_ne he]
        refine ((h2 (by omega)).append_right _).trans ?_
        rw [List.append_assoc, List.append_assoc]
        exact List.Perm.append_left _ List.perm_append_comm
    · simp only [allV]
      rw [h3 (by omega), ownV_ne (by omega)]
theorem allV_perm (h : (bpr n xss post fin).Hst e00 γ) : (allV γ n).Perm (List.range' 1 (verOf γ)) := by
  induction h with
  | one =>
    have : ∀ i, allV [e00] i = [] := by
      intro i
      induction i with
      | zero => rfl
      | succ i ih =>
        have : byE e00 = 0 := rfl
        simp only [allV, ih, List.nil_append]
        unfold ownV
        rw [List.filter_cons_of_neg (by rw [this]; simp)]; rfl
    rw [this]
    exact List.Perm.refl _
  | snoc hg hok ih =>
    obtain ⟨e, rfl, N⟩ := hok
    refine ((allV_snoc N.k1 n).1 N.kn).trans ?_
    rw [verOf_snoc, N.ver, List.range'_concat]
    refine (ih.append_right _).trans ?_
    rw [Nat.one_mul, Nat.add_comm 1]
end
/-- Rows of what the writers answered. -/
def outR (vw : Nat → List Nat) (lw : Nat → List Value) : Nat → List (List Rw)
  | 0 => []
  | i + 1 => outR vw lw i ++ [rowsV (vw i) (lw i)]
theorem outR_len (vw : Nat → List Nat) (lw : Nat → List Value) : ∀ i, (outR vw lw i).length = i
  | 0 => rfl
  | i + 1 => by simp [outR, outR_len vw lw i]
theorem outR_at (vw : Nat → List Nat) (lw : Nat → List Value) : ∀ i j (hj : j < (outR vw lw i).length), (outR vw lw i)[j] = rowsV (vw j) (lw j)
  | 0, j, hj => by simp [outR] at hj
  | i + 1, j, hj => by
    have ih := outR_at vw lw i
    rcases Nat.lt_or_ge j i with h | h
    · have h' : j < (outR vw lw i).length := by rw [outR_len]; exact h
      simp only [outR]
      rw [List.getElem_append_left h']
      exact ih j h'
    · have : j = i := by rw [outR_len] at hj; omega
      subst this
      simp only [outR]
      rw [List.getElem_append_right (by rw [outR_len]; exact Nat.le_refl _)]
      simp [outR_len]
theorem outR_mem {vw : Nat → List Nat} {lw : Nat → List Value} {i : Nat} {r : Rw} (h : r ∈ (outR vw lw i).flatten) : ∃ (j t ver : Nat) (l : Value), j < i ∧ (vw j)[t]? = some ver ∧ (lw j)[t]? = some l ∧ r = [.int .i64 (ver : Int), l] := by
  obtain ⟨rs, h1, h2⟩ := List.mem_flatten.1 h
  obtain ⟨j, hj, rfl⟩ := List.getElem_of_mem h1
  rw [outR_at] at h2
  obtain ⟨t, ht, rfl⟩ := List.getElem_of_mem h2
  unfold rowsV at ht ⊢
  rw [List.length_zipWith] at ht
  refine ⟨j, t, (vw j)[t]'(by omega), (lw j)[t]'(by omega), by rw [outR_len] at hj; exact hj, List.getElem?_eq_getElem _, List.getElem?_eq_getElem _, ?_⟩
  rw [List.getElem_zipWith]
theorem outR_tot {vw : Nat → List Nat} {lw : Nat → List Value} {xss : Nat → List Int} : ∀ i, (∀ j, j < i → (vw j).length = (xss j).length ∧ (lw j).length = (xss j).length) → tot (outR vw lw i) = sumL xss i
  | 0, _ => rfl
  | i + 1, h => by
    have ih := outR_tot (vw := vw) (lw := lw) i fun j hj => h j (by omega)
    obtain ⟨h1, h2⟩ := h i (by omega)
    simp only [outR, tot_append, ih, tot, sumL]
    rw [rowsV_len (by rw [h1, h2]), h1]
    omega
def begN (r : Rw) : Nat := (so.beg r).toNat
theorem outR_beg {vw : Nat → List Nat} {lw : Nat → List Value} {γ : List Value} : ∀ i, (∀ j, j < i → (vw j).length = (lw j).length ∧ ownV (j + 1) γ = vw j) → (outR vw lw i).flatten.map begN = allV γ i
  | 0, _ => rfl
  | i + 1, h => by
    have ih := outR_beg (vw := vw) (lw := lw) (γ := γ) i fun j hj => h j (by omega)
    obtain ⟨h1, h2⟩ := h i (by omega)
    simp only [outR, List.flatten_append, List.map_append, ih, allV, h2]
    congr 1
    simp only [List.flatten_cons, List.flatten_nil, List.append_nil]
    apply List.ext_getElem
    · rw [List.length_map, rowsV_len h1]
    · intro t a b
      rw [List.getElem_map]
      unfold rowsV
      rw [List.getElem_zipWith]
      simp [begN, so.beg, so.begV]
end Go.Proofs.Ytojhnclkhiffkaa.mk

/-
  Boards, walked.
-/
namespace Go.Proofs.Ytojhnclkhiffkaa.mk
open Go.Proofs.Ytojhnclkhiffkaa Go.Conc
set_option linter.unusedVariables false
set_option linter.unusedSimpArgs false
section
variable {n : Nat} {xss : Nat → List Int} {fin : Value → H → Prop}
/-- What a run of boards leaves. -/
structure BdEnd (n : Nat) (xss : Nat → List Int) (fin : Value → H → Prop) (A B Wg m looks : Nat) (γ us vs : List Value) (vw : Nat → List Nat) (lw : Nat → List Value) (vr : Nat → List Nat) (lr : Nat → List Value) (h' : H) : Prop where
  wg : h' Wg = some (nG (bpr n xss bpost fin) 9 0 [])
  hst : (bpr n xss bpost fin).Hst e00 γ
  a : h' A = some (.cells us.toArray 67)
  la : us.length = n
  b : h' B = some (.cells vs.toArray 67)
  lb : vs.length = m
  w : ∀ i, i < n → ∃ u, us[i]? = some u ∧ SlK 2 nos h' u (rowsV (vw i) (lw i)) ∧ (vw i).length = (xss i).length ∧ (lw i).length = (xss i).length ∧ ownV (i + 1) γ = vw i ∧ ∀ (t : Nat) (l : Value), (lw i)[t]? = some l → SlX 2 h' l (((xss i).take (t + 1)).map (.int .i64))
  r : ∀ j, j < m → ∃ u, vs[j]? = some u ∧ SlK 2 nos h' u (rowsV (vr j) (lr j)) ∧ (vr j).length = looks ∧ (lr j).length = looks ∧ (∀ (t : Nat) (l : Value) (ver : Nat), (lr j)[t]? = some l → (vr j)[t]? = some ver → ∃ xs, SlX 2 h' l xs ∧ Said γ ver xs) ∧ chain 0 (ints (vr j))
theorem BdEnd.ext {A B Wg m looks : Nat} {γ us vs : List Value} {vw : Nat → List Nat} {lw : Nat → List Value} {vr : Nat → List Nat} {lr : Nat → List Value} {h h' : H} (X : BdEnd n xss fin A B Wg m looks γ us vs vw lw vr lr h) (e : Ext h h') : BdEnd n xss fin A B Wg m looks γ us vs vw lw vr lr h' :=
  ⟨e.at X.wg, X.hst, e.at X.a, X.la, e.at X.b, X.lb, fun i hi => let ⟨u, h1, h2, h3, h4, h5, h6⟩ := X.w i hi; ⟨u, h1, h2.ext e, h3, h4, h5, fun t l hl => (h6 t l hl).fr e fun _ _ _ h => h⟩,
    fun j hj => let ⟨u, h1, h2, h3, h4, h5, h6⟩ := X.r j hj; ⟨u, h1, h2.ext e, h3, h4, fun t l ver hl hv => let ⟨xs, k1, k2⟩ := h5 t l ver hl hv; ⟨xs, k1.fr e fun _ _ _ h => h, k2⟩, h6⟩⟩
theorem owk_there {O : Nat → Prop} {x h' : H} {E : TypeId} {v : Value} {rows : List (List Value)} {k : Nat} (o : OwK k O x E v rows) (hc : ∀ b c fr, x b = some (.cells c E fr) → ∃ fr', h' b = some (.cells c E fr')) : SlK k nos h' v rows := by
  obtain ⟨hr, ⟨rfl, h1⟩ | ⟨b, oo, cp, c, fr, h1, h2, h3, h4, h5, h6, h7⟩⟩ := o
  · exact ⟨hr, .inl ⟨_, rfl, h1⟩⟩
  · obtain ⟨fr', h8⟩ := hc _ _ _ h2
    exact ⟨hr, .inr ⟨b, oo, cp, c, E, fr', h1, h8, h3, h4, h5, fun h => h⟩⟩
theorem bd_behind {h3 h' : H} {hs : List H} {A B Wg M m looks : Nat}
    (X : Behind (bpr n xss bpost fin) h3 A B Wg M 67 67 n m e00 (fun i k => encBW i k A n M (xss i)) (fun j k => encBR j k B m M looks) hs h') :
    ∃ γ us vs vw lw vr lr, BdEnd n xss fin A B Wg m looks γ us vs vw lw vr lr h' := by
  obtain ⟨γ, m1, m2, m3, m4, m5⟩ := X.fm
  obtain ⟨us, a1, a2, a3⟩ := X.fa
  obtain ⟨vs, b1, b2, b3⟩ := X.fb
  have at_ : ∀ i, i < n + m → ∃ x, hs[i]? = some x := fun i hi => ⟨hs[i]'(by rw [X.len]; exact hi), List.getElem?_eq_getElem _⟩
  have W : ∀ i, i < n → ∃ p : List Nat × List Value, ∃ u, us.toList[i]? = some u ∧ SlK 2 nos h' u (rowsV p.1 p.2) ∧ p.1.length = (xss i).length ∧ p.2.length = (xss i).length ∧ ownV (i + 1) γ = p.1 ∧ ∀ (t : Nat) (l : Value), p.2[t]? = some l → SlX 2 h' l (((xss i).take (t + 1)).map (.int .i64)) := by
    intro i hi
    obtain ⟨x, hx⟩ := at_ i (by omega)
    obtain ⟨γ', vers, ls, u, L⟩ := bpost_W (X.p1 i x hi hx)
    have hmem : x ∈ hs := List.mem_of_getElem? hx
    have he := m5 i x hx γ' L.mm
    refine ⟨(vers, ls), u, by rw [Array.getElem?_toList]; exact a3 x i u hmem L.aa, owk_there L.o fun b c fr hb => X.kid x b c _ fr hmem hb (by show (_ : Nat) ≠ 99; decide), L.lv, L.ll, by rw [ownV_ext he, L.own], fun t l hl => ?_⟩
    rcases L.lst t l hl with k | ⟨b, cp, c, k1, k2, k3⟩
    · exact .inl k
    · exact .inr ⟨b, cp, c, k1, X.kid0 x b c _ hmem k2 (by show (_ : Nat) ≠ 99; decide), k3⟩
  have R : ∀ j, j < m → ∃ p : List Nat × List Value, ∃ u, vs.toList[j]? = some u ∧ SlK 2 nos h' u (rowsV p.1 p.2) ∧ p.1.length = looks ∧ p.2.length = looks ∧ (∀ (t : Nat) (l : Value) (ver : Nat), p.2[t]? = some l → p.1[t]? = some ver → ∃ xs, SlX 2 h' l xs ∧ Said γ ver xs) ∧ chain 0 (ints p.1) := by
    intro j hj
    obtain ⟨x, hx⟩ := at_ (n + j) (by omega)
    obtain ⟨γ', vers, ls, u, L⟩ := bpost_R (X.p2 j x hj hx)
    have hmem : x ∈ hs := List.mem_of_getElem? hx
    have he := m5 (n + j) x hx γ' L.mm
    refine ⟨(vers, ls), u, by rw [Array.getElem?_toList]; exact b3 x j u hmem L.aa, owk_there L.o fun b c fr hb => X.kid x b c _ fr hmem hb (by show (_ : Nat) ≠ 99; decide), L.lv, L.ll, fun t l ver hl hv => ?_, L.ch⟩
    obtain ⟨xs, k0, ks⟩ := L.lst t l ver hl hv
    refine ⟨xs, ?_, ks.grow (let ⟨r, h, _⟩ := he; ⟨r, h⟩)⟩
    rcases k0 with k | ⟨b, cp, c, k1, k2, k3⟩
    · exact .inl k
    · exact .inr ⟨b, cp, c, k1, X.kid0 x b c _ hmem k2 (by show (_ : Nat) ≠ 99; decide), k3⟩
  obtain ⟨fw, hfw⟩ := skol W
  obtain ⟨fr, hfr⟩ := skol R
  exact ⟨γ, us.toList, vs.toList, fun i => (fw i).1, fun i => (fw i).2, fun i => (fr i).1, fun i => (fr i).2, ⟨X.wg, m2, a1, by simpa using a2, b1, by simpa using b2, hfw, hfr⟩⟩
/-- What 'all' leaves of a run of boards. -/
def BdQ (n : Nat) (xss : Nat → List Int) (fin : Value → H → Prop) (h0 g : H) (m looks A B M Bv S1 S2 sb0 : Nat) (h' : H) : Prop :=
  ∃ Wg γ us vs vw lw vr lr, BdEnd n xss fin A B Wg m looks γ us vs vw lw vr lr h' ∧ h' S1 = some (.cells #[.slice (some ⟨A, 0, none⟩) n n] 66) ∧ h' S2 = some (.cells #[.slice (some ⟨B, 0, none⟩) m m] 66) ∧
    (∀ b o, h0 b = some o → ∃ c E fr, o = .cells c E (roF c) ∧ h' b = some (.cells c E fr)) ∧ ∀ b c E, g b = some (.cells c E) → b ≠ A → b ≠ B → b ≠ M → b ≠ Bv → b ≠ S1 → b ≠ S2 → b ≠ sb0 → h' b = some (.cells c E)
theorem Bd_all {h0 g : H} {a : Option Addr} {c m looks sb0 M Bv S1 S2 A B : Nat} {ws : List Value} (hE : Ext h0 g) (hp : allP g) (hro : ∀ b o, h0 b = some o → ∃ c E, o = .cells c E (roF c)) (hW : Sl h0 (.slice a n c) ws) (hn : ws.length = n)
    (hrow : ∀ i (hi : i < ws.length), Sl h0 ws[i] ((xss i).map (.int .i64)) ∧ (xss i).length ≤ 17592186044416) (hb : ¬ Bad n m looks) (hbig : sumL xss n ≤ 1099511627776) (hrows : ∀ i, i < n → (xss i).length ≤ 1099511627776)
    (q1 : g sb0 = some (.cells #[.slice a n c, .int .i64 m, .int .i64 looks] 56)) (q3 : g M = some (boardO none)) (q5 : g Bv = some (.cells #[.pointer (some ⟨M, 0, none⟩)] 37))
    (qA : g A = some (.cells (Builtin.zeroCells #[.slice none 0 0] n) 67)) (qB : g B = some (.cells (Builtin.zeroCells #[.slice none 0 0] m) 67)) (qS1 : g S1 = some (.cells #[.slice (some ⟨A, 0, none⟩) n n] 66)) (qS2 : g S2 = some (.cells #[.slice (some ⟨B, 0, none⟩) m m] 66)) (hAB : A ≠ B) (hSS : S1 ≠ S2) :
    Ok (CM (bpr n xss bpost fin) Try.prog) 30 #[.agg #[.slice a n c, .int .i64 m, .int .i64 looks], .func (.func 33) #[] #[.pointer (some ⟨sb0, 0, none⟩), .pointer (some ⟨Bv, 0, none⟩), .pointer (some ⟨S1, 0, none⟩)], .func (.func 34) #[] #[.pointer (some ⟨sb0, 0, none⟩), .pointer (some ⟨Bv, 0, none⟩), .pointer (some ⟨S2, 0, none⟩)]] g
      fun _ h' => BdQ n xss fin h0 g m looks A B M Bv S1 S2 sb0 h' := by
  unfold Bad at hb
  have hml : looks ≤ 65536 := by omega
  refine all_ok (sf := [.slice a n c, .int .i64 m, .int .i64 looks]) rfl rfl ?_
  intro sb w1 w2 Wg f_sb f_w1 f_w2 f_Wg n1 n2 n3 n4 n5 n6
  generalize hcA : Builtin.zeroCells #[Value.slice none 0 0] n = cA at qA
  have sA : cA.size = n := hcA ▸ zc_size n
  have tA : ∀ i, i < n → cA[i]? = some (.slice none 0 0) := fun i hi => hcA ▸ zc_at hi
  generalize hcB : Builtin.zeroCells #[Value.slice none 0 0] m = cB at qB
  have sB : cB.size = m := hcB ▸ zc_size m
  have tB : ∀ i, i < m → cB[i]? = some (.slice none 0 0) := fun i hi => hcB ▸ zc_at hi
  have n7 := ne_of q1 f_sb
  generalize hH : hupd (hupd (hupd (hupd g sb _) w1 _) w2 _) Wg _ = H0
  have kW : H0 Wg = some (.cells #[.int .u64 0, .int .u32 0] 99) := by rw [← hH, hupd_same]
  have k2 : H0 w2 = some (.cells #[.func (.func 34) #[] #[.pointer (some ⟨sb0, 0, none⟩), .pointer (some ⟨Bv, 0, none⟩), .pointer (some ⟨S2, 0, none⟩)]] 80) := by rw [← hH, hupd_ne _ _ n6.symm, hupd_same]
  have k1 : H0 w1 = some (.cells #[.func (.func 33) #[] #[.pointer (some ⟨sb0, 0, none⟩), .pointer (some ⟨Bv, 0, none⟩), .pointer (some ⟨S1, 0, none⟩)]] 80) := by rw [← hH, hupd_ne _ _ n5.symm, hupd_ne _ _ n3.symm, hupd_same]
  have ks : H0 sb = some (.cells #[.slice a n c, .int .i64 m, .int .i64 looks] 56) := by rw [← hH, hupd_ne _ _ n4.symm, hupd_ne _ _ n2.symm, hupd_ne _ _ n1.symm, hupd_same]
  have eH : Ext g H0 := fun x o hx _ => by rw [← hH, hupd_ne _ _ (ne_of hx f_Wg), hupd_ne _ _ (ne_of hx f_w2), hupd_ne _ _ (ne_of hx f_w1), hupd_ne _ _ (ne_of hx f_sb), hx]
  have pH : allP H0 := hH ▸ allP_upd (allP_upd (allP_upd (allP_upd hp (pl_cells _ _ _)) (pl_cells _ _ _)) (pl_cells _ _ _)) (pl_cells _ _ _)
  clear hH
  replace q1 := eH.at q1; replace q3 := eH.at q3; replace q5 := eH.at q5; replace qA := eH.at qA; replace qB := eH.at qB; replace qS1 := eH.at qS1; replace qS2 := eH.at qS2
  replace hE := hE.trans eH
  have hnd : (Wg :: M :: A :: B :: [sb, w1, w2, sb0, S1, S2, Bv]).Nodup := by
    simp only [List.nodup_cons, List.mem_cons, List.not_mem_nil, or_false, not_or, not_false_eq_true, List.nodup_nil, and_true]
    repeat' refine And.intro ?_ ?_
    all_goals first | assumption | exact Ne.symm (by assumption) | exact ne_ty (by assumption) (by assumption) (by decide)
  obtain ⟨h3, gh, gW, gM, gA, gB, gL, gO⟩ := gh_make (pr := bpr n xss bpost fin) (e0 := e00) hnd pH kW q3 (fun _ => rfl) rfl qA qB (by
    intro b hb
    simp only [List.mem_cons, List.not_mem_nil, or_false] at hb
    rcases hb with rfl | rfl | rfl | rfl | rfl | rfl | rfl
    all_goals exact ⟨_, _, by assumption⟩)
  have gs := gL _ _ _ (by simp) ks
  have g1 := gL _ _ _ (by simp) k1
  have g2 := gL _ _ _ (by simp) k2
  have gs0 := gL _ _ _ (by simp) q1
  have gS1 := gL _ _ _ (by simp) qS1
  have gS2 := gL _ _ _ (by simp) qS2
  have gV := gL _ _ _ (by simp) q5
  have base : ∀ b o, h0 b = some o → ∃ c E, o = .cells c E (roF c) ∧ h3 b = some (.cells c E (roF c)) ∧ b ≠ Wg ∧ b ≠ A ∧ b ≠ B := by
    intro b o hb0
    obtain ⟨c, E, rfl⟩ := hro b o hb0
    have hb1 := hE.at hb0
    refine ⟨c, E, rfl, ?_, ne_ro hb1 kW, ne_ro hb1 qA, ne_ro hb1 qB⟩
    rw [gO, hb1]
    simp only [List.mem_cons, List.not_mem_nil, or_false, not_or]
    repeat' refine And.intro ?_ ?_
    all_goals exact ne_ro hb1 (by assumption)
  rw [sA] at gA
  rw [sB] at gB
  have AM := ne_ty qA q3 (by decide)
  have BM := ne_ty qB q3 (by decide)
  have AW := ne_ty qA kW (by decide)
  have BW := ne_ty qB kW (by decide)
  have MW := ne_ty q3 kW (by decide)
  refine ⟨n, m, _, h3, gh, givs_of (EA := 67) (EB := 67) (e0 := e00) (e1 := fun i k => encBW i k A n M (xss i)) (e2 := fun j k => encBR j k B m M looks) gs gA gB gM gW hAB tA tB (by omega) ?_ ?_ ?_, ?_, ?_, fun h => absurd rfl h⟩
  · intro i ib hi hib
    have kr : ∀ {X c E fr}, h3 X = some (.cells c E fr) → isRo c fr → kidH (bpr n xss bpost fin) h3 A B Wg M ib 67 n (.slice none 0 0) e00 i (i + 1) (encBW i (i + 1) A n M (xss i)) X = some (.cells c E fr) := fun hx hr => kid_ro gA gB gM gW hib hx hr
    have sl : ∀ {v xs}, Sl h0 v xs → Sl (kidH (bpr n xss bpost fin) h3 A B Wg M ib 67 n (.slice none 0 0) e00 i (i + 1) (encBW i (i + 1) A n M (xss i))) v xs := by
      rintro v xs (s | ⟨b, o, cp, c, E, fr, s1, s2, s3⟩)
      · exact .inl s
      · obtain ⟨c', E', e1, e2, _⟩ := base _ _ s2
        cases e1
        exact .inr ⟨b, o, cp, c, E, _, s1, kr e2 (isRo_roF _), s3⟩
    have iW : ib ≠ Wg := (ne_of gW hib).symm
    refine bwchild (R := sb0) (S := S1) (Bv := Bv) (A := A) (M := M) (i := i) (m := n) (k := i + 1) (ws := ws) (row := xss i) kid_wg ?_ (kid_ib iW) (kr gs0 (isRo_roO _)) (kr gS1 (isRo_roO _)) (kr gV (isRo_roO _)) (kid_a AW (ne_of gA hib)) (kid_m MW (ne_of gM hib) AM.symm BM.symm) (by omega) (by omega) rfl hi (sl hW) (by omega) (sl (hrow i (by omega)).1) hbig hrows ⟨AW.symm, MW.symm, (ne_of gA hib).symm, (ne_of gM hib).symm⟩
    rw [cellAt_of (kr g1 (isRo_roO _))]; rfl
  · intro j ib hj hib
    have kr : ∀ {X c E fr}, h3 X = some (.cells c E fr) → isRo c fr → kidH (bpr n xss bpost fin) h3 B A Wg M ib 67 m (.slice none 0 0) e00 j (n + j + 1) (encBR j (n + j + 1) B m M looks) X = some (.cells c E fr) := fun hx hr => kid_ro gB gA gM gW hib hx hr
    have iW : ib ≠ Wg := (ne_of gW hib).symm
    refine brchild (R := sb0) (S := S2) (Bv := Bv) (A := B) (M := M) (i := j) (m := m) (k := n + j + 1) (looks := looks) kid_wg ?_ (kid_ib iW) (kr gs0 (isRo_roO _)) (kr gS2 (isRo_roO _)) (kr gV (isRo_roO _)) (kid_a BW (ne_of gB hib)) (kid_m MW (ne_of gM hib) BM.symm AM.symm) hj (by omega) hbig hrows ⟨BW.symm, MW.symm, (ne_of gB hib).symm, (ne_of gM hib).symm⟩
    rw [cellAt_of (kr g2 (isRo_roO _))]; rfl
  · intro hs h' X
    obtain ⟨γ, us, vs, vw, lw, vr, lr, hE'⟩ := bd_behind X
    refine ⟨Wg, γ, us, vs, vw, lw, vr, lr, hE', ?_, ?_, ?_, ?_⟩
    · exact X.opn _ _ _ gS1 (ne_ty qS1 kW (by decide)) (ne_ty qS1 qA (by decide)) (ne_ty qS1 qB (by decide))
    · exact X.opn _ _ _ gS2 (ne_ty qS2 kW (by decide)) (ne_ty qS2 qA (by decide)) (ne_ty qS2 qB (by decide))
    · intro b o hb0
      obtain ⟨c, E, rfl, h1, h2, h3', h4⟩ := base b o hb0
      obtain ⟨fr', h5⟩ := X.ro _ _ _ _ h1 (isRo_roF _) h2 h3' h4
      exact ⟨c, E, fr', rfl, h5⟩
    · intro b c E hb0 b1 b2 b3 b4 b5 b6 b7
      have hb1 := eH.at hb0
      refine X.own _ _ _ ?_ (ne_of hb0 f_Wg) b1 b2
      rw [gO, hb1]
      simp only [List.mem_cons, List.not_mem_nil, or_false, not_or]
      exact ⟨ne_of hb0 f_Wg, b3, b1, b2, ne_of hb0 f_sb, ne_of hb0 f_w1, ne_of hb0 f_w2, b7, b5, b6, b4⟩
  · funext b
    unfold stH hupd
    by_cases b1 : b = Wg
    · subst b1; rw [if_pos rfl, gW]
    rw [if_neg b1]
    by_cases b2 : b = B
    · subst b2; rw [if_pos rfl, gB]
    rw [if_neg b2]
    by_cases b3 : b = A
    · subst b3; rw [if_pos rfl, gA]
    rw [if_neg b3]
  · rfl
end
end Go.Proofs.Ytojhnclkhiffkaa.mk

/-
  Boards, walked whole.
-/
namespace Go.Proofs.Ytojhnclkhiffkaa.mk
open Go.Proofs.Ytojhnclkhiffkaa Go.Conc
set_option linter.unusedVariables false
set_option linter.unusedSimpArgs false
theorem Boards_no {PX : Cx Try.prog} {h : H} {a : Option Addr} {n c : Nat} {r k : Int} (hn : n ≤ 17592186044416) (hb : Bad n r k) : Ok PX 21 #[.agg #[.slice a n c, .int .i64 r, .int .i64 k]] h fun v h' => v = .tuple #[.slice none 0 0, .slice none 0 0, .int .i64 2] ∧ Ext h h' := by
  refine c21_ok (args := [_]) (by simp) ?_
  simp (disch := omega) only [dm_t, wA, wB, wL, wW, wY, Int.fdiv_eq_ediv_of_nonneg, Int.tdiv_eq_ediv_of_nonneg, Int.tmod_eq_emod_of_nonneg, chk_pos, decT, decF, br_pos, br_neg, wX, ↓reduceIte, Nat.reduceEqDiff, Nat.reduceAdd, Nat.reduceSub, Nat.reduceMul, Nat.reduceLeDiff, Nat.reduceLT, Nat.reduceMod, Nat.reduceDiv, Int.reduceToNat, Nat.min_eq_left, IntKind.bits, Int.reducePow, Int.reduceLT, Int.reduceLE, Int.reduceEq, Int.reduceNe, Int.reduceAdd, Int.reduceSub, and_self, reduceCtorEq, decide_eq_true_eq, decide_eq_false_iff_not, eq_self, implies_true, exists_const, Option.isNone_some, Option.isNone_none, Option.isSome_some, Option.isSome_none, Option.getD_some]
  intro b hb'
  generalize hG : hupd h b _ = g1
  obtain ⟨e1, q1⟩ := new_ext hG hb'
  clear hG
  simp (disch := omega) only [dm_t, wA, wB, wL, wW, wY, Int.fdiv_eq_ediv_of_nonneg, Int.tdiv_eq_ediv_of_nonneg, Int.tmod_eq_emod_of_nonneg, chk_pos, decT, decF, br_pos, br_neg, wX, ↓reduceIte, Nat.reduceEqDiff, Nat.reduceAdd, Nat.reduceSub, Nat.reduceMul, Nat.reduceLeDiff, Nat.reduceLT, Nat.reduceMod, Nat.reduceDiv, Int.reduceToNat, Nat.min_eq_left, IntKind.bits, Int.reducePow, Int.reduceLT, Int.reduceLE, Int.reduceEq, Int.reduceNe, Int.reduceAdd, Int.reduceSub, and_self, reduceCtorEq, decide_eq_true_eq, decide_eq_false_iff_not, eq_self, implies_true, exists_const, Option.isNone_some, Option.isNone_none, Option.isSome_some, Option.isSome_none, Option.getD_some, cellsAt_all q1 3 rfl]
  refine (right_no hn hb).k ?_
  rintro _ g3 ⟨rfl, e3⟩
  simp (disch := omega) only [dm_t, wA, wB, wL, wW, wY, Int.fdiv_eq_ediv_of_nonneg, Int.tdiv_eq_ediv_of_nonneg, Int.tmod_eq_emod_of_nonneg, chk_pos, decT, decF, br_pos, br_neg, wX, ↓reduceIte, Nat.reduceEqDiff, Nat.reduceAdd, Nat.reduceSub, Nat.reduceMul, Nat.reduceLeDiff, Nat.reduceLT, Nat.reduceMod, Nat.reduceDiv, Int.reduceToNat, Nat.min_eq_left, IntKind.bits, Int.reducePow, Int.reduceLT, Int.reduceLE, Int.reduceEq, Int.reduceNe, Int.reduceAdd, Int.reduceSub, and_self, reduceCtorEq, decide_eq_true_eq, decide_eq_false_iff_not, eq_self, implies_true, exists_const, Option.isNone_some, Option.isNone_none, Option.isSome_some, Option.isSome_none, Option.getD_some]
  exact e1.trans e3
section
variable {n : Nat} {xss : Nat → List Int} {fin : Value → H → Prop}
def BoP (n : Nat) (xss : Nat → List Int) (fin : Value → H → Prop) (h0 hc : H) (m looks : Nat) (v : Value) (h' : H) : Prop :=
  ∃ A B Wg γ us vs vw lw vr lr out ys, v = .tuple #[.slice (some ⟨B, 0, none⟩) m m, out, .int .i64 0] ∧ BdEnd n xss fin A B Wg m looks γ us vs vw lw vr lr h' ∧ SlK 2 nos h' out ys ∧ ys.Perm (outR vw lw n).flatten ∧ so.Srt 0 ys.length ys ∧
    (∀ b o, h0 b = some o → ∃ c E fr, o = .cells c E (roF c) ∧ h' b = some (.cells c E fr)) ∧ ∀ b c E, hc b = some (.cells c E) → h' b = some (.cells c E)
theorem rows_good {A B Wg m looks : Nat} {γ us vs : List Value} {vw : Nat → List Nat} {lw : Nat → List Value} {vr : Nat → List Nat} {lr : Nat → List Value} {h' : H} (X : BdEnd n xss fin A B Wg m looks γ us vs vw lw vr lr h') (hbig : sumL xss n ≤ 134217727) :
    (∀ r ∈ (outR vw lw n).flatten, so.Good r) ∧ so.Dist (outR vw lw n).flatten ∧ (outR vw lw n).flatten.length = sumL xss n ∧ (outR vw lw n).flatten.map begN = allV γ n ∧ verOf γ = sumL xss n := by
  have hlen : ∀ j, j < n → (vw j).length = (xss j).length ∧ (lw j).length = (xss j).length := fun j hj => by
    obtain ⟨u, _, _, h1, h2, _⟩ := X.w j hj
    exact ⟨h1, h2⟩
  have hbeg := outR_beg (vw := vw) (lw := lw) (γ := γ) n fun j hj => by
    obtain ⟨u, _, _, h1, h2, h3, _⟩ := X.w j hj
    exact ⟨by rw [h1, h2], h3⟩
  have hperm := allV_perm X.hst
  have htot : (outR vw lw n).flatten.length = sumL xss n := by rw [tot_flat, outR_tot n hlen]
  have hver : verOf γ = sumL xss n := by
    have := hperm.length_eq
    rw [← hbeg, List.length_map, htot, List.length_range'] at this
    exact this.symm
  have hnn : ∀ r ∈ (outR vw lw n).flatten, 0 ≤ so.beg r ∧ so.beg r ≤ 134217727 ∧ so.Good r := by
    intro r hr
    obtain ⟨j, t, ver, l, h1, h2, h3, rfl⟩ := outR_mem hr
    have hm : ver ∈ allV γ n := by
      rw [← hbeg]
      exact List.mem_map.2 ⟨_, hr, by simp [begN, so.beg, so.begV]⟩
    have hm2 := hperm.subset hm
    rw [List.mem_range'] at hm2
    obtain ⟨i, hi, rfl⟩ := hm2
    obtain ⟨u, _, _, _, _, _, h6⟩ := X.w j h1
    have hcl := (h6 t l h3).cell
    have hbe : so.beg [Value.int .i64 ((1 + 1 * i : Nat) : Int), l] = ((1 + 1 * i : Nat) : Int) := rfl
    refine ⟨by rw [hbe]; omega, by rw [hbe]; omega, ⟨rfl, ?_, rfl, by rw [hbe]; omega, by rw [hbe]; omega⟩⟩
    show (isCell _ && (isCell l && true)) = true
    rw [hcl]; rfl
  refine ⟨fun r hr => (hnn r hr).2.2, ?_, htot, hbeg, hver⟩
  have hnd : ((outR vw lw n).flatten.map begN).Nodup := by
    rw [hbeg]
    exact hperm.nodup_iff.2 (List.nodup_range' (step := 1))
  rw [List.Nodup, List.pairwise_map] at hnd
  refine List.Pairwise.imp_of_mem (fun {r s} hr hs hne => ?_) hnd
  have h1 := (hnn r hr).1
  have h2 := (hnn s hs).1
  unfold so.lt
  unfold begN at hne
  omega
theorem Boards_ok {h0 h : H} {a : Option Addr} {c m looks : Nat} {ws : List Value} (hE : Ext h0 h) (hp : allP h) (hro : ∀ b o, h0 b = some o → ∃ c E, o = .cells c E (roF c)) (hW : Sl h0 (.slice a n c) ws) (hn : ws.length = n)
    (hrow : ∀ i (hi : i < ws.length), Sl h0 ws[i] ((xss i).map (.int .i64)) ∧ (xss i).length ≤ 17592186044416) (hb : ¬ Bad n m looks) (hbig : sumL xss n ≤ 134217727) (hrows : ∀ i, i < n → (xss i).length ≤ 1099511627776) :
    Ok (CM (bpr n xss bpost fin) Try.prog) 21 #[.agg #[.slice a n c, .int .i64 (m : Int), .int .i64 (looks : Int)]] h (BoP n xss fin h0 h m looks) := by
  refine c21_ok (args := [_]) (by simp) ?_
  have hb0 := hb
  unfold Bad at hb
  simp (disch := omega) only [dm_t, wA, wB, wL, wW, wY, Int.fdiv_eq_ediv_of_nonneg, Int.tdiv_eq_ediv_of_nonneg, Int.tmod_eq_emod_of_nonneg, chk_pos, decT, decF, br_pos, br_neg, wX, ↓reduceIte, Nat.reduceEqDiff, Nat.reduceAdd, Nat.reduceSub, Nat.reduceMul, Nat.reduceLeDiff, Nat.reduceLT, Nat.reduceMod, Nat.reduceDiv, Int.reduceToNat, Nat.min_eq_left, IntKind.bits, Int.reducePow, Int.reduceLT, Int.reduceLE, Int.reduceEq, Int.reduceNe, Int.reduceAdd, Int.reduceSub, and_self, reduceCtorEq, decide_eq_true_eq, decide_eq_false_iff_not, eq_self, implies_true, exists_const, Option.isNone_some, Option.isNone_none, Option.isSome_some, Option.isSome_none, Option.getD_some]
  intro sb0 hsb0
  generalize hG : hupd h sb0 _ = g1
  obtain ⟨e1, q1⟩ := new_ext hG hsb0
  have p1 : allP g1 := hG ▸ allP_upd hp (pl_cells _ _ _)
  clear hG
  simp (disch := omega) only [dm_t, wA, wB, wL, wW, wY, Int.fdiv_eq_ediv_of_nonneg, Int.tdiv_eq_ediv_of_nonneg, Int.tmod_eq_emod_of_nonneg, chk_pos, decT, decF, br_pos, br_neg, wX, ↓reduceIte, Nat.reduceEqDiff, Nat.reduceAdd, Nat.reduceSub, Nat.reduceMul, Nat.reduceLeDiff, Nat.reduceLT, Nat.reduceMod, Nat.reduceDiv, Int.reduceToNat, Nat.min_eq_left, IntKind.bits, Int.reducePow, Int.reduceLT, Int.reduceLE, Int.reduceEq, Int.reduceNe, Int.reduceAdd, Int.reduceSub, and_self, reduceCtorEq, decide_eq_true_eq, decide_eq_false_iff_not, eq_self, implies_true, exists_const, Option.isNone_some, Option.isNone_none, Option.isSome_some, Option.isSome_none, Option.getD_some, cellsAt_all q1 3 rfl]
  refine (ok_q (right_yes hb0) p1).k ?_
  rintro _ g2 ⟨⟨rfl, e2⟩, p2⟩
  have E2 := e1.trans e2
  simp (disch := omega) only [dm_t, wA, wB, wL, wW, wY, Int.fdiv_eq_ediv_of_nonneg, Int.tdiv_eq_ediv_of_nonneg, Int.tmod_eq_emod_of_nonneg, chk_pos, decT, decF, br_pos, br_neg, wX, ↓reduceIte, Nat.reduceEqDiff, Nat.reduceAdd, Nat.reduceSub, Nat.reduceMul, Nat.reduceLeDiff, Nat.reduceLT, Nat.reduceMod, Nat.reduceDiv, Int.reduceToNat, Nat.min_eq_left, IntKind.bits, Int.reducePow, Int.reduceLT, Int.reduceLE, Int.reduceEq, Int.reduceNe, Int.reduceAdd, Int.reduceSub, and_self, reduceCtorEq, decide_eq_true_eq, decide_eq_false_iff_not, eq_self, implies_true, exists_const, Option.isNone_some, Option.isNone_none, Option.isSome_some, Option.isSome_none, Option.getD_some]
  refine (ok_q (nboard_ok _) p2).k ?_
  rintro _ g3 ⟨⟨M, rfl, hG3, hM⟩, p3⟩
  obtain ⟨e3, q3⟩ := new_ext hG3.symm hM
  clear hG3
  have zM := E2.bk hM
  have E3 := E2.trans e3
  simp (disch := omega) only [dm_t, wA, wB, wL, wW, wY, Int.fdiv_eq_ediv_of_nonneg, Int.tdiv_eq_ediv_of_nonneg, Int.tmod_eq_emod_of_nonneg, chk_pos, decT, decF, br_pos, br_neg, wX, ↓reduceIte, Nat.reduceEqDiff, Nat.reduceAdd, Nat.reduceSub, Nat.reduceMul, Nat.reduceLeDiff, Nat.reduceLT, Nat.reduceMod, Nat.reduceDiv, Int.reduceToNat, Nat.min_eq_left, IntKind.bits, Int.reducePow, Int.reduceLT, Int.reduceLE, Int.reduceEq, Int.reduceNe, Int.reduceAdd, Int.reduceSub, and_self, reduceCtorEq, decide_eq_true_eq, decide_eq_false_iff_not, eq_self, implies_true, exists_const, Option.isNone_some, Option.isNone_none, Option.isSome_some, Option.isSome_none, Option.getD_some]
  intro Bv hBv
  refine storeH_all (hupd_same _ _ _) rfl rfl ?_
  rw [hupd_hupd]
  generalize hG : hupd g3 Bv _ = g4
  obtain ⟨e4, q4⟩ := new_ext hG hBv
  have p4 : allP g4 := hG ▸ allP_upd p3 (pl_cells _ _ _)
  clear hG
  have zV := E3.bk hBv
  have E4 := E3.trans e4
  have q14 := e4.at (e3.at (e2.at q1))
  have d1 : cellAt g4 ⟨sb0, 1, none⟩ = some (.int .i64 m) := by rw [cellAt_of q14]; rfl
  simp (disch := omega) only [dm_t, wA, wB, wL, wW, wY, Int.fdiv_eq_ediv_of_nonneg, Int.tdiv_eq_ediv_of_nonneg, Int.tmod_eq_emod_of_nonneg, chk_pos, decT, decF, br_pos, br_neg, wX, ↓reduceIte, Nat.reduceEqDiff, Nat.reduceAdd, Nat.reduceSub, Nat.reduceMul, Nat.reduceLeDiff, Nat.reduceLT, Nat.reduceMod, Nat.reduceDiv, Int.reduceToNat, Nat.min_eq_left, IntKind.bits, Int.reducePow, Int.reduceLT, Int.reduceLE, Int.reduceEq, Int.reduceNe, Int.reduceAdd, Int.reduceSub, and_self, reduceCtorEq, decide_eq_true_eq, decide_eq_false_iff_not, eq_self, implies_true, exists_const, Option.isNone_some, Option.isNone_none, Option.isSome_some, Option.isSome_none, Option.getD_some, d1]
  refine ⟨by omega, ?_⟩
  intro B hB S2 hS2
  simp only [Int.toNat_natCast] at hS2 ⊢
  generalize hG : hupd g4 B _ = g5 at hS2 ⊢
  obtain ⟨e5, qB⟩ := new_ext hG hB
  have p5 : allP g5 := hG ▸ allP_upd p4 (pl_cells _ _ _)
  clear hG
  have zB := E4.bk hB
  have E5 := E4.trans e5
  refine storeH_all (hupd_same _ _ _) rfl rfl ?_
  rw [hupd_hupd]
  generalize hG : hupd g5 S2 _ = g6
  obtain ⟨e6, qS2⟩ := new_ext hG hS2
  have p6 : allP g6 := hG ▸ allP_upd p5 (pl_cells _ _ _)
  clear hG
  have zS2 := E5.bk hS2
  have E6 := E5.trans e6
  have q16 := e6.at (e5.at q14)
  have d0 : cellAt g6 ⟨sb0, 0, none⟩ = some (.slice a n c) := by rw [cellAt_of q16]; rfl
  simp (disch := omega) only [dm_t, wA, wB, wL, wW, wY, Int.fdiv_eq_ediv_of_nonneg, Int.tdiv_eq_ediv_of_nonneg, Int.tmod_eq_emod_of_nonneg, chk_pos, decT, decF, br_pos, br_neg, wX, ↓reduceIte, Nat.reduceEqDiff, Nat.reduceAdd, Nat.reduceSub, Nat.reduceMul, Nat.reduceLeDiff, Nat.reduceLT, Nat.reduceMod, Nat.reduceDiv, Int.reduceToNat, Nat.min_eq_left, IntKind.bits, Int.reducePow, Int.reduceLT, Int.reduceLE, Int.reduceEq, Int.reduceNe, Int.reduceAdd, Int.reduceSub, and_self, reduceCtorEq, decide_eq_true_eq, decide_eq_false_iff_not, eq_self, implies_true, exists_const, Option.isNone_some, Option.isNone_none, Option.isSome_some, Option.isSome_none, Option.getD_some, d0]
  refine ⟨by omega, ?_⟩
  intro A hA S1 hS1
  simp only [Int.toNat_natCast] at hS1 ⊢
  generalize hG : hupd g6 A _ = g7 at hS1 ⊢
  obtain ⟨e7, qA⟩ := new_ext hG hA
  have p7 : allP g7 := hG ▸ allP_upd p6 (pl_cells _ _ _)
  clear hG
  have zA := E6.bk hA
  have E7 := E6.trans e7
  have hAB : A ≠ B := (ne_of (e6.at qB) hA).symm
  refine storeH_all (hupd_same _ _ _) rfl rfl ?_
  rw [hupd_hupd]
  generalize hG : hupd g7 S1 _ = g8
  obtain ⟨e8, qS1⟩ := new_ext hG hS1
  have p8 : allP g8 := hG ▸ allP_upd p7 (pl_cells _ _ _)
  clear hG
  have zS1 := E7.bk hS1
  have E8 := E7.trans e8
  have hSS : S1 ≠ S2 := (ne_of (e7.at qS2) hS1).symm
  have q18 := e8.at (e7.at q16)
  have e48 := ((e5.trans e6).trans e7).trans e8
  simp (disch := omega) only [dm_t, wA, wB, wL, wW, wY, Int.fdiv_eq_ediv_of_nonneg, Int.tdiv_eq_ediv_of_nonneg, Int.tmod_eq_emod_of_nonneg, chk_pos, decT, decF, br_pos, br_neg, wX, ↓reduceIte, Nat.reduceEqDiff, Nat.reduceAdd, Nat.reduceSub, Nat.reduceMul, Nat.reduceLeDiff, Nat.reduceLT, Nat.reduceMod, Nat.reduceDiv, Int.reduceToNat, Nat.min_eq_left, IntKind.bits, Int.reducePow, Int.reduceLT, Int.reduceLE, Int.reduceEq, Int.reduceNe, Int.reduceAdd, Int.reduceSub, and_self, reduceCtorEq, decide_eq_true_eq, decide_eq_false_iff_not, eq_self, implies_true, exists_const, Option.isNone_some, Option.isNone_none, Option.isSome_some, Option.isSome_none, Option.getD_some, cellsAt_all q18 3 rfl]
  refine (Bd_all (fin := fin) (hE.trans E8) p8 hro hW hn hrow hb0 (by omega) hrows q18 (e48.at (e4.at q3)) (e48.at q4) (e8.at qA) (e8.at (e7.at (e6.at qB))) qS1 (e8.at (e7.at qS2)) hAB hSS).k ?_
  rintro _ h1 ⟨Wg, γ, us, vs, vw, lw, vr, lr, X, x1, x2, x3, x4⟩
  have c1 : cellAt h1 ⟨S1, 0, none⟩ = some (.slice (some ⟨A, 0, none⟩) n n) := by rw [cellAt_of x1]; rfl
  obtain ⟨G1, G2, G3, G4, G5⟩ := rows_good X hbig
  simp (disch := omega) only [dm_t, wA, wB, wL, wW, wY, Int.fdiv_eq_ediv_of_nonneg, Int.tdiv_eq_ediv_of_nonneg, Int.tmod_eq_emod_of_nonneg, chk_pos, decT, decF, br_pos, br_neg, wX, ↓reduceIte, Nat.reduceEqDiff, Nat.reduceAdd, Nat.reduceSub, Nat.reduceMul, Nat.reduceLeDiff, Nat.reduceLT, Nat.reduceMod, Nat.reduceDiv, Int.reduceToNat, Nat.min_eq_left, IntKind.bits, Int.reducePow, Int.reduceLT, Int.reduceLE, Int.reduceEq, Int.reduceNe, Int.reduceAdd, Int.reduceSub, and_self, reduceCtorEq, decide_eq_true_eq, decide_eq_false_iff_not, eq_self, implies_true, exists_const, Option.isNone_some, Option.isNone_none, Option.isSome_some, Option.isSome_none, Option.getD_some, c1]
  have hus : Sl h1 (.slice (some ⟨A, 0, none⟩) n n) us := by
    refine .inr ⟨A, 0, n, us.toArray, _, _, by rw [X.la], X.a, by simp [X.la], by rw [X.la]; exact Nat.le_refl _, fun i hi => by simp⟩
  refine (bConcat_ok (rss := outR vw lw n) hus (by rw [X.la, outR_len]) (fun i hi hi' => ?_) (fun rs hrs r hr => (G1 r (List.mem_flatten.2 ⟨rs, hrs, hr⟩)).cell) (by rw [X.la]; omega) (by rw [← tot_flat, G3]; exact hbig)).k ?_
  · obtain ⟨u, k1, k2, _⟩ := X.w i (by rw [← X.la]; exact hi)
    rw [outR_at]
    rw [List.getElem?_eq_getElem hi] at k1
    rw [Option.some.inj k1]
    exact k2
  rintro out h2 ⟨ow, f2⟩
  simp (disch := omega) only [dm_t, wA, wB, wL, wW, wY, Int.fdiv_eq_ediv_of_nonneg, Int.tdiv_eq_ediv_of_nonneg, Int.tmod_eq_emod_of_nonneg, chk_pos, decT, decF, br_pos, br_neg, wX, ↓reduceIte, Nat.reduceEqDiff, Nat.reduceAdd, Nat.reduceSub, Nat.reduceMul, Nat.reduceLeDiff, Nat.reduceLT, Nat.reduceMod, Nat.reduceDiv, Int.reduceToNat, Nat.min_eq_left, IntKind.bits, Int.reducePow, Int.reduceLT, Int.reduceLE, Int.reduceEq, Int.reduceNe, Int.reduceAdd, Int.reduceSub, and_self, reduceCtorEq, decide_eq_true_eq, decide_eq_false_iff_not, eq_self, implies_true, exists_const, Option.isNone_some, Option.isNone_none, Option.isSome_some, Option.isSome_none, Option.getD_some]
  have D : so.DX h2 h2 out (outR vw lw n).flatten := ⟨ow.mono fun _ _ _ _ => trivial, G1, Fr.refl _ _⟩
  refine (so.SortF_ok D (by rw [G3]; exact hbig) G2).k ?_
  rintro _ h3 ⟨ys, D3, Pm, Sr⟩
  have f3 : Ext h1 h3 := Ext.step' f2 D3.fr fun y hy => ow.own hy
  have x2' := f3.at x2
  have c2 : cellAt h3 ⟨S2, 0, none⟩ = some (.slice (some ⟨B, 0, none⟩) m m) := by rw [cellAt_of x2']; rfl
  simp (disch := omega) only [dm_t, wA, wB, wL, wW, wY, Int.fdiv_eq_ediv_of_nonneg, Int.tdiv_eq_ediv_of_nonneg, Int.tmod_eq_emod_of_nonneg, chk_pos, decT, decF, br_pos, br_neg, wX, ↓reduceIte, Nat.reduceEqDiff, Nat.reduceAdd, Nat.reduceSub, Nat.reduceMul, Nat.reduceLeDiff, Nat.reduceLT, Nat.reduceMod, Nat.reduceDiv, Int.reduceToNat, Nat.min_eq_left, IntKind.bits, Int.reducePow, Int.reduceLT, Int.reduceLE, Int.reduceEq, Int.reduceNe, Int.reduceAdd, Int.reduceSub, and_self, reduceCtorEq, decide_eq_true_eq, decide_eq_false_iff_not, eq_self, implies_true, exists_const, Option.isNone_some, Option.isNone_none, Option.isSome_some, Option.isSome_none, Option.getD_some, c2]
  refine ⟨A, B, Wg, γ, us, vs, vw, lw, vr, lr, out, ys, rfl, X.ext f3, D3.ow.s0, Pm, by rw [Pm.length_eq]; exact Sr, fun b o hb0 => ?_, fun b c E hb0 => ?_⟩
  · obtain ⟨c, E, fr, k1, k2⟩ := x3 b o hb0
    exact ⟨c, E, fr, k1, f3.at k2⟩
  · exact f3.at (x4 b c E (E8.at hb0) (ne_of hb0 zA) (ne_of hb0 zB) (ne_of hb0 zM) (ne_of hb0 zV) (ne_of hb0 zS1) (ne_of hb0 zS2) (ne_of hb0 hsb0))
end
end Go.Proofs.Ytojhnclkhiffkaa.mk

/-
  Maps of whole numbers, in company.
-/
namespace Go.Proofs.Ytojhnclkhiffkaa
open Go.Conc
set_option linter.unusedVariables false
set_option linter.unusedSimpArgs false
/-- What stands at a key. -/
def lkI (key : Int) : List (Int × Value) → Option Value
  | [] => none
  | x :: r => if x.1 = key then some x.2 else lkI key r
def setI (key : Int) (val : Value) : List (Int × Value) → List (Int × Value)
  | [] => [(key, val)]
  | x :: r => if x.1 = key then (key, val) :: r else x :: setI key val r
theorem lkI_set (key k2 : Int) (val : Value) : ∀ l : List (Int × Value), lkI k2 (setI key val l) = if key = k2 then some val else lkI k2 l
  | [] => by simp [setI, lkI]
  | x :: r => by
    have ih := lkI_set key k2 val r
    unfold setI
    by_cases h : x.1 = key
    · rw [if_pos h]
      simp only [lkI]
      by_cases h2 : key = k2
      · rw [if_pos h2, if_pos h2]
      · rw [if_neg h2, if_neg h2, if_neg (by rw [h]; exact h2)]
    · rw [if_neg h]
      simp only [lkI, ih]
      by_cases h2 : x.1 = k2
      · rw [if_pos h2, if_neg (by rw [← h2]; exact fun e => h e.symm)]; simp [h2]
      · simp [h2]
section
variable {Pg : Program} {P : Cx Pg} {e : Env} {h : H} {V : Value → H → Prop} {X : List PanicEntry → H → Prop} {d : Option Nat}
end
end Go.Proofs.Ytojhnclkhiffkaa

/-
  The plain law of a run of marks: a history that rises, and what follows for who raised and who looked.
-/
namespace Go.Proofs.Ytojhnclkhiffkaa.mk
open Go.Proofs.Ytojhnclkhiffkaa
set_option linter.unusedVariables false
set_option linter.unusedSimpArgs false
section
variable {post : Value → H → Prop} {fin : Value → H → Prop}
end
end Go.Proofs.Ytojhnclkhiffkaa.mk
namespace Go.Proofs.Ytojhnclkhiffkaa.mk
open Go.Proofs.Ytojhnclkhiffkaa
set_option linter.unusedVariables false
set_option linter.unusedSimpArgs false
section
variable {PX : Cx Try.prog}
theorem few_ok {h : H} {a : Option Addr} {n c : Nat} {r k : Int} {ws : List Value} {lens : Nat → Nat} (hW : Sl h (.slice a n c) ws) (hn : ws.length = n) (hl : ∀ i (hi : i < ws.length), ∃ a' c', ws[i] = .slice a' (lens i) c') (hn2 : n ≤ 17592186044416) :
    Ok PX 20 #[.agg #[.slice a n c, .int .i64 r, .int .i64 k]] h fun v h' => ∃ b, v = .bool b ∧ Ext h h' ∧ (b = true → n ≤ 8 ∧ r ≤ 8 ∧ k ≤ 200 ∧ 0 ≤ r ∧ 0 ≤ k ∧ ∀ i, i < n → lens i ≤ 50) := by
  refine c20_ok (args := [_]) (by simp) ?_
  simp (disch := omega) only [dm_t, wS, simprocAttr, IntKind.bits]
  intro b hb'
  generalize hG : hupd h b _ = g1
  obtain ⟨e1, q1⟩ := new_ext hG hb'
  clear hG
  have c0 : cellAt g1 ⟨b, 0, none⟩ = some (.slice a n c) := by rw [cellAt_of q1]; rfl
  have c1 : cellAt g1 ⟨b, 1, none⟩ = some (.int .i64 r) := by rw [cellAt_of q1]; rfl
  have c2 : cellAt g1 ⟨b, 2, none⟩ = some (.int .i64 k) := by rw [cellAt_of q1]; rfl
  by_cases h1 : 8 < n
  · simp (disch := omega) only [dm_t, wS, simprocAttr, IntKind.bits, c0, c1, c2]
    exact ⟨false, rfl, e1, by simp⟩
  by_cases h2 : 8 < r
  · simp (disch := omega) only [dm_t, wS, simprocAttr, IntKind.bits, c0, c1, c2]
    exact ⟨false, rfl, e1, by simp⟩
  by_cases h3 : 200 < k
  · simp (disch := omega) only [dm_t, wS, simprocAttr, IntKind.bits, c0, c1, c2]
    exact ⟨false, rfl, e1, by simp⟩
  by_cases h4 : r < 0
  · simp (disch := omega) only [dm_t, wS, simprocAttr, IntKind.bits, c0, c1, c2]
    exact ⟨false, rfl, e1, by simp⟩
  by_cases h5 : k < 0
  · simp (disch := omega) only [dm_t, wS, simprocAttr, IntKind.bits, c0, c1, c2]
    exact ⟨false, rfl, e1, by simp⟩
  simp (disch := omega) only [dm_t, wS, simprocAttr, IntKind.bits, c0, c1, c2]
  refine vc_loop1 (fun v h' => ∃ i : Nat, v = .int .i64 i ∧ i ≤ n ∧ h' = g1 ∧ ∀ j, j < i → lens j ≤ 50) (fun v _ => match v with | .int _ x => n - x.toNat | _ => 0) ?_ ?_
  · simp (disch := omega) only [dm_t, wS, simprocAttr, IntKind.bits]
    exact ⟨0, rfl, by omega, fun j hj => by omega⟩
  rintro _ _ ⟨i, rfl, hi, rfl, hall⟩
  by_cases hlt : i < n
  · have hlt' : (i : Int) < n := by omega
    obtain ⟨p, hp, hpc⟩ := (hW.ext e1).load (k := i) (by omega) .i64
    obtain ⟨a', c', hs⟩ := hl i (by omega)
    rw [hs] at hpc
    by_cases h6 : 50 < lens i
    · simp (disch := omega) only [dm_t, wS, simprocAttr, IntKind.bits, c0, c1, c2, hlt', hp, hpc]
      exact ⟨false, rfl, e1, by simp⟩
    · simp (disch := omega) only [dm_t, wS, simprocAttr, IntKind.bits, c0, c1, c2, hlt', hp, hpc]
      refine ⟨⟨i + 1, by simp, by omega, fun j hj => ?_⟩, by omega⟩
      by_cases e : j = i
      · subst e; omega
      · exact hall j (by omega)
  · have hlt' : ¬ ((i : Int) < n) := by omega
    obtain rfl : i = n := by omega
    simp (disch := omega) only [dm_t, wS, simprocAttr, IntKind.bits, c0, c1, c2, hlt']
    exact ⟨true, rfl, e1, fun _ => ⟨by omega, by omega, by omega, by omega, by omega, hall⟩⟩
end
/-- A map of counts. -/
def MapC (l : List (Int × Value)) (T : List Int) : Prop := ∀ key, (lkI key l).getD (.int .i64 0) = .int .i64 (T.count key : Int)
theorem MapC.one (x : Int) : MapC (setI x (.int .i64 1) []) [x] := by
  intro key
  rw [lkI_set]
  by_cases h : x = key
  · subst h; simp
  · simp [h, lkI]
theorem MapC.add {l : List (Int × Value)} {T : List Int} (m : MapC l T) (x : Int) : MapC (setI x (.int .i64 ((T.count x : Nat) + 1 : Int)) l) (T ++ [x]) := by
  intro key
  rw [lkI_set]
  by_cases h : x = key
  · subst h; simp
  · simp [h, m key]
end Go.Proofs.Ytojhnclkhiffkaa.mk
namespace Go.Proofs.Ytojhnclkhiffkaa.mk
open Go.Proofs.Ytojhnclkhiffkaa
set_option linter.unusedVariables false
set_option linter.unusedSimpArgs false
/-- What the law reads: the run, what was seen. -/
structure Ct (g : H) (r0 s A B n m looks : Nat) (a : Option Addr) (c ca cb : Nat) (e : Int) (ws : List Value) (xss : Nat → List Int) (bs : Nat → List Bool) (ss : Nat → List Int) : Prop where
  r0_ : cellAt g ⟨r0, 0, none⟩ = some (.slice a n c)
  r1_ : cellAt g ⟨r0, 1, none⟩ = some (.int .i64 (m : Int))
  r2_ : cellAt g ⟨r0, 2, none⟩ = some (.int .i64 (looks : Int))
  s0_ : cellAt g ⟨s, 0, none⟩ = some (.slice (some ⟨A, 0, none⟩) n ca)
  s1_ : cellAt g ⟨s, 1, none⟩ = some (.slice (some ⟨B, 0, none⟩) m cb)
  s2_ : cellAt g ⟨s, 2, none⟩ = some (.int .i64 e)
  A_ : ∀ i, i < n → ∃ ub uc, cellAt g ⟨A, i, none⟩ = some (.slice ub (bs i).length uc) ∧ Sl g (.slice ub (bs i).length uc) ((bs i).map .bool) ∧ (bs i).length = (xss i).length
  B_ : ∀ j, j < m → ∃ ub uc, cellAt g ⟨B, j, none⟩ = some (.slice ub looks uc) ∧ Sl g (.slice ub looks uc) ((ss j).map (.int .i64)) ∧ (ss j).length = looks
  W_ : Sl g (.slice a n c) ws
  wl : ws.length = n
  R_ : ∀ i (hi : i < ws.length), ∃ ub uc, ws[i] = .slice ub (xss i).length uc ∧ Sl g (.slice ub (xss i).length uc) ((xss i).map (.int .i64))
theorem Ct.ext {g g' : H} {r0 s A B n m looks : Nat} {a : Option Addr} {c ca cb : Nat} {e : Int} {ws : List Value} {xss : Nat → List Int} {bs : Nat → List Bool} {ss : Nat → List Int} (X : Ct g r0 s A B n m looks a c ca cb e ws xss bs ss) (x : Ext g g') : Ct g' r0 s A B n m looks a c ca cb e ws xss bs ss :=
  ⟨cellAt_ext x X.r0_, cellAt_ext x X.r1_, cellAt_ext x X.r2_, cellAt_ext x X.s0_, cellAt_ext x X.s1_, cellAt_ext x X.s2_, fun i hi => let ⟨ub, uc, h1, h2, h3⟩ := X.A_ i hi; ⟨ub, uc, cellAt_ext x h1, h2.ext x, h3⟩,
    fun i hi => let ⟨ub, uc, h1, h2, h3⟩ := X.B_ i hi; ⟨ub, uc, cellAt_ext x h1, h2.ext x, h3⟩, X.W_.ext x, X.wl, fun i hi => let ⟨ub, uc, h1, h2⟩ := X.R_ i hi; ⟨ub, uc, h1, h2.ext x⟩⟩
theorem chain_at : ∀ (a : Int) (l : List Int) (k : Nat) (hk : k < l.length), chain a l → lastOf a (l.take k) ≤ l[k]
  | a, x :: r, 0, _, h => h.1
  | a, x :: r, k + 1, hk, h => chain_at x r k (by simpa using hk) h.2
section
variable {PX : Cx Try.prog} {G : H} {mp r0 s A B n m looks : Nat} {a : Option Addr} {c ca cb : Nat} {e x0 : Int} {ws : List Value} {xss : Nat → List Int} {bs : Nat → List Bool} {ss : Nat → List Int} {γ : List Value} {R : Value → H → Prop}
end
end Go.Proofs.Ytojhnclkhiffkaa.mk

