/-
  sort: pdqsort.
-/
import Derived.Test.YthhofmjhnjkcfaaS3
import Derived.Test.YthhofmjhnjkcfaaS4
import Derived.Test.YthhofmjhnjkcfaaS5
import Derived.Test.YthhofmjhnjkcfaaS6
import Derived.Test.YthhofmjhnjkcfaaS7
import Derived.Test.YthhofmjhnjkcfaaS8
namespace Go.Proofs.Ythhofmjhnjkcfaa.so
open Go.Proofs.Ythhofmjhnjkcfaa
set_option linter.unusedVariables false
set_option linter.unusedSimpArgs false
/-- All pairs are in order but those within a2, b2. -/
def Done (a b a2 b2 : Nat) (zs : List Row) : Prop := ∀ p q, a ≤ p → p < q → q < b → ¬ (a2 ≤ p ∧ q < b2) → le (gt zs p) (gt zs q)
/-- No two rows are alike. -/
def Dist (xs : List Row) : Prop := xs.Pairwise fun r s => lt r s ∨ lt s r
section
variable {a b a2 b2 m : Nat} {xs zs ws : List Row}
theorem Dist.perm (d : Dist xs) (p : zs.Perm xs) : Dist zs := p.symm.pairwise d fun h => h.symm
theorem Dist.at (d : Dist xs) {i j : Nat} (hi : i < j) (hj : j < xs.length) : lt (gt xs i) (gt xs j) ∨ lt (gt xs j) (gt xs i) := by
  rw [gt_of (show i < xs.length by omega), gt_of hj]
  exact List.pairwise_iff_getElem.1 d i j (by omega) hj hi
theorem Done.start : Done a b a b zs := fun p q h1 h2 h3 h4 => absurd ⟨h1, h3⟩ h4
theorem Done.rg (d : Done a b a2 b2 zs) (r : Rg a2 b2 zs ws) (ha : a ≤ a2) (hb : b2 ≤ b) : Done a b a2 b2 ws := fun p q h1 h2 h3 h4 => by
  by_cases hp : a2 ≤ p ∧ p < b2
  · obtain ⟨p', k1, k2, k3⟩ := r.ins p hp.1 hp.2
    rw [k3, r.out q (by omega)]
    exact d p' q (by omega) (by omega) h3 (by omega)
  · rw [r.out p (by omega)]
    by_cases hq : a2 ≤ q ∧ q < b2
    · obtain ⟨q', k1, k2, k3⟩ := r.ins q hq.1 hq.2
      rw [k3]
      exact d p q' h1 (by omega) (by omega) (by omega)
    · rw [r.out q (by omega)]
      exact d p q h1 h2 h3 h4
theorem Done.all (d : Done a b a2 b2 zs) (s : Srt a2 b2 zs) : Srt a b zs := fun p q h1 h2 h3 => by
  by_cases h : a2 ≤ p ∧ q < b2
  · exact s p q h.1 h2 h.2
  · exact d p q h1 h2 h3 h
theorem Parted.rl (p : Parted a b m zs) (r : Rg a m zs ws) : Parted a b m ws := ⟨p.am, p.mb, fun k h1 h2 => by
  obtain ⟨k', k1, k2, k3⟩ := r.ins k h1 h2
  rw [k3, r.out m (.inr (Nat.le_refl _))]
  exact p.l k' k1 k2, fun k h1 h2 => by
  rw [r.out m (.inr (Nat.le_refl _)), r.out k (by omega)]
  exact p.r k h1 h2⟩
theorem Parted.rr (p : Parted a b m zs) (r : Rg (m + 1) b zs ws) : Parted a b m ws := ⟨p.am, p.mb, fun k h1 h2 => by
  rw [r.out m (by omega), r.out k (by omega)]
  exact p.l k h1 h2, fun k h1 h2 => by
  obtain ⟨k', k1, k2, k3⟩ := r.ins k h1 h2
  rw [k3, r.out m (by omega)]
  exact p.r k' k1 k2⟩
theorem Done.left (d : Done a b a2 b2 ws) (p : Parted a2 b2 m ws) (s : Srt a2 m ws) : Done a b (m + 1) b2 ws := fun u v h1 h2 h3 h4 => by
  by_cases h : a2 ≤ u ∧ v < b2
  · have hum : u ≤ m := by omega
    by_cases hvm : v < m
    · exact s u v h.1 h2 hvm
    by_cases hv : v = m
    · rw [hv]; exact le_of_lt (p.l u h.1 (by omega))
    · have hr := p.r v (by omega) h.2
      by_cases hu : u = m
      · rw [hu]; exact hr
      · exact le_tr (le_of_lt (p.l u h.1 (by omega))) hr
  · exact d u v h1 h2 h3 h
theorem Done.right (d : Done a b a2 b2 ws) (p : Parted a2 b2 m ws) (s : Srt (m + 1) b2 ws) : Done a b a2 m ws := fun u v h1 h2 h3 h4 => by
  by_cases h : a2 ≤ u ∧ v < b2
  · have hvm : m ≤ v := by omega
    by_cases hum : m < u
    · exact s u v hum h2 h.2
    by_cases hu : u = m
    · rw [hu]; exact p.r v (by omega) h.2
    · have hl := le_of_lt (p.l u h.1 (by omega))
      by_cases hv : v = m
      · rw [hv]; exact hl
      · exact le_tr hl (p.r v (by omega) h.2)
  · exact d u v h1 h2 h3 h
theorem Parted.pre (p : Parted a b m zs) : Pre (m + 1) b zs := fun _ k h1 h2 => p.r k (by omega) h2
theorem Pre.sub (p : Pre a b zs) (h : m ≤ b) : Pre a m zs := fun h0 k h1 h2 => p h0 k h1 (by omega)
end
/-- What sorting a range brings. -/
def SortR (h : H) (sv : Value) (xs : List Row) (a b : Nat) (h' : H) : Prop := ∃ ys, DX h h' sv ys ∧ Rg a b xs ys ∧ Srt a b ys
/-- Shorter ranges are sorted. -/
def IHq (sv : Value) (n : Nat) : Prop := ∀ (a b : Nat) (lim : Int) (h : H) (xs : List Row), b - a < n → DX h h sv xs → a ≤ b → b ≤ xs.length → xs.length ≤ 65535 → Pre a b xs → Dist xs → 0 ≤ lim → lim ≤ 64 →
  Ok Try.prog 83 #[sv, .int .i64 (a : Int), .int .i64 (b : Int), .int .i64 lim, lessV] h fun _ h' => SortR h sv xs a b h'
section
variable {Q0 : Post} {h : H} {sv : Value} {xs : List Row} {a b a2 b2 : Nat} {lim : Int}
def N19 (Q0 : Post) (h : H) (sv : Value) (xs : List Row) (a b a2 b2 : Nat) (lim : Int) : Prop := ∀ (g : H) (m : Nat) (zs : List Row) (w1 w2 : Bool), a2 ≤ m → m < b2 → DX h g sv zs → Rg a b xs zs → Pre (m + 1) b2 zs → Done a b (m + 1) b2 zs →
  vc Try.prog c83_s19 (blockQ 1 Q0) [(0, sv), (2, .int .i64 (b2 : Int)), (3, .int .i64 lim), (4, lessV), (10, .bool w1), (11, .bool w2), (16, .int .i64 (m : Int))] g
def N21 (Q0 : Post) (h : H) (sv : Value) (xs : List Row) (a b a2 b2 : Nat) (lim : Int) : Prop := ∀ (g : H) (m : Nat) (zs : List Row) (w1 w2 : Bool), a2 ≤ m → m < b2 → DX h g sv zs → Rg a b xs zs → Pre a2 m zs → Done a b a2 m zs →
  vc Try.prog c83_s21 (blockQ 1 Q0) [(0, sv), (1, .int .i64 (a2 : Int)), (3, .int .i64 lim), (4, lessV), (10, .bool w1), (11, .bool w2), (16, .int .i64 (m : Int))] g
/-- From partition on. -/
theorem Pdq_split (n19 : N19 Q0 h sv xs a b a2 b2 lim) (n21 : N21 Q0 h sv xs a b a2 b2 lim) (ih : IHq sv (b2 - a2)) (hl1 : 0 ≤ lim) (hl2 : lim ≤ 64) (ha : a ≤ a2) (hab : a2 + 12 < b2) (hb : b2 ≤ b) (hbx : b ≤ xs.length) (hxl : xs.length ≤ 65535) (hd : Dist xs)
    {g : H} {zs : List Row} {p : Nat} (hp1 : a2 ≤ p) (hp2 : p < b2) (D : DX h g sv zs) (R : Rg a b xs zs) (P : Pre a2 b2 zs) (dn : Done a b a2 b2 zs) :
    vc Try.prog c83_s13 (blockQ 1 Q0) [(0, sv), (1, .int .i64 (a2 : Int)), (2, .int .i64 (b2 : Int)), (3, .int .i64 lim), (4, lessV), (12, .int .i64 ((b2 - a2 : Nat) : Int)), (13, .int .i64 (p : Int))] g := by
  have hlen := R.len
  have e1 : ∀ m : Nat, a2 ≤ m → (m : Int) - (a2 : Int) = ((m - a2 : Nat) : Int) := fun m h => by omega
  have e2 : ∀ m : Nat, m ≤ b2 → (b2 : Int) - (m : Int) = ((b2 - m : Nat) : Int) := fun m h => by omega
  have e3 : (((b2 - a2 : Nat) : Int)) / 8 = (((b2 - a2) / 8 : Nat) : Int) := by omega
  simp (disch := omega) only [dm_t, wS, simprocAttr, IntKind.bits]
  refine (Part_ok D.self (a := a2) (b := b2) (p := p) (by omega) (by omega) (by omega) hp1 hp2).k ?_
  intro v g2 hR
  obtain ⟨m, ys, f, hv, D2, R2, T⟩ := hR
  have hm1 := T.am
  have hm2 := T.mb
  simp (disch := omega) only [dm_t, wS, simprocAttr, IntKind.bits, hv, e1, e2, e3]
  have D2' := D.from D2
  have R2' := R.trans (R2.mono ha hb)
  have P2 := P.rg R2
  have dn2 := dn.rg R2 ha hb
  have hlen2 := R2'.len
  have hd2 := hd.perm R2'.perm
  by_cases hlr : m - a2 < b2 - m
  · rw [br_pos (by omega)]
    simp (disch := omega) only [dm_t, wS, simprocAttr, IntKind.bits]
    refine (ih a2 m lim g2 ys (by omega) D2.self hm1 (by omega) (by omega) (P2.sub (by omega)) hd2 hl1 hl2).k ?_
    intro v3 g3 hS
    obtain ⟨ws, D3, R3, S3⟩ := hS
    have R3' := R3.mono (a' := a2) (b' := b2) (by omega) (by omega)
    have T3 := T.rl R3
    have t := n19 g3 m ws (decide ((((b2 - a2) / 8 : Nat) : Int) ≤ ((m - a2 : Nat) : Int))) f hm1 hm2 (D2'.from D3) (R2'.trans (R3'.mono ha hb)) T3.pre ((dn2.rg R3' ha hb).left T3 S3)
    revert t
    simp (disch := omega) only [dm_t, wS, simprocAttr, IntKind.bits]
    exact id
  · rw [br_neg (by omega)]
    have e4 : ((m + 1 : Nat) : Int) = (m : Int) + 1 := by omega
    simp (disch := omega) only [dm_t, wS, simprocAttr, IntKind.bits]
    have t0 := ih (m + 1) b2 lim g2 ys (by omega) D2.self (by omega) (by omega) (by omega) T.pre hd2 hl1 hl2
    rw [e4] at t0
    refine t0.k ?_
    intro v3 g3 hS
    obtain ⟨ws, D3, R3, S3⟩ := hS
    have R3' := R3.mono (a' := a2) (b' := b2) (by omega) (by omega)
    have T3 := T.rr R3
    have P3 : Pre a2 m ws := fun h0 k h1 h2 => by
      rw [R3.out (a2 - 1) (by omega), R3.out k (by omega)]
      exact P2 h0 k h1 (by omega)
    have t := n21 g3 m ws (decide ((((b2 - a2) / 8 : Nat) : Int) ≤ ((b2 - m : Nat) : Int))) f hm1 hm2 (D2'.from D3) (R2'.trans (R3'.mono ha hb)) P3 ((dn2.rg R3' ha hb).right T3 S3)
    revert t
    simp (disch := omega) only [dm_t, wS, simprocAttr, IntKind.bits]
    exact id
def NR (Q0 : Post) (h : H) (sv : Value) (xs : List Row) (a b : Nat) : Prop := ∀ (e : Env) (g : H), SortR h sv xs a b g → Q0 Exit.ret e g
structure PC (h : H) (sv : Value) (xs : List Row) (a b a2 b2 : Nat) (g : H) (zs : List Row) : Prop where
  D : DX h g sv zs
  R : Rg a b xs zs
  P : Pre a2 b2 zs
  dn : Done a b a2 b2 zs
theorem PC.ext {g g' : H} {zs : List Row} (c : PC h sv xs a b a2 b2 g zs) (e : Ext g g') : PC h sv xs a b a2 b2 g' zs := ⟨c.D.ext e, c.R, c.P, c.dn⟩
theorem PC.rg {g g' : H} {zs ys : List Row} (c : PC h sv xs a b a2 b2 g zs) (ha : a ≤ a2) (hb : b2 ≤ b) (d : DX g g' sv ys) (r : Rg a2 b2 zs ys) : PC h sv xs a b a2 b2 g' ys := ⟨c.D.from d, c.R.trans (r.mono ha hb), c.P.rg r, c.dn.rg r ha hb⟩
theorem PC.all {g : H} {zs : List Row} (c : PC h sv xs a b a2 b2 g zs) (s : Srt a2 b2 zs) : SortR h sv xs a b g := ⟨zs, c.D, c.R, c.dn.all s⟩
theorem Pdq_s11 (n19 : N19 Q0 h sv xs a b a2 b2 lim) (n21 : N21 Q0 h sv xs a b a2 b2 lim) (ih : IHq sv (b2 - a2)) (hl1 : 0 ≤ lim) (hl2 : lim ≤ 64) (ha : a ≤ a2) (hab : a2 + 12 < b2) (hb : b2 ≤ b) (hbx : b ≤ xs.length) (hxl : xs.length ≤ 65535) (hd : Dist xs)
    {g : H} {zs : List Row} {p : Nat} {w1 w2 : Bool} (hp1 : a2 ≤ p) (hp2 : p < b2) (C : PC h sv xs a b a2 b2 g zs) :
    vc Try.prog c83_s11 (blockQ 1 Q0) [(0, sv), (1, .int .i64 (a2 : Int)), (2, .int .i64 (b2 : Int)), (3, .int .i64 lim), (4, lessV), (10, .bool w1), (11, .bool w2), (12, .int .i64 ((b2 - a2 : Nat) : Int)), (13, .int .i64 (p : Int))] g := by
  have hlen := C.R.len
  by_cases h0 : 0 < a2
  · obtain ⟨b1, o1, i1, t1⟩ := C.D.at (i := a2 - 1) (by omega) (e := (a2 : Int) - 1) (by omega)
    obtain ⟨b2', o2, i2, t2⟩ := C.D.at (i := p) (by omega) rfl
    have hlt : lt (gt zs (a2 - 1)) (gt zs p) := (hd.perm C.R.perm).at (i := a2 - 1) (j := p) (by omega) (by omega) |>.elim id fun h => absurd h (C.P h0 p hp1 hp2)
    simp (disch := omega) only [dm_t, wS, simprocAttr, IntKind.bits, i1, t1, i2, t2]
    refine ⟨by kernel_rfl, (less_ok g (C.D.gd (i := a2 - 1) (by omega)) (C.D.gd (i := p) (by omega))).k ?_⟩
    rintro v g3 ⟨⟨c, hv, hc⟩, e3⟩
    have t1' := cellsAt_ext e3 t1
    have t2' := cellsAt_ext e3 t2
    have hc0 := hc.2 hlt
    have C3 := C.ext e3
    have t := Pdq_split n19 n21 ih hl1 hl2 ha hab hb hbx hxl hd hp1 hp2 C3.D C3.R C3.P C3.dn
    revert t
    simp (disch := omega) only [dm_t, wS, simprocAttr, IntKind.bits, hv, i1, t1', i2, t2']
    exact id
  · have t := Pdq_split n19 n21 ih hl1 hl2 ha hab hb hbx hxl hd hp1 hp2 C.D C.R C.P C.dn
    revert t
    simp (disch := omega) only [dm_t, wS, simprocAttr, IntKind.bits]
    exact id
theorem Pdq_s10 (nr : NR Q0 h sv xs a b) (n19 : N19 Q0 h sv xs a b a2 b2 lim) (n21 : N21 Q0 h sv xs a b a2 b2 lim) (ih : IHq sv (b2 - a2)) (hl1 : 0 ≤ lim) (hl2 : lim ≤ 64) (ha : a ≤ a2) (hab : a2 + 12 < b2) (hb : b2 ≤ b) (hbx : b ≤ xs.length) (hxl : xs.length ≤ 65535) (hd : Dist xs)
    {g : H} {zs : List Row} {p : Nat} {w1 w2 : Bool} {t : Int} (hp1 : a2 ≤ p) (hp2 : p < b2) (C : PC h sv xs a b a2 b2 g zs) :
    vc Try.prog c83_s10 (blockQ 1 Q0) [(0, sv), (1, .int .i64 (a2 : Int)), (2, .int .i64 (b2 : Int)), (3, .int .i64 lim), (4, lessV), (10, .bool w1), (11, .bool w2), (12, .int .i64 ((b2 - a2 : Nat) : Int)), (13, .int .i64 (p : Int)), (14, .int .i64 t)] g := by
  have hlen := C.R.len
  have k11 : ∀ (g : H) (zs : List Row), PC h sv xs a b a2 b2 g zs → vc Try.prog c83_s11 (blockQ 1 Q0) [(0, sv), (1, .int .i64 (a2 : Int)), (2, .int .i64 (b2 : Int)), (3, .int .i64 lim), (4, lessV), (10, .bool w1), (11, .bool w2), (12, .int .i64 ((b2 - a2 : Nat) : Int)), (13, .int .i64 (p : Int))] g := fun g zs C => Pdq_s11 n19 n21 ih hl1 hl2 ha hab hb hbx hxl hd hp1 hp2 C
  have t0 := k11 g zs C
  cases w1 with
  | false =>
    revert t0
    simp (disch := omega) only [dm_t, wS, simprocAttr, IntKind.bits]
    exact id
  | true =>
    cases w2 with
    | false =>
      revert t0
      simp (disch := omega) only [dm_t, wS, simprocAttr, IntKind.bits]
      exact id
    | true =>
      by_cases ht : t = 1
      · subst ht
        clear t0
        simp (disch := omega) only [dm_t, wS, simprocAttr, IntKind.bits]
        refine (PI_ok C.D.self (a := a2) (b := b2) (by omega) (by omega) (by omega) C.P).k ?_
        intro v g2 hv
        obtain ⟨r, ys, hv, D2, R2, S2⟩ := hv
        have C2 := C.rg ha hb D2 R2
        cases r with
        | true =>
          simp (disch := omega) only [dm_t, wS, simprocAttr, IntKind.bits, hv]
          exact nr _ g2 (C2.all (S2 rfl))
        | false =>
          have t1 := k11 g2 ys C2
          revert t1
          simp (disch := omega) only [dm_t, wS, simprocAttr, IntKind.bits, hv]
          exact id
      · revert t0
        simp (disch := omega) only [dm_t, wS, simprocAttr, IntKind.bits]
        exact id
theorem Pdq_s6 (nr : NR Q0 h sv xs a b) (n19 : N19 Q0 h sv xs a b a2 b2 lim) (n21 : N21 Q0 h sv xs a b a2 b2 lim) (ih : IHq sv (b2 - a2)) (hl1 : 0 ≤ lim) (hl2 : lim ≤ 64) (ha : a ≤ a2) (hab : a2 + 12 < b2) (hb : b2 ≤ b) (hbx : b ≤ xs.length) (hxl : xs.length ≤ 65535) (hd : Dist xs)
    {g : H} {zs : List Row} {w1 w2 : Bool} (C : PC h sv xs a b a2 b2 g zs) :
    vc Try.prog c83_s6 (blockQ 1 Q0) [(0, sv), (1, .int .i64 (a2 : Int)), (2, .int .i64 (b2 : Int)), (3, .int .i64 lim), (4, lessV), (10, .bool w1), (11, .bool w2), (12, .int .i64 ((b2 - a2 : Nat) : Int))] g := by
  have hlen := C.R.len
  simp (disch := omega) only [dm_t, wS, simprocAttr, IntKind.bits]
  refine (Piv_ok C.D.self (a := a2) (b := b2) (by omega) (by omega) (by omega)).k ?_
  intro v g2 hv
  obtain ⟨p, t, hv, hp1, hp2, e2⟩ := hv
  have C2 := C.ext e2
  by_cases ht : t = 2
  · have t1 : ∀ (g : H) (zs : List Row), PC h sv xs a b a2 b2 g zs → _ := fun g zs C => Pdq_s10 nr n19 n21 ih hl1 hl2 ha hab hb hbx hxl hd (w1 := w1) (w2 := w2) (p := b2 - 1 - (p - a2)) (t := 1) (by omega) (by omega) C
    have e5 : ((b2 : Int) - 1) - ((p : Int) - (a2 : Int)) = ((b2 - 1 - (p - a2) : Nat) : Int) := by omega
    simp (disch := omega) only [dm_t, wS, simprocAttr, IntKind.bits, hv, ht]
    refine (Rev_ok C2.D.self (a := a2) (b := b2) (cv := lessV) (by omega) (by omega) (by omega)).k ?_
    intro v3 g3 h3
    obtain ⟨ys, D3, R3⟩ := h3
    have t2 := t1 g3 ys (C2.rg ha hb D3 R3)
    revert t2
    simp (disch := omega) only [dm_t, wS, simprocAttr, IntKind.bits, e5]
    exact id
  · have t2 := Pdq_s10 nr n19 n21 ih hl1 hl2 ha hab hb hbx hxl hd (w1 := w1) (w2 := w2) (t := t) hp1 hp2 C2
    revert t2
    simp (disch := omega) only [dm_t, wS, simprocAttr, IntKind.bits, hv]
    exact id
end
/-- Any range is sorted. -/
theorem Pdq_ih (sv : Value) : ∀ n, IHq sv n := by
  intro n
  induction n with
  | zero => intro a b lim h xs hn; omega
  | succ n IH =>
    intro a b lim h xs hn d hab hb hxl hp hd hl1 hl2
    refine c83_ok (args := [_, _, _, _, _]) (by simp) ?_
    simp (disch := omega) only [dm_t, wS, simprocAttr, IntKind.bits]
    refine vc_loop5 (fun va vb vl v10 v11 g => ∃ (a2 b2 : Nat) (lim : Int) (w1 w2 : Bool) (zs : List Row), va = .int .i64 (a2 : Int) ∧ vb = .int .i64 (b2 : Int) ∧ vl = .int .i64 lim ∧ v10 = .bool w1 ∧ v11 = .bool w2 ∧ a ≤ a2 ∧ a2 ≤ b2 ∧ b2 ≤ b ∧ 0 ≤ lim ∧ lim ≤ 64 ∧ PC h sv xs a b a2 b2 g zs) (fun va vb _ _ _ _ => m1 vb - m1 va) ?_ ?_
    · simp (disch := omega) only [dm_t, wS, simprocAttr, IntKind.bits]
      exact ⟨a, b, lim, true, true, xs, rfl, rfl, rfl, rfl, rfl, by omega, hab, by omega, hl1, hl2, d, Rg.refl _ _ _, hp, Done.start⟩
    rintro _ _ _ _ _ g ⟨a2, b2, lim2, w1, w2, zs, rfl, rfl, rfl, rfl, rfl, ha, hab2, hb2, hm1, hm2, C⟩
    have hlen := C.R.len
    generalize hQ0 : lq5 _ _ _ _ _ _ _ _ _ _ _ = Q0
    have nr : NR Q0 h sv xs a b := by
      intro e g hS
      rw [← hQ0]
      simp (disch := omega) only [dm_t, wS, simprocAttr, IntKind.bits]
      exact hS
    have n19 : ∀ lim, 0 ≤ lim → lim ≤ 64 → N19 Q0 h sv xs a b a2 b2 lim := by
      intro lim hl1 hl2 g m zs w1 w2 hm1 hm2 D R P dn
      rw [← hQ0]
      simp (disch := omega) only [dm_t, wS, simprocAttr, IntKind.bits]
      exact ⟨⟨m + 1, b2, lim, w1, w2, zs, by simp, rfl, rfl, rfl, rfl, by omega, by omega, hb2, hl1, hl2, D, R, P, dn⟩, by simp [m1]; omega⟩
    have n21 : ∀ lim, 0 ≤ lim → lim ≤ 64 → N21 Q0 h sv xs a b a2 b2 lim := by
      intro lim hl1 hl2 g m zs w1 w2 hm1 hm2 D R P dn
      rw [← hQ0]
      simp (disch := omega) only [dm_t, wS, simprocAttr, IntKind.bits]
      exact ⟨⟨a2, m, lim, w1, w2, zs, rfl, rfl, rfl, rfl, rfl, by omega, by omega, by omega, hl1, hl2, D, R, P, dn⟩, by simp [m1]; omega⟩
    have ih : IHq sv (b2 - a2) := fun a b lim h xs hn => IH a b lim h xs (by omega)
    clear hQ0
    have e6 : (b2 : Int) - (a2 : Int) = ((b2 - a2 : Nat) : Int) := by omega
    by_cases h12 : b2 - a2 ≤ 12
    · simp (disch := omega) only [dm_t, wS, simprocAttr, IntKind.bits, e6]
      refine (Ins_ok C.D.self (a := a2) (b := b2) hab2 (by omega) (by omega)).k ?_
      intro v g2 h2
      obtain ⟨ys, D2, R2, S2⟩ := h2
      simp (disch := omega) only [dm_t, wS, simprocAttr, IntKind.bits]
      exact nr _ g2 ((C.rg ha hb2 D2 R2).all S2)
    by_cases h0 : lim2 = 0
    · simp (disch := omega) only [dm_t, wS, simprocAttr, IntKind.bits, e6, h0]
      refine (Heap_ok C.D.self (a := a2) (b := b2) (by omega) (by omega) (by omega)).k ?_
      intro v g2 h2
      obtain ⟨ys, D2, R2, S2⟩ := h2
      simp (disch := omega) only [dm_t, wS, simprocAttr, IntKind.bits]
      exact nr _ g2 ((C.rg ha hb2 D2 R2).all S2)
    cases w1 with
    | false =>
      simp (disch := omega) only [dm_t, wS, simprocAttr, IntKind.bits, e6]
      refine (Brk_ok C.D.self (a := a2) (b := b2) (cv := lessV) (by omega) (by omega) (by omega)).k ?_
      intro v g2 h2
      obtain ⟨ys, D2, R2⟩ := h2
      have t := Pdq_s6 nr (n19 (lim2 - 1) (by omega) (by omega)) (n21 (lim2 - 1) (by omega) (by omega)) ih (by omega) (by omega) ha (by omega) hb2 hb hxl hd (w1 := false) (w2 := w2) (C.rg ha hb2 D2 R2)
      revert t
      simp (disch := omega) only [dm_t, wS, simprocAttr, IntKind.bits]
      exact id
    | true =>
      have t := Pdq_s6 nr (n19 lim2 (by omega) (by omega)) (n21 lim2 (by omega) (by omega)) ih (by omega) (by omega) ha (by omega) hb2 hb hxl hd (w1 := true) (w2 := w2) C
      revert t
      simp (disch := omega) only [dm_t, wS, simprocAttr, IntKind.bits, e6]
      exact id
end Go.Proofs.Ythhofmjhnjkcfaa.so
