/-
  sort: siftDown, heapSort.
-/
import Derived.Test.YthhofmjhnjkcfaaS2
namespace Go.Proofs.Ythhofmjhnjkcfaa.so
open Go.Proofs.Ythhofmjhnjkcfaa
set_option linter.unusedVariables false
set_option linter.unusedSimpArgs false
/-- From lo on no child is behind its parent. -/
def Hp (f lo hi : Nat) (zs : List Row) : Prop := ∀ c, c < hi → 0 < c → lo ≤ (c - 1) / 2 → le (gt zs (f + c)) (gt zs (f + (c - 1) / 2))
structure SI (f lo hi r : Nat) (zs : List Row) : Prop where
  a : ∀ c, c < hi → 0 < c → lo ≤ (c - 1) / 2 → (c - 1) / 2 ≠ r → le (gt zs (f + c)) (gt zs (f + (c - 1) / 2))
  b : r ≠ lo → ∀ c, c < hi → 0 < c → (c - 1) / 2 = r → le (gt zs (f + c)) (gt zs (f + (r - 1) / 2))
  lo : lo ≤ r
section
variable {f lo hi r : Nat} {zs : List Row}
theorem SI.start (h : Hp f (lo + 1) hi zs) : SI f lo hi lo zs := ⟨fun c h1 h2 h3 h4 => h c h1 h2 (by omega), fun h => absurd rfl h, Nat.le_refl _⟩
theorem SI.out (s : SI f lo hi r zs) (h : hi ≤ 2 * r + 1) : Hp f lo hi zs := fun c h1 h2 h3 => s.a c h1 h2 h3 (by omega)
/-- c is the child that is farther behind. -/
structure Big (f hi r c : Nat) (zs : List Row) : Prop where
  ch : c = 2 * r + 1 ∨ c = 2 * r + 2
  bd : c < hi
  all : ∀ d, d < hi → 0 < d → (d - 1) / 2 = r → le (gt zs (f + d)) (gt zs (f + c))
theorem SI.ret (s : SI f lo hi r zs) {c : Nat} (g : Big f hi r c zs) (h : le (gt zs (f + c)) (gt zs (f + r))) : Hp f lo hi zs := fun d h1 h2 h3 => by
  by_cases hd : (d - 1) / 2 = r
  · rw [hd]; exact le_tr (g.all d h1 h2 hd) h
  · exact s.a d h1 h2 h3 hd
theorem SI.step (s : SI f lo hi r zs) {c : Nat} (g : Big f hi r c zs) (hl : f + hi ≤ zs.length) (h : lt (gt zs (f + r)) (gt zs (f + c))) : SI f lo hi c (swp zs (f + r) (f + c)) := by
  obtain ⟨g1, g2, g3⟩ := g
  have hlo := s.lo
  have hpc : (c - 1) / 2 = r := by omega
  have hk := gt_swp (xs := zs) (i := f + r) (j := f + c) (by omega) (by omega)
  refine ⟨fun d h1 h2 h3 h4 => ?_, fun hne d h1 h2 h3 => ?_, by omega⟩
  · rw [hk, hk]
    by_cases hdc : d = c
    · subst hdc
      rw [if_pos rfl, hpc, if_neg (by omega), if_pos rfl]
      exact le_of_lt h
    rw [if_neg (by omega), if_neg (show ¬ f + (d - 1) / 2 = f + c by omega)]
    by_cases hpd : (d - 1) / 2 = r
    · rw [if_neg (by omega), if_pos (by omega)]
      exact g3 d h1 h2 hpd
    rw [if_neg (show ¬ f + (d - 1) / 2 = f + r by omega)]
    by_cases hdr : d = r
    · subst hdr
      rw [if_pos rfl]
      exact s.b (by omega) c g2 (by omega) hpc
    · rw [if_neg (by omega)]
      exact s.a d h1 h2 h3 hpd
  · rw [hk, hk, if_neg (by omega), if_neg (by omega), hpc, if_neg (by omega), if_pos rfl]
    have := s.a d h1 h2 (by omega) (by omega)
    rw [h3] at this
    exact this
theorem Hp.top (h : Hp f 0 hi zs) : ∀ c, c < hi → le (gt zs (f + c)) (gt zs f) := by
  intro c
  induction c using Nat.strongRecOn with
  | ind c ih =>
    intro hc
    by_cases h0 : c = 0
    · subst h0; exact le_refl _
    · exact le_tr (h c hc (by omega) (by omega)) (ih ((c - 1) / 2) (by omega) (by omega))
/-- The first n are a heap, those behind are sorted, and behind all of the first ones. -/
structure HS (f n b : Nat) (zs : List Row) : Prop where
  h : Hp f 0 n zs
  s : Srt (f + n) b zs
  o : ∀ p q, p < n → f + n ≤ q → q < b → le (gt zs (f + p)) (gt zs q)
theorem HS.swap {n b : Nat} (s : HS f (n + 1) b zs) (hl : b ≤ zs.length) (hn : f + n < b) : Hp f 1 n (swp zs f (f + n)) := by
  intro c h1 h2 h3
  have hk := gt_swp (xs := zs) (i := f) (j := f + n) (by omega) (by omega)
  rw [hk, hk, if_neg (by omega), if_neg (by omega), if_neg (by omega), if_neg (by omega)]
  exact s.h c (by omega) h2 (by omega)
theorem HS.step {n b : Nat} {ws : List Row} (s : HS f (n + 1) b zs) (hl : b ≤ zs.length) (hn : f + n < b) (r : Rg f (f + n) (swp zs f (f + n)) ws) (h : Hp f 0 n ws) : HS f n b ws := by
  have hk := gt_swp (xs := zs) (i := f) (j := f + n) (by omega) (by omega)
  have htop := s.h.top
  have hq : ∀ q, f + n ≤ q → q < b → gt ws q = if q = f + n then gt zs f else gt zs q := by
    intro q h1 h2
    rw [r.out q (.inr h1), hk]
    by_cases hq : q = f + n
    · rw [if_pos hq, if_pos hq]
    · rw [if_neg hq, if_neg hq]
      by_cases hf : q = f
      · omega
      · rw [if_neg hf]
  have hp : ∀ p, p < n → ∃ k, k < n + 1 ∧ gt ws (f + p) = gt zs (f + k) := by
    intro p h1
    obtain ⟨k, h2, h3, h4⟩ := r.ins (f + p) (by omega) (by omega)
    rw [hk, if_neg (by omega)] at h4
    by_cases hf : k = f
    · rw [if_pos hf] at h4
      exact ⟨n, by omega, h4⟩
    · rw [if_neg hf] at h4
      exact ⟨k - f, by omega, by rw [h4]; congr 1; omega⟩
  refine ⟨h, fun i j h1 h2 h3 => ?_, fun p q h1 h2 h3 => ?_⟩
  · rw [hq i h1 (by omega), hq j (by omega) h3, if_neg (show ¬ j = f + n by omega)]
    by_cases hi : i = f + n
    · rw [if_pos hi]
      exact s.o 0 j (by omega) (by omega) h3
    · rw [if_neg hi]
      exact s.s i j (by omega) h2 h3
  · obtain ⟨k, hk1, hk2⟩ := hp p h1
    rw [hk2, hq q h2 h3]
    by_cases hqn : q = f + n
    · rw [if_pos hqn]
      exact htop k hk1
    · rw [if_neg hqn]
      exact s.o k q hk1 (by omega) h3
end
theorem Sift_ok {h : H} {sv : Value} {xs : List Row} {f lo hi : Nat} (d : DX h h sv xs) (hlo : lo ≤ hi) (hl : f + hi ≤ xs.length) (hb : xs.length ≤ 1152921504606846976) (hp : Hp f (lo + 1) hi xs) :
    Ok Try.prog 99 #[sv, .int .i64 (lo : Int), .int .i64 (hi : Int), .int .i64 (f : Int), lessV] h fun _ h' => ∃ ys, DX h h' sv ys ∧ Rg f (f + hi) xs ys ∧ Hp f lo hi ys := by
  refine c99_ok (args := [_, _, _, _, _]) (by simp) ?_
  simp (disch := omega) only [dm_t, wS, simprocAttr, IntKind.bits]
  refine vc_loop1 (fun vr g => ∃ (r : Nat) (ys : List Row), vr = .int .i64 (r : Int) ∧ r ≤ hi ∧ DX h g sv ys ∧ Rg f (f + hi) xs ys ∧ SI f lo hi r ys) (fun vr _ => hi - m1 vr) ?_ ?_
  · simp (disch := omega) only [dm_t, wS, simprocAttr, IntKind.bits]
    exact ⟨lo, xs, rfl, hlo, d, Rg.refl _ _ _, SI.start hp⟩
  rintro _ g ⟨r, ys, rfl, hr, D, R, S⟩
  have hlen := R.len
  by_cases hc1 : hi ≤ 2 * r + 1
  · simp (disch := omega) only [dm_t, wS, simprocAttr, IntKind.bits]
    exact ⟨ys, D, R, S.out hc1⟩
  generalize hQ0 : lq1 _ _ _ _ _ _ _ = Q0
  have key : ∀ (g : H) (c : Nat), DX h g sv ys → Big f hi r c ys → vc Try.prog c99_s3 (blockQ 1 Q0) [(0, sv), (2, .int .i64 (hi : Int)), (3, .int .i64 (f : Int)), (4, lessV), (10, .int .i64 (r : Int)), (11, .int .i64 (c : Int))] g := by
    intro g c D G
    have hch := G.ch
    have hbd := G.bd
    obtain ⟨b1, o1, i1, t1⟩ := D.at (i := f + r) (by omega) (e := (f : Int) + (r : Int)) (by omega)
    obtain ⟨b2, o2, i2, t2⟩ := D.at (i := f + c) (by omega) (e := (f : Int) + (c : Int)) (by omega)
    simp (disch := omega) only [dm_t, wS, simprocAttr, IntKind.bits, i1, t1, i2, t2]
    refine ⟨by kernel_rfl, (less_ok g (D.gd (i := f + r) (by omega)) (D.gd (i := f + c) (by omega))).k ?_⟩
    rintro _ g3 ⟨⟨x, rfl, hx⟩, e3⟩
    have D3 := D.ext e3
    have t1' := cellsAt_ext e3 t1
    have t2' := cellsAt_ext e3 t2
    rw [← hQ0]
    by_cases hx0 : x < 0
    · have hlt := hx.1 hx0
      simp (disch := omega) only [dm_t, wS, simprocAttr, IntKind.bits, i1, t1', i2, t2']
      refine ⟨(D3.gd (i := f + c) (by omega)).len, D3.st (i := f + r) (by omega) (by omega) i1 (D3.gd (i := f + c) (by omega)) fun g4 D4 => ?_⟩
      simp (disch := omega) only [dm_t, wS, simprocAttr, IntKind.bits, i1, i2]
      refine ⟨(D3.gd (i := f + r) (by omega)).len, D4.st (i := f + c) (by rw [List.length_set]; omega) (by omega) i2 (D3.gd (i := f + r) (by omega)) fun g5 D5 => ?_⟩
      simp (disch := omega) only [dm_t, wS, simprocAttr, IntKind.bits]
      exact ⟨⟨c, _, rfl, by omega, D5, R.trans (Rg.swp (by omega) (by omega) (by omega) (by omega) (by omega)), S.step G (by omega) hlt⟩, by simp [m1]; omega⟩
    · simp (disch := omega) only [dm_t, wS, simprocAttr, IntKind.bits, i1, t1', i2, t2']
      exact ⟨ys, D3, R, S.ret G fun h => hx0 (hx.2 h)⟩
  have e1 : 2 * (r : Int) + 1 = ((2 * r + 1 : Nat) : Int) := by omega
  by_cases hc2 : 2 * r + 2 < hi
  · obtain ⟨b1, o1, i1, t1⟩ := D.at (i := f + (2 * r + 1)) (by omega) (e := (f : Int) + ((2 * r + 1 : Nat) : Int)) (by omega)
    obtain ⟨b2, o2, i2, t2⟩ := D.at (i := f + (2 * r + 2)) (by omega) (e := (f : Int) + ((2 * r + 1 : Nat) : Int) + 1) (by omega)
    simp (disch := omega) only [dm_t, wS, simprocAttr, IntKind.bits, e1, i1, t1, i2, t2]
    refine ⟨by kernel_rfl, (less_ok g (D.gd (i := f + (2 * r + 1)) (by omega)) (D.gd (i := f + (2 * r + 2)) (by omega))).k ?_⟩
    rintro _ g3 ⟨⟨x, rfl, hx⟩, e3⟩
    have D3 := D.ext e3
    have t1' := cellsAt_ext e3 t1
    have t2' := cellsAt_ext e3 t2
    by_cases hx0 : x < 0
    · have hlt := hx.1 hx0
      have G : Big f hi r (2 * r + 2) ys := ⟨.inr rfl, hc2, fun d h1 h2 h3 => by
        by_cases hd : d = 2 * r + 1
        · rw [hd]; exact le_of_lt hlt
        · have : d = 2 * r + 2 := by omega
          rw [this]; exact le_refl _⟩
      have t := key g3 _ D3 G
      have e2 : ((2 * r + 2 : Nat) : Int) = ((2 * r + 1 : Nat) : Int) + 1 := by omega
      rw [e2] at t
      revert t
      simp (disch := omega) only [dm_t, wS, simprocAttr, IntKind.bits, i1, t1', i2, t2']
      exact id
    · have G : Big f hi r (2 * r + 1) ys := ⟨.inl rfl, by omega, fun d h1 h2 h3 => by
        by_cases hd : d = 2 * r + 2
        · rw [hd]; exact fun h => hx0 (hx.2 h)
        · have : d = 2 * r + 1 := by omega
          rw [this]; exact le_refl _⟩
      have t := key g3 _ D3 G
      revert t
      simp (disch := omega) only [dm_t, wS, simprocAttr, IntKind.bits, i1, t1', i2, t2']
      exact id
  · have G : Big f hi r (2 * r + 1) ys := ⟨.inl rfl, by omega, fun d h1 h2 h3 => by
      have : d = 2 * r + 1 := by omega
      rw [this]; exact le_refl _⟩
    have t := key g _ D G
    revert t
    simp (disch := omega) only [dm_t, wS, simprocAttr, IntKind.bits, e1]
    exact id
def ms : Value → Nat
  | .int _ n => (n + 1).toNat
  | _ => 0
theorem Heap_ok {h : H} {sv : Value} {xs : List Row} {a b : Nat} (d : DX h h sv xs) (hab : a < b) (hl : b ≤ xs.length) (hb : xs.length ≤ 1152921504606846976) :
    Ok Try.prog 89 #[sv, .int .i64 (a : Int), .int .i64 (b : Int), lessV] h fun _ h' => ∃ ys, DX h h' sv ys ∧ Rg a b xs ys ∧ Srt a b ys := by
  refine c89_ok (args := [_, _, _, _]) (by simp) ?_
  obtain ⟨n, hn⟩ : ∃ n, n = b - a := ⟨_, rfl⟩
  have hn1 : (b : Int) - (a : Int) = (n : Int) := by omega
  obtain ⟨m, hm⟩ : ∃ m, m = (n - 1) / 2 := ⟨_, rfl⟩
  have hm1 : ((n : Int) - 1) / 2 = (m : Int) := by omega
  have hab' : b = a + n := by omega
  simp (disch := omega) only [dm_t, wS, simprocAttr, IntKind.bits, hn1, hm1]
  refine vc_loop1 (fun vi g => ∃ (i : Nat) (ys : List Row), vi = .int .i64 ((i : Int) - 1) ∧ i ≤ m + 1 ∧ DX h g sv ys ∧ Rg a b xs ys ∧ Hp a i n ys) (fun vi _ => ms vi) ?_ ?_
  · simp (disch := omega) only [dm_t, wS, simprocAttr, IntKind.bits]
    exact ⟨m + 1, xs, by congr 1; omega, by omega, d, Rg.refl _ _ _, fun c h1 h2 h3 => by omega⟩
  rintro _ g ⟨i, ys, rfl, hi, D, R, P⟩
  have hlen := R.len
  cases i with
  | succ i =>
    have e : ((i + 1 : Nat) : Int) - 1 = (i : Int) := by omega
    simp (disch := omega) only [dm_t, wS, simprocAttr, IntKind.bits, e]
    refine (Sift_ok D.self (f := a) (lo := i) (hi := n) (by omega) (by omega) (by omega) P).k ?_
    rintro _ g2 ⟨zs, D2, R2, P2⟩
    rw [← hab'] at R2
    simp (disch := omega) only [dm_t, wS, simprocAttr, IntKind.bits]
    exact ⟨⟨i, zs, rfl, by omega, D.from D2, R.trans R2, P2⟩, by simp [ms]⟩
  | zero =>
    simp (disch := omega) only [dm_t, wS, simprocAttr, IntKind.bits]
    refine vc_loop1 (fun vi g => ∃ (i : Nat) (ys : List Row), vi = .int .i64 ((i : Int) - 1) ∧ i ≤ n ∧ DX h g sv ys ∧ Rg a b xs ys ∧ HS a i b ys) (fun vi _ => ms vi) ?_ ?_
    · simp (disch := omega) only [dm_t, wS, simprocAttr, IntKind.bits]
      exact ⟨n, ys, rfl, by omega, D, R, P, fun i j h1 h2 h3 => by omega, fun p q h1 h2 h3 => by omega⟩
    clear D R P hlen
    rintro _ g ⟨i, zs, rfl, hi, D, R, S⟩
    have hlen := R.len
    cases i with
    | zero =>
      simp (disch := omega) only [dm_t, wS, simprocAttr, IntKind.bits]
      exact ⟨zs, D, R, S.s⟩
    | succ i =>
      have e : ((i + 1 : Nat) : Int) - 1 = (i : Int) := by omega
      obtain ⟨b1, o1, i1, t1⟩ := D.at (i := a) (by omega) rfl
      obtain ⟨b2, o2, i2, t2⟩ := D.at (i := a + i) (by omega) (e := (a : Int) + (i : Int)) (by omega)
      simp (disch := omega) only [dm_t, wS, simprocAttr, IntKind.bits, e, i1, t1, i2, t2]
      refine ⟨(D.gd (i := a + i) (by omega)).len, D.st (i := a) (by omega) (by omega) i1 (D.gd (i := a + i) (by omega)) fun g4 D4 => ?_⟩
      simp (disch := omega) only [dm_t, wS, simprocAttr, IntKind.bits, i1, i2]
      refine ⟨(D.gd (i := a) (by omega)).len, D4.st (i := a + i) (by rw [List.length_set]; omega) (by omega) i2 (D.gd (i := a) (by omega)) fun g5 D5 => ?_⟩
      simp (disch := omega) only [dm_t, wS, simprocAttr, IntKind.bits]
      have P1 : Hp a (0 + 1) i (swp zs a (a + i)) := S.swap (by omega) (by omega)
      refine (Sift_ok D5.self (f := a) (lo := 0) (hi := i) (by omega) (by rw [List.length_set, List.length_set]; omega) (by rw [List.length_set, List.length_set]; omega) P1).k ?_
      rintro _ g6 ⟨ws, D6, R6, P6⟩
      simp (disch := omega) only [dm_t, wS, simprocAttr, IntKind.bits]
      exact ⟨⟨i, ws, rfl, by omega, D5.from D6, (R.trans (Rg.swp (i := a) (j := a + i) (by omega) (by omega) (by omega) (by omega) (by omega))).trans (R6.mono (by omega) (by omega)), S.step (by omega) (by omega) R6 P6⟩, by simp [ms]⟩
end Go.Proofs.Ythhofmjhnjkcfaa.so
