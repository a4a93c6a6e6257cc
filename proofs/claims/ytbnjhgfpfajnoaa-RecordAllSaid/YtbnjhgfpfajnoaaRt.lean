/-
  record: RecordSizes, walked whole.
-/
import Derived.Test.YtbnjhgfpfajnoaaRs
import Derived.Test.YtbnjhgfpfajnoaaRk
namespace Go.Proofs.Ytbnjhgfpfajnoaa.rr
open Go.Proofs.Ytbnjhgfpfajnoaa
set_option linter.unusedVariables false
set_option linter.unusedSimpArgs false
/-! ### Plain -/
theorem scan_eq {b : List UInt8} : ∀ {f g p : Nat}, p ≤ b.length → b.length - p < f → b.length - p < g → scan f b p = scan g b p := by
  intro f
  induction f with
  | zero => intro g p h1 h2; omega
  | succ f ih =>
    intro g p h1 h2 h3
    obtain ⟨k, rfl⟩ : ∃ k, g = k + 1 := ⟨g - 1, by omega⟩
    by_cases he : (readP (b.drop p)).e = 0
    · obtain ⟨z1, z2, -, -⟩ := wk_size h1 he
      rw [scan, scan, if_pos he, if_pos he, ih (g := k) z2 (by omega) (by omega)]
    · rw [scan, scan, if_neg he, if_neg he]
theorem all_step {b : List UInt8} {p : Nat} (h : p ≤ b.length) (he : (readP (b.drop p)).e = 0) : allB b p = readP (b.drop p) :: allB b (p + (readP (b.drop p)).size.toNat) := by
  obtain ⟨z1, z2, -, -⟩ := wk_size h he
  rw [allB, scan, if_pos he, allB]
  congr 1
  exact scan_eq z2 (by omega) (by omega)
theorem put5 {l : List rc.D} (hl : l.length ≤ 300) : putE 5 l = fitsE l := by
  rw [putE]
  by_cases hw : wrongB 5 l
  · rw [if_pos hw]
    rcases hw with h | h | h | h
    · exact h.symm
    all_goals omega
  · rw [if_neg hw]
section
variable {l : List rc.D} {more two : List UInt8} {n : Nat}
/-- Two batches and what stands behind them. -/
structure Two (l : List rc.D) (more two : List UInt8) (n : Nat) : Prop where
  a0 : allB two 0 = ⟨5, l, (n : Int), 0⟩ :: ⟨5, l, (n : Int), 0⟩ :: allB two (2 * n)
  le : 2 * n ≤ two.length
  n20 : 20 ≤ n
theorem mkTwo (hp : putE 5 l = 0) (h2 : two = bytesB 5 l ++ bytesB 5 l ++ more) (hn : n = 20 + sizes l) : Two l more two n := by
  have hb : (bytesB 5 l).length = n := by rw [bytesB_len, hn]
  have hl : two.length = n + n + more.length := by rw [h2, List.length_append, List.length_append, hb]
  have d0 : readP (two.drop 0) = ⟨5, l, (n : Int), 0⟩ := by rw [List.drop_zero, h2, List.append_assoc, read_put hp, hn]
  have d1 : readP (two.drop n) = ⟨5, l, (n : Int), 0⟩ := by rw [h2, List.append_assoc, drop_app hb, read_put hp, hn]
  refine ⟨?_, by omega, by omega⟩
  have s0 := all_step (b := two) (p := 0) (by omega) (by rw [d0])
  rw [d0] at s0
  simp only [Nat.zero_add, Int.toNat_natCast] at s0
  have s1 := all_step (b := two) (p := n) (by omega) (by rw [d1])
  rw [d1] at s1
  simp only [Int.toNat_natCast] at s1
  rw [s0, s1, Nat.two_mul]
theorem Two.szs (T : Two l more two n) : szs (allB two 0) = 2 * n + szs (allB two (2 * n)) := by rw [T.a0]; simp [rr.szs]; omega
theorem Two.cnt (T : Two l more two n) : cnt (allB two 0) = 2 * l.length + cnt (allB two (2 * n)) := by rw [T.a0]; simp [rr.cnt]; omega
theorem Two.len (T : Two l more two n) : (allB two 0).length = 2 + (allB two (2 * n)).length := by rw [T.a0]; simp; omega
theorem Two.why (T : Two l more two n) : walkE two 0 = walkE two (2 * n) := by rw [walkE, walkE, T.szs]; congr 3; omega
theorem Two.at0 (T : Two l more two n) : rr.szs ((allB two 0).take 0) = 0 := rfl
theorem Two.at1 (T : Two l more two n) : rr.szs ((allB two 0).take 1) = n := by rw [T.a0]; simp [rr.szs]
end
theorem scan_pos {b : List UInt8} : ∀ {f p : Nat} {r : RB}, p ≤ b.length → r ∈ scan f b p → 20 ≤ r.size.toNat := by
  intro f
  induction f with
  | zero => intro p r h1 h2; simp [scan] at h2
  | succ f ih =>
    intro p r h1 h2
    rw [scan] at h2
    by_cases he : (readP (b.drop p)).e = 0
    · obtain ⟨z1, z2, -, -⟩ := wk_size h1 he
      rw [if_pos he, List.mem_cons] at h2
      rcases h2 with rfl | h2
      · exact z1
      · exact ih z2 h2
    · rw [if_neg he] at h2; simp at h2
theorem szs_app (a b : List RB) : szs (a ++ b) = szs a + szs b := by simp [szs]
theorem szs_cons (r : RB) (b : List RB) : szs (r :: b) = r.size.toNat + szs b := by simp [szs]
theorem szs_take {b : List UInt8} {i : Nat} (h : i < (allB b 0).length) : szs ((allB b 0).take i) < szs (allB b 0) := by
  have hs : (allB b 0) = (allB b 0).take i ++ (allB b 0).drop i := (List.take_append_drop _ _).symm
  have hd : (allB b 0).drop i = (allB b 0)[i] :: (allB b 0).drop (i + 1) := List.drop_eq_getElem_cons h
  have h1 := scan_pos (Nat.zero_le b.length) (show (allB b 0)[i] ∈ scan (b.length + 1) b 0 from List.getElem_mem h)
  have h2 : szs (allB b 0) = szs ((allB b 0).take i) + szs ((allB b 0).drop i) := (congrArg szs hs).trans (szs_app _ _)
  rw [hd] at h2
  have h3 : szs ((allB b 0)[i] :: (allB b 0).drop (i + 1)) = ((allB b 0)[i]).size.toNat + szs ((allB b 0).drop (i + 1)) := szs_cons _ _
  omega
theorem szs_le3 (b : List UInt8) : szs (allB b 0) ≤ b.length ∧ cnt (allB b 0) ≤ szs (allB b 0) ∧ (allB b 0).length ≤ szs (allB b 0) := by
  suffices H : ∀ f rs, WkI b 0 rs f → szs (allB b 0) ≤ b.length ∧ cnt (allB b 0) ≤ szs (allB b 0) ∧ (allB b 0).length ≤ szs (allB b 0) from H _ _ (wk0 (Nat.zero_le _))
  intro f
  induction f with
  | zero => intro rs w; have := w.fuel; omega
  | succ f ih =>
    intro rs w
    by_cases he : (readP (b.drop (0 + szs rs))).e = 0
    · have hz := szs_snoc rs (readP (b.drop (0 + szs rs)))
      obtain ⟨z1, z2, -, -⟩ := wk_size w.le he
      refine ih (rs ++ [readP (b.drop (0 + szs rs))]) ⟨?_, by omega, by have := w.fuel; omega, ?_, ?_⟩
      · have h1 := w.all
        rw [scan, if_pos he] at h1
        rw [h1, hz, ← Nat.add_assoc, List.append_assoc]; rfl
      · have := w.cn; have hc := cnt_snoc rs (readP (b.drop (0 + szs rs))); obtain ⟨-, -, -, z4⟩ := wk_size w.le he; omega
      · have := w.ln; rw [List.length_append, List.length_singleton]; omega
    · rw [wk_end w he]; have := w.le; exact ⟨by omega, w.cn, w.ln⟩
theorem szs_le (b : List UInt8) : szs (allB b 0) ≤ b.length := (szs_le3 b).1
/-! ### The walk -/
structure ZS (h g : H) (rb nb sb tb kb jb : Nat) (n : Int) (sv tv : Array Value) (k j : Int) : Prop where
  qr : g rb = some (.cells #[.bool false] 4)
  qn : g nb = some (.cells #[.int .i64 n] 3)
  qs : g sb = some (.cells sv 49)
  qt : g tb = some (.cells tv 49)
  qk : g kb = some (.cells #[.int .i64 k] 3)
  qj : g jb = some (.cells #[.int .i64 j] 3)
  nr : h rb = none
  nk : h kb = none
  nj : h jb = none
  kj : kb ≠ jb
  kn : nb ≠ kb
  jn : nb ≠ jb
  E : Ext h g
section
variable {h g g' : H} {rb nb sb tb kb jb : Nat} {n : Int} {sv tv : Array Value} {k j : Int}
theorem ZS.ext (z : ZS h g rb nb sb tb kb jb n sv tv k j) (e : Ext g g') : ZS h g' rb nb sb tb kb jb n sv tv k j :=
  ⟨e.at z.qr, e.at z.qn, e.at z.qs, e.at z.qt, e.at z.qk, e.at z.qj, z.nr, z.nk, z.nj, z.kj, z.kn, z.jn, z.E.trans e⟩
theorem ZS.setK (z : ZS h g rb nb sb tb kb jb n sv tv k j) (f : Fr (fun y => y = kb) g g') {k' : Int} (q : g' kb = some (.cells #[.int .i64 k'] 3)) : ZS h g' rb nb sb tb kb jb n sv tv k' j :=
  ⟨f _ _ z.qr (fun h => by have := z.qk; rw [← h, z.qr] at this; simp at this), f _ _ z.qn z.kn, f _ _ z.qs (fun h => by have := z.qk; rw [← h, z.qs] at this; simp at this), f _ _ z.qt (fun h => by have := z.qk; rw [← h, z.qt] at this; simp at this), q, f _ _ z.qj z.kj.symm, z.nr, z.nk, z.nj, z.kj, z.kn, z.jn, Ext.step' z.E f fun y hy => by rw [hy]; exact z.nk⟩
theorem ZS.setJ (z : ZS h g rb nb sb tb kb jb n sv tv k j) (f : Fr (fun y => y = jb) g g') {j' : Int} (q : g' jb = some (.cells #[.int .i64 j'] 3)) : ZS h g' rb nb sb tb kb jb n sv tv k j' :=
  ⟨f _ _ z.qr (fun h => by have := z.qj; rw [← h, z.qr] at this; simp at this), f _ _ z.qn z.jn, f _ _ z.qs (fun h => by have := z.qj; rw [← h, z.qs] at this; simp at this), f _ _ z.qt (fun h => by have := z.qj; rw [← h, z.qt] at this; simp at this), f _ _ z.qk z.kj, q, z.nr, z.nk, z.nj, z.kj, z.kn, z.jn, Ext.step' z.E f fun y hy => by rw [hy]; exact z.nj⟩
abbrev sc4 (a b c d : Int) : Array Value := #[.int .i64 a, .int .i64 b, .int .i64 c, .int .i64 d]
abbrev zQ (h : H) : Post := retC [.c 2 4] (okR (qT h))
/-- A true answer, told. -/
theorem zret {g : H} {rb : Nat} {K : H → Prop} (q : g rb = some (.cells #[.bool false] 4)) (hK : ∀ G, G rb = some (.cells #[.bool true] 4) → Fr (fun y => y = rb) g G → K G) : storeH g ⟨rb, 0, none⟩ [.bool true] K :=
  storeH_all q rfl rfl (hK _ (hupd_same _ _ _) (Fr.upd (S := fun y => y = rb) rfl _))
theorem sz_s21 {l : List rc.D} {sa : Option Addr} {sc : Nat} {a b c d a' b' c' : Int} (z : ZS h g rb nb sb tb kb jb n (sc4 a b c d) (sc4 a' b' c' d) k j)
    (h1 : a = a' + 2) (h2 : b = b' + 2 * (l.length : Int)) (h3 : c = c' + 2 * n) (h4 : k = a) (h5 : j < c) (hl : l.length ≤ 300) (hb' : 0 ≤ b' ∧ b' ≤ 1000000000) (ha' : 0 ≤ a' ∧ a' ≤ 1000000000) (hc' : 0 ≤ c' ∧ c' ≤ 1000000000) (hn : 0 ≤ n ∧ n ≤ 65536) :
    vc Try.prog c8_s21 (zQ h) [(2, .pointer (some ⟨rb, 0, none⟩)), (3, .slice sa l.length sc), (5, .pointer (some ⟨nb, 0, none⟩)), (12, .pointer (some ⟨sb, 0, none⟩)), (13, .int .i64 0), (14, .pointer (some ⟨tb, 0, none⟩)), (15, .int .i64 0), (16, .pointer (some ⟨kb, 0, none⟩)), (17, .pointer (some ⟨jb, 0, none⟩))] g := by
  have s0 : cellAt g ⟨sb, 0, none⟩ = some (.int .i64 a) := by rw [cellAt_of z.qs]; rfl
  have s1 : cellAt g ⟨sb, 1, none⟩ = some (.int .i64 b) := by rw [cellAt_of z.qs]; rfl
  have s2 : cellAt g ⟨sb, 2, none⟩ = some (.int .i64 c) := by rw [cellAt_of z.qs]; rfl
  have s3 : cellAt g ⟨sb, 3, none⟩ = some (.int .i64 d) := by rw [cellAt_of z.qs]; rfl
  have t0 : cellAt g ⟨tb, 0, none⟩ = some (.int .i64 a') := by rw [cellAt_of z.qt]; rfl
  have t1 : cellAt g ⟨tb, 1, none⟩ = some (.int .i64 b') := by rw [cellAt_of z.qt]; rfl
  have t2 : cellAt g ⟨tb, 2, none⟩ = some (.int .i64 c') := by rw [cellAt_of z.qt]; rfl
  have t3 : cellAt g ⟨tb, 3, none⟩ = some (.int .i64 d) := by rw [cellAt_of z.qt]; rfl
  have n0 : cellAt g ⟨nb, 0, none⟩ = some (.int .i64 n) := by rw [cellAt_of z.qn]; rfl
  have k0 : cellAt g ⟨kb, 0, none⟩ = some (.int .i64 k) := by rw [cellAt_of z.qk]; rfl
  have j0 : cellAt g ⟨jb, 0, none⟩ = some (.int .i64 j) := by rw [cellAt_of z.qj]; rfl
  subst h1 h2 h3 h4
  simp (disch := omega) only [dm_t, wA, wB, wL, wW, wY, Int.fdiv_eq_ediv_of_nonneg, Int.tdiv_eq_ediv_of_nonneg, Int.tmod_eq_emod_of_nonneg, chk_pos, decT, decF, br_pos, br_neg, wX, ↓reduceIte, Nat.reduceEqDiff, Nat.reduceAdd, Nat.reduceSub, Nat.reduceMul, Nat.reduceLeDiff, Nat.reduceLT, Nat.reduceMod, Nat.reduceDiv, Int.reduceToNat, Nat.min_eq_left, IntKind.bits, Int.reducePow, Int.reduceLT, Int.reduceLE, Int.reduceEq, Int.reduceNe, Int.reduceAdd, Int.reduceSub, and_self, reduceCtorEq, decide_eq_true_eq, decide_eq_false_iff_not, eq_self, implies_true, exists_const, Option.isNone_some, Option.isNone_none, Option.isSome_some, Option.isSome_none, Option.getD_some, s0, s1, s2, s3, t0, t1, t2, t3, n0, k0, j0]
  refine (known_ok _).k ?_
  rintro _ g5 ⟨rfl, e5⟩
  simp (disch := omega) only [dm_t, wA, wB, wL, wW, wY, Int.fdiv_eq_ediv_of_nonneg, Int.tdiv_eq_ediv_of_nonneg, Int.tmod_eq_emod_of_nonneg, chk_pos, decT, decF, br_pos, br_neg, wX, ↓reduceIte, Nat.reduceEqDiff, Nat.reduceAdd, Nat.reduceSub, Nat.reduceMul, Nat.reduceLeDiff, Nat.reduceLT, Nat.reduceMod, Nat.reduceDiv, Int.reduceToNat, Nat.min_eq_left, IntKind.bits, Int.reducePow, Int.reduceLT, Int.reduceLE, Int.reduceEq, Int.reduceNe, Int.reduceAdd, Int.reduceSub, and_self, reduceCtorEq, decide_eq_true_eq, decide_eq_false_iff_not, eq_self, implies_true, exists_const, Option.isNone_some, Option.isNone_none, Option.isSome_some, Option.isSome_none, Option.getD_some]
  refine zret (e5.at z.qr) fun G q f => ?_
  simp (disch := omega) only [dm_t, wA, wB, wL, wW, wY, Int.fdiv_eq_ediv_of_nonneg, Int.tdiv_eq_ediv_of_nonneg, Int.tmod_eq_emod_of_nonneg, chk_pos, decT, decF, br_pos, br_neg, wX, ↓reduceIte, Nat.reduceEqDiff, Nat.reduceAdd, Nat.reduceSub, Nat.reduceMul, Nat.reduceLeDiff, Nat.reduceLT, Nat.reduceMod, Nat.reduceDiv, Int.reduceToNat, Nat.min_eq_left, IntKind.bits, Int.reducePow, Int.reduceLT, Int.reduceLE, Int.reduceEq, Int.reduceNe, Int.reduceAdd, Int.reduceSub, and_self, reduceCtorEq, decide_eq_true_eq, decide_eq_false_iff_not, eq_self, implies_true, exists_const, Option.isNone_some, Option.isNone_none, Option.isSome_some, Option.isSome_none, Option.getD_some, cellAt_of q]
  exact ⟨rfl, Ext.step' (z.E.trans e5) f fun y hy => by rw [hy]; exact z.nr⟩
theorem sz_s18 {l : List rc.D} {more two : List UInt8} {sa : Option Addr} {sc N : Nat} {w : Value} {b : Nat} (g0 : H) (T : Two l more two N) (hz : two.length ≤ 1000000)
    (z : ZS h g rb nb sb tb kb jb (N : Int) (sc4 ((allB two 0).length : Int) (cnt (allB two 0) : Int) (szs (allB two 0) : Int) (walkE two 0)) (sc4 ((allB two (2 * N)).length : Int) (cnt (allB two (2 * N)) : Int) (szs (allB two (2 * N)) : Int) (walkE two (2 * N))) 0 0)
    (hl : l.length ≤ 300) (hN : N ≤ 65536) (hcz : cnt (allB two (2 * N)) ≤ 1000000) (hlz : (allB two (2 * N)).length ≤ 1000000)
    (qb : g b = some (.cells #[w] 22)) (ow : OwB (fun y => g0 y = none ∧ y ≠ b) g 5 w two) (nb0 : g0 b = none) (gk : g0 kb ≠ none) (gj : g0 jb ≠ none) :
    vc Try.prog c8_s18 (seqQ Try.prog [2, 3, 5, 12, 13, 14, 15, 16, 17] c8_s21 (zQ h)) [(2, .pointer (some ⟨rb, 0, none⟩)), (3, .slice sa l.length sc), (5, .pointer (some ⟨nb, 0, none⟩)), (12, .pointer (some ⟨sb, 0, none⟩)), (13, .int .i64 0), (14, .pointer (some ⟨tb, 0, none⟩)), (15, .int .i64 0), (16, .pointer (some ⟨kb, 0, none⟩)), (17, .pointer (some ⟨jb, 0, none⟩)), (108, .func (.func 37) #[] #[.pointer (some ⟨b, 0, none⟩)])] g := by
  have hsz := szs_le two
  have hkb : b ≠ kb := fun h => gk (by rw [← h]; exact nb0)
  have hjb : b ≠ jb := fun h => gj (by rw [← h]; exact nb0)
  simp (disch := omega) only [dm_t, wA, wB, wL, wW, wY, Int.fdiv_eq_ediv_of_nonneg, Int.tdiv_eq_ediv_of_nonneg, Int.tmod_eq_emod_of_nonneg, chk_pos, decT, decF, br_pos, br_neg, wX, ↓reduceIte, Nat.reduceEqDiff, Nat.reduceAdd, Nat.reduceSub, Nat.reduceMul, Nat.reduceLeDiff, Nat.reduceLT, Nat.reduceMod, Nat.reduceDiv, Int.reduceToNat, Nat.min_eq_left, IntKind.bits, Int.reducePow, Int.reduceLT, Int.reduceLE, Int.reduceEq, Int.reduceNe, Int.reduceAdd, Int.reduceSub, and_self, reduceCtorEq, decide_eq_true_eq, decide_eq_false_iff_not, eq_self, implies_true, exists_const, Option.isNone_some, Option.isNone_none, Option.isSome_some, Option.isSome_none, Option.getD_some]
  refine vc_rngA rfl rfl (All_it (w := w) (l := two) (by omega)) ?_
    (fun i g' => ∃ j : Nat, ZS h g' rb nb sb tb kb jb (N : Int) (sc4 ((allB two 0).length : Int) (cnt (allB two 0) : Int) (szs (allB two 0) : Int) (walkE two 0)) (sc4 ((allB two (2 * N)).length : Int) (cnt (allB two (2 * N)) : Int) (szs (allB two (2 * N)) : Int) (walkE two (2 * N))) (i : Int) (j : Int) ∧
      (0 < i → j < szs (allB two 0)) ∧ g' b = some (.cells #[w] 22) ∧ OwB (fun y => g0 y = none ∧ y ≠ b) g' 5 w two)
    (fun _ => False) (fun _ _ => False) ?_ ?_ ?_ ?_ ?_ ?_ (fun _ h => h.elim) (fun _ _ h => h.elim)
  · rintro h b o hb ⟨h1, h2⟩
    exact ⟨(Ext.new hb o).at h1, SlK.ext h2 (Ext.new hb o)⟩
  · rintro i h' ⟨j, z1, z2, z3, z4⟩
    exact ⟨z3, OwK.s0 z4⟩
  · rintro i h' h'' ⟨j, z1, z2, z3, z4⟩ e
    exact ⟨j, z1.ext e, z2, e.at z3, OwK.ext z4 e⟩
  · exact ⟨0, z, fun h => by omega, qb, ow⟩
  · rintro i h0 h' args hi ⟨w, rfl, -⟩; rfl
  · rintro L i h0 h1 args hi ⟨r, hr⟩ ⟨j, z1, z2, z3, z4⟩ e0 ⟨w', rfl, ow'⟩
    have hst := szs_take hi
    have e1 := hdel_mono L e0
    replace z1 := z1.ext e1
    replace z3 := e1.at z3
    replace z4 := OwK.ext z4 e1
    clear ow'
    have k0 : cellAt (hdel h1 L) ⟨kb, 0, none⟩ = some (.int .i64 (i : Int)) := by rw [cellAt_of z1.qk]; rfl
    have n0 : cellAt (hdel h1 L) ⟨nb, 0, none⟩ = some (.int .i64 (N : Int)) := by rw [cellAt_of z1.qn]; rfl
    have hi2 : i ≤ 2000000 := by have := T.len; omega
    clear hr e0 e1
    generalize hG : hdel h1 L = g1 at *
    rcases Nat.lt_or_ge i 2 with h2 | h2
    · rcases (show i = 0 ∨ i = 1 by omega) with rfl | rfl
      · rw [T.at0] at hst ⊢
        simp (disch := omega) only [dm_t, wA, wB, wL, wW, wY, Int.fdiv_eq_ediv_of_nonneg, Int.tdiv_eq_ediv_of_nonneg, Int.tmod_eq_emod_of_nonneg, chk_pos, decT, decF, br_pos, br_neg, wX, ↓reduceIte, Nat.reduceEqDiff, Nat.reduceAdd, Nat.reduceSub, Nat.reduceMul, Nat.reduceLeDiff, Nat.reduceLT, Nat.reduceMod, Nat.reduceDiv, Int.reduceToNat, Nat.min_eq_left, IntKind.bits, Int.reducePow, Int.reduceLT, Int.reduceLE, Int.reduceEq, Int.reduceNe, Int.reduceAdd, Int.reduceSub, and_self, reduceCtorEq, decide_eq_true_eq, decide_eq_false_iff_not, eq_self, implies_true, exists_const, Option.isNone_some, Option.isNone_none, Option.isSome_some, Option.isSome_none, Option.getD_some, List.zip_cons_cons, List.zip_nil_right, List.cons_append, List.nil_append, hG, k0, n0]
        (refine storeH_all (vs := [_]) z1.qj rfl rfl ?_; generalize hG2 : hupd g1 jb _ = g2; have q2 := (hG2 ▸ hupd_same _ _ _ : g2 jb = _); have f2 : Fr (fun y => y = jb) g1 g2 := (hG2 ▸ Fr.upd (S := fun y => y = jb) rfl _); clear hG2)
        (have y2 := z1.setJ f2 q2; have p2 := f2 _ _ z3 hjb; have w2 := OwK.fr z4 f2 (fun y hy ho _ => gj (hy ▸ ho.1)))
        simp (disch := omega) only [dm_t, wA, wB, wL, wW, wY, Int.fdiv_eq_ediv_of_nonneg, Int.tdiv_eq_ediv_of_nonneg, Int.tmod_eq_emod_of_nonneg, chk_pos, decT, decF, br_pos, br_neg, wX, ↓reduceIte, Nat.reduceEqDiff, Nat.reduceAdd, Nat.reduceSub, Nat.reduceMul, Nat.reduceLeDiff, Nat.reduceLT, Nat.reduceMod, Nat.reduceDiv, Int.reduceToNat, Nat.min_eq_left, IntKind.bits, Int.reducePow, Int.reduceLT, Int.reduceLE, Int.reduceEq, Int.reduceNe, Int.reduceAdd, Int.reduceSub, and_self, reduceCtorEq, decide_eq_true_eq, decide_eq_false_iff_not, eq_self, implies_true, exists_const, Option.isNone_some, Option.isNone_none, Option.isSome_some, Option.isSome_none, Option.getD_some, cellAt_of y2.qk]
        (refine storeH_all (vs := [_]) y2.qk rfl rfl ?_; generalize hG3 : hupd g2 kb _ = g3; have q3 := (hG3 ▸ hupd_same _ _ _ : g3 kb = _); have f3 : Fr (fun y => y = kb) g2 g3 := (hG3 ▸ Fr.upd (S := fun y => y = kb) rfl _); clear hG3; have y3 := y2.setK f3 q3; have p3 := f3 _ _ p2 hkb; have w3 := OwK.fr w2 f3 (fun y hy ho _ => gk (hy ▸ ho.1)))
        simp (disch := omega) only [dm_t, wA, wB, wL, wW, wY, Int.fdiv_eq_ediv_of_nonneg, Int.tdiv_eq_ediv_of_nonneg, Int.tmod_eq_emod_of_nonneg, chk_pos, decT, decF, br_pos, br_neg, wX, ↓reduceIte, Nat.reduceEqDiff, Nat.reduceAdd, Nat.reduceSub, Nat.reduceMul, Nat.reduceLeDiff, Nat.reduceLT, Nat.reduceMod, Nat.reduceDiv, Int.reduceToNat, Nat.min_eq_left, IntKind.bits, Int.reducePow, Int.reduceLT, Int.reduceLE, Int.reduceEq, Int.reduceNe, Int.reduceAdd, Int.reduceSub, and_self, reduceCtorEq, decide_eq_true_eq, decide_eq_false_iff_not, eq_self, implies_true, exists_const, Option.isNone_some, Option.isNone_none, Option.isSome_some, Option.isSome_none, Option.getD_some]
        exact fun _ => ⟨_, y3, hst, p3, w3⟩
      · rw [T.at1] at hst ⊢
        simp (disch := omega) only [dm_t, wA, wB, wL, wW, wY, Int.fdiv_eq_ediv_of_nonneg, Int.tdiv_eq_ediv_of_nonneg, Int.tmod_eq_emod_of_nonneg, chk_pos, decT, decF, br_pos, br_neg, wX, ↓reduceIte, Nat.reduceEqDiff, Nat.reduceAdd, Nat.reduceSub, Nat.reduceMul, Nat.reduceLeDiff, Nat.reduceLT, Nat.reduceMod, Nat.reduceDiv, Int.reduceToNat, Nat.min_eq_left, IntKind.bits, Int.reducePow, Int.reduceLT, Int.reduceLE, Int.reduceEq, Int.reduceNe, Int.reduceAdd, Int.reduceSub, and_self, reduceCtorEq, decide_eq_true_eq, decide_eq_false_iff_not, eq_self, implies_true, exists_const, Option.isNone_some, Option.isNone_none, Option.isSome_some, Option.isSome_none, Option.getD_some, List.zip_cons_cons, List.zip_nil_right, List.cons_append, List.nil_append, hG, k0, n0]
        (refine storeH_all (vs := [_]) z1.qj rfl rfl ?_; generalize hG2 : hupd g1 jb _ = g2; have q2 := (hG2 ▸ hupd_same _ _ _ : g2 jb = _); have f2 : Fr (fun y => y = jb) g1 g2 := (hG2 ▸ Fr.upd (S := fun y => y = jb) rfl _); clear hG2)
        (have y2 := z1.setJ f2 q2; have p2 := f2 _ _ z3 hjb; have w2 := OwK.fr z4 f2 (fun y hy ho _ => gj (hy ▸ ho.1)))
        simp (disch := omega) only [dm_t, wA, wB, wL, wW, wY, Int.fdiv_eq_ediv_of_nonneg, Int.tdiv_eq_ediv_of_nonneg, Int.tmod_eq_emod_of_nonneg, chk_pos, decT, decF, br_pos, br_neg, wX, ↓reduceIte, Nat.reduceEqDiff, Nat.reduceAdd, Nat.reduceSub, Nat.reduceMul, Nat.reduceLeDiff, Nat.reduceLT, Nat.reduceMod, Nat.reduceDiv, Int.reduceToNat, Nat.min_eq_left, IntKind.bits, Int.reducePow, Int.reduceLT, Int.reduceLE, Int.reduceEq, Int.reduceNe, Int.reduceAdd, Int.reduceSub, and_self, reduceCtorEq, decide_eq_true_eq, decide_eq_false_iff_not, eq_self, implies_true, exists_const, Option.isNone_some, Option.isNone_none, Option.isSome_some, Option.isSome_none, Option.getD_some, cellAt_of y2.qk]
        (refine storeH_all (vs := [_]) y2.qk rfl rfl ?_; generalize hG3 : hupd g2 kb _ = g3; have q3 := (hG3 ▸ hupd_same _ _ _ : g3 kb = _); have f3 : Fr (fun y => y = kb) g2 g3 := (hG3 ▸ Fr.upd (S := fun y => y = kb) rfl _); clear hG3; have y3 := y2.setK f3 q3; have p3 := f3 _ _ p2 hkb; have w3 := OwK.fr w2 f3 (fun y hy ho _ => gk (hy ▸ ho.1)))
        simp (disch := omega) only [dm_t, wA, wB, wL, wW, wY, Int.fdiv_eq_ediv_of_nonneg, Int.tdiv_eq_ediv_of_nonneg, Int.tmod_eq_emod_of_nonneg, chk_pos, decT, decF, br_pos, br_neg, wX, ↓reduceIte, Nat.reduceEqDiff, Nat.reduceAdd, Nat.reduceSub, Nat.reduceMul, Nat.reduceLeDiff, Nat.reduceLT, Nat.reduceMod, Nat.reduceDiv, Int.reduceToNat, Nat.min_eq_left, IntKind.bits, Int.reducePow, Int.reduceLT, Int.reduceLE, Int.reduceEq, Int.reduceNe, Int.reduceAdd, Int.reduceSub, and_self, reduceCtorEq, decide_eq_true_eq, decide_eq_false_iff_not, eq_self, implies_true, exists_const, Option.isNone_some, Option.isNone_none, Option.isSome_some, Option.isSome_none, Option.getD_some]
        exact fun _ => ⟨_, y3, hst, p3, w3⟩
    · generalize szs ((allB two 0).take i) = at' at hst ⊢
      simp (disch := omega) only [dm_t, wA, wB, wL, wW, wY, Int.fdiv_eq_ediv_of_nonneg, Int.tdiv_eq_ediv_of_nonneg, Int.tmod_eq_emod_of_nonneg, chk_pos, decT, decF, br_pos, br_neg, wX, ↓reduceIte, Nat.reduceEqDiff, Nat.reduceAdd, Nat.reduceSub, Nat.reduceMul, Nat.reduceLeDiff, Nat.reduceLT, Nat.reduceMod, Nat.reduceDiv, Int.reduceToNat, Nat.min_eq_left, IntKind.bits, Int.reducePow, Int.reduceLT, Int.reduceLE, Int.reduceEq, Int.reduceNe, Int.reduceAdd, Int.reduceSub, and_self, reduceCtorEq, decide_eq_true_eq, decide_eq_false_iff_not, eq_self, implies_true, exists_const, Option.isNone_some, Option.isNone_none, Option.isSome_some, Option.isSome_none, Option.getD_some, List.zip_cons_cons, List.zip_nil_right, List.cons_append, List.nil_append, hG, k0, n0]
      (refine storeH_all (vs := [_]) z1.qj rfl rfl ?_; generalize hG2 : hupd g1 jb _ = g2; have q2 := (hG2 ▸ hupd_same _ _ _ : g2 jb = _); have f2 : Fr (fun y => y = jb) g1 g2 := (hG2 ▸ Fr.upd (S := fun y => y = jb) rfl _); clear hG2)
      (have y2 := z1.setJ f2 q2; have p2 := f2 _ _ z3 hjb; have w2 := OwK.fr z4 f2 (fun y hy ho _ => gj (hy ▸ ho.1)))
      simp (disch := omega) only [dm_t, wA, wB, wL, wW, wY, Int.fdiv_eq_ediv_of_nonneg, Int.tdiv_eq_ediv_of_nonneg, Int.tmod_eq_emod_of_nonneg, chk_pos, decT, decF, br_pos, br_neg, wX, ↓reduceIte, Nat.reduceEqDiff, Nat.reduceAdd, Nat.reduceSub, Nat.reduceMul, Nat.reduceLeDiff, Nat.reduceLT, Nat.reduceMod, Nat.reduceDiv, Int.reduceToNat, Nat.min_eq_left, IntKind.bits, Int.reducePow, Int.reduceLT, Int.reduceLE, Int.reduceEq, Int.reduceNe, Int.reduceAdd, Int.reduceSub, and_self, reduceCtorEq, decide_eq_true_eq, decide_eq_false_iff_not, eq_self, implies_true, exists_const, Option.isNone_some, Option.isNone_none, Option.isSome_some, Option.isSome_none, Option.getD_some, cellAt_of y2.qk]
      (refine storeH_all (vs := [_]) y2.qk rfl rfl ?_; generalize hG3 : hupd g2 kb _ = g3; have q3 := (hG3 ▸ hupd_same _ _ _ : g3 kb = _); have f3 : Fr (fun y => y = kb) g2 g3 := (hG3 ▸ Fr.upd (S := fun y => y = kb) rfl _); clear hG3; have y3 := y2.setK f3 q3; have p3 := f3 _ _ p2 hkb; have w3 := OwK.fr w2 f3 (fun y hy ho _ => gk (hy ▸ ho.1)))
      simp (disch := omega) only [dm_t, wA, wB, wL, wW, wY, Int.fdiv_eq_ediv_of_nonneg, Int.tdiv_eq_ediv_of_nonneg, Int.tmod_eq_emod_of_nonneg, chk_pos, decT, decF, br_pos, br_neg, wX, ↓reduceIte, Nat.reduceEqDiff, Nat.reduceAdd, Nat.reduceSub, Nat.reduceMul, Nat.reduceLeDiff, Nat.reduceLT, Nat.reduceMod, Nat.reduceDiv, Int.reduceToNat, Nat.min_eq_left, IntKind.bits, Int.reducePow, Int.reduceLT, Int.reduceLE, Int.reduceEq, Int.reduceNe, Int.reduceAdd, Int.reduceSub, and_self, reduceCtorEq, decide_eq_true_eq, decide_eq_false_iff_not, eq_self, implies_true, exists_const, Option.isNone_some, Option.isNone_none, Option.isSome_some, Option.isSome_none, Option.getD_some]
      exact fun _ => ⟨_, y3, fun _ => hst, p3, w3⟩
  · rintro h' ⟨j, z1, z2, z3, z4⟩
    have hlen := T.len
    rw [T.why] at z1
    have k0 := sz_s21 (l := l) (sa := sa) (sc := sc) z1
    have k := k0 (by rw [hlen]; omega) (by rw [T.cnt]; omega) (by rw [T.szs]; omega) rfl (by have := z2 (by omega); omega) hl (by omega) (by omega) (by have := T.szs; omega) (by omega)
    simp (disch := omega) only [dm_t, wA, wB, wL, wW, wY, Int.fdiv_eq_ediv_of_nonneg, Int.tdiv_eq_ediv_of_nonneg, Int.tmod_eq_emod_of_nonneg, chk_pos, decT, decF, br_pos, br_neg, wX, ↓reduceIte, Nat.reduceEqDiff, Nat.reduceAdd, Nat.reduceSub, Nat.reduceMul, Nat.reduceLeDiff, Nat.reduceLT, Nat.reduceMod, Nat.reduceDiv, Int.reduceToNat, Nat.min_eq_left, IntKind.bits, Int.reducePow, Int.reduceLT, Int.reduceLE, Int.reduceEq, Int.reduceNe, Int.reduceAdd, Int.reduceSub, and_self, reduceCtorEq, decide_eq_true_eq, decide_eq_false_iff_not, eq_self, implies_true, exists_const, Option.isNone_some, Option.isNone_none, Option.isSome_some, Option.isSome_none, Option.getD_some, k]
theorem st4 {g : H} {b : Nat} {c : Array Value} {K : H → Prop} (a1 a2 a3 a4 : Int) (q : g b = some (.cells c 49)) (hc : c.size = 4) (hK : ∀ G, G b = some (.cells (sc4 a1 a2 a3 a4) 49) → Fr (fun y => y = b) g G → K G) : storeH g ⟨b, 0, none⟩ [.int .i64 a1, .int .i64 a2, .int .i64 a3, .int .i64 a4] K :=
  storeH_all q (by rw [hc]; rfl) rfl (hK _ (hupd_same _ _ _) (Fr.upd (S := fun y => y = b) rfl _))
theorem sz_s11 {l : List rc.D} {more bs : List UInt8} {sa ma ba : Option Addr} {sc mc bc N : Nat} (E : Ext h g) (qr : g rb = some (.cells #[.bool false] 4)) (qn : g nb = some (.cells #[.int .i64 (N : Int)] 3)) (nr : h rb = none)
    (hm : By nos h (.slice ma more.length mc) more) (hb : By nos g (.slice ba bs.length bc) bs) (hbs : bs = bytesB 5 l) (hp : putE 5 l = 0) (hN : N = 20 + sizes l) (hl : l.length ≤ 300) (hml : more.length ≤ 70000) :
    vc Try.prog c8_s11 (zQ h) [(2, .pointer (some ⟨rb, 0, none⟩)), (3, .slice sa l.length sc), (4, .slice ma more.length mc), (5, .pointer (some ⟨nb, 0, none⟩)), (7, .slice ba bs.length bc)] g := by
  have hlen : bs.length = N := by rw [hbs, hN]; exact bytesB_len
  have hsz : 20 + sizes l ≤ 65536 := (fits0 (put0 hp).1).2.2.2
  simp (disch := omega) only [dm_t, wA, wB, wL, wW, wY, Int.fdiv_eq_ediv_of_nonneg, Int.tdiv_eq_ediv_of_nonneg, Int.tmod_eq_emod_of_nonneg, chk_pos, decT, decF, br_pos, br_neg, wX, ↓reduceIte, Nat.reduceEqDiff, Nat.reduceAdd, Nat.reduceSub, Nat.reduceMul, Nat.reduceLeDiff, Nat.reduceLT, Nat.reduceMod, Nat.reduceDiv, Int.reduceToNat, Nat.min_eq_left, IntKind.bits, Int.reducePow, Int.reduceLT, Int.reduceLE, Int.reduceEq, Int.reduceNe, Int.reduceAdd, Int.reduceSub, and_self, reduceCtorEq, decide_eq_true_eq, decide_eq_false_iff_not, eq_self, implies_true, exists_const, Option.isNone_some, Option.isNone_none, Option.isSome_some, Option.isSome_none, Option.getD_some]
  refine appB (O := fun y => g y = none) (xs := []) OwK.nil (fun _ h => h) hb (by simp; omega) ?_
  intro w1 g1 o1 f1
  rw [List.nil_append] at o1
  have e1 : Ext g g1 := Ext.step (Ext.refl _) f1
  simp (disch := omega) only [dm_t, wA, wB, wL, wW, wY, Int.fdiv_eq_ediv_of_nonneg, Int.tdiv_eq_ediv_of_nonneg, Int.tmod_eq_emod_of_nonneg, chk_pos, decT, decF, br_pos, br_neg, wX, ↓reduceIte, Nat.reduceEqDiff, Nat.reduceAdd, Nat.reduceSub, Nat.reduceMul, Nat.reduceLeDiff, Nat.reduceLT, Nat.reduceMod, Nat.reduceDiv, Int.reduceToNat, Nat.min_eq_left, IntKind.bits, Int.reducePow, Int.reduceLT, Int.reduceLE, Int.reduceEq, Int.reduceNe, Int.reduceAdd, Int.reduceSub, and_self, reduceCtorEq, decide_eq_true_eq, decide_eq_false_iff_not, eq_self, implies_true, exists_const, Option.isNone_some, Option.isNone_none, Option.isSome_some, Option.isSome_none, Option.getD_some]
  refine appB o1 (fun y hy => e1.bk hy) (SlK.ext hb e1) (by omega) ?_
  intro w2 g2 o2 f2
  have e2 : Ext g g2 := Ext.step' e1 f2 fun y hy => hy.1
  simp (disch := omega) only [dm_t, wA, wB, wL, wW, wY, Int.fdiv_eq_ediv_of_nonneg, Int.tdiv_eq_ediv_of_nonneg, Int.tmod_eq_emod_of_nonneg, chk_pos, decT, decF, br_pos, br_neg, wX, ↓reduceIte, Nat.reduceEqDiff, Nat.reduceAdd, Nat.reduceSub, Nat.reduceMul, Nat.reduceLeDiff, Nat.reduceLT, Nat.reduceMod, Nat.reduceDiv, Int.reduceToNat, Nat.min_eq_left, IntKind.bits, Int.reducePow, Int.reduceLT, Int.reduceLE, Int.reduceEq, Int.reduceNe, Int.reduceAdd, Int.reduceSub, and_self, reduceCtorEq, decide_eq_true_eq, decide_eq_false_iff_not, eq_self, implies_true, exists_const, Option.isNone_some, Option.isNone_none, Option.isSome_some, Option.isSome_none, Option.getD_some]
  refine appB o2 (fun y hy => e2.bk hy) (SlK.ext hm (E.trans e2)) (by rw [List.length_append]; omega) ?_
  intro w3 g3 o3 f3
  have e3 : Ext g g3 := Ext.step' e2 f3 fun y hy => hy.1
  have T : Two l more (bs ++ bs ++ more) N := mkTwo hp (by rw [hbs]) hN
  have htl : (bs ++ bs ++ more).length ≤ 300000 := by rw [List.length_append, List.length_append]; omega
  have hN2 : 2 * N ≤ (bs ++ bs ++ more).length := T.le
  clear hbs hlen
  generalize bs ++ bs ++ more = two at *
  have bw := OwK.s0 o3
  have hV : ∀ p : Nat, p ≤ two.length → walkV two (p : Int) = .tuple #[.agg (sc4 ((allB two p).length : Int) (cnt (allB two p) : Int) (szs (allB two p) : Int) (walkE two p)), .int .i64 0] := by
    intro p hp; rw [walkV, if_neg (by omega), Int.toNat_natCast]
  simp (disch := omega) only [dm_t, wA, wB, wL, wW, wY, Int.fdiv_eq_ediv_of_nonneg, Int.tdiv_eq_ediv_of_nonneg, Int.tmod_eq_emod_of_nonneg, chk_pos, decT, decF, br_pos, br_neg, wX, ↓reduceIte, Nat.reduceEqDiff, Nat.reduceAdd, Nat.reduceSub, Nat.reduceMul, Nat.reduceLeDiff, Nat.reduceLT, Nat.reduceMod, Nat.reduceDiv, Int.reduceToNat, Nat.min_eq_left, IntKind.bits, Int.reducePow, Int.reduceLT, Int.reduceLE, Int.reduceEq, Int.reduceNe, Int.reduceAdd, Int.reduceSub, and_self, reduceCtorEq, decide_eq_true_eq, decide_eq_false_iff_not, eq_self, implies_true, exists_const, Option.isNone_some, Option.isNone_none, Option.isSome_some, Option.isSome_none, Option.getD_some]
  refine (Walk_ok bw (by omega) 0 (by decide)).k ?_
  rintro _ g4 ⟨rfl, e4⟩
  have hV0 := hV 0 (by omega)
  rw [Int.natCast_zero] at hV0
  rw [hV0]
  simp (disch := omega) only [dm_t, wA, wB, wL, wW, wY, Int.fdiv_eq_ediv_of_nonneg, Int.tdiv_eq_ediv_of_nonneg, Int.tmod_eq_emod_of_nonneg, chk_pos, decT, decF, br_pos, br_neg, wX, ↓reduceIte, Nat.reduceEqDiff, Nat.reduceAdd, Nat.reduceSub, Nat.reduceMul, Nat.reduceLeDiff, Nat.reduceLT, Nat.reduceMod, Nat.reduceDiv, Int.reduceToNat, Nat.min_eq_left, IntKind.bits, Int.reducePow, Int.reduceLT, Int.reduceLE, Int.reduceEq, Int.reduceNe, Int.reduceAdd, Int.reduceSub, and_self, reduceCtorEq, decide_eq_true_eq, decide_eq_false_iff_not, eq_self, implies_true, exists_const, Option.isNone_some, Option.isNone_none, Option.isSome_some, Option.isSome_none, Option.getD_some]
  intro sb hsb
  simp (disch := omega) only [dm_t, wA, wB, wL, wW, wY, Int.fdiv_eq_ediv_of_nonneg, Int.tdiv_eq_ediv_of_nonneg, Int.tmod_eq_emod_of_nonneg, chk_pos, decT, decF, br_pos, br_neg, wX, ↓reduceIte, Nat.reduceEqDiff, Nat.reduceAdd, Nat.reduceSub, Nat.reduceMul, Nat.reduceLeDiff, Nat.reduceLT, Nat.reduceMod, Nat.reduceDiv, Int.reduceToNat, Nat.min_eq_left, IntKind.bits, Int.reducePow, Int.reduceLT, Int.reduceLE, Int.reduceEq, Int.reduceNe, Int.reduceAdd, Int.reduceSub, and_self, reduceCtorEq, decide_eq_true_eq, decide_eq_false_iff_not, eq_self, implies_true, exists_const, Option.isNone_some, Option.isNone_none, Option.isSome_some, Option.isSome_none, Option.getD_some]
  refine st4 _ _ _ _ (hupd_same _ _ _) rfl ?_
  intro g5 qs f5
  have e5 : Ext g4 g5 := Ext.step' (Ext.new hsb _) f5 fun y hy => by rw [hy]; exact hsb
  have n5 : cellAt g5 ⟨nb, 0, none⟩ = some (.int .i64 (N : Int)) := by rw [cellAt_of (((e3.trans e4).trans e5).at qn)]; rfl
  simp (disch := omega) only [dm_t, wA, wB, wL, wW, wY, Int.fdiv_eq_ediv_of_nonneg, Int.tdiv_eq_ediv_of_nonneg, Int.tmod_eq_emod_of_nonneg, chk_pos, decT, decF, br_pos, br_neg, wX, ↓reduceIte, Nat.reduceEqDiff, Nat.reduceAdd, Nat.reduceSub, Nat.reduceMul, Nat.reduceLeDiff, Nat.reduceLT, Nat.reduceMod, Nat.reduceDiv, Int.reduceToNat, Nat.min_eq_left, IntKind.bits, Int.reducePow, Int.reduceLT, Int.reduceLE, Int.reduceEq, Int.reduceNe, Int.reduceAdd, Int.reduceSub, and_self, reduceCtorEq, decide_eq_true_eq, decide_eq_false_iff_not, eq_self, implies_true, exists_const, Option.isNone_some, Option.isNone_none, Option.isSome_some, Option.isSome_none, Option.getD_some, n5]
  rw [show 2 * (N : Int) = ((2 * N : Nat) : Int) by omega]
  refine (Walk_ok (SlK.ext bw (e4.trans e5)) (by omega) _ (by omega)).k ?_
  rintro _ g6 ⟨rfl, e6⟩
  rw [hV (2 * N) hN2]
  simp (disch := omega) only [dm_t, wA, wB, wL, wW, wY, Int.fdiv_eq_ediv_of_nonneg, Int.tdiv_eq_ediv_of_nonneg, Int.tmod_eq_emod_of_nonneg, chk_pos, decT, decF, br_pos, br_neg, wX, ↓reduceIte, Nat.reduceEqDiff, Nat.reduceAdd, Nat.reduceSub, Nat.reduceMul, Nat.reduceLeDiff, Nat.reduceLT, Nat.reduceMod, Nat.reduceDiv, Int.reduceToNat, Nat.min_eq_left, IntKind.bits, Int.reducePow, Int.reduceLT, Int.reduceLE, Int.reduceEq, Int.reduceNe, Int.reduceAdd, Int.reduceSub, and_self, reduceCtorEq, decide_eq_true_eq, decide_eq_false_iff_not, eq_self, implies_true, exists_const, Option.isNone_some, Option.isNone_none, Option.isSome_some, Option.isSome_none, Option.getD_some]
  intro tb htb
  simp (disch := omega) only [dm_t, wA, wB, wL, wW, wY, Int.fdiv_eq_ediv_of_nonneg, Int.tdiv_eq_ediv_of_nonneg, Int.tmod_eq_emod_of_nonneg, chk_pos, decT, decF, br_pos, br_neg, wX, ↓reduceIte, Nat.reduceEqDiff, Nat.reduceAdd, Nat.reduceSub, Nat.reduceMul, Nat.reduceLeDiff, Nat.reduceLT, Nat.reduceMod, Nat.reduceDiv, Int.reduceToNat, Nat.min_eq_left, IntKind.bits, Int.reducePow, Int.reduceLT, Int.reduceLE, Int.reduceEq, Int.reduceNe, Int.reduceAdd, Int.reduceSub, and_self, reduceCtorEq, decide_eq_true_eq, decide_eq_false_iff_not, eq_self, implies_true, exists_const, Option.isNone_some, Option.isNone_none, Option.isSome_some, Option.isSome_none, Option.getD_some]
  refine st4 _ _ _ _ (hupd_same _ _ _) rfl ?_
  intro g7 qt f7
  have e7 : Ext g6 g7 := Ext.step' (Ext.new htb _) f7 fun y hy => by rw [hy]; exact htb
  have qs7 := (e6.trans e7).at qs
  simp (disch := omega) only [dm_t, wA, wB, wL, wW, wY, Int.fdiv_eq_ediv_of_nonneg, Int.tdiv_eq_ediv_of_nonneg, Int.tmod_eq_emod_of_nonneg, chk_pos, decT, decF, br_pos, br_neg, wX, ↓reduceIte, Nat.reduceEqDiff, Nat.reduceAdd, Nat.reduceSub, Nat.reduceMul, Nat.reduceLeDiff, Nat.reduceLT, Nat.reduceMod, Nat.reduceDiv, Int.reduceToNat, Nat.min_eq_left, IntKind.bits, Int.reducePow, Int.reduceLT, Int.reduceLE, Int.reduceEq, Int.reduceNe, Int.reduceAdd, Int.reduceSub, and_self, reduceCtorEq, decide_eq_true_eq, decide_eq_false_iff_not, eq_self, implies_true, exists_const, Option.isNone_some, Option.isNone_none, Option.isSome_some, Option.isSome_none, Option.getD_some]
  intro kb hkb jb hjb
  generalize hG : hupd g7 kb _ = g8 at hjb ⊢
  obtain ⟨e8, qk⟩ := new_ext hG hkb
  clear hG
  generalize hG : hupd g8 jb _ = g9
  obtain ⟨e9, qj⟩ := new_ext hG hjb
  clear hG
  have hkj := ne_of qk hjb
  have e79 := e8.trans e9
  have e47 := (e5.trans e6).trans e7
  have E4 := (E.trans e3).trans e4
  have E7 := E4.trans e47
  have qn9 := ((e3.trans e4).trans (e47.trans e79)).at qn
  have qr9 := ((e3.trans e4).trans (e47.trans e79)).at qr
  have z9 : ZS h g9 rb nb sb tb kb jb (N : Int) (sc4 ((allB two 0).length : Int) (cnt (allB two 0) : Int) (szs (allB two 0) : Int) (walkE two 0)) (sc4 ((allB two (2 * N)).length : Int) (cnt (allB two (2 * N)) : Int) (szs (allB two (2 * N)) : Int) (walkE two (2 * N))) 0 0 :=
    ⟨qr9, qn9, e79.at qs7, e79.at qt, e9.at qk, qj, nr, E7.bk hkb, (E7.trans e8).bk hjb, hkj, (fun hh => by have := (((e3.trans e4).trans e47).at qn); rw [hh, hkb] at this; cases this), (fun hh => by have := (((e3.trans e4).trans (e47.trans e8)).at qn); rw [hh, hjb] at this; cases this), E7.trans e79⟩
  refine storeH_all (vs := [_]) z9.qk rfl rfl ?_
  generalize hG : hupd g9 kb _ = g10
  have y10 := z9.setK (hG ▸ Fr.upd (S := fun y => y = kb) rfl _ : Fr (fun y => y = kb) g9 g10) (hG ▸ hupd_same _ _ _ : g10 kb = _)
  have f10 : Fr (fun y => y = kb) g9 g10 := hG ▸ Fr.upd (S := fun y => y = kb) rfl _
  clear hG
  simp (disch := omega) only [dm_t, wA, wB, wL, wW, wY, Int.fdiv_eq_ediv_of_nonneg, Int.tdiv_eq_ediv_of_nonneg, Int.tmod_eq_emod_of_nonneg, chk_pos, decT, decF, br_pos, br_neg, wX, ↓reduceIte, Nat.reduceEqDiff, Nat.reduceAdd, Nat.reduceSub, Nat.reduceMul, Nat.reduceLeDiff, Nat.reduceLT, Nat.reduceMod, Nat.reduceDiv, Int.reduceToNat, Nat.min_eq_left, IntKind.bits, Int.reducePow, Int.reduceLT, Int.reduceLE, Int.reduceEq, Int.reduceNe, Int.reduceAdd, Int.reduceSub, and_self, reduceCtorEq, decide_eq_true_eq, decide_eq_false_iff_not, eq_self, implies_true, exists_const, Option.isNone_some, Option.isNone_none, Option.isSome_some, Option.isSome_none, Option.getD_some]
  refine storeH_all (vs := [_]) y10.qj rfl rfl ?_
  generalize hG : hupd g10 jb _ = g11
  have y11 := y10.setJ (hG ▸ Fr.upd (S := fun y => y = jb) rfl _ : Fr (fun y => y = jb) g10 g11) (hG ▸ hupd_same _ _ _ : g11 jb = _)
  have f11 : Fr (fun y => y = jb) g10 g11 := hG ▸ Fr.upd (S := fun y => y = jb) rfl _
  clear hG
  have e411 : Ext g4 g11 := Ext.step' (Ext.step' (e47.trans e79) f10 fun y hy => by rw [hy]; exact e47.bk hkb) f11 fun y hy => by rw [hy]; exact (e47.trans e8).bk hjb
  simp (disch := omega) only [dm_t, wA, wB, wL, wW, wY, Int.fdiv_eq_ediv_of_nonneg, Int.tdiv_eq_ediv_of_nonneg, Int.tmod_eq_emod_of_nonneg, chk_pos, decT, decF, br_pos, br_neg, wX, ↓reduceIte, Nat.reduceEqDiff, Nat.reduceAdd, Nat.reduceSub, Nat.reduceMul, Nat.reduceLeDiff, Nat.reduceLT, Nat.reduceMod, Nat.reduceDiv, Int.reduceToNat, Nat.min_eq_left, IntKind.bits, Int.reducePow, Int.reduceLT, Int.reduceLE, Int.reduceEq, Int.reduceNe, Int.reduceAdd, Int.reduceSub, and_self, reduceCtorEq, decide_eq_true_eq, decide_eq_false_iff_not, eq_self, implies_true, exists_const, Option.isNone_some, Option.isNone_none, Option.isSome_some, Option.isSome_none, Option.getD_some]
  refine (All_ok (SlK.ext bw (e4.trans e411)) (by omega)).k ?_
  rintro _ g12 ⟨b, w, rfl, hbn, qb, ow, e12⟩
  have hb3 := szs_le3 two
  have k := sz_s18 (l := l) (more := more) (sa := sa) (sc := sc) g11 T (by omega) (y11.ext e12) hl (by omega) (by have := T.cnt; omega) (by have := T.len; omega) qb ow hbn (by rw [y11.qk]; simp) (by rw [y11.qj]; simp)
  revert k
  simp (disch := omega) only [dm_t, wA, wB, wL, wW, wY, Int.fdiv_eq_ediv_of_nonneg, Int.tdiv_eq_ediv_of_nonneg, Int.tmod_eq_emod_of_nonneg, chk_pos, decT, decF, br_pos, br_neg, wX, ↓reduceIte, Nat.reduceEqDiff, Nat.reduceAdd, Nat.reduceSub, Nat.reduceMul, Nat.reduceLeDiff, Nat.reduceLT, Nat.reduceMod, Nat.reduceDiv, Int.reduceToNat, Nat.min_eq_left, IntKind.bits, Int.reducePow, Int.reduceLT, Int.reduceLE, Int.reduceEq, Int.reduceNe, Int.reduceAdd, Int.reduceSub, and_self, reduceCtorEq, decide_eq_true_eq, decide_eq_false_iff_not, eq_self, implies_true, exists_const, Option.isNone_some, Option.isNone_none, Option.isSome_some, Option.isSome_none, Option.getD_some]
  exact id
theorem sz_s5 {l : List rc.D} {more bs : List UInt8} {sa ma ba : Option Addr} {sc mc bc N : Nat} (E : Ext h g) (qr : g rb = some (.cells #[.bool false] 4)) (qn : g nb = some (.cells #[.int .i64 (N : Int)] 3)) (nr : h rb = none)
    (hs : RepL nos rc h (.slice sa l.length sc) l) (hm : By nos h (.slice ma more.length mc) more) (hb : By nos g (.slice ba bs.length bc) bs) (hbs : bs = bytesB 5 l) (hp : putE 5 l = 0) (hN : N = 20 + sizes l) (hl : l.length ≤ 300) (hml : more.length ≤ 70000) :
    vc Try.prog c8_s5 (zQ h) [(2, .pointer (some ⟨rb, 0, none⟩)), (3, .slice sa l.length sc), (4, .slice ma more.length mc), (5, .pointer (some ⟨nb, 0, none⟩)), (7, .slice ba bs.length bc), (8, .int .i64 0)] g := by
  have hlen : bs.length = N := by rw [hbs, hN]; exact bytesB_len
  have hmay := (fits0 (put0 hp).1).2.1
  have hsz : 20 + sizes l ≤ 65536 := (fits0 (put0 hp).1).2.2.2
  simp (disch := omega) only [dm_t, wA, wB, wL, wW, wY, Int.fdiv_eq_ediv_of_nonneg, Int.tdiv_eq_ediv_of_nonneg, Int.tmod_eq_emod_of_nonneg, chk_pos, decT, decF, br_pos, br_neg, wX, ↓reduceIte, Nat.reduceEqDiff, Nat.reduceAdd, Nat.reduceSub, Nat.reduceMul, Nat.reduceLeDiff, Nat.reduceLT, Nat.reduceMod, Nat.reduceDiv, Int.reduceToNat, Nat.min_eq_left, IntKind.bits, Int.reducePow, Int.reduceLT, Int.reduceLE, Int.reduceEq, Int.reduceNe, Int.reduceAdd, Int.reduceSub, and_self, reduceCtorEq, decide_eq_true_eq, decide_eq_false_iff_not, eq_self, implies_true, exists_const, Option.isNone_some, Option.isNone_none, Option.isSome_some, Option.isSome_none, Option.getD_some]
  refine vc_loop2 (fun vs vi h' => ∃ i : Nat, vi = .int .i64 (i : Int) ∧ vs = .int .i64 ((20 + sizes (l.take i) : Nat) : Int) ∧ i ≤ l.length ∧ Ext g h') (fun _ vi _ => l.length - m1 vi) ?_ ?_
  · simp (disch := omega) only [dm_t, wA, wB, wL, wW, wY, Int.fdiv_eq_ediv_of_nonneg, Int.tdiv_eq_ediv_of_nonneg, Int.tmod_eq_emod_of_nonneg, chk_pos, decT, decF, br_pos, br_neg, wX, ↓reduceIte, Nat.reduceEqDiff, Nat.reduceAdd, Nat.reduceSub, Nat.reduceMul, Nat.reduceLeDiff, Nat.reduceLT, Nat.reduceMod, Nat.reduceDiv, Int.reduceToNat, Nat.min_eq_left, IntKind.bits, Int.reducePow, Int.reduceLT, Int.reduceLE, Int.reduceEq, Int.reduceNe, Int.reduceAdd, Int.reduceSub, and_self, reduceCtorEq, decide_eq_true_eq, decide_eq_false_iff_not, eq_self, implies_true, exists_const, Option.isNone_some, Option.isNone_none, Option.isSome_some, Option.isSome_none, Option.getD_some]
    exact ⟨0, rfl, rfl, by omega, Ext.refl _⟩
  rintro _ _ h1 ⟨i, rfl, rfl, hi, e1⟩
  by_cases hil : i < l.length
  · have hsplit : l.take (i + 1) = l.take i ++ [l[i]] := by simp
    have hmi : may l[i] = true := by simpa using List.all_eq_true.1 hmay _ (List.getElem_mem hil)
    have hms := may_size hmi
    have hst := sizes_take (l := l) i
    obtain ⟨p1, o1, cs, i1, t1, _, r1⟩ := (hs.ext (E.trans e1)).load hil .i64 3 sz_rc
    simp (disch := omega) only [dm_t, wA, wB, wL, wW, wY, Int.fdiv_eq_ediv_of_nonneg, Int.tdiv_eq_ediv_of_nonneg, Int.tmod_eq_emod_of_nonneg, chk_pos, decT, decF, br_pos, br_neg, wX, ↓reduceIte, Nat.reduceEqDiff, Nat.reduceAdd, Nat.reduceSub, Nat.reduceMul, Nat.reduceLeDiff, Nat.reduceLT, Nat.reduceMod, Nat.reduceDiv, Int.reduceToNat, Nat.min_eq_left, IntKind.bits, Int.reducePow, Int.reduceLT, Int.reduceLE, Int.reduceEq, Int.reduceNe, Int.reduceAdd, Int.reduceSub, and_self, reduceCtorEq, decide_eq_true_eq, decide_eq_false_iff_not, eq_self, implies_true, exists_const, Option.isNone_some, Option.isNone_none, Option.isSome_some, Option.isSome_none, Option.getD_some, i1, t1]
    refine (Size_ok r1 hmi).k ?_
    rintro _ h2 ⟨rfl, e2⟩
    simp (disch := omega) only [dm_t, wA, wB, wL, wW, wY, Int.fdiv_eq_ediv_of_nonneg, Int.tdiv_eq_ediv_of_nonneg, Int.tmod_eq_emod_of_nonneg, chk_pos, decT, decF, br_pos, br_neg, wX, ↓reduceIte, Nat.reduceEqDiff, Nat.reduceAdd, Nat.reduceSub, Nat.reduceMul, Nat.reduceLeDiff, Nat.reduceLT, Nat.reduceMod, Nat.reduceDiv, Int.reduceToNat, Nat.min_eq_left, IntKind.bits, Int.reducePow, Int.reduceLT, Int.reduceLE, Int.reduceEq, Int.reduceNe, Int.reduceAdd, Int.reduceSub, and_self, reduceCtorEq, decide_eq_true_eq, decide_eq_false_iff_not, eq_self, implies_true, exists_const, Option.isNone_some, Option.isNone_none, Option.isSome_some, Option.isSome_none, Option.getD_some]
    refine ⟨⟨i + 1, by simp, ?_, by omega, e1.trans e2⟩, by simp [m1]; omega⟩
    rw [hsplit, sizes_append]
    have hz : sizes [l[i]] = size l[i] := by simp [sizes]
    rw [hz]
    simp only [Value.int.injEq, true_and]
    omega
  · obtain rfl : i = l.length := by omega
    rw [List.take_of_length_le (Nat.le_refl _)]
    have k := sz_s11 (sa := sa) (sc := sc) (E.trans e1) (e1.at qr) (e1.at qn) nr hm (SlK.ext hb e1) hbs hp hN hl hml
    have n0 : cellAt h1 ⟨nb, 0, none⟩ = some (.int .i64 (N : Int)) := by rw [cellAt_of (e1.at qn)]; rfl
    revert k
    simp (disch := omega) only [dm_t, wA, wB, wL, wW, wY, Int.fdiv_eq_ediv_of_nonneg, Int.tdiv_eq_ediv_of_nonneg, Int.tmod_eq_emod_of_nonneg, chk_pos, decT, decF, br_pos, br_neg, wX, ↓reduceIte, Nat.reduceEqDiff, Nat.reduceAdd, Nat.reduceSub, Nat.reduceMul, Nat.reduceLeDiff, Nat.reduceLT, Nat.reduceMod, Nat.reduceDiv, Int.reduceToNat, Nat.min_eq_left, IntKind.bits, Int.reducePow, Int.reduceLT, Int.reduceLE, Int.reduceEq, Int.reduceNe, Int.reduceAdd, Int.reduceSub, and_self, reduceCtorEq, decide_eq_true_eq, decide_eq_false_iff_not, eq_self, implies_true, exists_const, Option.isNone_some, Option.isNone_none, Option.isSome_some, Option.isSome_none, Option.getD_some, n0]
    exact id
end
theorem Sizes_ok {h : H} {cs : List Value} {x : caseT.D} (hx : Rep nos caseT h cs x) (hf : Ty.fit caseT x) : Ok Try.prog 8 #[.agg cs.toArray] h (qT h) := by
  obtain ⟨v, m, rfl, hl, ib, hm, ic⟩ := rep_case hx
  have la := (fit_rc hf.1).2
  clear hf hx
  obtain ⟨l, base, more, cut⟩ := x
  dsimp only at hl hm la ib ic ⊢
  obtain ⟨sa, sc, rfl⟩ := hl.len
  obtain ⟨ma, mc, rfl⟩ := hm.len
  refine c8_ok (args := [_]) (by simp) ?_
  simp (disch := omega) only [dm_t, wA, wB, wL, wW, wY, Int.fdiv_eq_ediv_of_nonneg, Int.tdiv_eq_ediv_of_nonneg, Int.tmod_eq_emod_of_nonneg, chk_pos, decT, decF, br_pos, br_neg, wX, ↓reduceIte, Nat.reduceEqDiff, Nat.reduceAdd, Nat.reduceSub, Nat.reduceMul, Nat.reduceLeDiff, Nat.reduceLT, Nat.reduceMod, Nat.reduceDiv, Int.reduceToNat, Nat.min_eq_left, IntKind.bits, Int.reducePow, Int.reduceLT, Int.reduceLE, Int.reduceEq, Int.reduceNe, Int.reduceAdd, Int.reduceSub, and_self, reduceCtorEq, decide_eq_true_eq, decide_eq_false_iff_not, eq_self, implies_true, exists_const, Option.isNone_some, Option.isNone_none, Option.isSome_some, Option.isSome_none, Option.getD_some]
  intro xb hxb rb hrb
  generalize hG : hupd h xb _ = g1 at hrb ⊢
  obtain ⟨e1, qx⟩ := new_ext hG hxb
  clear hG
  generalize hG : hupd g1 rb _ = g2
  obtain ⟨e2, qr⟩ := new_ext hG hrb
  clear hG
  have nr := e1.bk hrb
  have E2 := e1.trans e2
  replace qx := e2.at qx
  have x0 : cellAt g2 ⟨xb, 0, none⟩ = some (.slice sa l.length sc) := by rw [cellAt_of qx]; rfl
  have x2 : cellAt g2 ⟨xb, 2, none⟩ = some (.slice ma more.length mc) := by rw [cellAt_of qx]; rfl
  simp (disch := omega) only [dm_t, wA, wB, wL, wW, wY, Int.fdiv_eq_ediv_of_nonneg, Int.tdiv_eq_ediv_of_nonneg, Int.tmod_eq_emod_of_nonneg, chk_pos, decT, decF, br_pos, br_neg, wX, ↓reduceIte, Nat.reduceEqDiff, Nat.reduceAdd, Nat.reduceSub, Nat.reduceMul, Nat.reduceLeDiff, Nat.reduceLT, Nat.reduceMod, Nat.reduceDiv, Int.reduceToNat, Nat.min_eq_left, IntKind.bits, Int.reducePow, Int.reduceLT, Int.reduceLE, Int.reduceEq, Int.reduceNe, Int.reduceAdd, Int.reduceSub, and_self, reduceCtorEq, decide_eq_true_eq, decide_eq_false_iff_not, eq_self, implies_true, exists_const, Option.isNone_some, Option.isNone_none, Option.isSome_some, Option.isSome_none, Option.getD_some, x0, x2]
  refine (Large_ok 300 (hl.ext E2) la).k ?_
  rintro _ _ ⟨rfl, rfl⟩
  by_cases h1 : largeP 300 l = true
  · rw [h1]
    simp (disch := omega) only [dm_t, wA, wB, wL, wW, wY, Int.fdiv_eq_ediv_of_nonneg, Int.tdiv_eq_ediv_of_nonneg, Int.tmod_eq_emod_of_nonneg, chk_pos, decT, decF, br_pos, br_neg, wX, ↓reduceIte, Nat.reduceEqDiff, Nat.reduceAdd, Nat.reduceSub, Nat.reduceMul, Nat.reduceLeDiff, Nat.reduceLT, Nat.reduceMod, Nat.reduceDiv, Int.reduceToNat, Nat.min_eq_left, IntKind.bits, Int.reducePow, Int.reduceLT, Int.reduceLE, Int.reduceEq, Int.reduceNe, Int.reduceAdd, Int.reduceSub, and_self, reduceCtorEq, decide_eq_true_eq, decide_eq_false_iff_not, eq_self, implies_true, exists_const, Option.isNone_some, Option.isNone_none, Option.isSome_some, Option.isSome_none, Option.getD_some]
    refine (known_ok _).k ?_
    rintro _ g5 ⟨rfl, e5⟩
    simp (disch := omega) only [dm_t, wA, wB, wL, wW, wY, Int.fdiv_eq_ediv_of_nonneg, Int.tdiv_eq_ediv_of_nonneg, Int.tmod_eq_emod_of_nonneg, chk_pos, decT, decF, br_pos, br_neg, wX, ↓reduceIte, Nat.reduceEqDiff, Nat.reduceAdd, Nat.reduceSub, Nat.reduceMul, Nat.reduceLeDiff, Nat.reduceLT, Nat.reduceMod, Nat.reduceDiv, Int.reduceToNat, Nat.min_eq_left, IntKind.bits, Int.reducePow, Int.reduceLT, Int.reduceLE, Int.reduceEq, Int.reduceNe, Int.reduceAdd, Int.reduceSub, and_self, reduceCtorEq, decide_eq_true_eq, decide_eq_false_iff_not, eq_self, implies_true, exists_const, Option.isNone_some, Option.isNone_none, Option.isSome_some, Option.isSome_none, Option.getD_some]
    refine zret (e5.at qr) fun G q f => ?_
    simp (disch := omega) only [dm_t, wA, wB, wL, wW, wY, Int.fdiv_eq_ediv_of_nonneg, Int.tdiv_eq_ediv_of_nonneg, Int.tmod_eq_emod_of_nonneg, chk_pos, decT, decF, br_pos, br_neg, wX, ↓reduceIte, Nat.reduceEqDiff, Nat.reduceAdd, Nat.reduceSub, Nat.reduceMul, Nat.reduceLeDiff, Nat.reduceLT, Nat.reduceMod, Nat.reduceDiv, Int.reduceToNat, Nat.min_eq_left, IntKind.bits, Int.reducePow, Int.reduceLT, Int.reduceLE, Int.reduceEq, Int.reduceNe, Int.reduceAdd, Int.reduceSub, and_self, reduceCtorEq, decide_eq_true_eq, decide_eq_false_iff_not, eq_self, implies_true, exists_const, Option.isNone_some, Option.isNone_none, Option.isSome_some, Option.isSome_none, Option.getD_some, cellAt_of q]
    exact ⟨rfl, Ext.step' (E2.trans e5) f fun y hy => by rw [hy]; exact nr⟩
  rw [Bool.not_eq_true] at h1
  rw [h1]
  have hll := (largeP_not h1).1
  by_cases h2 : 70000 < more.length
  · simp (disch := omega) only [dm_t, wA, wB, wL, wW, wY, Int.fdiv_eq_ediv_of_nonneg, Int.tdiv_eq_ediv_of_nonneg, Int.tmod_eq_emod_of_nonneg, chk_pos, decT, decF, br_pos, br_neg, wX, ↓reduceIte, Nat.reduceEqDiff, Nat.reduceAdd, Nat.reduceSub, Nat.reduceMul, Nat.reduceLeDiff, Nat.reduceLT, Nat.reduceMod, Nat.reduceDiv, Int.reduceToNat, Nat.min_eq_left, IntKind.bits, Int.reducePow, Int.reduceLT, Int.reduceLE, Int.reduceEq, Int.reduceNe, Int.reduceAdd, Int.reduceSub, and_self, reduceCtorEq, decide_eq_true_eq, decide_eq_false_iff_not, eq_self, implies_true, exists_const, Option.isNone_some, Option.isNone_none, Option.isSome_some, Option.isSome_none, Option.getD_some]
    refine (known_ok _).k ?_
    rintro _ g5 ⟨rfl, e5⟩
    simp (disch := omega) only [dm_t, wA, wB, wL, wW, wY, Int.fdiv_eq_ediv_of_nonneg, Int.tdiv_eq_ediv_of_nonneg, Int.tmod_eq_emod_of_nonneg, chk_pos, decT, decF, br_pos, br_neg, wX, ↓reduceIte, Nat.reduceEqDiff, Nat.reduceAdd, Nat.reduceSub, Nat.reduceMul, Nat.reduceLeDiff, Nat.reduceLT, Nat.reduceMod, Nat.reduceDiv, Int.reduceToNat, Nat.min_eq_left, IntKind.bits, Int.reducePow, Int.reduceLT, Int.reduceLE, Int.reduceEq, Int.reduceNe, Int.reduceAdd, Int.reduceSub, and_self, reduceCtorEq, decide_eq_true_eq, decide_eq_false_iff_not, eq_self, implies_true, exists_const, Option.isNone_some, Option.isNone_none, Option.isSome_some, Option.isSome_none, Option.getD_some]
    refine zret (e5.at qr) fun G q f => ?_
    simp (disch := omega) only [dm_t, wA, wB, wL, wW, wY, Int.fdiv_eq_ediv_of_nonneg, Int.tdiv_eq_ediv_of_nonneg, Int.tmod_eq_emod_of_nonneg, chk_pos, decT, decF, br_pos, br_neg, wX, ↓reduceIte, Nat.reduceEqDiff, Nat.reduceAdd, Nat.reduceSub, Nat.reduceMul, Nat.reduceLeDiff, Nat.reduceLT, Nat.reduceMod, Nat.reduceDiv, Int.reduceToNat, Nat.min_eq_left, IntKind.bits, Int.reducePow, Int.reduceLT, Int.reduceLE, Int.reduceEq, Int.reduceNe, Int.reduceAdd, Int.reduceSub, and_self, reduceCtorEq, decide_eq_true_eq, decide_eq_false_iff_not, eq_self, implies_true, exists_const, Option.isNone_some, Option.isNone_none, Option.isSome_some, Option.isSome_none, Option.getD_some, cellAt_of q]
    exact ⟨rfl, Ext.step' (E2.trans e5) f fun y hy => by rw [hy]; exact nr⟩
  simp (disch := omega) only [dm_t, wA, wB, wL, wW, wY, Int.fdiv_eq_ediv_of_nonneg, Int.tdiv_eq_ediv_of_nonneg, Int.tmod_eq_emod_of_nonneg, chk_pos, decT, decF, br_pos, br_neg, wX, ↓reduceIte, Nat.reduceEqDiff, Nat.reduceAdd, Nat.reduceSub, Nat.reduceMul, Nat.reduceLeDiff, Nat.reduceLT, Nat.reduceMod, Nat.reduceDiv, Int.reduceToNat, Nat.min_eq_left, IntKind.bits, Int.reducePow, Int.reduceLT, Int.reduceLE, Int.reduceEq, Int.reduceNe, Int.reduceAdd, Int.reduceSub, and_self, reduceCtorEq, decide_eq_true_eq, decide_eq_false_iff_not, eq_self, implies_true, exists_const, Option.isNone_some, Option.isNone_none, Option.isSome_some, Option.isSome_none, Option.getD_some]
  refine (Fits_ok (hl.ext E2) la).k ?_
  rintro _ g3 ⟨rfl, e3⟩
  simp (disch := omega) only [dm_t, wA, wB, wL, wW, wY, Int.fdiv_eq_ediv_of_nonneg, Int.tdiv_eq_ediv_of_nonneg, Int.tmod_eq_emod_of_nonneg, chk_pos, decT, decF, br_pos, br_neg, wX, ↓reduceIte, Nat.reduceEqDiff, Nat.reduceAdd, Nat.reduceSub, Nat.reduceMul, Nat.reduceLeDiff, Nat.reduceLT, Nat.reduceMod, Nat.reduceDiv, Int.reduceToNat, Nat.min_eq_left, IntKind.bits, Int.reducePow, Int.reduceLT, Int.reduceLE, Int.reduceEq, Int.reduceNe, Int.reduceAdd, Int.reduceSub, and_self, reduceCtorEq, decide_eq_true_eq, decide_eq_false_iff_not, eq_self, implies_true, exists_const, Option.isNone_some, Option.isNone_none, Option.isSome_some, Option.isSome_none, Option.getD_some]
  intro nb hnb
  have E3 := E2.trans e3
  simp (disch := omega) only [dm_t, wA, wB, wL, wW, wY, Int.fdiv_eq_ediv_of_nonneg, Int.tdiv_eq_ediv_of_nonneg, Int.tmod_eq_emod_of_nonneg, chk_pos, decT, decF, br_pos, br_neg, wX, ↓reduceIte, Nat.reduceEqDiff, Nat.reduceAdd, Nat.reduceSub, Nat.reduceMul, Nat.reduceLeDiff, Nat.reduceLT, Nat.reduceMod, Nat.reduceDiv, Int.reduceToNat, Nat.min_eq_left, IntKind.bits, Int.reducePow, Int.reduceLT, Int.reduceLE, Int.reduceEq, Int.reduceNe, Int.reduceAdd, Int.reduceSub, and_self, reduceCtorEq, decide_eq_true_eq, decide_eq_false_iff_not, eq_self, implies_true, exists_const, Option.isNone_some, Option.isNone_none, Option.isSome_some, Option.isSome_none, Option.getD_some]
  refine storeH_all (vs := [_]) (hupd_same _ _ _) rfl rfl ?_
  rw [hupd_hupd]
  generalize hG : hupd g3 nb _ = g4
  obtain ⟨e4, qn⟩ := new_ext hG hnb
  clear hG
  have E4 := E3.trans e4
  simp (disch := omega) only [dm_t, wA, wB, wL, wW, wY, Int.fdiv_eq_ediv_of_nonneg, Int.tdiv_eq_ediv_of_nonneg, Int.tmod_eq_emod_of_nonneg, chk_pos, decT, decF, br_pos, br_neg, wX, ↓reduceIte, Nat.reduceEqDiff, Nat.reduceAdd, Nat.reduceSub, Nat.reduceMul, Nat.reduceLeDiff, Nat.reduceLT, Nat.reduceMod, Nat.reduceDiv, Int.reduceToNat, Nat.min_eq_left, IntKind.bits, Int.reducePow, Int.reduceLT, Int.reduceLE, Int.reduceEq, Int.reduceNe, Int.reduceAdd, Int.reduceSub, and_self, reduceCtorEq, decide_eq_true_eq, decide_eq_false_iff_not, eq_self, implies_true, exists_const, Option.isNone_some, Option.isNone_none, Option.isSome_some, Option.isSome_none, Option.getD_some]
  refine (Put_ok (hl.ext E4) (base := 5) (by decide) (by omega)).k ?_
  rintro _ g5 ⟨b, rfl, ob, e5⟩
  have bw := OwK.s0 ob
  obtain ⟨ba, bc, rfl⟩ := By.len bw
  have hpe := put5 hll
  by_cases hp : putE 5 l = 0
  · rw [putB, if_pos hp] at bw ⊢
    have hfe : fitsE l = 0 := by rw [← hpe]; exact hp
    have hfn : fitsN l = ((20 + sizes l : Nat) : Int) := fitsN0 hfe
    rw [hp, hfe]
    rw [hfn] at qn
    have k := sz_s5 (N := 20 + sizes l) (E4.trans e5) (((e3.trans e4).trans e5).at qr) (e5.at qn) nr hl hm bw rfl hp rfl hll (by omega)
    revert k
    simp (disch := omega) only [dm_t, wA, wB, wL, wW, wY, Int.fdiv_eq_ediv_of_nonneg, Int.tdiv_eq_ediv_of_nonneg, Int.tmod_eq_emod_of_nonneg, chk_pos, decT, decF, br_pos, br_neg, wX, ↓reduceIte, Nat.reduceEqDiff, Nat.reduceAdd, Nat.reduceSub, Nat.reduceMul, Nat.reduceLeDiff, Nat.reduceLT, Nat.reduceMod, Nat.reduceDiv, Int.reduceToNat, Nat.min_eq_left, IntKind.bits, Int.reducePow, Int.reduceLT, Int.reduceLE, Int.reduceEq, Int.reduceNe, Int.reduceAdd, Int.reduceSub, and_self, reduceCtorEq, decide_eq_true_eq, decide_eq_false_iff_not, eq_self, implies_true, exists_const, Option.isNone_some, Option.isNone_none, Option.isSome_some, Option.isSome_none, Option.getD_some]
    exact id
  · rw [putB, if_neg hp] at bw ⊢
    have hfe : fitsE l ≠ 0 := by rw [← hpe]; exact hp
    have hfn : fitsN l = 0 := by rw [fitsN, if_neg hfe]
    rw [hfn] at qn
    have n0 : cellAt g5 ⟨nb, 0, none⟩ = some (.int .i64 0) := by rw [cellAt_of (e5.at qn)]; rfl
    rw [List.length_nil, hpe]
    simp (disch := omega) only [dm_t, wA, wB, wL, wW, wY, Int.fdiv_eq_ediv_of_nonneg, Int.tdiv_eq_ediv_of_nonneg, Int.tmod_eq_emod_of_nonneg, chk_pos, decT, decF, br_pos, br_neg, wX, ↓reduceIte, Nat.reduceEqDiff, Nat.reduceAdd, Nat.reduceSub, Nat.reduceMul, Nat.reduceLeDiff, Nat.reduceLT, Nat.reduceMod, Nat.reduceDiv, Int.reduceToNat, Nat.min_eq_left, IntKind.bits, Int.reducePow, Int.reduceLT, Int.reduceLE, Int.reduceEq, Int.reduceNe, Int.reduceAdd, Int.reduceSub, and_self, reduceCtorEq, decide_eq_true_eq, decide_eq_false_iff_not, eq_self, implies_true, exists_const, Option.isNone_some, Option.isNone_none, Option.isSome_some, Option.isSome_none, Option.getD_some, hfe, n0]
    refine (known_ok _).k ?_
    rintro _ g6 ⟨rfl, e6⟩
    simp (disch := omega) only [dm_t, wA, wB, wL, wW, wY, Int.fdiv_eq_ediv_of_nonneg, Int.tdiv_eq_ediv_of_nonneg, Int.tmod_eq_emod_of_nonneg, chk_pos, decT, decF, br_pos, br_neg, wX, ↓reduceIte, Nat.reduceEqDiff, Nat.reduceAdd, Nat.reduceSub, Nat.reduceMul, Nat.reduceLeDiff, Nat.reduceLT, Nat.reduceMod, Nat.reduceDiv, Int.reduceToNat, Nat.min_eq_left, IntKind.bits, Int.reducePow, Int.reduceLT, Int.reduceLE, Int.reduceEq, Int.reduceNe, Int.reduceAdd, Int.reduceSub, and_self, reduceCtorEq, decide_eq_true_eq, decide_eq_false_iff_not, eq_self, implies_true, exists_const, Option.isNone_some, Option.isNone_none, Option.isSome_some, Option.isSome_none, Option.getD_some]
    refine zret ((((e3.trans e4).trans e5).trans e6).at qr) fun G q f => ?_
    simp (disch := omega) only [dm_t, wA, wB, wL, wW, wY, Int.fdiv_eq_ediv_of_nonneg, Int.tdiv_eq_ediv_of_nonneg, Int.tmod_eq_emod_of_nonneg, chk_pos, decT, decF, br_pos, br_neg, wX, ↓reduceIte, Nat.reduceEqDiff, Nat.reduceAdd, Nat.reduceSub, Nat.reduceMul, Nat.reduceLeDiff, Nat.reduceLT, Nat.reduceMod, Nat.reduceDiv, Int.reduceToNat, Nat.min_eq_left, IntKind.bits, Int.reducePow, Int.reduceLT, Int.reduceLE, Int.reduceEq, Int.reduceNe, Int.reduceAdd, Int.reduceSub, and_self, reduceCtorEq, decide_eq_true_eq, decide_eq_false_iff_not, eq_self, implies_true, exists_const, Option.isNone_some, Option.isNone_none, Option.isSome_some, Option.isSome_none, Option.getD_some, cellAt_of q]
    exact ⟨rfl, Ext.step' ((E4.trans e5).trans e6) f fun y hy => by rw [hy]; exact nr⟩
end Go.Proofs.Ytbnjhgfpfajnoaa.rr
