/-
  record: RecordRead, walked whole.
-/
import Derived.Test.YtbnjhgfpfajnoaaRw
import Derived.Test.YtbnjhgfpfajnoaaRk
namespace Go.Proofs.Ytbnjhgfpfajnoaa.rr
open Go.Proofs.Ytbnjhgfpfajnoaa
set_option linter.unusedVariables false
set_option linter.unusedSimpArgs false
/-- A byte written somewhere: a byte slice stays one. -/
theorem poke {O : Nat → Prop} {h : H} {E E' : TypeId} {v : Value} {l : List UInt8} (s : OwB O h E v l) {b o : Nat} {c : Array Value} {fr : Nat × Nat} (hb : h b = some (.cells c E' fr)) (x : UInt8) :
    ∃ l', l'.length = l.length ∧ OwB O (hupd h b (.cells (c.setIfInBounds o (bv x)) E' fr)) E v l' := by
  obtain ⟨hr, ⟨h1, h2⟩ | ⟨b0, o0, cp, c0, fr0, h1, h2, h3, h4, h5, h6, h7⟩⟩ := s
  · exact ⟨l, rfl, hr, .inl ⟨h1, h2⟩⟩
  · rw [one_len, bvs_len] at h1 h4
    by_cases hbb : b0 = b
    · subst hbb
      rw [hb] at h2
      simp only [Option.some.injEq, Obj.cells.injEq] at h2
      obtain ⟨rfl, rfl, rfl⟩ := h2
      obtain ⟨l', hl'⟩ : ∃ l', l' = if o0 ≤ o ∧ o < o0 + l.length then l.set (o - o0) x else l := ⟨_, rfl⟩
      have hlen : l'.length = l.length := by rw [hl']; split <;> simp
      refine ⟨l', hlen, rect_one _, .inr ⟨b0, o0, cp, c.setIfInBounds o (bv x), fr, by rw [h1, one_len, bvs_len, hlen], hupd_same _ _ _, by simpa using h3, by rw [one_len, bvs_len, hlen]; exact h4, ?_, h6, by simpa using h7⟩⟩
      · rw [flat_one] at h5 ⊢
        intro m hm
        have hml : m < l.length := by rw [bvs_len, hlen] at hm; exact hm
        have h8 := h5 m (by rw [bvs_len]; exact hml)
        rw [Array.getElem?_setIfInBounds]
        have hsz := (Array.getElem?_eq_some_iff.1 h8).1
        by_cases ho : o = o0 + m
        · subst ho
          rw [if_pos rfl, if_pos hsz]
          subst hl'
          simp [bvs, hml]
        · rw [if_neg ho, h8]
          congr 1
          subst hl'
          simp only [bvs, List.getElem_map]
          congr 1
          split
          · rw [List.getElem_set_ne (by omega)]
          · rfl
    · refine ⟨l, rfl, hr, .inr ⟨b0, o0, cp, c0, fr0, by rw [h1, one_len, bvs_len], by rw [hupd_ne _ _ hbb]; exact h2, h3, by rw [one_len, bvs_len]; exact h4, h5, h6, h7⟩⟩
theorem WRow.poke {O : Nat → Prop} {h : H} {U E' : TypeId} {r : List Value} (w : WRow U O h r) {b o : Nat} {c : Array Value} {fr : Nat × Nat} (hb : h b = some (.cells c E' fr)) (x : UInt8) : WRow U O (hupd h b (.cells (c.setIfInBounds o (bv x)) E' fr)) r := by
  obtain ⟨t, k, v, lk, lv, rfl, h1, h2, hlb1, hlb2⟩ := w
  obtain ⟨lk', e3, h3⟩ := rr.poke h1 (o := o) hb x
  obtain ⟨lv', e4, h4⟩ := rr.poke h2 (o := o) hb x
  exact ⟨t, k, v, lk', lv', rfl, h3, h4, by omega, by omega⟩
/-- A byte of an own slice: where it stands, and that it may be written. -/
theorem byte_at {O : Nat → Prop} {h : H} {E : TypeId} {v : Value} {l : List UInt8} (s : OwB O h E v l) {i : Nat} (hi : i < l.length) (kk : IntKind) : ∃ b o c fr, idxV1 1 v (.int kk (i : Int)) = some (.pointer (some ⟨b, o, none⟩)) ∧ cellAt h ⟨b, o, none⟩ = some (.int .u8 (l[i].toNat : Int)) ∧ O b ∧ h b = some (.cells c E fr) ∧
    ∀ (x : UInt8) (n : Int) (K : H → Prop), n = (x.toNat : Int) → K (hupd h b (.cells (c.setIfInBounds o (bv x)) E fr)) → storeH h ⟨b, o, none⟩ [.int .u8 n] K := by
  obtain ⟨hr, ⟨rfl, h2⟩ | ⟨b0, o0, cp, c0, fr0, rfl, h2, h3, h4, h5, h6, h7⟩⟩ := s
  · have := congrArg List.length h2
    rw [one_len, bvs_len] at this
    simp at this; subst this; simp at hi
  · have hsl : By nos h (.slice (some ⟨b0, o0, none⟩) (one (bvs l)).length cp) l := ⟨hr, .inr ⟨b0, o0, cp, c0, E, fr0, rfl, h2, h3, h4, h5, id⟩⟩
    obtain ⟨b1, o1, g1, g2⟩ := By.load hsl hi kk
    have hll : (one (bvs l)).length = l.length := by rw [one_len, bvs_len]
    have h9 : idxV1 1 (.slice (some ⟨b0, o0, none⟩) (one (bvs l)).length cp) (.int kk (i : Int)) = some (.pointer (some ⟨b0, o0 + i, none⟩)) := by
      rw [idx_s, chk_pos (by rw [hll]; omega)]
      simp
    rw [h9] at g1
    simp only [Option.some.injEq, Value.pointer.injEq, Addr.mk.injEq, and_true] at g1
    obtain ⟨rfl, rfl⟩ := g1
    refine ⟨b0, o0 + i, c0, fr0, h9, g2, h6, h2, ?_⟩
    rintro x n K rfl hK
    refine storeH_in h2 (by simp; omega) (by simp; omega) rfl ?_
    exact hK
/-- Records whose memory may be written. -/
def WL (O : Nat → Prop) (h : H) (v : Value) (n : Nat) : Prop := ∃ rows, OwK 3 O h 39 v rows ∧ rows.length = n ∧ ∀ r ∈ rows, WRow 5 O h r
theorem wl_poke {O : Nat → Prop} {h : H} {s : Value} {rows : List (List Value)} (ow : OwK 3 O h 39 s rows) (hr : ∀ r ∈ rows, WRow 5 O h r) {b : Nat} {c : Array Value} {fr : Nat × Nat} (hb : h b = some (.cells c 5 fr)) (x : UInt8) (o : Nat) :
    OwK 3 O (hupd h b (.cells (c.setIfInBounds o (bv x)) 5 fr)) 39 s rows ∧ ∀ r ∈ rows, WRow 5 O (hupd h b (.cells (c.setIfInBounds o (bv x)) 5 fr)) r := by
  refine ⟨ow.fr (Fr.upd (S := fun y => y = b) rfl _) ?_, fun r hr' => WRow.poke (hr r hr') hb x⟩
  rintro y rfl _ hy
  obtain ⟨c', fr', h2⟩ := ow.ty hy
  rw [hb] at h2
  simp at h2
theorem wrap8 (z : Int) : ∃ x : UInt8, IntKind.u8.wrap z = (x.toNat : Int) := by
  refine ⟨UInt8.ofNat (z % 256).toNat, ?_⟩
  have e : IntKind.u8.wrap z = z % 256 := by simp [IntKind.wrap, IntKind.bits, IntKind.signed]
  rw [e]
  simp only [UInt8.toNat_ofNat']
  omega
theorem By.pre {S : Nat → Prop} {h : H} {a : Option Addr} {n c : Nat} {l r : List UInt8} (s : By S h (.slice a n c) (l ++ r)) (hn : n = (l ++ r).length) : By S h (.slice a l.length c) l := by
  have h1 := SlK.pre s (m := l.length) (by rw [hn, List.length_append]; omega)
  have h2 : (one (bvs (l ++ r))).take l.length = one (bvs l) := by simp [one, bvs, ← List.map_take]
  rw [h2] at h1
  exact h1
theorem walkV_form (b : List UInt8) (p : Int) : ∃ a1 a2 a3 a4 e : Int, walkV b p = .tuple #[.agg #[.int .i64 a1, .int .i64 a2, .int .i64 a3, .int .i64 a4], .int .i64 e] := by
  unfold walkV
  split
  · exact ⟨_, _, _, _, _, rfl⟩
  · exact ⟨_, _, _, _, _, rfl⟩
section
variable {h g : H}
theorem rd_s9 {l : List UInt8} {ba ma xa : Option Addr} {bc mc xc n xb : Nat} {base : Value} (g0 : H) (E : Ext h g0) (E0 : Ext g0 g) (hb : By nos h (.slice ba l.length bc) l) (hm : OwB (fun y => h y = none) g0 5 (.slice ma (l ++ [77]).length mc) (l ++ [77])) (hl : l.length ≤ 200000)
    (qx : g xb = some (.cells #[base, .slice xa n xc] 31)) (nx : g0 xb = none) (hw : WL (fun y => g0 y = none) g (.slice xa n xc) n) (hn : n ≤ 1000000) :
    vc Try.prog c5_s9 (retQ [4] (okR (qT h))) [(0, .slice ba l.length bc), (5, .slice ma l.length mc), (6, .pointer (some ⟨xb, 0, none⟩))] g := by
  simp (disch := omega) only [dm_t, wA, wB, wL, wW, wY, Int.fdiv_eq_ediv_of_nonneg, Int.tdiv_eq_ediv_of_nonneg, Int.tmod_eq_emod_of_nonneg, chk_pos, decT, decF, br_pos, br_neg, wX, ↓reduceIte, Nat.reduceEqDiff, Nat.reduceAdd, Nat.reduceSub, Nat.reduceMul, Nat.reduceLeDiff, Nat.reduceLT, Nat.reduceMod, Nat.reduceDiv, Int.reduceToNat, Nat.min_eq_left, IntKind.bits, Int.reducePow, Int.reduceLT, Int.reduceLE, Int.reduceEq, Int.reduceNe, Int.reduceAdd, Int.reduceSub, and_self, reduceCtorEq, decide_eq_true_eq, decide_eq_false_iff_not, eq_self, implies_true, exists_const, Option.isNone_some, Option.isNone_none, Option.isSome_some, Option.isSome_none, Option.getD_some]
  refine vc_loop1 (fun vi h' => ∃ i : Nat, vi = .int .i64 (i : Int) ∧ i ≤ n ∧ WL (fun y => g0 y = none) h' (.slice xa n xc) n ∧ h' xb = some (.cells #[base, .slice xa n xc] 31) ∧ Ext g0 h') (fun vi _ => n - m1 vi) ?_ ?_
  · simp (disch := omega) only [dm_t, wA, wB, wL, wW, wY, Int.fdiv_eq_ediv_of_nonneg, Int.tdiv_eq_ediv_of_nonneg, Int.tmod_eq_emod_of_nonneg, chk_pos, decT, decF, br_pos, br_neg, wX, ↓reduceIte, Nat.reduceEqDiff, Nat.reduceAdd, Nat.reduceSub, Nat.reduceMul, Nat.reduceLeDiff, Nat.reduceLT, Nat.reduceMod, Nat.reduceDiv, Int.reduceToNat, Nat.min_eq_left, IntKind.bits, Int.reducePow, Int.reduceLT, Int.reduceLE, Int.reduceEq, Int.reduceNe, Int.reduceAdd, Int.reduceSub, and_self, reduceCtorEq, decide_eq_true_eq, decide_eq_false_iff_not, eq_self, implies_true, exists_const, Option.isNone_some, Option.isNone_none, Option.isSome_some, Option.isSome_none, Option.getD_some]
    exact ⟨0, rfl, by omega, hw, qx, E0⟩
  rintro _ h1 ⟨i, rfl, hi, hw1, q1, e1⟩
  have x1 : cellAt h1 ⟨xb, 1, none⟩ = some (.slice xa n xc) := by rw [cellAt_of q1]; rfl
  by_cases hil : i < n
  · obtain ⟨rows, ow, hrn, hwr⟩ := hw1
    have hir : i < rows.length := by omega
    obtain ⟨t, kv, vv, lk, lv, hrow, hk0, hv0, hlk, hlv⟩ := hwr rows[i] (List.getElem_mem hir)
    obtain ⟨va, vc, rfl⟩ := By.len hv0.s0
    have hread : ∀ g, OwK 3 (fun y => g0 y = none) g 39 (.slice xa n xc) rows → ∃ b o, idxV1 3 (.slice xa n xc) (.int .i64 (i : Int)) = some (.pointer (some ⟨b, o, none⟩)) ∧ cellAt g ⟨b, o + 2, none⟩ = some (.slice va lv.length vc) := by
      intro g og
      obtain ⟨b, o, q1, q2, q3, q4⟩ := og.s0.row hir .i64
      have e2 := q3 2 (by omega)
      rw [hrow] at e2
      exact ⟨b, o, q1, e2⟩
    simp (disch := omega) only [dm_t, wA, wB, wL, wW, wY, Int.fdiv_eq_ediv_of_nonneg, Int.tdiv_eq_ediv_of_nonneg, Int.tmod_eq_emod_of_nonneg, chk_pos, decT, decF, br_pos, br_neg, wX, ↓reduceIte, Nat.reduceEqDiff, Nat.reduceAdd, Nat.reduceSub, Nat.reduceMul, Nat.reduceLeDiff, Nat.reduceLT, Nat.reduceMod, Nat.reduceDiv, Int.reduceToNat, Nat.min_eq_left, IntKind.bits, Int.reducePow, Int.reduceLT, Int.reduceLE, Int.reduceEq, Int.reduceNe, Int.reduceAdd, Int.reduceSub, and_self, reduceCtorEq, decide_eq_true_eq, decide_eq_false_iff_not, eq_self, implies_true, exists_const, Option.isNone_some, Option.isNone_none, Option.isSome_some, Option.isSome_none, Option.getD_some, x1]
    refine vc_loop1 (fun vk h' => ∃ k : Nat, vk = .int .i64 (k : Int) ∧ k ≤ lv.length ∧ OwK 3 (fun y => g0 y = none) h' 39 (.slice xa n xc) rows ∧ (∀ r ∈ rows, WRow 5 (fun y => g0 y = none) h' r) ∧ h' xb = some (.cells #[base, .slice xa n xc] 31) ∧ Ext g0 h') (fun vk _ => lv.length - m1 vk) ?_ ?_
    · simp (disch := omega) only [dm_t, wA, wB, wL, wW, wY, Int.fdiv_eq_ediv_of_nonneg, Int.tdiv_eq_ediv_of_nonneg, Int.tmod_eq_emod_of_nonneg, chk_pos, decT, decF, br_pos, br_neg, wX, ↓reduceIte, Nat.reduceEqDiff, Nat.reduceAdd, Nat.reduceSub, Nat.reduceMul, Nat.reduceLeDiff, Nat.reduceLT, Nat.reduceMod, Nat.reduceDiv, Int.reduceToNat, Nat.min_eq_left, IntKind.bits, Int.reducePow, Int.reduceLT, Int.reduceLE, Int.reduceEq, Int.reduceNe, Int.reduceAdd, Int.reduceSub, and_self, reduceCtorEq, decide_eq_true_eq, decide_eq_false_iff_not, eq_self, implies_true, exists_const, Option.isNone_some, Option.isNone_none, Option.isSome_some, Option.isSome_none, Option.getD_some]
      exact ⟨0, rfl, by omega, ow, hwr, q1, e1⟩
    rintro _ h2 ⟨k, rfl, hkl, ow2, hwr2, q2, e2⟩
    obtain ⟨pb, po, gi, g2⟩ := hread h2 ow2
    have x2 : cellAt h2 ⟨xb, 1, none⟩ = some (.slice xa n xc) := by rw [cellAt_of q2]; rfl
    by_cases hkk : k < lv.length
    · obtain ⟨t', kv', vv', lk', lv', hrow', hk2, hv2, hlb⟩ := hwr2 rows[i] (List.getElem_mem hir)
      rw [hrow] at hrow'
      simp only [List.cons.injEq, Value.int.injEq, true_and, and_true] at hrow'
      obtain ⟨rfl, rfl, rfl⟩ := hrow'
      have hll := (SlK.cap hv2.s0).1
      rw [one_len, bvs_len] at hll
      obtain ⟨b, o, c, fr, p1, p2, p3, p4, p5⟩ := byte_at hv2 (i := k) (by omega) .i64
      simp (disch := omega) only [dm_t, wA, wB, wL, wW, wY, Int.fdiv_eq_ediv_of_nonneg, Int.tdiv_eq_ediv_of_nonneg, Int.tmod_eq_emod_of_nonneg, chk_pos, decT, decF, br_pos, br_neg, wX, ↓reduceIte, Nat.reduceEqDiff, Nat.reduceAdd, Nat.reduceSub, Nat.reduceMul, Nat.reduceLeDiff, Nat.reduceLT, Nat.reduceMod, Nat.reduceDiv, Int.reduceToNat, Nat.min_eq_left, IntKind.bits, Int.reducePow, Int.reduceLT, Int.reduceLE, Int.reduceEq, Int.reduceNe, Int.reduceAdd, Int.reduceSub, and_self, reduceCtorEq, decide_eq_true_eq, decide_eq_false_iff_not, eq_self, implies_true, exists_const, Option.isNone_some, Option.isNone_none, Option.isSome_some, Option.isSome_none, Option.getD_some, x2, gi, g2, p1, p2]
      obtain ⟨x, hx⟩ := wrap8 ((lv'[k].toNat : Int) + 1)
      refine p5 x _ _ hx ?_
      simp (disch := omega) only [dm_t, wA, wB, wL, wW, wY, Int.fdiv_eq_ediv_of_nonneg, Int.tdiv_eq_ediv_of_nonneg, Int.tmod_eq_emod_of_nonneg, chk_pos, decT, decF, br_pos, br_neg, wX, ↓reduceIte, Nat.reduceEqDiff, Nat.reduceAdd, Nat.reduceSub, Nat.reduceMul, Nat.reduceLeDiff, Nat.reduceLT, Nat.reduceMod, Nat.reduceDiv, Int.reduceToNat, Nat.min_eq_left, IntKind.bits, Int.reducePow, Int.reduceLT, Int.reduceLE, Int.reduceEq, Int.reduceNe, Int.reduceAdd, Int.reduceSub, and_self, reduceCtorEq, decide_eq_true_eq, decide_eq_false_iff_not, eq_self, implies_true, exists_const, Option.isNone_some, Option.isNone_none, Option.isSome_some, Option.isSome_none, Option.getD_some]
      obtain ⟨w1, w2⟩ := wl_poke ow2 hwr2 p4 x o
      have hne : xb ≠ b := fun hh => by rw [← hh, q2] at p4; simp at p4
      have f2 : Fr (fun y => y = b) h2 (hupd h2 b (.cells (c.setIfInBounds o (bv x)) 5 fr)) := Fr.upd (S := fun y => y = b) rfl _
      exact ⟨⟨k + 1, by simp, by omega, w1, w2, f2 _ _ q2 hne, Ext.step' e2 f2 fun y hy => by rw [hy]; exact p3⟩, by simp [m1]; omega⟩
    · simp (disch := omega) only [dm_t, wA, wB, wL, wW, wY, Int.fdiv_eq_ediv_of_nonneg, Int.tdiv_eq_ediv_of_nonneg, Int.tmod_eq_emod_of_nonneg, chk_pos, decT, decF, br_pos, br_neg, wX, ↓reduceIte, Nat.reduceEqDiff, Nat.reduceAdd, Nat.reduceSub, Nat.reduceMul, Nat.reduceLeDiff, Nat.reduceLT, Nat.reduceMod, Nat.reduceDiv, Int.reduceToNat, Nat.min_eq_left, IntKind.bits, Int.reducePow, Int.reduceLT, Int.reduceLE, Int.reduceEq, Int.reduceNe, Int.reduceAdd, Int.reduceSub, and_self, reduceCtorEq, decide_eq_true_eq, decide_eq_false_iff_not, eq_self, implies_true, exists_const, Option.isNone_some, Option.isNone_none, Option.isSome_some, Option.isSome_none, Option.getD_some, x2, gi, g2]
      exact ⟨⟨i + 1, by simp, by omega, ⟨_, ow2, hrn, hwr2⟩, q2, e2⟩, by simp [m1]; omega⟩
  · have hm1 := OwK.ext hm e1
    have hmm := By.pre (OwK.s0 hm1) rfl
    simp (disch := omega) only [dm_t, wA, wB, wL, wW, wY, Int.fdiv_eq_ediv_of_nonneg, Int.tdiv_eq_ediv_of_nonneg, Int.tmod_eq_emod_of_nonneg, chk_pos, decT, decF, br_pos, br_neg, wX, ↓reduceIte, Nat.reduceEqDiff, Nat.reduceAdd, Nat.reduceSub, Nat.reduceMul, Nat.reduceLeDiff, Nat.reduceLT, Nat.reduceMod, Nat.reduceDiv, Int.reduceToNat, Nat.min_eq_left, IntKind.bits, Int.reducePow, Int.reduceLT, Int.reduceLE, Int.reduceEq, Int.reduceNe, Int.reduceAdd, Int.reduceSub, and_self, reduceCtorEq, decide_eq_true_eq, decide_eq_false_iff_not, eq_self, implies_true, exists_const, Option.isNone_some, Option.isNone_none, Option.isSome_some, Option.isSome_none, Option.getD_some, x1]
    refine (Bytes_ok hmm (SlK.ext hb (E.trans e1))).k ?_
    rintro _ _ ⟨rfl, rfl⟩
    have hcap := SlK.cap (OwK.s0 hm1)
    have hl1 : (l ++ [77]).length = l.length + 1 := by simp
    obtain ⟨b0, o0, i0, t0⟩ := By.load (OwK.s0 hm1) (i := l.length) (by rw [hl1]; omega) .i64
    rw [hl1] at i0
    have t1 : cellAt h1 ⟨b0, o0, none⟩ = some (.int .u8 77) := by rw [t0]; simp
    simp (disch := omega) only [dm_t, wA, wB, wL, wW, wY, Int.fdiv_eq_ediv_of_nonneg, Int.tdiv_eq_ediv_of_nonneg, Int.tmod_eq_emod_of_nonneg, chk_pos, decT, decF, br_pos, br_neg, wX, ↓reduceIte, Nat.reduceEqDiff, Nat.reduceAdd, Nat.reduceSub, Nat.reduceMul, Nat.reduceLeDiff, Nat.reduceLT, Nat.reduceMod, Nat.reduceDiv, Int.reduceToNat, Nat.min_eq_left, IntKind.bits, Int.reducePow, Int.reduceLT, Int.reduceLE, Int.reduceEq, Int.reduceNe, Int.reduceAdd, Int.reduceSub, and_self, reduceCtorEq, decide_eq_true_eq, decide_eq_false_iff_not, eq_self, implies_true, exists_const, Option.isNone_some, Option.isNone_none, Option.isSome_some, Option.isSome_none, Option.getD_some]
    refine slc_pre (l.length + 1) (by simp) rfl (by rw [hl1] at hcap; omega) ?_
    simp (disch := omega) only [dm_t, wA, wB, wL, wW, wY, Int.fdiv_eq_ediv_of_nonneg, Int.tdiv_eq_ediv_of_nonneg, Int.tmod_eq_emod_of_nonneg, chk_pos, decT, decF, br_pos, br_neg, wX, ↓reduceIte, Nat.reduceEqDiff, Nat.reduceAdd, Nat.reduceSub, Nat.reduceMul, Nat.reduceLeDiff, Nat.reduceLT, Nat.reduceMod, Nat.reduceDiv, Int.reduceToNat, Nat.min_eq_left, IntKind.bits, Int.reducePow, Int.reduceLT, Int.reduceLE, Int.reduceEq, Int.reduceNe, Int.reduceAdd, Int.reduceSub, and_self, reduceCtorEq, decide_eq_true_eq, decide_eq_false_iff_not, eq_self, implies_true, exists_const, Option.isNone_some, Option.isNone_none, Option.isSome_some, Option.isSome_none, Option.getD_some, i0, t1]
    refine (known_ok _).k ?_
    rintro _ g5 ⟨rfl, e5⟩
    simp (disch := omega) only [dm_t, wA, wB, wL, wW, wY, Int.fdiv_eq_ediv_of_nonneg, Int.tdiv_eq_ediv_of_nonneg, Int.tmod_eq_emod_of_nonneg, chk_pos, decT, decF, br_pos, br_neg, wX, ↓reduceIte, Nat.reduceEqDiff, Nat.reduceAdd, Nat.reduceSub, Nat.reduceMul, Nat.reduceLeDiff, Nat.reduceLT, Nat.reduceMod, Nat.reduceDiv, Int.reduceToNat, Nat.min_eq_left, IntKind.bits, Int.reducePow, Int.reduceLT, Int.reduceLE, Int.reduceEq, Int.reduceNe, Int.reduceAdd, Int.reduceSub, and_self, reduceCtorEq, decide_eq_true_eq, decide_eq_false_iff_not, eq_self, implies_true, exists_const, Option.isNone_some, Option.isNone_none, Option.isSome_some, Option.isSome_none, Option.getD_some]
    exact ⟨rfl, (E.trans e1).trans e5⟩
end
theorem readAt_len {l : List UInt8} {p : Int} : (readAt l p).recs.length ≤ 256 := by
  unfold readAt
  split
  · simp [badR]
  · by_cases he : (readP (l.drop p.toNat)).e = 0
    · have := (fits0 (put0 (read_inv he).1).1).2.2.1; omega
    · rw [read_bad he]; simp [badR]
theorem Rd_ok {h : H} {v : Value} {l : List UInt8} {p : Int} (hb : By nos h v l) (ip : inI p) : Ok Try.prog 5 #[v, .int .i64 p] h (qT h) := by
  obtain ⟨ba, bc, rfl⟩ := hb.len
  refine c5_ok (args := [_, _]) (by simp) ?_
  by_cases h1 : 200000 < l.length
  · simp (disch := omega) only [dm_t, wA, wB, wL, wW, wY, Int.fdiv_eq_ediv_of_nonneg, Int.tdiv_eq_ediv_of_nonneg, Int.tmod_eq_emod_of_nonneg, chk_pos, decT, decF, br_pos, br_neg, wX, ↓reduceIte, Nat.reduceEqDiff, Nat.reduceAdd, Nat.reduceSub, Nat.reduceMul, Nat.reduceLeDiff, Nat.reduceLT, Nat.reduceMod, Nat.reduceDiv, Int.reduceToNat, Nat.min_eq_left, IntKind.bits, Int.reducePow, Int.reduceLT, Int.reduceLE, Int.reduceEq, Int.reduceNe, Int.reduceAdd, Int.reduceSub, and_self, reduceCtorEq, decide_eq_true_eq, decide_eq_false_iff_not, eq_self, implies_true, exists_const, Option.isNone_some, Option.isNone_none, Option.isSome_some, Option.isSome_none, Option.getD_some]
    refine (known_ok _).k ?_
    rintro _ g5 ⟨rfl, e5⟩
    simp (disch := omega) only [dm_t, wA, wB, wL, wW, wY, Int.fdiv_eq_ediv_of_nonneg, Int.tdiv_eq_ediv_of_nonneg, Int.tmod_eq_emod_of_nonneg, chk_pos, decT, decF, br_pos, br_neg, wX, ↓reduceIte, Nat.reduceEqDiff, Nat.reduceAdd, Nat.reduceSub, Nat.reduceMul, Nat.reduceLeDiff, Nat.reduceLT, Nat.reduceMod, Nat.reduceDiv, Int.reduceToNat, Nat.min_eq_left, IntKind.bits, Int.reducePow, Int.reduceLT, Int.reduceLE, Int.reduceEq, Int.reduceNe, Int.reduceAdd, Int.reduceSub, and_self, reduceCtorEq, decide_eq_true_eq, decide_eq_false_iff_not, eq_self, implies_true, exists_const, Option.isNone_some, Option.isNone_none, Option.isSome_some, Option.isSome_none, Option.getD_some]
    exact ⟨rfl, e5⟩
  simp (disch := omega) only [dm_t, wA, wB, wL, wW, wY, Int.fdiv_eq_ediv_of_nonneg, Int.tdiv_eq_ediv_of_nonneg, Int.tmod_eq_emod_of_nonneg, chk_pos, decT, decF, br_pos, br_neg, wX, ↓reduceIte, Nat.reduceEqDiff, Nat.reduceAdd, Nat.reduceSub, Nat.reduceMul, Nat.reduceLeDiff, Nat.reduceLT, Nat.reduceMod, Nat.reduceDiv, Int.reduceToNat, Nat.min_eq_left, IntKind.bits, Int.reducePow, Int.reduceLT, Int.reduceLE, Int.reduceEq, Int.reduceNe, Int.reduceAdd, Int.reduceSub, and_self, reduceCtorEq, decide_eq_true_eq, decide_eq_false_iff_not, eq_self, implies_true, exists_const, Option.isNone_some, Option.isNone_none, Option.isSome_some, Option.isSome_none, Option.getD_some]
  refine appB (O := fun y => h y = none) (xs := []) OwK.nil (fun _ h => h) hb (by simp; omega) ?_
  intro w1 g1 o1 f1
  rw [List.nil_append] at o1
  have e1 : Ext h g1 := Ext.step (Ext.refl _) f1
  simp (disch := omega) only [dm_t, wA, wB, wL, wW, wY, Int.fdiv_eq_ediv_of_nonneg, Int.tdiv_eq_ediv_of_nonneg, Int.tmod_eq_emod_of_nonneg, chk_pos, decT, decF, br_pos, br_neg, wX, ↓reduceIte, Nat.reduceEqDiff, Nat.reduceAdd, Nat.reduceSub, Nat.reduceMul, Nat.reduceLeDiff, Nat.reduceLT, Nat.reduceMod, Nat.reduceDiv, Int.reduceToNat, Nat.min_eq_left, IntKind.bits, Int.reducePow, Int.reduceLT, Int.reduceLE, Int.reduceEq, Int.reduceNe, Int.reduceAdd, Int.reduceSub, and_self, reduceCtorEq, decide_eq_true_eq, decide_eq_false_iff_not, eq_self, implies_true, exists_const, Option.isNone_some, Option.isNone_none, Option.isSome_some, Option.isSome_none, Option.getD_some]
  intro lb hlb
  have el : Ext g1 (hupd g1 lb (.cells #[.int .u8 77] 5)) := Ext.new hlb _
  have b77 : By nos (hupd g1 lb (.cells #[.int .u8 77] 5)) (.slice (some ⟨lb, 0, none⟩) 1 1) [77] := OwK.s0 (olit1 (h := g1) (O := fun _ => True) (xs := bvs [77]) rfl trivial)
  simp (disch := omega) only [dm_t, wA, wB, wL, wW, wY, Int.fdiv_eq_ediv_of_nonneg, Int.tdiv_eq_ediv_of_nonneg, Int.tmod_eq_emod_of_nonneg, chk_pos, decT, decF, br_pos, br_neg, wX, ↓reduceIte, Nat.reduceEqDiff, Nat.reduceAdd, Nat.reduceSub, Nat.reduceMul, Nat.reduceLeDiff, Nat.reduceLT, Nat.reduceMod, Nat.reduceDiv, Int.reduceToNat, Nat.min_eq_left, IntKind.bits, Int.reducePow, Int.reduceLT, Int.reduceLE, Int.reduceEq, Int.reduceNe, Int.reduceAdd, Int.reduceSub, and_self, reduceCtorEq, decide_eq_true_eq, decide_eq_false_iff_not, eq_self, implies_true, exists_const, Option.isNone_some, Option.isNone_none, Option.isSome_some, Option.isSome_none, Option.getD_some]
  refine appB (OwK.ext o1 el) (fun y hy => (e1.trans el).bk hy) b77 (by simp; omega) ?_
  intro w2 g2 o2 f2
  have e2 : Ext h g2 := Ext.step' (e1.trans el) f2 fun y hy => hy.1
  obtain ⟨ma, mc, rfl⟩ := By.len (OwK.s0 o2)
  have hcap := SlK.cap (OwK.s0 o2)
  have hl1 : (l ++ [77]).length = l.length + 1 := by simp
  simp (disch := omega) only [dm_t, wA, wB, wL, wW, wY, Int.fdiv_eq_ediv_of_nonneg, Int.tdiv_eq_ediv_of_nonneg, Int.tmod_eq_emod_of_nonneg, chk_pos, decT, decF, br_pos, br_neg, wX, ↓reduceIte, Nat.reduceEqDiff, Nat.reduceAdd, Nat.reduceSub, Nat.reduceMul, Nat.reduceLeDiff, Nat.reduceLT, Nat.reduceMod, Nat.reduceDiv, Int.reduceToNat, Nat.min_eq_left, IntKind.bits, Int.reducePow, Int.reduceLT, Int.reduceLE, Int.reduceEq, Int.reduceNe, Int.reduceAdd, Int.reduceSub, and_self, reduceCtorEq, decide_eq_true_eq, decide_eq_false_iff_not, eq_self, implies_true, exists_const, Option.isNone_some, Option.isNone_none, Option.isSome_some, Option.isSome_none, Option.getD_some]
  refine slc_pre l.length rfl rfl (by omega) ?_
  have hm := By.pre (OwK.s0 o2) rfl
  have hR := @readAt_len l p
  obtain ⟨a1, a2, a3, a4, e', hV⟩ := walkV_form l p
  simp (disch := omega) only [dm_t, wA, wB, wL, wW, wY, Int.fdiv_eq_ediv_of_nonneg, Int.tdiv_eq_ediv_of_nonneg, Int.tmod_eq_emod_of_nonneg, chk_pos, decT, decF, br_pos, br_neg, wX, ↓reduceIte, Nat.reduceEqDiff, Nat.reduceAdd, Nat.reduceSub, Nat.reduceMul, Nat.reduceLeDiff, Nat.reduceLT, Nat.reduceMod, Nat.reduceDiv, Int.reduceToNat, Nat.min_eq_left, IntKind.bits, Int.reducePow, Int.reduceLT, Int.reduceLE, Int.reduceEq, Int.reduceNe, Int.reduceAdd, Int.reduceSub, and_self, reduceCtorEq, decide_eq_true_eq, decide_eq_false_iff_not, eq_self, implies_true, exists_const, Option.isNone_some, Option.isNone_none, Option.isSome_some, Option.isSome_none, Option.getD_some]
  refine (Read_ok hm (by omega) p ip).k ?_
  rintro _ g3 ⟨w, rfl, ow, e3⟩
  simp (disch := omega) only [dm_t, wA, wB, wL, wW, wY, Int.fdiv_eq_ediv_of_nonneg, Int.tdiv_eq_ediv_of_nonneg, Int.tmod_eq_emod_of_nonneg, chk_pos, decT, decF, br_pos, br_neg, wX, ↓reduceIte, Nat.reduceEqDiff, Nat.reduceAdd, Nat.reduceSub, Nat.reduceMul, Nat.reduceLeDiff, Nat.reduceLT, Nat.reduceMod, Nat.reduceDiv, Int.reduceToNat, Nat.min_eq_left, IntKind.bits, Int.reducePow, Int.reduceLT, Int.reduceLE, Int.reduceEq, Int.reduceNe, Int.reduceAdd, Int.reduceSub, and_self, reduceCtorEq, decide_eq_true_eq, decide_eq_false_iff_not, eq_self, implies_true, exists_const, Option.isNone_some, Option.isNone_none, Option.isSome_some, Option.isSome_none, Option.getD_some]
  intro xb hxb
  obtain ⟨wa, wc, rfl⟩ := ow.l.len
  simp (disch := omega) only [dm_t, wA, wB, wL, wW, wY, Int.fdiv_eq_ediv_of_nonneg, Int.tdiv_eq_ediv_of_nonneg, Int.tmod_eq_emod_of_nonneg, chk_pos, decT, decF, br_pos, br_neg, wX, ↓reduceIte, Nat.reduceEqDiff, Nat.reduceAdd, Nat.reduceSub, Nat.reduceMul, Nat.reduceLeDiff, Nat.reduceLT, Nat.reduceMod, Nat.reduceDiv, Int.reduceToNat, Nat.min_eq_left, IntKind.bits, Int.reducePow, Int.reduceLT, Int.reduceLE, Int.reduceEq, Int.reduceNe, Int.reduceAdd, Int.reduceSub, and_self, reduceCtorEq, decide_eq_true_eq, decide_eq_false_iff_not, eq_self, implies_true, exists_const, Option.isNone_some, Option.isNone_none, Option.isSome_some, Option.isSome_none, Option.getD_some]
  refine storeH_all (vs := [_, _]) (hupd_same _ _ _) rfl rfl ?_
  rw [hupd_hupd]
  generalize hG : hupd g3 xb _ = g4
  obtain ⟨e4, qx⟩ := new_ext hG hxb
  clear hG
  have nx := e3.bk hxb
  simp (disch := omega) only [dm_t, wA, wB, wL, wW, wY, Int.fdiv_eq_ediv_of_nonneg, Int.tdiv_eq_ediv_of_nonneg, Int.tmod_eq_emod_of_nonneg, chk_pos, decT, decF, br_pos, br_neg, wX, ↓reduceIte, Nat.reduceEqDiff, Nat.reduceAdd, Nat.reduceSub, Nat.reduceMul, Nat.reduceLeDiff, Nat.reduceLT, Nat.reduceMod, Nat.reduceDiv, Int.reduceToNat, Nat.min_eq_left, IntKind.bits, Int.reducePow, Int.reduceLT, Int.reduceLE, Int.reduceEq, Int.reduceNe, Int.reduceAdd, Int.reduceSub, and_self, reduceCtorEq, decide_eq_true_eq, decide_eq_false_iff_not, eq_self, implies_true, exists_const, Option.isNone_some, Option.isNone_none, Option.isSome_some, Option.isSome_none, Option.getD_some]
  refine (DRead_ok (SlK.ext hb (e2.trans (e3.trans e4))) (by omega) p ip).k ?_
  rintro _ g5 ⟨u, rfl, ou, e5⟩
  simp (disch := omega) only [dm_t, wA, wB, wL, wW, wY, Int.fdiv_eq_ediv_of_nonneg, Int.tdiv_eq_ediv_of_nonneg, Int.tmod_eq_emod_of_nonneg, chk_pos, decT, decF, br_pos, br_neg, wX, ↓reduceIte, Nat.reduceEqDiff, Nat.reduceAdd, Nat.reduceSub, Nat.reduceMul, Nat.reduceLeDiff, Nat.reduceLT, Nat.reduceMod, Nat.reduceDiv, Int.reduceToNat, Nat.min_eq_left, IntKind.bits, Int.reducePow, Int.reduceLT, Int.reduceLE, Int.reduceEq, Int.reduceNe, Int.reduceAdd, Int.reduceSub, and_self, reduceCtorEq, decide_eq_true_eq, decide_eq_false_iff_not, eq_self, implies_true, exists_const, Option.isNone_some, Option.isNone_none, Option.isSome_some, Option.isSome_none, Option.getD_some]
  intro yb hyb
  obtain ⟨ua, uc, rfl⟩ := ou.len
  simp (disch := omega) only [dm_t, wA, wB, wL, wW, wY, Int.fdiv_eq_ediv_of_nonneg, Int.tdiv_eq_ediv_of_nonneg, Int.tmod_eq_emod_of_nonneg, chk_pos, decT, decF, br_pos, br_neg, wX, ↓reduceIte, Nat.reduceEqDiff, Nat.reduceAdd, Nat.reduceSub, Nat.reduceMul, Nat.reduceLeDiff, Nat.reduceLT, Nat.reduceMod, Nat.reduceDiv, Int.reduceToNat, Nat.min_eq_left, IntKind.bits, Int.reducePow, Int.reduceLT, Int.reduceLE, Int.reduceEq, Int.reduceNe, Int.reduceAdd, Int.reduceSub, and_self, reduceCtorEq, decide_eq_true_eq, decide_eq_false_iff_not, eq_self, implies_true, exists_const, Option.isNone_some, Option.isNone_none, Option.isSome_some, Option.isSome_none, Option.getD_some]
  refine storeH_all (vs := [_, _]) (hupd_same _ _ _) rfl rfl ?_
  rw [hupd_hupd]
  generalize hG : hupd g5 yb _ = g6
  obtain ⟨e6, qy⟩ := new_ext hG hyb
  clear hG
  have e26 := (e3.trans e4).trans (e5.trans e6)
  simp (disch := omega) only [dm_t, wA, wB, wL, wW, wY, Int.fdiv_eq_ediv_of_nonneg, Int.tdiv_eq_ediv_of_nonneg, Int.tmod_eq_emod_of_nonneg, chk_pos, decT, decF, br_pos, br_neg, wX, ↓reduceIte, Nat.reduceEqDiff, Nat.reduceAdd, Nat.reduceSub, Nat.reduceMul, Nat.reduceLeDiff, Nat.reduceLT, Nat.reduceMod, Nat.reduceDiv, Int.reduceToNat, Nat.min_eq_left, IntKind.bits, Int.reducePow, Int.reduceLT, Int.reduceLE, Int.reduceEq, Int.reduceNe, Int.reduceAdd, Int.reduceSub, and_self, reduceCtorEq, decide_eq_true_eq, decide_eq_false_iff_not, eq_self, implies_true, exists_const, Option.isNone_some, Option.isNone_none, Option.isSome_some, Option.isSome_none, Option.getD_some]
  refine (Look_ok (SlK.ext hm e26) (by omega) p ip).k ?_
  rintro _ g7 ⟨rfl, e7⟩
  simp (disch := omega) only [dm_t, wA, wB, wL, wW, wY, Int.fdiv_eq_ediv_of_nonneg, Int.tdiv_eq_ediv_of_nonneg, Int.tmod_eq_emod_of_nonneg, chk_pos, decT, decF, br_pos, br_neg, wX, ↓reduceIte, Nat.reduceEqDiff, Nat.reduceAdd, Nat.reduceSub, Nat.reduceMul, Nat.reduceLeDiff, Nat.reduceLT, Nat.reduceMod, Nat.reduceDiv, Int.reduceToNat, Nat.min_eq_left, IntKind.bits, Int.reducePow, Int.reduceLT, Int.reduceLE, Int.reduceEq, Int.reduceNe, Int.reduceAdd, Int.reduceSub, and_self, reduceCtorEq, decide_eq_true_eq, decide_eq_false_iff_not, eq_self, implies_true, exists_const, Option.isNone_some, Option.isNone_none, Option.isSome_some, Option.isSome_none, Option.getD_some]
  refine (Walk_ok (SlK.ext hm (e26.trans e7)) (by omega) p ip).k ?_
  rintro _ g8 ⟨rfl, e8⟩
  rw [hV]
  simp (disch := omega) only [dm_t, wA, wB, wL, wW, wY, Int.fdiv_eq_ediv_of_nonneg, Int.tdiv_eq_ediv_of_nonneg, Int.tmod_eq_emod_of_nonneg, chk_pos, decT, decF, br_pos, br_neg, wX, ↓reduceIte, Nat.reduceEqDiff, Nat.reduceAdd, Nat.reduceSub, Nat.reduceMul, Nat.reduceLeDiff, Nat.reduceLT, Nat.reduceMod, Nat.reduceDiv, Int.reduceToNat, Nat.min_eq_left, IntKind.bits, Int.reducePow, Int.reduceLT, Int.reduceLE, Int.reduceEq, Int.reduceNe, Int.reduceAdd, Int.reduceSub, and_self, reduceCtorEq, decide_eq_true_eq, decide_eq_false_iff_not, eq_self, implies_true, exists_const, Option.isNone_some, Option.isNone_none, Option.isSome_some, Option.isSome_none, Option.getD_some]
  intro sb hsb
  simp (disch := omega) only [dm_t, wA, wB, wL, wW, wY, Int.fdiv_eq_ediv_of_nonneg, Int.tdiv_eq_ediv_of_nonneg, Int.tmod_eq_emod_of_nonneg, chk_pos, decT, decF, br_pos, br_neg, wX, ↓reduceIte, Nat.reduceEqDiff, Nat.reduceAdd, Nat.reduceSub, Nat.reduceMul, Nat.reduceLeDiff, Nat.reduceLT, Nat.reduceMod, Nat.reduceDiv, Int.reduceToNat, Nat.min_eq_left, IntKind.bits, Int.reducePow, Int.reduceLT, Int.reduceLE, Int.reduceEq, Int.reduceNe, Int.reduceAdd, Int.reduceSub, and_self, reduceCtorEq, decide_eq_true_eq, decide_eq_false_iff_not, eq_self, implies_true, exists_const, Option.isNone_some, Option.isNone_none, Option.isSome_some, Option.isSome_none, Option.getD_some]
  refine storeH_all (vs := [_, _, _, _]) (hupd_same _ _ _) rfl rfl ?_
  rw [hupd_hupd]
  generalize hG : hupd g8 sb _ = g9
  obtain ⟨e9, qs⟩ := new_ext hG hsb
  clear hG
  have e29 := (e26.trans e7).trans (e8.trans e9)
  simp (disch := omega) only [dm_t, wA, wB, wL, wW, wY, Int.fdiv_eq_ediv_of_nonneg, Int.tdiv_eq_ediv_of_nonneg, Int.tmod_eq_emod_of_nonneg, chk_pos, decT, decF, br_pos, br_neg, wX, ↓reduceIte, Nat.reduceEqDiff, Nat.reduceAdd, Nat.reduceSub, Nat.reduceMul, Nat.reduceLeDiff, Nat.reduceLT, Nat.reduceMod, Nat.reduceDiv, Int.reduceToNat, Nat.min_eq_left, IntKind.bits, Int.reducePow, Int.reduceLT, Int.reduceLE, Int.reduceEq, Int.reduceNe, Int.reduceAdd, Int.reduceSub, and_self, reduceCtorEq, decide_eq_true_eq, decide_eq_false_iff_not, eq_self, implies_true, exists_const, Option.isNone_some, Option.isNone_none, Option.isSome_some, Option.isSome_none, Option.getD_some]
  refine (DWalk_ok (SlK.ext hb (e2.trans e29)) (by omega) p ip).k ?_
  rintro _ g10 ⟨rfl, e10⟩
  rw [hV]
  simp (disch := omega) only [dm_t, wA, wB, wL, wW, wY, Int.fdiv_eq_ediv_of_nonneg, Int.tdiv_eq_ediv_of_nonneg, Int.tmod_eq_emod_of_nonneg, chk_pos, decT, decF, br_pos, br_neg, wX, ↓reduceIte, Nat.reduceEqDiff, Nat.reduceAdd, Nat.reduceSub, Nat.reduceMul, Nat.reduceLeDiff, Nat.reduceLT, Nat.reduceMod, Nat.reduceDiv, Int.reduceToNat, Nat.min_eq_left, IntKind.bits, Int.reducePow, Int.reduceLT, Int.reduceLE, Int.reduceEq, Int.reduceNe, Int.reduceAdd, Int.reduceSub, and_self, reduceCtorEq, decide_eq_true_eq, decide_eq_false_iff_not, eq_self, implies_true, exists_const, Option.isNone_some, Option.isNone_none, Option.isSome_some, Option.isSome_none, Option.getD_some]
  intro tb htb
  simp (disch := omega) only [dm_t, wA, wB, wL, wW, wY, Int.fdiv_eq_ediv_of_nonneg, Int.tdiv_eq_ediv_of_nonneg, Int.tmod_eq_emod_of_nonneg, chk_pos, decT, decF, br_pos, br_neg, wX, ↓reduceIte, Nat.reduceEqDiff, Nat.reduceAdd, Nat.reduceSub, Nat.reduceMul, Nat.reduceLeDiff, Nat.reduceLT, Nat.reduceMod, Nat.reduceDiv, Int.reduceToNat, Nat.min_eq_left, IntKind.bits, Int.reducePow, Int.reduceLT, Int.reduceLE, Int.reduceEq, Int.reduceNe, Int.reduceAdd, Int.reduceSub, and_self, reduceCtorEq, decide_eq_true_eq, decide_eq_false_iff_not, eq_self, implies_true, exists_const, Option.isNone_some, Option.isNone_none, Option.isSome_some, Option.isSome_none, Option.getD_some]
  refine storeH_all (vs := [_, _, _, _]) (hupd_same _ _ _) rfl rfl ?_
  rw [hupd_hupd]
  generalize hG : hupd g10 tb _ = g11
  obtain ⟨e11, qt⟩ := new_ext hG htb
  clear hG
  have e611 := ((e7.trans e8).trans (e9.trans e10)).trans e11
  have e211 := e26.trans e611
  have qx11 := ((e5.trans e6).trans e611).at qx
  have qy11 := e611.at qy
  have qs11 := (e10.trans e11).at qs
  have rx : RepL nos rc g11 (.slice wa (readAt l p).recs.length wc) (readAt l p).recs := (ow.l.mono0.repS fun _ _ h => h).ext (e4.trans ((e5.trans e6).trans e611))
  have ry : RepL nos rc g11 (.slice ua (readAt l p).recs.length uc) (readAt l p).recs := (ou.mono0.repS fun _ _ h => h).ext (e6.trans e611)
  simp (disch := omega) only [dm_t, wA, wB, wL, wW, wY, Int.fdiv_eq_ediv_of_nonneg, Int.tdiv_eq_ediv_of_nonneg, Int.tmod_eq_emod_of_nonneg, chk_pos, decT, decF, br_pos, br_neg, wX, ↓reduceIte, Nat.reduceEqDiff, Nat.reduceAdd, Nat.reduceSub, Nat.reduceMul, Nat.reduceLeDiff, Nat.reduceLT, Nat.reduceMod, Nat.reduceDiv, Int.reduceToNat, Nat.min_eq_left, IntKind.bits, Int.reducePow, Int.reduceLT, Int.reduceLE, Int.reduceEq, Int.reduceNe, Int.reduceAdd, Int.reduceSub, and_self, reduceCtorEq, decide_eq_true_eq, decide_eq_false_iff_not, eq_self, implies_true, exists_const, Option.isNone_some, Option.isNone_none, Option.isSome_some, Option.isSome_none, Option.getD_some, cellsAt_all qx11 2 rfl, cellsAt_all qy11 2 rfl]
  refine (SameBatch_ok rx ry (by omega)).k ?_
  rintro _ g12 ⟨rfl, e12⟩
  have y0 : cellAt g12 ⟨yb, 0, none⟩ = some (.int .i64 (readAt l p).base) := by rw [cellAt_of (e12.at qy11)]; rfl
  have y1 : cellAt g12 ⟨yb, 1, none⟩ = some (.slice ua (readAt l p).recs.length uc) := by rw [cellAt_of (e12.at qy11)]; rfl
  simp (disch := omega) only [dm_t, wA, wB, wL, wW, wY, Int.fdiv_eq_ediv_of_nonneg, Int.tdiv_eq_ediv_of_nonneg, Int.tmod_eq_emod_of_nonneg, chk_pos, decT, decF, br_pos, br_neg, wX, ↓reduceIte, Nat.reduceEqDiff, Nat.reduceAdd, Nat.reduceSub, Nat.reduceMul, Nat.reduceLeDiff, Nat.reduceLT, Nat.reduceMod, Nat.reduceDiv, Int.reduceToNat, Nat.min_eq_left, IntKind.bits, Int.reducePow, Int.reduceLT, Int.reduceLE, Int.reduceEq, Int.reduceNe, Int.reduceAdd, Int.reduceSub, and_self, reduceCtorEq, decide_eq_true_eq, decide_eq_false_iff_not, eq_self, implies_true, exists_const, Option.isNone_some, Option.isNone_none, Option.isSome_some, Option.isSome_none, Option.getD_some, y0, y1, cellsAt_all (e12.at qs11) 4 rfl, cellsAt_all (e12.at qt) 4 rfl]
  refine raw_neSt (fun w => run_eqSt (k := .i64) (a1 := a1) (a2 := a2) (a3 := a3) (a4 := a4) 9998 Try.underlying49 (by kernel_rfl) (by kernel_rfl) (by kernel_rfl) (by kernel_rfl) (by kernel_rfl) rfl rfl rfl rfl) rfl rfl (by kernel_rfl) ?_
  have ea : Ext g3 g12 := (e4.trans ((e5.trans e6).trans e611)).trans e12
  obtain ⟨rows, w1, w2, w3, w4⟩ := OwQ.ext ow ea fun r hr => hr.ext ea
  have k := rd_s9 (n := (readAt l p).recs.length) g2 e2 (e211.trans e12) hb o2 (by omega) (e12.at qx11) nx ⟨rows, w1, w2, w4⟩ (by omega)
  revert k
  simp (disch := omega) only [dm_t, wA, wB, wL, wW, wY, Int.fdiv_eq_ediv_of_nonneg, Int.tdiv_eq_ediv_of_nonneg, Int.tmod_eq_emod_of_nonneg, chk_pos, decT, decF, br_pos, br_neg, wX, ↓reduceIte, Nat.reduceEqDiff, Nat.reduceAdd, Nat.reduceSub, Nat.reduceMul, Nat.reduceLeDiff, Nat.reduceLT, Nat.reduceMod, Nat.reduceDiv, Int.reduceToNat, Nat.min_eq_left, IntKind.bits, Int.reducePow, Int.reduceLT, Int.reduceLE, Int.reduceEq, Int.reduceNe, Int.reduceAdd, Int.reduceSub, and_self, reduceCtorEq, decide_eq_true_eq, decide_eq_false_iff_not, eq_self, implies_true, exists_const, Option.isNone_some, Option.isNone_none, Option.isSome_some, Option.isSome_none, Option.getD_some]
  exact id
end Go.Proofs.Ytbnjhgfpfajnoaa.rr
