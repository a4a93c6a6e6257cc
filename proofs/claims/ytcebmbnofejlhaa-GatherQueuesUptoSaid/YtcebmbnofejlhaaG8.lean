/-
  gather: records written over.
-/
import Derived.Test.YtcebmbnofejlhaaG7
namespace Go.Proofs.Ytcebmbnofejlhaa.gf
open Go.Proofs.Ytcebmbnofejlhaa rr ga
set_option linter.unusedVariables false
set_option linter.unusedSimpArgs false

/-- A byte written somewhere: a byte slice stays one. -/
theorem poke {O : Nat → Prop} {h : H} {E E' : TypeId} {v : Value} {l : List UInt8} (s : OwB O h E v l) {b o : Nat} {c : Array Value} {fr : Nat × Nat} (hb : h b = some (.cells c E' fr)) (x : UInt8) :
    ∃ l', l'.length = l.length ∧ OwB O (hupd h b (.cells (c.setIfInBounds o (bv x)) E' fr)) E v l' := by
  obtain ⟨hr, ⟨h1, h2⟩ | ⟨b0, o0, cp, c0, fr0, h1, h2, h3, h4, h5, h6, h7⟩⟩ := s
  · exact ⟨l, rfl, hr, .inl ⟨h1, h2⟩⟩
  · rw [one_len, bvs_len] at h1 h4
    by_cases hbb : b0 = b
    · subst hbb
      rw [hb] at h2
      simp only [Option.some.injEq, Obj.cells.injEq] at h2
      obtain ⟨rfl, rfl, rfl⟩ := h2
      obtain ⟨l', hl'⟩ : ∃ l', l' = if o0 ≤ o ∧ o < o0 + l.length then l.set (o - o0) x else l := ⟨_, rfl⟩
      have hlen : l'.length = l.length := by rw [hl']; split <;> simp
      refine ⟨l', hlen, rect_one _, .inr ⟨b0, o0, cp, c.setIfInBounds o (bv x), fr, by rw [h1, one_len, bvs_len, hlen], hupd_same _ _ _, by simpa using h3, by rw [one_len, bvs_len, hlen]; exact h4, ?_, h6, by simpa using h7⟩⟩
      · rw [flat_one] at h5 ⊢
        intro m hm
        have hml : m < l.length := by rw [bvs_len, hlen] at hm; exact hm
        have h8 := h5 m (by rw [bvs_len]; exact hml)
        rw [Array.getElem?_setIfInBounds]
        have hsz := (Array.getElem?_eq_some_iff.1 h8).1
        by_cases ho : o = o0 + m
        · subst ho
          rw [if_pos rfl, if_pos hsz]
          subst hl'
          simp [bvs, hml]
        · rw [if_neg ho, h8]
          congr 1
          subst hl'
          simp only [bvs, List.getElem_map]
          congr 1
          split
          · rw [List.getElem_set_ne (by omega)]
          · rfl
    · refine ⟨l, rfl, hr, .inr ⟨b0, o0, cp, c0, fr0, by rw [h1, one_len, bvs_len], by rw [hupd_ne _ _ hbb]; exact h2, h3, by rw [one_len, bvs_len]; exact h4, h5, h6, h7⟩⟩
theorem WRow.poke {O : Nat → Prop} {h : H} {U E' : TypeId} {r : List Value} (w : WRow U O h r) {b o : Nat} {c : Array Value} {fr : Nat × Nat} (hb : h b = some (.cells c E' fr)) (x : UInt8) : WRow U O (hupd h b (.cells (c.setIfInBounds o (bv x)) E' fr)) r := by
  obtain ⟨t, k, v, lk, lv, rfl, h1, h2, hlb1, hlb2⟩ := w
  obtain ⟨lk', e3, h3⟩ := gf.poke h1 (o := o) hb x
  obtain ⟨lv', e4, h4⟩ := gf.poke h2 (o := o) hb x
  exact ⟨t, k, v, lk', lv', rfl, h3, h4, by omega, by omega⟩
/-- A byte of an own slice: where it stands, and that it may be written. -/
theorem byte_at {O : Nat → Prop} {h : H} {E : TypeId} {v : Value} {l : List UInt8} (s : OwB O h E v l) {i : Nat} (hi : i < l.length) (kk : IntKind) : ∃ b o c fr, idxV1 1 v (.int kk (i : Int)) = some (.pointer (some ⟨b, o, none⟩)) ∧ cellAt h ⟨b, o, none⟩ = some (.int .u8 (l[i].toNat : Int)) ∧ O b ∧ h b = some (.cells c E fr) ∧
    ∀ (x : UInt8) (n : Int) (K : H → Prop), n = (x.toNat : Int) → K (hupd h b (.cells (c.setIfInBounds o (bv x)) E fr)) → storeH h ⟨b, o, none⟩ [.int .u8 n] K := by
  obtain ⟨hr, ⟨rfl, h2⟩ | ⟨b0, o0, cp, c0, fr0, rfl, h2, h3, h4, h5, h6, h7⟩⟩ := s
  · have := congrArg List.length h2
    rw [one_len, bvs_len] at this
    simp at this; subst this; simp at hi
  · have hsl : By nos h (.slice (some ⟨b0, o0, none⟩) (one (bvs l)).length cp) l := ⟨hr, .inr ⟨b0, o0, cp, c0, E, fr0, rfl, h2, h3, h4, h5, id⟩⟩
    obtain ⟨b1, o1, g1, g2⟩ := By.load hsl hi kk
    have hll : (one (bvs l)).length = l.length := by rw [one_len, bvs_len]
    have h9 : idxV1 1 (.slice (some ⟨b0, o0, none⟩) (one (bvs l)).length cp) (.int kk (i : Int)) = some (.pointer (some ⟨b0, o0 + i, none⟩)) := by
      rw [idx_s, chk_pos (by rw [hll]; omega)]
      simp
    rw [h9] at g1
    simp only [Option.some.injEq, Value.pointer.injEq, Addr.mk.injEq, and_true] at g1
    obtain ⟨rfl, rfl⟩ := g1
    refine ⟨b0, o0 + i, c0, fr0, h9, g2, h6, h2, ?_⟩
    rintro x n K rfl hK
    refine storeH_in h2 (by simp; omega) (by simp; omega) rfl ?_
    exact hK
/-- Records whose memory may be written. -/
def WL (O : Nat → Prop) (h : H) (v : Value) (n : Nat) : Prop := ∃ rows, OwK 3 O h 81 v rows ∧ rows.length = n ∧ ∀ r ∈ rows, WRow 5 O h r
theorem xor255 (a : UInt8) : ∃ x : UInt8, ((BitVec.ofInt 8 (a.toNat : Int) ^^^ BitVec.ofInt 8 255).toNat : Int) = (x.toNat : Int) := by
  have h1 := (BitVec.ofInt 8 (a.toNat : Int) ^^^ BitVec.ofInt 8 255).isLt
  refine ⟨UInt8.ofNat (BitVec.ofInt 8 (a.toNat : Int) ^^^ BitVec.ofInt 8 255).toNat, ?_⟩
  simp only [UInt8.toNat_ofNat']
  omega
theorem wl_poke {O : Nat → Prop} {h : H} {s : Value} {rows : List (List Value)} (ow : OwK 3 O h 81 s rows) (hr : ∀ r ∈ rows, WRow 5 O h r) {b : Nat} {c : Array Value} {fr : Nat × Nat} (hb : h b = some (.cells c 5 fr)) (x : UInt8) (o : Nat) :
    OwK 3 O (hupd h b (.cells (c.setIfInBounds o (bv x)) 5 fr)) 81 s rows ∧ ∀ r ∈ rows, WRow 5 O (hupd h b (.cells (c.setIfInBounds o (bv x)) 5 fr)) r := by
  refine ⟨ow.fr (Fr.upd (S := fun y => y = b) rfl _) ?_, fun r hr' => WRow.poke (hr r hr') hb x⟩
  rintro y rfl _ hy
  obtain ⟨c', fr', h2⟩ := ow.ty hy
  rw [hb] at h2
  simp at h2
theorem spoil_ok {O : Nat → Prop} {h : H} {s : Value} {n : Nat} (hs : WL O h s n) (hn : n ≤ 1000000) : Ok Try.prog 21 #[s] h fun v h' => v = .bool true ∧ Fr O h h' := by
  have hsl : ∃ a c, s = .slice a n c := by
    obtain ⟨rows, h1, h2, _⟩ := hs
    obtain ⟨a, c, h3⟩ := h1.s0.len
    exact ⟨a, c, by rw [h3, h2]⟩
  obtain ⟨sa, sc, rfl⟩ := hsl
  refine c21_ok (args := [_]) (by simp) ?_
  simp (disch := omega) only [dm_t, wA, wB, wL, wW, wY, Int.fdiv_eq_ediv_of_nonneg, Int.tdiv_eq_ediv_of_nonneg, Int.tmod_eq_emod_of_nonneg, chk_pos, decT, decF, br_pos, br_neg, wX, ↓reduceIte, Nat.reduceEqDiff, Nat.reduceAdd, Nat.reduceSub, Nat.reduceMul, Nat.reduceLeDiff, Nat.reduceLT, Nat.reduceMod, Nat.reduceDiv, Int.reduceToNat, Nat.min_eq_left, IntKind.bits, Int.reducePow, Int.reduceLT, Int.reduceLE, Int.reduceEq, Int.reduceNe, Int.reduceAdd, Int.reduceSub, and_self, reduceCtorEq, decide_eq_true_eq, decide_eq_false_iff_not, eq_self, implies_true, exists_const, Option.isNone_some, Option.isNone_none, Option.isSome_some, Option.isSome_none, Option.getD_some]
  refine vc_loop1 (fun vi h' => ∃ i : Nat, vi = .int .i64 (i : Int) ∧ i ≤ n ∧ WL O h' (.slice sa n sc) n ∧ Fr O h h') (fun vi _ => n - m1 vi) ?_ ?_
  · simp (disch := omega) only [dm_t, wA, wB, wL, wW, wY, Int.fdiv_eq_ediv_of_nonneg, Int.tdiv_eq_ediv_of_nonneg, Int.tmod_eq_emod_of_nonneg, chk_pos, decT, decF, br_pos, br_neg, wX, ↓reduceIte, Nat.reduceEqDiff, Nat.reduceAdd, Nat.reduceSub, Nat.reduceMul, Nat.reduceLeDiff, Nat.reduceLT, Nat.reduceMod, Nat.reduceDiv, Int.reduceToNat, Nat.min_eq_left, IntKind.bits, Int.reducePow, Int.reduceLT, Int.reduceLE, Int.reduceEq, Int.reduceNe, Int.reduceAdd, Int.reduceSub, and_self, reduceCtorEq, decide_eq_true_eq, decide_eq_false_iff_not, eq_self, implies_true, exists_const, Option.isNone_some, Option.isNone_none, Option.isSome_some, Option.isSome_none, Option.getD_some]
    exact ⟨0, rfl, by omega, hs, Fr.refl _ _⟩
  rintro _ h1 ⟨i, rfl, hi, hw, f1⟩
  by_cases hil : i < n
  · obtain ⟨rows, ow, hrn, hwr⟩ := hw
    have hir : i < rows.length := by omega
    obtain ⟨t, kv, vv, lk, lv, hrow, hk0, hv0, hlk, hlv⟩ := hwr rows[i] (List.getElem_mem hir)
    obtain ⟨ka, kc, rfl⟩ := By.len hk0.s0
    obtain ⟨va, vc, rfl⟩ := By.len hv0.s0
    obtain ⟨_, _, hkc⟩ := SlK.cap hk0.s0
    obtain ⟨_, _, hvc⟩ := SlK.cap hv0.s0
    have hread : ∀ g, OwK 3 O g 81 (.slice sa n sc) rows → ∃ b o, idxV1 3 (.slice sa n sc) (.int .i64 (i : Int)) = some (.pointer (some ⟨b, o, none⟩)) ∧ cellAt g ⟨b, o + 1, none⟩ = some (.slice ka lk.length kc) ∧ cellAt g ⟨b, o + 2, none⟩ = some (.slice va lv.length vc) := by
      intro g og
      obtain ⟨b, o, q1, q2, q3, q4⟩ := og.s0.row hir .i64
      have e1 := q3 1 (by omega)
      have e2 := q3 2 (by omega)
      rw [hrow] at e1 e2
      exact ⟨b, o, q1, e1, e2⟩
    simp (disch := omega) only [dm_t, wA, wB, wL, wW, wY, Int.fdiv_eq_ediv_of_nonneg, Int.tdiv_eq_ediv_of_nonneg, Int.tmod_eq_emod_of_nonneg, chk_pos, decT, decF, br_pos, br_neg, wX, ↓reduceIte, Nat.reduceEqDiff, Nat.reduceAdd, Nat.reduceSub, Nat.reduceMul, Nat.reduceLeDiff, Nat.reduceLT, Nat.reduceMod, Nat.reduceDiv, Int.reduceToNat, Nat.min_eq_left, IntKind.bits, Int.reducePow, Int.reduceLT, Int.reduceLE, Int.reduceEq, Int.reduceNe, Int.reduceAdd, Int.reduceSub, and_self, reduceCtorEq, decide_eq_true_eq, decide_eq_false_iff_not, eq_self, implies_true, exists_const, Option.isNone_some, Option.isNone_none, Option.isSome_some, Option.isSome_none, Option.getD_some]
    refine vc_loop1 (fun vk h' => ∃ k : Nat, vk = .int .i64 (k : Int) ∧ k ≤ lk.length ∧ OwK 3 O h' 81 (.slice sa n sc) rows ∧ (∀ r ∈ rows, WRow 5 O h' r) ∧ Fr O h h') (fun vk _ => lk.length - m1 vk) ?_ ?_
    · simp (disch := omega) only [dm_t, wA, wB, wL, wW, wY, Int.fdiv_eq_ediv_of_nonneg, Int.tdiv_eq_ediv_of_nonneg, Int.tmod_eq_emod_of_nonneg, chk_pos, decT, decF, br_pos, br_neg, wX, ↓reduceIte, Nat.reduceEqDiff, Nat.reduceAdd, Nat.reduceSub, Nat.reduceMul, Nat.reduceLeDiff, Nat.reduceLT, Nat.reduceMod, Nat.reduceDiv, Int.reduceToNat, Nat.min_eq_left, IntKind.bits, Int.reducePow, Int.reduceLT, Int.reduceLE, Int.reduceEq, Int.reduceNe, Int.reduceAdd, Int.reduceSub, and_self, reduceCtorEq, decide_eq_true_eq, decide_eq_false_iff_not, eq_self, implies_true, exists_const, Option.isNone_some, Option.isNone_none, Option.isSome_some, Option.isSome_none, Option.getD_some]
      exact ⟨0, rfl, by omega, ow, hwr, f1⟩
    rintro _ h2 ⟨k, rfl, hkl, ow2, hwr2, f2⟩
    obtain ⟨pb, po, gi, g1, g2⟩ := hread h2 ow2
    by_cases hkk : k < lk.length
    · obtain ⟨t', kv', vv', lk', lv', hrow', hk2, hv2, hlb⟩ := hwr2 rows[i] (List.getElem_mem hir)
      rw [hrow] at hrow'
      simp only [List.cons.injEq, Value.int.injEq, true_and, and_true] at hrow'
      obtain ⟨rfl, rfl, rfl⟩ := hrow'
      have hll := (SlK.cap hk2.s0).1
      rw [one_len, bvs_len] at hll
      obtain ⟨b, o, c, fr, q1, q2, q3, q4, q5⟩ := byte_at hk2 (i := k) (by omega) .i64
      obtain ⟨x, hx⟩ := xor255 lk'[k]
      simp (disch := omega) only [dm_t, wA, wB, wL, wW, wY, Int.fdiv_eq_ediv_of_nonneg, Int.tdiv_eq_ediv_of_nonneg, Int.tmod_eq_emod_of_nonneg, chk_pos, decT, decF, br_pos, br_neg, wX, ↓reduceIte, Nat.reduceEqDiff, Nat.reduceAdd, Nat.reduceSub, Nat.reduceMul, Nat.reduceLeDiff, Nat.reduceLT, Nat.reduceMod, Nat.reduceDiv, Int.reduceToNat, Nat.min_eq_left, IntKind.bits, Int.reducePow, Int.reduceLT, Int.reduceLE, Int.reduceEq, Int.reduceNe, Int.reduceAdd, Int.reduceSub, and_self, reduceCtorEq, decide_eq_true_eq, decide_eq_false_iff_not, eq_self, implies_true, exists_const, Option.isNone_some, Option.isNone_none, Option.isSome_some, Option.isSome_none, Option.getD_some, gi, g1, q1, q2]
      refine q5 x _ _ hx ?_
      simp (disch := omega) only [dm_t, wA, wB, wL, wW, wY, Int.fdiv_eq_ediv_of_nonneg, Int.tdiv_eq_ediv_of_nonneg, Int.tmod_eq_emod_of_nonneg, chk_pos, decT, decF, br_pos, br_neg, wX, ↓reduceIte, Nat.reduceEqDiff, Nat.reduceAdd, Nat.reduceSub, Nat.reduceMul, Nat.reduceLeDiff, Nat.reduceLT, Nat.reduceMod, Nat.reduceDiv, Int.reduceToNat, Nat.min_eq_left, IntKind.bits, Int.reducePow, Int.reduceLT, Int.reduceLE, Int.reduceEq, Int.reduceNe, Int.reduceAdd, Int.reduceSub, and_self, reduceCtorEq, decide_eq_true_eq, decide_eq_false_iff_not, eq_self, implies_true, exists_const, Option.isNone_some, Option.isNone_none, Option.isSome_some, Option.isSome_none, Option.getD_some]
      obtain ⟨w1, w2⟩ := wl_poke ow2 hwr2 q4 x o
      exact ⟨⟨k + 1, by simp, by omega, w1, w2, f2.trans (Fr.upd q3 _)⟩, by simp [m1]; omega⟩
    simp (disch := omega) only [dm_t, wA, wB, wL, wW, wY, Int.fdiv_eq_ediv_of_nonneg, Int.tdiv_eq_ediv_of_nonneg, Int.tmod_eq_emod_of_nonneg, chk_pos, decT, decF, br_pos, br_neg, wX, ↓reduceIte, Nat.reduceEqDiff, Nat.reduceAdd, Nat.reduceSub, Nat.reduceMul, Nat.reduceLeDiff, Nat.reduceLT, Nat.reduceMod, Nat.reduceDiv, Int.reduceToNat, Nat.min_eq_left, IntKind.bits, Int.reducePow, Int.reduceLT, Int.reduceLE, Int.reduceEq, Int.reduceNe, Int.reduceAdd, Int.reduceSub, and_self, reduceCtorEq, decide_eq_true_eq, decide_eq_false_iff_not, eq_self, implies_true, exists_const, Option.isNone_some, Option.isNone_none, Option.isSome_some, Option.isSome_none, Option.getD_some, gi, g1]
    refine vc_loop1 (fun vk h' => ∃ k : Nat, vk = .int .i64 (k : Int) ∧ k ≤ lv.length ∧ OwK 3 O h' 81 (.slice sa n sc) rows ∧ (∀ r ∈ rows, WRow 5 O h' r) ∧ Fr O h h') (fun vk _ => lv.length - m1 vk) ?_ ?_
    · simp (disch := omega) only [dm_t, wA, wB, wL, wW, wY, Int.fdiv_eq_ediv_of_nonneg, Int.tdiv_eq_ediv_of_nonneg, Int.tmod_eq_emod_of_nonneg, chk_pos, decT, decF, br_pos, br_neg, wX, ↓reduceIte, Nat.reduceEqDiff, Nat.reduceAdd, Nat.reduceSub, Nat.reduceMul, Nat.reduceLeDiff, Nat.reduceLT, Nat.reduceMod, Nat.reduceDiv, Int.reduceToNat, Nat.min_eq_left, IntKind.bits, Int.reducePow, Int.reduceLT, Int.reduceLE, Int.reduceEq, Int.reduceNe, Int.reduceAdd, Int.reduceSub, and_self, reduceCtorEq, decide_eq_true_eq, decide_eq_false_iff_not, eq_self, implies_true, exists_const, Option.isNone_some, Option.isNone_none, Option.isSome_some, Option.isSome_none, Option.getD_some]
      exact ⟨0, rfl, by omega, ow2, hwr2, f2⟩
    rintro _ h3 ⟨k2, rfl, hkl2, ow3, hwr3, f3⟩
    obtain ⟨pb2, po2, gi2, g12, g22⟩ := hread h3 ow3
    by_cases hkk2 : k2 < lv.length
    · obtain ⟨t', kv', vv', lk', lv', hrow', hk2, hv2, hlb⟩ := hwr3 rows[i] (List.getElem_mem hir)
      rw [hrow] at hrow'
      simp only [List.cons.injEq, Value.int.injEq, true_and, and_true] at hrow'
      obtain ⟨rfl, rfl, rfl⟩ := hrow'
      have hll := (SlK.cap hv2.s0).1
      rw [one_len, bvs_len] at hll
      obtain ⟨b, o, c, fr, q1, q2, q3, q4, q5⟩ := byte_at hv2 (i := k2) (by omega) .i64
      obtain ⟨x, hx⟩ := xor255 lv'[k2]
      simp (disch := omega) only [dm_t, wA, wB, wL, wW, wY, Int.fdiv_eq_ediv_of_nonneg, Int.tdiv_eq_ediv_of_nonneg, Int.tmod_eq_emod_of_nonneg, chk_pos, decT, decF, br_pos, br_neg, wX, ↓reduceIte, Nat.reduceEqDiff, Nat.reduceAdd, Nat.reduceSub, Nat.reduceMul, Nat.reduceLeDiff, Nat.reduceLT, Nat.reduceMod, Nat.reduceDiv, Int.reduceToNat, Nat.min_eq_left, IntKind.bits, Int.reducePow, Int.reduceLT, Int.reduceLE, Int.reduceEq, Int.reduceNe, Int.reduceAdd, Int.reduceSub, and_self, reduceCtorEq, decide_eq_true_eq, decide_eq_false_iff_not, eq_self, implies_true, exists_const, Option.isNone_some, Option.isNone_none, Option.isSome_some, Option.isSome_none, Option.getD_some, gi2, g22, q1, q2]
      refine q5 x _ _ hx ?_
      simp (disch := omega) only [dm_t, wA, wB, wL, wW, wY, Int.fdiv_eq_ediv_of_nonneg, Int.tdiv_eq_ediv_of_nonneg, Int.tmod_eq_emod_of_nonneg, chk_pos, decT, decF, br_pos, br_neg, wX, ↓reduceIte, Nat.reduceEqDiff, Nat.reduceAdd, Nat.reduceSub, Nat.reduceMul, Nat.reduceLeDiff, Nat.reduceLT, Nat.reduceMod, Nat.reduceDiv, Int.reduceToNat, Nat.min_eq_left, IntKind.bits, Int.reducePow, Int.reduceLT, Int.reduceLE, Int.reduceEq, Int.reduceNe, Int.reduceAdd, Int.reduceSub, and_self, reduceCtorEq, decide_eq_true_eq, decide_eq_false_iff_not, eq_self, implies_true, exists_const, Option.isNone_some, Option.isNone_none, Option.isSome_some, Option.isSome_none, Option.getD_some]
      obtain ⟨w1, w2⟩ := wl_poke ow3 hwr3 q4 x o
      exact ⟨⟨k2 + 1, by simp, by omega, w1, w2, f3.trans (Fr.upd q3 _)⟩, by simp [m1]; omega⟩
    obtain ⟨b, o, p1, p2, p3, p4⟩ := ow3.put hir .i64
    rw [gi2] at p1
    simp only [Option.some.injEq, Value.pointer.injEq, Addr.mk.injEq, and_true] at p1
    obtain ⟨rfl, rfl⟩ := p1
    simp (disch := omega) only [dm_t, wA, wB, wL, wW, wY, Int.fdiv_eq_ediv_of_nonneg, Int.tdiv_eq_ediv_of_nonneg, Int.tmod_eq_emod_of_nonneg, chk_pos, decT, decF, br_pos, br_neg, wX, ↓reduceIte, Nat.reduceEqDiff, Nat.reduceAdd, Nat.reduceSub, Nat.reduceMul, Nat.reduceLeDiff, Nat.reduceLT, Nat.reduceMod, Nat.reduceDiv, Int.reduceToNat, Nat.min_eq_left, IntKind.bits, Int.reducePow, Int.reduceLT, Int.reduceLE, Int.reduceEq, Int.reduceNe, Int.reduceAdd, Int.reduceSub, and_self, reduceCtorEq, decide_eq_true_eq, decide_eq_false_iff_not, eq_self, implies_true, exists_const, Option.isNone_some, Option.isNone_none, Option.isSome_some, Option.isSome_none, Option.getD_some, gi2, g22]
    refine p4 0 [.int .i64 (-1)] _ (by simp) rfl ?_
    intro h4 ow4 f4
    simp (disch := omega) only [dm_t, wA, wB, wL, wW, wY, Int.fdiv_eq_ediv_of_nonneg, Int.tdiv_eq_ediv_of_nonneg, Int.tmod_eq_emod_of_nonneg, chk_pos, decT, decF, br_pos, br_neg, wX, ↓reduceIte, Nat.reduceEqDiff, Nat.reduceAdd, Nat.reduceSub, Nat.reduceMul, Nat.reduceLeDiff, Nat.reduceLT, Nat.reduceMod, Nat.reduceDiv, Int.reduceToNat, Nat.min_eq_left, IntKind.bits, Int.reducePow, Int.reduceLT, Int.reduceLE, Int.reduceEq, Int.reduceNe, Int.reduceAdd, Int.reduceSub, and_self, reduceCtorEq, decide_eq_true_eq, decide_eq_false_iff_not, eq_self, implies_true, exists_const, Option.isNone_some, Option.isNone_none, Option.isSome_some, Option.isSome_none, Option.getD_some]
    refine ⟨⟨i + 1, by simp, by omega, ⟨_, ow4, by simp [hrn], ?_⟩, f3.trans (f4.mono fun x hx => by rw [hx]; exact p2)⟩, by simp [m1]; omega⟩
    have hall : ∀ r ∈ rows, WRow 5 O h4 r := fun r hr => (hwr3 r hr).fr (by decide) ow3 f4 fun x hx => by rw [hx]; exact p3
    intro r hr
    rcases List.mem_or_eq_of_mem_set hr with hm | rfl
    · exact hall r hm
    · obtain ⟨t', kv', vv', lk', lv', hrow', hk2, hv2, hlb⟩ := hall rows[i] (List.getElem_mem hir)
      rw [hrow']
      exact ⟨_, _, _, _, _, rfl, hk2, hv2, hlb⟩
  · simp (disch := omega) only [dm_t, wA, wB, wL, wW, wY, Int.fdiv_eq_ediv_of_nonneg, Int.tdiv_eq_ediv_of_nonneg, Int.tmod_eq_emod_of_nonneg, chk_pos, decT, decF, br_pos, br_neg, wX, ↓reduceIte, Nat.reduceEqDiff, Nat.reduceAdd, Nat.reduceSub, Nat.reduceMul, Nat.reduceLeDiff, Nat.reduceLT, Nat.reduceMod, Nat.reduceDiv, Int.reduceToNat, Nat.min_eq_left, IntKind.bits, Int.reducePow, Int.reduceLT, Int.reduceLE, Int.reduceEq, Int.reduceNe, Int.reduceAdd, Int.reduceSub, and_self, reduceCtorEq, decide_eq_true_eq, decide_eq_false_iff_not, eq_self, implies_true, exists_const, Option.isNone_some, Option.isNone_none, Option.isSome_some, Option.isSome_none, Option.getD_some]
    exact f1
end Go.Proofs.Ytcebmbnofejlhaa.gf
