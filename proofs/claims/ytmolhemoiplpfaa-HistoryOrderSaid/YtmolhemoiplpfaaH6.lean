/-
  history: put, a return.
-/
import Derived.Test.YtmolhemoiplpfaaH5
namespace Go.Proofs.Ytmolhemoiplpfaa.hi
open Go.Proofs.Ytmolhemoiplpfaa
set_option linter.unusedVariables false
set_option linter.unusedSimpArgs false
theorem put_ret {h0 g h' : H} {p eb : Nat} {ve vo r q : Value} {s : Hs} {x : evT.D} {opn : List Bool}
    (hT : turnE s x = 0) (X : HX h0 h' p ve vo ⟨s.evs, opn, s.ops⟩) (hopn : opn = s.opn.set (Int.toNat x.1) (!x.2.1)) (hlen : s.evs.length < 65536)
    (E0 : Ext h0 h') (F : Fr (HF p ve vo) g h') (hb : inI x.1 ∧ cB x.2.2.1 ∧ yB x.2.2.2)
    (qb : h' eb = some (.cells (eCs x r q).toArray 41)) (hne : ¬ HF p ve vo eb) (hr : RepL (HF p ve vo) rc h' r x.2.2.1.2.2.1) (hq : RepL (HF p ve vo) rc h' q x.2.2.2.2.2) (hret : x.2.1 = true) :
    vc Try.prog c26_s5 (retQ [4] (okR (PutR h0 g p ve vo s x))) [(0, .pointer (some ⟨p, 0, none⟩)), (3, .pointer (some ⟨eb, 0, none⟩))] h' := by
  obtain ⟨ea, en, rfl⟩ := X.evs.len
  obtain ⟨oa, on, rfl⟩ := X.ops.len
  obtain ⟨qa, qn, rfl⟩ := hq.len
  have hle : s.ops.length ≤ s.evs.length := X.le
  have h64 : opn.length = 64 := X.len
  have zz : HZ h0 h' p (.slice ea s.evs.length en) (.slice oa s.ops.length on) s.evs s.ops := X.z
  have k := evC qb
  have c1 := k.c1
  rw [hret] at c1
  have p0 : cellAt h' ⟨p, 0, none⟩ = some (.slice ea s.evs.length en) := X.c0
  have p65 : cellAt h' ⟨p, 65, none⟩ = some (.slice oa s.ops.length on) := X.c65
  have hx : Rep (HF p (.slice ea s.evs.length en) (.slice oa s.ops.length on)) evT h' (eCs x r (.slice qa x.2.2.2.2.2.length qn)) x := rep_ev.2 ⟨r, _, rfl, hb, hr, hq⟩
  -- none is changed
  have k12 : opsS s x = s.ops → vc Try.prog c26_s12 (retQ [4] (okR (PutR h0 g p (.slice ea s.evs.length en) (.slice oa s.ops.length on) s x))) [(0, .pointer (some ⟨p, 0, none⟩)), (3, .pointer (some ⟨eb, 0, none⟩))] h' := fun h =>
    put_s12 (r := r) (q := .slice qa x.2.2.2.2.2.length qn) hT X.obj h64 hle zz hopn h.symm hlen E0 F k hx
  simp (disch := omega) only [dm_t, wA, wB, wL, wW, wY, Int.fdiv_eq_ediv_of_nonneg, Int.tdiv_eq_ediv_of_nonneg, Int.tmod_eq_emod_of_nonneg, chk_pos, decT, decF, br_pos, br_neg, wX, ↓reduceIte, Nat.reduceEqDiff, Nat.reduceAdd, Nat.reduceSub, Nat.reduceMul, Nat.reduceLeDiff, Nat.reduceLT, Nat.reduceMod, Nat.reduceDiv, Int.reduceToNat, Nat.min_eq_left, IntKind.bits, Int.reducePow, Int.reduceLT, Int.reduceLE, Int.reduceEq, Int.reduceNe, Int.reduceAdd, Int.reduceSub, and_self, reduceCtorEq, decide_eq_true_eq, decide_eq_false_iff_not, eq_self, implies_true, exists_const, Option.isNone_some, Option.isNone_none, Option.isSome_some, Option.isSome_none, Option.getD_some, c1, p0, p65]
  refine vc_loop1 (fun vi g1 => g1 = h' ∧ ∃ i : Nat, vi = .int .i64 (i : Int) ∧ i ≤ s.ops.length ∧ ∀ (j : Nat) (hj : j < s.ops.length), s.ops.length ≤ j + i → @Ne Int (s.ops[j]).1 x.1) (fun vi _ => s.ops.length - m1 vi) ?_ ?_
  · simp (disch := omega) only [dm_t, wA, wB, wL, wW, wY, Int.fdiv_eq_ediv_of_nonneg, Int.tdiv_eq_ediv_of_nonneg, Int.tmod_eq_emod_of_nonneg, chk_pos, decT, decF, br_pos, br_neg, wX, ↓reduceIte, Nat.reduceEqDiff, Nat.reduceAdd, Nat.reduceSub, Nat.reduceMul, Nat.reduceLeDiff, Nat.reduceLT, Nat.reduceMod, Nat.reduceDiv, Int.reduceToNat, Nat.min_eq_left, IntKind.bits, Int.reducePow, Int.reduceLT, Int.reduceLE, Int.reduceEq, Int.reduceNe, Int.reduceAdd, Int.reduceSub, and_self, reduceCtorEq, decide_eq_true_eq, decide_eq_false_iff_not, eq_self, implies_true, exists_const, Option.isNone_some, Option.isNone_none, Option.isSome_some, Option.isSome_none, Option.getD_some]
    exact ⟨0, rfl, by omega, fun j hj h => by omega⟩
  rintro _ G ⟨hgg, i, rfl, hi, hno⟩
  rw [hgg]
  clear hgg
  by_cases hil : i < s.ops.length
  · obtain ⟨m, hm⟩ : ∃ m, m + i + 1 = s.ops.length := ⟨s.ops.length - 1 - i, by omega⟩
    have hmi : ((s.ops.length : Int) - 1 - i) = (m : Int) := by omega
    obtain ⟨b, o, ro, qo, hidx, hbo, ha, hbb, hro, hqo, hset⟩ := zz.setOp (k := m) (by omega) .i64
    have k0 := k.c0
    have k7 : cellsAt h' ⟨eb, 7, none⟩ 3 = some (yCs x.2.2.2 (.slice qa x.2.2.2.2.2.length qn)).toArray := k.c7
    simp (disch := omega) only [dm_t, wA, wB, wL, wW, wY, Int.fdiv_eq_ediv_of_nonneg, Int.tdiv_eq_ediv_of_nonneg, Int.tmod_eq_emod_of_nonneg, chk_pos, decT, decF, br_pos, br_neg, wX, ↓reduceIte, Nat.reduceEqDiff, Nat.reduceAdd, Nat.reduceSub, Nat.reduceMul, Nat.reduceLeDiff, Nat.reduceLT, Nat.reduceMod, Nat.reduceDiv, Int.reduceToNat, Nat.min_eq_left, IntKind.bits, Int.reducePow, Int.reduceLT, Int.reduceLE, Int.reduceEq, Int.reduceNe, Int.reduceAdd, Int.reduceSub, and_self, reduceCtorEq, decide_eq_true_eq, decide_eq_false_iff_not, eq_self, implies_true, exists_const, Option.isNone_some, Option.isNone_none, Option.isSome_some, Option.isSome_none, Option.getD_some, p65]
    rw [hmi, hidx]
    by_cases heq : @Eq Int (s.ops[m]).1 x.1
    · have hsome : lastIx x.1 s.ops = some m := lastIx_some (by omega) heq fun j hj hmj => hno j hj (by omega)
      have hops : opsS s x = s.ops.set m (clo x s.evs.length (s.ops[m]'(by omega))) := by
        rw [opsS, if_neg (by rw [hret]; simp), hsome]
        simp only []
        rw [List.getElem?_eq_getElem (by omega)]
      rw [heq] at ha
      simp (disch := omega) only [dm_t, wA, wB, wL, wW, wY, Int.fdiv_eq_ediv_of_nonneg, Int.tdiv_eq_ediv_of_nonneg, Int.tmod_eq_emod_of_nonneg, chk_pos, decT, decF, br_pos, br_neg, wX, ↓reduceIte, Nat.reduceEqDiff, Nat.reduceAdd, Nat.reduceSub, Nat.reduceMul, Nat.reduceLeDiff, Nat.reduceLT, Nat.reduceMod, Nat.reduceDiv, Int.reduceToNat, Nat.min_eq_left, IntKind.bits, Int.reducePow, Int.reduceLT, Int.reduceLE, Int.reduceEq, Int.reduceNe, Int.reduceAdd, Int.reduceSub, and_self, reduceCtorEq, decide_eq_true_eq, decide_eq_false_iff_not, eq_self, implies_true, exists_const, Option.isNone_some, Option.isNone_none, Option.isSome_some, Option.isSome_none, Option.getD_some, ha, k0, k7, p0]
      refine hset 6 (yCs x.2.2.2 (.slice qa x.2.2.2.2.2.length qn)) (((s.ops[m]'(by omega)).1, (s.ops[m]'(by omega)).2.1, x.2.2.2, (s.ops[m]'(by omega)).2.2.2) : opT.D) _ (by simp) ?_ ?_ ?_
      · rfl
      · exact rep_op.2 ⟨ro, _, rfl, ⟨hbb.1, hbb.2.1, hb.2.2, hbb.2.2.2⟩, hro, hq⟩
      intro g1 z1 f1
      have hml : m < s.ops.length := by omega
      have hbp : b ≠ p := fun h => X.nvo (h ▸ hbo)
      have heb : eb ≠ b := fun h => hne (.inr (.inr (h ▸ hbo)))
      have ho1 := f1 _ _ X.obj hbp.symm
      have qb1 := f1 _ _ qb heb
      have k1 := evC qb1
      have p01 : cellAt g1 ⟨p, 0, none⟩ = some (.slice ea s.evs.length en) := by rw [cellAt_of ho1, HO_ve]
      have k71 : cellsAt g1 ⟨eb, 7, none⟩ 3 = some (yCs x.2.2.2 (.slice qa x.2.2.2.2.2.length qn)).toArray := k1.c7
      obtain ⟨b2, o2, r2, q2, hidx2, _, _, hbb2, hr2, hq2, hset2⟩ := z1.setOp (k := m) (by rw [List.length_set]; exact hml) .i64
      rw [hidx] at hidx2
      simp only [Option.some.injEq, Value.pointer.injEq, Addr.mk.injEq, and_true] at hidx2
      obtain ⟨rfl, rfl⟩ := hidx2
      simp only [List.getElem_set_self, List.set_set] at hbb2 hr2 hq2 hset2
      have hbs : inI (s.evs.length : Int) := by unfold inI; omega
      simp (disch := omega) only [dm_t, wA, wB, wL, wW, wY, Int.fdiv_eq_ediv_of_nonneg, Int.tdiv_eq_ediv_of_nonneg, Int.tmod_eq_emod_of_nonneg, chk_pos, decT, decF, br_pos, br_neg, wX, ↓reduceIte, Nat.reduceEqDiff, Nat.reduceAdd, Nat.reduceSub, Nat.reduceMul, Nat.reduceLeDiff, Nat.reduceLT, Nat.reduceMod, Nat.reduceDiv, Int.reduceToNat, Nat.min_eq_left, IntKind.bits, Int.reducePow, Int.reduceLT, Int.reduceLE, Int.reduceEq, Int.reduceNe, Int.reduceAdd, Int.reduceSub, and_self, reduceCtorEq, decide_eq_true_eq, decide_eq_false_iff_not, eq_self, implies_true, exists_const, Option.isNone_some, Option.isNone_none, Option.isSome_some, Option.isSome_none, Option.getD_some, p01, k71]
      refine hset2 10 [.int .i64 (s.evs.length : Int)] (clo x s.evs.length s.ops[m]) _ (by simp) rfl ?_ ?_
      · exact rep_op.2 ⟨r2, q2, rfl, ⟨hbb2.1, hbb2.2.1, hbb2.2.2.1, hbb2.2.2.2.1, hbs⟩, hr2, hq2⟩
      intro g2 z2 f2
      have hF : Fr (HF p (.slice ea s.evs.length en) (.slice oa s.ops.length on)) h' g2 := (f1.trans f2).mono fun y hy => .inr (.inr (hy ▸ hbo))
      have ho2 := f2 _ _ ho1 hbp.symm
      have qb2 := f2 _ _ qb1 heb
      have k12' := put_s12 (r := r) (q := .slice qa x.2.2.2.2.2.length qn) hT ho2 h64 hle z2 hopn hops.symm hlen (Ext.step' E0 hF fun y hy => X.own hy) (F.trans hF) (evC qb2) (Rep.move hx hF (fun _ h => h) fun y hy => .inl hy)
      simp (disch := omega) only [dm_t, wA, wB, wL, wW, wY, Int.fdiv_eq_ediv_of_nonneg, Int.tdiv_eq_ediv_of_nonneg, Int.tmod_eq_emod_of_nonneg, chk_pos, decT, decF, br_pos, br_neg, wX, ↓reduceIte, Nat.reduceEqDiff, Nat.reduceAdd, Nat.reduceSub, Nat.reduceMul, Nat.reduceLeDiff, Nat.reduceLT, Nat.reduceMod, Nat.reduceDiv, Int.reduceToNat, Nat.min_eq_left, IntKind.bits, Int.reducePow, Int.reduceLT, Int.reduceLE, Int.reduceEq, Int.reduceNe, Int.reduceAdd, Int.reduceSub, and_self, reduceCtorEq, decide_eq_true_eq, decide_eq_false_iff_not, eq_self, implies_true, exists_const, Option.isNone_some, Option.isNone_none, Option.isSome_some, Option.isSome_none, Option.getD_some, k12']
    · simp (disch := omega) only [dm_t, wA, wB, wL, wW, wY, Int.fdiv_eq_ediv_of_nonneg, Int.tdiv_eq_ediv_of_nonneg, Int.tmod_eq_emod_of_nonneg, chk_pos, decT, decF, br_pos, br_neg, wX, ↓reduceIte, Nat.reduceEqDiff, Nat.reduceAdd, Nat.reduceSub, Nat.reduceMul, Nat.reduceLeDiff, Nat.reduceLT, Nat.reduceMod, Nat.reduceDiv, Int.reduceToNat, Nat.min_eq_left, IntKind.bits, Int.reducePow, Int.reduceLT, Int.reduceLE, Int.reduceEq, Int.reduceNe, Int.reduceAdd, Int.reduceSub, and_self, reduceCtorEq, decide_eq_true_eq, decide_eq_false_iff_not, eq_self, implies_true, exists_const, Option.isNone_some, Option.isNone_none, Option.isSome_some, Option.isSome_none, Option.getD_some, ha, k0]
      refine ⟨⟨i + 1, by simp, by omega, fun j hj h => ?_⟩, by simp [m1]; omega⟩
      by_cases hjm : j = m
      · subst hjm; exact heq
      · exact hno j hj (by omega)
  · obtain rfl : i = s.ops.length := by omega
    have hops : opsS s x = s.ops := by
      have : lastIx x.1 s.ops = none := lastIx_none fun j hj => hno j hj (by omega)
      rw [opsS, if_neg (by rw [hret]; simp), this]
    simp (disch := omega) only [dm_t, wA, wB, wL, wW, wY, Int.fdiv_eq_ediv_of_nonneg, Int.tdiv_eq_ediv_of_nonneg, Int.tmod_eq_emod_of_nonneg, chk_pos, decT, decF, br_pos, br_neg, wX, ↓reduceIte, Nat.reduceEqDiff, Nat.reduceAdd, Nat.reduceSub, Nat.reduceMul, Nat.reduceLeDiff, Nat.reduceLT, Nat.reduceMod, Nat.reduceDiv, Int.reduceToNat, Nat.min_eq_left, IntKind.bits, Int.reducePow, Int.reduceLT, Int.reduceLE, Int.reduceEq, Int.reduceNe, Int.reduceAdd, Int.reduceSub, and_self, reduceCtorEq, decide_eq_true_eq, decide_eq_false_iff_not, eq_self, implies_true, exists_const, Option.isNone_some, Option.isNone_none, Option.isSome_some, Option.isSome_none, Option.getD_some, k12 hops]
end Go.Proofs.Ytmolhemoiplpfaa.hi
