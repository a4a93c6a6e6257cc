/-
  history: the document's Put, a return.
-/
import Derived.Test.YtmolhemoiplpfaaHj
namespace Go.Proofs.Ytmolhemoiplpfaa.hi
open Go.Proofs.Ytmolhemoiplpfaa
set_option linter.unusedVariables false
set_option linter.unusedSimpArgs false
theorem putD_ret {g h' : H} {p eb : Nat} {ve vo r q : Value} {s : Hs} {x : evT.D} {opn : List Bool}
    (hT : turnE s x = 0) (ho : h' p = some (.cells (DO opn ve vo).toArray 56)) (h64 : opn.length = 64) (hle : s.ops.length ≤ s.evs.length) (hopn : opn = s.opn.set (Int.toNat x.1) (!x.2.1)) (hlen : s.evs.length < 65536)
    (revs : RepL (fun y => y = p) evT h' ve s.evs) (rops : RepL (fun y => y = p) opT h' vo s.ops) (F : Fr (fun y => y = p) g h') (hinv : ∀ i : Nat, i < 64 → (putS s x).opn.getD i false = true → ∃ o ∈ (putS s x).ops, @Eq Int o.1 (i : Int))
    (qb : h' eb = some (.cells (eCs x r q).toArray 41)) (hb : inI x.1 ∧ cB x.2.2.1 ∧ yB x.2.2.2) (hr : RepL (fun y => y = p) rc h' r x.2.2.1.2.2.1) (hq : RepL (fun y => y = p) rc h' q x.2.2.2.2.2) (hret : x.2.1 = true) (hex : ∃ o ∈ s.ops, @Eq Int o.1 x.1) :
    vc Try.prog c27_s4 (retQ [4] (okR (PutD g p s x))) [(0, .pointer (some ⟨p, 0, none⟩)), (3, .pointer (some ⟨eb, 0, none⟩))] h' := by
  obtain ⟨ea, en, rfl⟩ := revs.len
  obtain ⟨oa, on, rfl⟩ := rops.len
  obtain ⟨qa, qn, rfl⟩ := hq.len
  have hpn : h' p ≠ none := by rw [ho]; simp
  have hpe : eb ≠ p := fun h => by subst h; rw [ho] at qb; simp at qb
  have hbs : inI (s.evs.length : Int) := by unfold inI; omega
  have kk : ∀ G, Ext h' G → cellAt G ⟨p, 0, none⟩ = some (.slice ea s.evs.length en) ∧ cellAt G ⟨p, 1, none⟩ = some (.slice oa s.ops.length on) ∧ cellAt G ⟨eb, 0, none⟩ = some (.int .i64 x.1) ∧ cellsAt G ⟨eb, 7, none⟩ 3 = some (yCs x.2.2.2 (.slice qa x.2.2.2.2.2.length qn)).toArray := fun G e =>
    ⟨by rw [cellAt_of (e.at ho)]; rfl, by rw [cellAt_of (e.at ho)]; rfl, (evC (e.at qb)).c0, (evC (e.at qb)).c7⟩
  obtain ⟨p0, p1, a0, a7⟩ := kk h' (Ext.refl _)
  have c1 := (evC qb).c1
  rw [hret] at c1
  simp (disch := omega) only [dm_t, wA, wB, wL, wW, wY, Int.fdiv_eq_ediv_of_nonneg, Int.tdiv_eq_ediv_of_nonneg, Int.tmod_eq_emod_of_nonneg, chk_pos, decT, decF, br_pos, br_neg, wX, ↓reduceIte, Nat.reduceEqDiff, Nat.reduceAdd, Nat.reduceSub, Nat.reduceMul, Nat.reduceLeDiff, Nat.reduceLT, Nat.reduceMod, Nat.reduceDiv, Int.reduceToNat, Nat.min_eq_left, IntKind.bits, Int.reducePow, Int.reduceLT, Int.reduceLE, Int.reduceEq, Int.reduceNe, Int.reduceAdd, Int.reduceSub, and_self, reduceCtorEq, decide_eq_true_eq, decide_eq_false_iff_not, eq_self, implies_true, exists_const, Option.isNone_some, Option.isNone_none, Option.isSome_some, Option.isSome_none, Option.getD_some, c1, p1]
  refine copyApp (h' := h') rfl rops hpn (by rfl) (by omega) (by omega) ?_
  intro w G o e
  obtain ⟨wa, wn, rfl⟩ := o.len
  obtain ⟨p0, p1, a0, a7⟩ := kk G e
  -- the place found
  have key : ∀ (m : Nat) (hm : m < s.ops.length), @Eq Int (s.ops[m]).1 x.1 → (∀ (j : Nat) (hj : j < s.ops.length), m < j → @Ne Int (s.ops[j]).1 x.1) →
      vc Try.prog c27_s8 (seqQ Try.prog [0, 3] c27_s11 (retQ [4] (okR (PutD g p s x)))) [(0, .pointer (some ⟨p, 0, none⟩)), (3, .pointer (some ⟨eb, 0, none⟩)), (5, .slice wa s.ops.length wn), (6, .int .i64 (m : Int))] G := by
    intro m hm heq hno
    have hsome : lastIx x.1 s.ops = some m := lastIx_some hm heq hno
    have hops : opsS s x = s.ops.set m (clo x s.evs.length s.ops[m]) := by
      rw [opsS, if_neg (by rw [hret]; simp), hsome]
      simp only []
      rw [List.getElem?_eq_getElem hm]
    obtain ⟨b, od, cs, hidx, hat, hob, hc, hrow, hset⟩ := o.set (i := m) hm .i64 11 rfl
    obtain ⟨ro, qo, rfl, hbb, hro, hqo⟩ := rep_op.1 hrow
    have hq' : RepL (fun y => isAt (.slice wa s.ops.length wn) y ∨ y = p) rc G (.slice qa x.2.2.2.2.2.length qn) x.2.2.2.2.2 := Rep.move hq e (fun _ h => h.elim) fun y hy => hy.elim (fun h => .inr (o.own h)) .inl
    simp (disch := omega) only [dm_t, wA, wB, wL, wW, wY, Int.fdiv_eq_ediv_of_nonneg, Int.tdiv_eq_ediv_of_nonneg, Int.tmod_eq_emod_of_nonneg, chk_pos, decT, decF, br_pos, br_neg, wX, ↓reduceIte, Nat.reduceEqDiff, Nat.reduceAdd, Nat.reduceSub, Nat.reduceMul, Nat.reduceLeDiff, Nat.reduceLT, Nat.reduceMod, Nat.reduceDiv, Int.reduceToNat, Nat.min_eq_left, IntKind.bits, Int.reducePow, Int.reduceLT, Int.reduceLE, Int.reduceEq, Int.reduceNe, Int.reduceAdd, Int.reduceSub, and_self, reduceCtorEq, decide_eq_true_eq, decide_eq_false_iff_not, eq_self, implies_true, exists_const, Option.isNone_some, Option.isNone_none, Option.isSome_some, Option.isSome_none, Option.getD_some, a7, hidx]
    refine hset 6 (yCs x.2.2.2 (.slice qa x.2.2.2.2.2.length qn)) (((s.ops[m]).1, (s.ops[m]).2.1, x.2.2.2, (s.ops[m]).2.2.2) : opT.D) _ (by simp) rfl (rep_op.2 ⟨ro, _, rfl, ⟨hbb.1, hbb.2.1, hb.2.2, hbb.2.2.2⟩, hro, hq'⟩) ?_
    intro G1 o1 f1
    have e1 : Ext h' G1 := Ext.step' e f1 fun y hy => hy ▸ hob
    obtain ⟨p0, p1, a0, a7⟩ := kk G1 e1
    obtain ⟨b2, od2, cs2, hidx2, _, _, _, hrow2, hset2⟩ := o1.set (i := m) (by rw [List.length_set]; exact hm) .i64 11 rfl
    rw [hidx] at hidx2
    simp only [Option.some.injEq, Value.pointer.injEq, Addr.mk.injEq, and_true] at hidx2
    obtain ⟨rfl, rfl⟩ := hidx2
    obtain ⟨r2, q2, rfl, hbb2, hr2, hq2⟩ := rep_op.1 hrow2
    simp only [List.getElem_set_self, List.set_set] at hbb2 hr2 hq2 hset2
    simp (disch := omega) only [dm_t, wA, wB, wL, wW, wY, Int.fdiv_eq_ediv_of_nonneg, Int.tdiv_eq_ediv_of_nonneg, Int.tmod_eq_emod_of_nonneg, chk_pos, decT, decF, br_pos, br_neg, wX, ↓reduceIte, Nat.reduceEqDiff, Nat.reduceAdd, Nat.reduceSub, Nat.reduceMul, Nat.reduceLeDiff, Nat.reduceLT, Nat.reduceMod, Nat.reduceDiv, Int.reduceToNat, Nat.min_eq_left, IntKind.bits, Int.reducePow, Int.reduceLT, Int.reduceLE, Int.reduceEq, Int.reduceNe, Int.reduceAdd, Int.reduceSub, and_self, reduceCtorEq, decide_eq_true_eq, decide_eq_false_iff_not, eq_self, implies_true, exists_const, Option.isNone_some, Option.isNone_none, Option.isSome_some, Option.isSome_none, Option.getD_some, p0, hidx]
    refine hset2 10 [.int .i64 (s.evs.length : Int)] (clo x s.evs.length s.ops[m]) _ (by simp) rfl (rep_op.2 ⟨r2, q2, rfl, ⟨hbb2.1, hbb2.2.1, hbb2.2.2.1, hbb2.2.2.2.1, hbs⟩, hr2, hq2⟩) ?_
    intro G2 o2 f2
    have e2 : Ext h' G2 := Ext.step' e1 f2 fun y hy => hy ▸ hob
    generalize hG' : hupd G2 p (.cells (DO opn (.slice ea s.evs.length en) (.slice wa s.ops.length wn)).toArray 56) = g''
    have hst := fun K => DO_store1 (K := K) (e2.at ho) rfl hG'
    have f3 : Fr (fun y => y = p) G2 g'' := by rw [← hG']; exact Fr.upd (S := fun y => y = p) rfl _
    have f4 : Fr (fun y => y = p) h' g'' := (e2.mono fun _ h => h.elim).trans f3
    have kf := putD_s11 hT (by rw [← hG', hupd_same]) h64 hle hopn hlen (revs.fr f4 (fun _ h => h)) (by rw [hops]; exact (o2.repS (S := fun y => y = p) fun y hy hp => hpn (hp ▸ hy)).fr f3 (fun _ h => h)) (F.trans f4) hinv (f4 _ _ qb hpe) (rep_ev.2 ⟨r, _, rfl, hb, hr.fr f4 (fun _ h => h), hq.fr f4 (fun _ h => h)⟩)
    simp (disch := omega) only [dm_t, wA, wB, wL, wW, wY, Int.fdiv_eq_ediv_of_nonneg, Int.tdiv_eq_ediv_of_nonneg, Int.tmod_eq_emod_of_nonneg, chk_pos, decT, decF, br_pos, br_neg, wX, ↓reduceIte, Nat.reduceEqDiff, Nat.reduceAdd, Nat.reduceSub, Nat.reduceMul, Nat.reduceLeDiff, Nat.reduceLT, Nat.reduceMod, Nat.reduceDiv, Int.reduceToNat, Nat.min_eq_left, IntKind.bits, Int.reducePow, Int.reduceLT, Int.reduceLE, Int.reduceEq, Int.reduceNe, Int.reduceAdd, Int.reduceSub, and_self, reduceCtorEq, decide_eq_true_eq, decide_eq_false_iff_not, eq_self, implies_true, exists_const, Option.isNone_some, Option.isNone_none, Option.isSome_some, Option.isSome_none, Option.getD_some, hst, kf]
  have hpos : 0 < s.ops.length := by
    obtain ⟨o', h1, _⟩ := hex
    exact List.length_pos_of_mem h1
  obtain ⟨n, hn⟩ : ∃ n, n + 1 = s.ops.length := ⟨s.ops.length - 1, by omega⟩
  simp (disch := omega) only [dm_t, wA, wB, wL, wW, wY, Int.fdiv_eq_ediv_of_nonneg, Int.tdiv_eq_ediv_of_nonneg, Int.tmod_eq_emod_of_nonneg, chk_pos, decT, decF, br_pos, br_neg, wX, ↓reduceIte, Nat.reduceEqDiff, Nat.reduceAdd, Nat.reduceSub, Nat.reduceMul, Nat.reduceLeDiff, Nat.reduceLT, Nat.reduceMod, Nat.reduceDiv, Int.reduceToNat, Nat.min_eq_left, IntKind.bits, Int.reducePow, Int.reduceLT, Int.reduceLE, Int.reduceEq, Int.reduceNe, Int.reduceAdd, Int.reduceSub, and_self, reduceCtorEq, decide_eq_true_eq, decide_eq_false_iff_not, eq_self, implies_true, exists_const, Option.isNone_some, Option.isNone_none, Option.isSome_some, Option.isSome_none, Option.getD_some]
  refine vc_loop1 (fun vi G' => G' = G ∧ ∃ m : Nat, vi = .int .i64 (m : Int) ∧ m < s.ops.length ∧ ∀ (j : Nat) (hj : j < s.ops.length), m < j → @Ne Int (s.ops[j]).1 x.1) (fun vi _ => m1 vi) ?_ ?_
  · simp (disch := omega) only [dm_t, wA, wB, wL, wW, wY, Int.fdiv_eq_ediv_of_nonneg, Int.tdiv_eq_ediv_of_nonneg, Int.tmod_eq_emod_of_nonneg, chk_pos, decT, decF, br_pos, br_neg, wX, ↓reduceIte, Nat.reduceEqDiff, Nat.reduceAdd, Nat.reduceSub, Nat.reduceMul, Nat.reduceLeDiff, Nat.reduceLT, Nat.reduceMod, Nat.reduceDiv, Int.reduceToNat, Nat.min_eq_left, IntKind.bits, Int.reducePow, Int.reduceLT, Int.reduceLE, Int.reduceEq, Int.reduceNe, Int.reduceAdd, Int.reduceSub, and_self, reduceCtorEq, decide_eq_true_eq, decide_eq_false_iff_not, eq_self, implies_true, exists_const, Option.isNone_some, Option.isNone_none, Option.isSome_some, Option.isSome_none, Option.getD_some]
    exact ⟨n, by rw [← hn]; simp, by omega, fun j hj h => by omega⟩
  rintro _ G' ⟨hgg, m, rfl, hm, hno⟩
  rw [hgg]
  clear hgg
  obtain ⟨b1, q1, cs1, i1, _, d1, r1⟩ := (o.rep).load (i := m) hm .i64 11 rfl
  obtain ⟨_, _, rfl, _⟩ := rep_op.1 r1
  have x0 : cellAt G ⟨b1, q1, none⟩ = some (.int .i64 (s.ops[m]).1) := d1 0 (by omega)
  by_cases heq : @Eq Int (s.ops[m]).1 x.1
  · have kf := key m hm heq hno
    simp (disch := omega) only [dm_t, wA, wB, wL, wW, wY, Int.fdiv_eq_ediv_of_nonneg, Int.tdiv_eq_ediv_of_nonneg, Int.tmod_eq_emod_of_nonneg, chk_pos, decT, decF, br_pos, br_neg, wX, ↓reduceIte, Nat.reduceEqDiff, Nat.reduceAdd, Nat.reduceSub, Nat.reduceMul, Nat.reduceLeDiff, Nat.reduceLT, Nat.reduceMod, Nat.reduceDiv, Int.reduceToNat, Nat.min_eq_left, IntKind.bits, Int.reducePow, Int.reduceLT, Int.reduceLE, Int.reduceEq, Int.reduceNe, Int.reduceAdd, Int.reduceSub, and_self, reduceCtorEq, decide_eq_true_eq, decide_eq_false_iff_not, eq_self, implies_true, exists_const, Option.isNone_some, Option.isNone_none, Option.isSome_some, Option.isSome_none, Option.getD_some, i1, x0, a0, heq, kf]
  · have hm0 : 0 < m := by
      rcases Nat.eq_zero_or_pos m with h0 | h0
      · exfalso
        obtain ⟨o', h1, h2⟩ := hex
        obtain ⟨j, hj, rfl⟩ := List.getElem_of_mem h1
        by_cases hj0 : j = 0
        · subst hj0 h0; exact heq h2
        · exact hno j hj (by omega) h2
      · exact h0
    simp (disch := omega) only [dm_t, wA, wB, wL, wW, wY, Int.fdiv_eq_ediv_of_nonneg, Int.tdiv_eq_ediv_of_nonneg, Int.tmod_eq_emod_of_nonneg, chk_pos, decT, decF, br_pos, br_neg, wX, ↓reduceIte, Nat.reduceEqDiff, Nat.reduceAdd, Nat.reduceSub, Nat.reduceMul, Nat.reduceLeDiff, Nat.reduceLT, Nat.reduceMod, Nat.reduceDiv, Int.reduceToNat, Nat.min_eq_left, IntKind.bits, Int.reducePow, Int.reduceLT, Int.reduceLE, Int.reduceEq, Int.reduceNe, Int.reduceAdd, Int.reduceSub, and_self, reduceCtorEq, decide_eq_true_eq, decide_eq_false_iff_not, eq_self, implies_true, exists_const, Option.isNone_some, Option.isNone_none, Option.isSome_some, Option.isSome_none, Option.getD_some, i1, x0, a0, heq]
    refine ⟨⟨m - 1, by simp; omega, by omega, fun j hj hjm => ?_⟩, by simp [m1]; omega⟩
    by_cases hjm' : j = m
    · subst hjm'; exact heq
    · exact hno j hj (by omega)
end Go.Proofs.Ytmolhemoiplpfaa.hi
