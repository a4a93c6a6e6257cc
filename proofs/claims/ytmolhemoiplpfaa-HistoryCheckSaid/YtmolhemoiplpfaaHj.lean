/-
  history: the document's Put, a call and a return.
-/
import Derived.Test.YtmolhemoiplpfaaHi
namespace Go.Proofs.Ytmolhemoiplpfaa.hi
open Go.Proofs.Ytmolhemoiplpfaa
set_option linter.unusedVariables false
set_option linter.unusedSimpArgs false
theorem putD_call {g h' : H} {p eb : Nat} {ve vo r q : Value} {s : Hs} {x : evT.D} {opn : List Bool}
    (hT : turnE s x = 0) (ho : h' p = some (.cells (DO opn ve vo).toArray 56)) (h64 : opn.length = 64) (hle : s.ops.length ≤ s.evs.length) (hopn : opn = s.opn.set (Int.toNat x.1) (!x.2.1)) (hlen : s.evs.length < 65536)
    (revs : RepL (fun y => y = p) evT h' ve s.evs) (rops : RepL (fun y => y = p) opT h' vo s.ops) (F : Fr (fun y => y = p) g h') (hinv : ∀ i : Nat, i < 64 → (putS s x).opn.getD i false = true → ∃ o ∈ (putS s x).ops, @Eq Int o.1 (i : Int))
    (qb : h' eb = some (.cells (eCs x r q).toArray 41)) (hb : inI x.1 ∧ cB x.2.2.1 ∧ yB x.2.2.2) (hr : RepL (fun y => y = p) rc h' r x.2.2.1.2.2.1) (hq : RepL (fun y => y = p) rc h' q x.2.2.2.2.2) (hret : x.2.1 = false) :
    vc Try.prog c27_s4 (retQ [4] (okR (PutD g p s x))) [(0, .pointer (some ⟨p, 0, none⟩)), (3, .pointer (some ⟨eb, 0, none⟩))] h' := by
  obtain ⟨ea, en, rfl⟩ := revs.len
  obtain ⟨oa, on, rfl⟩ := rops.len
  have hpn : h' p ≠ none := by rw [ho]; simp
  have hops : opsS s x = s.ops ++ [opN x s.evs.length] := by rw [opsS, if_pos hret]
  have hbs : inI (s.evs.length : Int) ∧ inI (-1) := by unfold inI; omega
  have hrow : Rep (fun y => y = p) opT h' (oCs (opN x s.evs.length) r (.slice none 0 0)) (opN x s.evs.length) :=
    rep_op.2 ⟨r, .slice none 0 0, rfl, ⟨hb.1, hb.2.1, ⟨inI0, inI0⟩, hbs.1, hbs.2⟩, hr, RepL.nil⟩
  have hpe : eb ≠ p := fun h => by subst h; rw [ho] at qb; simp at qb
  -- behind the store
  have last : ∀ (G : H) (w : Value), Ext h' G → OwL (fun y => y = p) opT (fun y => h' y = none) G 43 w (s.ops ++ [opN x s.evs.length]) → ∀ (g'' : H), hupd G p (.cells (DO opn (.slice ea s.evs.length en) w).toArray 56) = g'' →
      vc Try.prog c27_s11 (retQ [4] (okR (PutD g p s x))) [(0, .pointer (some ⟨p, 0, none⟩)), (3, .pointer (some ⟨eb, 0, none⟩))] g'' := by
    intro G w e o g'' hg
    have f2 : Fr (fun y => y = p) G g'' := by rw [← hg]; exact Fr.upd (S := fun y => y = p) rfl _
    have f1 : Fr (fun y => y = p) h' g'' := (e.mono fun _ h => h.elim).trans f2
    refine putD_s11 hT (by rw [← hg, hupd_same]) h64 hle hopn hlen (revs.fr f1 (fun _ h => h)) ?_ (F.trans f1) hinv (f1 _ _ qb hpe) (rep_ev.2 ⟨r, q, rfl, hb, hr.fr f1 (fun _ h => h), hq.fr f1 (fun _ h => h)⟩)
    rw [hops]
    exact (o.repS (S := fun y => y = p) fun y hy hp => hpn (hp ▸ hy)).fr f2 (fun _ h => h)
  have kk : ∀ G, Ext h' G → cellAt G ⟨p, 0, none⟩ = some (.slice ea s.evs.length en) ∧ cellAt G ⟨p, 1, none⟩ = some (.slice oa s.ops.length on) ∧ cellAt G ⟨eb, 0, none⟩ = some (.int .i64 x.1) ∧ cellsAt G ⟨eb, 2, none⟩ 5 = some (cCs x.2.2.1 r).toArray := fun G e =>
    ⟨by rw [cellAt_of (e.at ho)]; rfl, by rw [cellAt_of (e.at ho)]; rfl, (evC (e.at qb)).c0, (evC (e.at qb)).c2⟩
  obtain ⟨p0, p1, a0, a2⟩ := kk h' (Ext.refl _)
  have c1 := (evC qb).c1
  rw [hret] at c1
  simp (disch := omega) only [dm_t, wA, wB, wL, wW, wY, Int.fdiv_eq_ediv_of_nonneg, Int.tdiv_eq_ediv_of_nonneg, Int.tmod_eq_emod_of_nonneg, chk_pos, decT, decF, br_pos, br_neg, wX, ↓reduceIte, Nat.reduceEqDiff, Nat.reduceAdd, Nat.reduceSub, Nat.reduceMul, Nat.reduceLeDiff, Nat.reduceLT, Nat.reduceMod, Nat.reduceDiv, Int.reduceToNat, Nat.min_eq_left, IntKind.bits, Int.reducePow, Int.reduceLT, Int.reduceLE, Int.reduceEq, Int.reduceNe, Int.reduceAdd, Int.reduceSub, and_self, reduceCtorEq, decide_eq_true_eq, decide_eq_false_iff_not, eq_self, implies_true, exists_const, Option.isNone_some, Option.isNone_none, Option.isSome_some, Option.isSome_none, Option.getD_some, c1, p0, p1, a0, a2]
  refine ⟨?_, ?_⟩
  · refine copyApp (h' := h') rfl rops hpn (by rfl) (by omega) (by omega) ?_
    intro w G o e
    obtain ⟨wa, wn, rfl⟩ := o.len
    obtain ⟨p0, p1, a0, a2⟩ := kk G e
    simp (disch := omega) only [dm_t, wA, wB, wL, wW, wY, Int.fdiv_eq_ediv_of_nonneg, Int.tdiv_eq_ediv_of_nonneg, Int.tmod_eq_emod_of_nonneg, chk_pos, decT, decF, br_pos, br_neg, wX, ↓reduceIte, Nat.reduceEqDiff, Nat.reduceAdd, Nat.reduceSub, Nat.reduceMul, Nat.reduceLeDiff, Nat.reduceLT, Nat.reduceMod, Nat.reduceDiv, Int.reduceToNat, Nat.min_eq_left, IntKind.bits, Int.reducePow, Int.reduceLT, Int.reduceLE, Int.reduceEq, Int.reduceNe, Int.reduceAdd, Int.reduceSub, and_self, reduceCtorEq, decide_eq_true_eq, decide_eq_false_iff_not, eq_self, implies_true, exists_const, Option.isNone_some, Option.isNone_none, Option.isSome_some, Option.isSome_none, Option.getD_some, p0, p1, a0, a2]
    intro b hbn
    have e2 : Ext h' _ := e.trans (Ext.new hbn (.cells (oCs (opN x s.evs.length) r (.slice none 0 0)).toArray 43))
    refine ⟨(kk _ e2).2.1, ?_⟩
    refine oneApp (h' := h') (b := b) rfl (o.ext (Ext.new hbn _)) e2 (hupd_same _ _ _) hrow (fun h => o.there h hbn) (fun h => by subst h; exact hpn (e.bk hbn)) (by rfl) (by omega) (by omega) ?_
    intro w2 G2 o2 e3
    obtain ⟨wa2, wn2, rfl⟩ := o2.len
    generalize hG' : hupd G2 p (.cells (DO opn (.slice ea s.evs.length en) (.slice wa2 (s.ops ++ [opN x s.evs.length]).length wn2)).toArray 56) = g''
    have hst := fun K => DO_store1 (K := K) (e3.at ho) rfl hG'
    obtain ⟨p0, p1, a0, a2⟩ := kk G2 e3
    simp (disch := omega) only [dm_t, wV, wB, wL, wW, wU, Int.fdiv_eq_ediv_of_nonneg, Int.tdiv_eq_ediv_of_nonneg, Int.tmod_eq_emod_of_nonneg, chk_pos, decT, decF, br_pos, br_neg, wX, ↓reduceIte, Nat.reduceEqDiff, Nat.reduceAdd, Nat.reduceSub, Nat.reduceMul, Nat.reduceLeDiff, Nat.reduceLT, Nat.reduceMod, Nat.reduceDiv, Int.reduceToNat, Nat.min_eq_left, IntKind.bits, Int.reducePow, Int.reduceLT, Int.reduceLE, Int.reduceEq, Int.reduceNe, Int.reduceAdd, Int.reduceSub, and_self, reduceCtorEq, decide_eq_true_eq, decide_eq_false_iff_not, eq_self, implies_true, exists_const, Option.isNone_some, Option.isNone_none, Option.isSome_some, Option.isSome_none, Option.getD_some, p0, p1, a0, a2, hst]
    exact last G2 _ e3 o2 g'' hG'
  · intro b hbn
    have e2 : Ext h' _ := Ext.new hbn (.cells (oCs (opN x s.evs.length) r (.slice none 0 0)).toArray 43)
    refine ⟨(kk _ e2).2.1, ?_⟩
    have hbp : b ≠ p := fun h => by subst h; exact hpn hbn
    have qG : hupd h' b (.cells (oCs (opN x s.evs.length) r (.slice none 0 0)).toArray 43) b = some (.cells (oCs (opN x s.evs.length) r (.slice none 0 0)).toArray 43) := hupd_same _ _ _
    refine copyApp (h' := h') (G := hupd h' b (.cells (oCs (opN x s.evs.length) r (.slice none 0 0)).toArray 43)) rfl (rops.ext e2) (by rw [e2.at ho]; simp) (by rfl) (by omega) (by omega) ?_
    intro w G1 o e
    obtain ⟨wa, wn, rfl⟩ := o.len
    have e1 := e2.trans e
    obtain ⟨p0, p1, a0, a2⟩ := kk G1 e1
    simp (disch := omega) only [dm_t, wA, wB, wL, wW, wY, Int.fdiv_eq_ediv_of_nonneg, Int.tdiv_eq_ediv_of_nonneg, Int.tmod_eq_emod_of_nonneg, chk_pos, decT, decF, br_pos, br_neg, wX, ↓reduceIte, Nat.reduceEqDiff, Nat.reduceAdd, Nat.reduceSub, Nat.reduceMul, Nat.reduceLeDiff, Nat.reduceLT, Nat.reduceMod, Nat.reduceDiv, Int.reduceToNat, Nat.min_eq_left, IntKind.bits, Int.reducePow, Int.reduceLT, Int.reduceLE, Int.reduceEq, Int.reduceNe, Int.reduceAdd, Int.reduceSub, and_self, reduceCtorEq, decide_eq_true_eq, decide_eq_false_iff_not, eq_self, implies_true, exists_const, Option.isNone_some, Option.isNone_none, Option.isSome_some, Option.isSome_none, Option.getD_some, p0, p1, a0, a2]
    refine oneApp (h' := h') (b := b) rfl (o.mono fun y _ _ hy => e2.bk hy) e1 (e.at qG) hrow (fun h => by have := o.own h; rw [qG] at this; cases this) hbp (by rfl) (by omega) (by omega) ?_
    intro w2 G2 o2 e3
    obtain ⟨wa2, wn2, rfl⟩ := o2.len
    generalize hG' : hupd G2 p (.cells (DO opn (.slice ea s.evs.length en) (.slice wa2 (s.ops ++ [opN x s.evs.length]).length wn2)).toArray 56) = g''
    have hst := fun K => DO_store1 (K := K) (e3.at ho) rfl hG'
    obtain ⟨p0, p1, a0, a2⟩ := kk G2 e3
    simp (disch := omega) only [dm_t, wV, wB, wL, wW, wU, Int.fdiv_eq_ediv_of_nonneg, Int.tdiv_eq_ediv_of_nonneg, Int.tmod_eq_emod_of_nonneg, chk_pos, decT, decF, br_pos, br_neg, wX, ↓reduceIte, Nat.reduceEqDiff, Nat.reduceAdd, Nat.reduceSub, Nat.reduceMul, Nat.reduceLeDiff, Nat.reduceLT, Nat.reduceMod, Nat.reduceDiv, Int.reduceToNat, Nat.min_eq_left, IntKind.bits, Int.reducePow, Int.reduceLT, Int.reduceLE, Int.reduceEq, Int.reduceNe, Int.reduceAdd, Int.reduceSub, and_self, reduceCtorEq, decide_eq_true_eq, decide_eq_false_iff_not, eq_self, implies_true, exists_const, Option.isNone_some, Option.isNone_none, Option.isSome_some, Option.isSome_none, Option.getD_some, p0, p1, a0, a2, hst]
    exact last G2 _ e3 o2 g'' hG'
end Go.Proofs.Ytmolhemoiplpfaa.hi
