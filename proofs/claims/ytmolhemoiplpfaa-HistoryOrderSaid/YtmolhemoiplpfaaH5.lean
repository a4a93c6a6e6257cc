/-
  history: put, walked.
-/
import Derived.Test.YtmolhemoiplpfaaH4
namespace Go.Proofs.Ytmolhemoiplpfaa.hi
open Go.Proofs.Ytmolhemoiplpfaa
set_option linter.unusedVariables false
set_option linter.unusedSimpArgs false

/-- What a put leaves. -/
def PutR (h0 g : H) (p : Nat) (ve vo : Value) (s : Hs) (x : evT.D) (v : Value) (h' : H) : Prop :=
  v = .int .i64 (turnE s x) ∧ (∃ ve' vo', HX h0 h' p ve' vo' (if turnE s x = 0 then putS s x else s)) ∧ Fr (HF p ve vo) g h'
/-- The last part: the event is put. -/
theorem put_s12 {h0 g h' : H} {p eb : Nat} {ve vo vo' r q : Value} {s : Hs} {x : evT.D} {opn : List Bool} {ops : List opT.D}
    (hT : turnE s x = 0) (ho0 : h' p = some (.cells (HO opn ve vo').toArray 35)) (h64 : opn.length = 64) (hle : s.ops.length ≤ s.evs.length) (z : HZ h0 h' p ve vo' s.evs ops) (hopn : opn = s.opn.set (Int.toNat x.1) (!x.2.1)) (hops : ops = opsS s x) (hlen : s.evs.length < 65536)
    (E0 : Ext h0 h') (F : Fr (HF p ve vo) g h')
    (k : EvC h' eb x r q) (hx : Rep (HF p ve vo') evT h' (eCs x r q) x) :
    vc Try.prog c26_s12 (retQ [4] (okR (PutR h0 g p ve vo s x))) [(0, .pointer (some ⟨p, 0, none⟩)), (3, .pointer (some ⟨eb, 0, none⟩))] h' := by
  obtain ⟨ea, en, rfl⟩ := z.evs.len
  have nve : ¬ isAt (Value.slice ea s.evs.length en) p := z.evs.tyno ho0 (by decide)
  have c0 : ∀ g', Ext h' g' → cellAt g' ⟨p, 0, none⟩ = some (.slice ea s.evs.length en) := fun g' e => by rw [cellAt_of (e.at ho0), HO_ve]
  simp (disch := omega) only [dm_t, wA, wB, wL, wW, wY, Int.fdiv_eq_ediv_of_nonneg, Int.tdiv_eq_ediv_of_nonneg, Int.tmod_eq_emod_of_nonneg, chk_pos, decT, decF, br_pos, br_neg, wX, ↓reduceIte, Nat.reduceEqDiff, Nat.reduceAdd, Nat.reduceSub, Nat.reduceMul, Nat.reduceLeDiff, Nat.reduceLT, Nat.reduceMod, Nat.reduceDiv, Int.reduceToNat, Nat.min_eq_left, IntKind.bits, Int.reducePow, Int.reduceLT, Int.reduceLE, Int.reduceEq, Int.reduceNe, Int.reduceAdd, Int.reduceSub, and_self, reduceCtorEq, decide_eq_true_eq, decide_eq_false_iff_not, eq_self, implies_true, exists_const, Option.isNone_some, Option.isNone_none, Option.isSome_some, Option.isSome_none, Option.getD_some, c0 h' (Ext.refl _), k.ca]
  intro b hb
  refine ⟨c0 _ (Ext.new hb _), ?_⟩
  refine HZ.addEv (V := fun _ => _) z E0 (by omega) hx rfl ?_ b hb
  intro _ ve' g' _ hf hat' z'
  obtain ⟨ea', en', rfl⟩ := z'.evs.len
  have ho := hf _ _ ho0 nve
  have p0 : cellAt g' ⟨p, 0, none⟩ = some (.slice ea s.evs.length en) := by rw [cellAt_of ho, HO_ve]
  simp (disch := omega) only [dm_t, wA, wB, wL, wW, wY, Int.fdiv_eq_ediv_of_nonneg, Int.tdiv_eq_ediv_of_nonneg, Int.tmod_eq_emod_of_nonneg, chk_pos, decT, decF, br_pos, br_neg, wX, ↓reduceIte, Nat.reduceEqDiff, Nat.reduceAdd, Nat.reduceSub, Nat.reduceMul, Nat.reduceLeDiff, Nat.reduceLT, Nat.reduceMod, Nat.reduceDiv, Int.reduceToNat, Nat.min_eq_left, IntKind.bits, Int.reducePow, Int.reduceLT, Int.reduceLE, Int.reduceEq, Int.reduceNe, Int.reduceAdd, Int.reduceSub, and_self, reduceCtorEq, decide_eq_true_eq, decide_eq_false_iff_not, eq_self, implies_true, exists_const, Option.isNone_some, Option.isNone_none, Option.isSome_some, Option.isSome_none, Option.getD_some, p0, storeH_0 ho]
  have f2 : Fr (fun y => y = p) g' (hupd g' p (.cells (HO opn (.slice ea' (s.evs ++ [x]).length en') vo').toArray 35)) := Fr.upd (S := fun y => y = p) rfl _
  refine ⟨by simp, by rw [hT], ⟨.slice ea' (s.evs ++ [x]).length en', vo', ?_⟩, ?_⟩
  rotate_left
  · exact (F.trans (hf.mono fun y hy => .inr (.inl hy))).trans (f2.mono fun y hy => .inl hy)
  · rw [if_pos hT]
    subst hopn hops
    exact ⟨hupd_same _ _ _, h64, by have := opsS_le s x; simp only [putS, List.length_append, List.length_singleton]; omega, z'.obj ho f2⟩
/-- A call: an operation more. -/
theorem put_call {h0 g h' : H} {p eb : Nat} {ve vo r q : Value} {s : Hs} {x : evT.D} {opn : List Bool}
    (hT : turnE s x = 0) (X : HX h0 h' p ve vo ⟨s.evs, opn, s.ops⟩) (hopn : opn = s.opn.set (Int.toNat x.1) (!x.2.1)) (hlen : s.evs.length < 65536)
    (E0 : Ext h0 h') (F : Fr (HF p ve vo) g h') (hb : inI x.1 ∧ cB x.2.2.1 ∧ yB x.2.2.2)
    (qb : h' eb = some (.cells (eCs x r q).toArray 41)) (hne : ¬ HF p ve vo eb) (hr : RepL (HF p ve vo) rc h' r x.2.2.1.2.2.1) (hq : RepL (HF p ve vo) rc h' q x.2.2.2.2.2) (hret : x.2.1 = false) :
    vc Try.prog c26_s5 (retQ [4] (okR (PutR h0 g p ve vo s x))) [(0, .pointer (some ⟨p, 0, none⟩)), (3, .pointer (some ⟨eb, 0, none⟩))] h' := by
  obtain ⟨ea, en, rfl⟩ := X.evs.len
  obtain ⟨oa, on, rfl⟩ := X.ops.len
  have hle : s.ops.length ≤ s.evs.length := X.le
  have h64 : opn.length = 64 := X.len
  have hops : opsS s x = s.ops ++ [opN x s.evs.length] := by rw [opsS, if_pos hret]
  have k := evC qb
  have c1 := k.c1
  rw [hret] at c1
  have kk : ∀ G, Ext h' G → cellAt G ⟨p, 0, none⟩ = some (.slice ea s.evs.length en) ∧ cellAt G ⟨p, 65, none⟩ = some (.slice oa s.ops.length on) ∧ cellAt G ⟨eb, 0, none⟩ = some (.int .i64 x.1) ∧ cellsAt G ⟨eb, 2, none⟩ 5 = some (cCs x.2.2.1 r).toArray := by
    intro G e
    have X' := X.ext e
    have k' := evC (e.at qb)
    exact ⟨X'.c0, X'.c65, k'.c0, k'.c2⟩
  obtain ⟨p0, p65, a0, a2⟩ := kk h' (Ext.refl _)
  have hbs : inI (s.evs.length : Int) ∧ inI (-1) := by unfold inI; omega
  have hrow : Rep (HF p (.slice ea s.evs.length en) (.slice oa s.ops.length on)) opT h' (oCs (opN x s.evs.length) r (.slice none 0 0)) (opN x s.evs.length) :=
    rep_op.2 ⟨r, .slice none 0 0, rfl, ⟨hb.1, hb.2.1, ⟨inI0, inI0⟩, hbs.1, hbs.2⟩, hr, RepL.nil⟩
  have zz : HZ h0 h' p (.slice ea s.evs.length en) (.slice oa s.ops.length on) s.evs s.ops := X.z
  simp (disch := omega) only [dm_t, wA, wB, wL, wW, wY, Int.fdiv_eq_ediv_of_nonneg, Int.tdiv_eq_ediv_of_nonneg, Int.tmod_eq_emod_of_nonneg, chk_pos, decT, decF, br_pos, br_neg, wX, ↓reduceIte, Nat.reduceEqDiff, Nat.reduceAdd, Nat.reduceSub, Nat.reduceMul, Nat.reduceLeDiff, Nat.reduceLT, Nat.reduceMod, Nat.reduceDiv, Int.reduceToNat, Nat.min_eq_left, IntKind.bits, Int.reducePow, Int.reduceLT, Int.reduceLE, Int.reduceEq, Int.reduceNe, Int.reduceAdd, Int.reduceSub, and_self, reduceCtorEq, decide_eq_true_eq, decide_eq_false_iff_not, eq_self, implies_true, exists_const, Option.isNone_some, Option.isNone_none, Option.isSome_some, Option.isSome_none, Option.getD_some, c1, p0, p65, a0, a2]
  intro b hbn
  refine ⟨(kk _ (Ext.new hbn _)).2.1, ?_⟩
  refine HZ.addOp (V := fun _ => _) zz E0 (by omega) hrow rfl ?_ b hbn
  intro _ vo' g' _ hf hat' z'
  obtain ⟨oa', on', rfl⟩ := z'.ops.len
  have ho := hf _ _ X.obj X.nvo
  have qb' := hf _ _ qb fun h => hne (.inr (.inr h))
  have k' := evC qb'
  have p0' : cellAt g' ⟨p, 0, none⟩ = some (.slice ea s.evs.length en) := by rw [cellAt_of ho, HO_ve]
  have p65' : cellAt g' ⟨p, 65, none⟩ = some (.slice oa s.ops.length on) := by rw [cellAt_of ho, HO_vo X.len]
  generalize hG' : hupd g' p (.cells (HO opn (.slice ea s.evs.length en) (.slice oa' (s.ops ++ [opN x s.evs.length]).length on')).toArray 35) = g''
  have f2 : Fr (fun y => y = p) g' g'' := by rw [← hG']; exact Fr.upd (S := fun y => y = p) rfl _
  have ho2 : g'' p = some (.cells (HO opn (.slice ea s.evs.length en) (.slice oa' (s.ops ++ [opN x s.evs.length]).length on')).toArray 35) := by rw [← hG', hupd_same]
  have hst := fun K => HO_store (K := K) ho h64 rfl hG'
  clear hG'
  have hF : Fr (HF p (.slice ea s.evs.length en) (.slice oa s.ops.length on)) h' g'' := (hf.mono fun y hy => .inr (.inr hy)).trans (f2.mono fun y hy => .inl hy)
  have hS : ∀ y, HF p (.slice ea s.evs.length en) (.slice oa' (s.ops ++ [opN x s.evs.length]).length on') y → HF p (.slice ea s.evs.length en) (.slice oa s.ops.length on) y ∨ h' y = none := by
    rintro y (hy | hy | hy)
    · exact .inl (.inl hy)
    · exact .inl (.inr (.inl hy))
    · exact (hat' y hy).imp (fun h => .inr (.inr h)) id
  have kk2 := put_s12 (r := r) (q := q) hT ho2 h64 hle (z'.obj ho f2) hopn hops.symm hlen (Ext.step' E0 hF fun y hy => X.own hy) (F.trans hF) (evC (f2 _ _ qb' fun h => hne (.inl h))) (rep_ev.2 ⟨r, q, rfl, hb, Rep.move hr hF (fun _ h => h) hS, Rep.move hq hF (fun _ h => h) hS⟩)
  simp (disch := omega) only [dm_t, wV, wB, wL, wW, wU, Int.fdiv_eq_ediv_of_nonneg, Int.tdiv_eq_ediv_of_nonneg, Int.tmod_eq_emod_of_nonneg, chk_pos, decT, decF, br_pos, br_neg, wX, ↓reduceIte, Nat.reduceEqDiff, Nat.reduceAdd, Nat.reduceSub, Nat.reduceMul, Nat.reduceLeDiff, Nat.reduceLT, Nat.reduceMod, Nat.reduceDiv, Int.reduceToNat, Nat.min_eq_left, IntKind.bits, Int.reducePow, Int.reduceLT, Int.reduceLE, Int.reduceEq, Int.reduceNe, Int.reduceAdd, Int.reduceSub, and_self, reduceCtorEq, decide_eq_true_eq, decide_eq_false_iff_not, eq_self, implies_true, exists_const, Option.isNone_some, Option.isNone_none, Option.isSome_some, Option.isSome_none, Option.getD_some, p0', p65', k'.c0, k'.c2, hst]
  exact kk2
end Go.Proofs.Ytmolhemoiplpfaa.hi
