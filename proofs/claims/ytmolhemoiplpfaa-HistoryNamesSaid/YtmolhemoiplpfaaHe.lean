/-
  history: HistoryNames, walked.
-/
import Derived.Test.YtmolhemoiplpfaaHd
namespace Go.Proofs.Ytmolhemoiplpfaa.hi
open Go.Proofs.Ytmolhemoiplpfaa
set_option linter.unusedVariables false
set_option linter.unusedSimpArgs false
theorem tmod_bd (a : Int) {b : Int} (hb : 0 < b) : -b < Int.tmod a b ∧ Int.tmod a b < b := by
  refine ⟨?_, Int.tmod_lt_of_pos a hb⟩
  have := Int.tmod_lt_of_pos (-a) hb
  rw [Int.neg_tmod] at this
  omega
theorem HNames_ok {g : H} {sv : Value} {l : List evT.D} (hs : RepL nos evT g sv l) (hf : ∀ x ∈ l, evT.fit x) (by_ cut : Int) : Ok Try.prog 4 #[sv, .int .i64 by_, .int .i64 cut] g fun v h' => v = .bool true ∧ Ext g h' := by
  obtain ⟨sa, sn, rfl⟩ := hs.len
  have hcap := hs.cap
  have hlim : ∀ x ∈ l, limE x := fun x hx => fit_lim (hf x hx)
  refine c4_ok (args := [_, _, _]) (by simp) ?_
  by_cases hl : 100 < l.length
  · simp (disch := omega) only [dm_t, wA, wB, wL, wW, wY, Int.fdiv_eq_ediv_of_nonneg, Int.tdiv_eq_ediv_of_nonneg, Int.tmod_eq_emod_of_nonneg, chk_pos, decT, decF, br_pos, br_neg, wX, ↓reduceIte, Nat.reduceEqDiff, Nat.reduceAdd, Nat.reduceSub, Nat.reduceMul, Nat.reduceLeDiff, Nat.reduceLT, Nat.reduceMod, Nat.reduceDiv, Int.reduceToNat, Nat.min_eq_left, IntKind.bits, Int.reducePow, Int.reduceLT, Int.reduceLE, Int.reduceEq, Int.reduceNe, Int.reduceAdd, Int.reduceSub, and_self, reduceCtorEq, decide_eq_true_eq, decide_eq_false_iff_not, eq_self, implies_true, exists_const, Option.isNone_some, Option.isNone_none, Option.isSome_some, Option.isSome_none, Option.getD_some]
    refine (known_ok g).k ?_
    rintro _ g2 ⟨rfl, e2⟩
    simp (disch := omega) only [dm_t, wA, wB, wL, wW, wY, Int.fdiv_eq_ediv_of_nonneg, Int.tdiv_eq_ediv_of_nonneg, Int.tmod_eq_emod_of_nonneg, chk_pos, decT, decF, br_pos, br_neg, wX, ↓reduceIte, Nat.reduceEqDiff, Nat.reduceAdd, Nat.reduceSub, Nat.reduceMul, Nat.reduceLeDiff, Nat.reduceLT, Nat.reduceMod, Nat.reduceDiv, Int.reduceToNat, Nat.min_eq_left, IntKind.bits, Int.reducePow, Int.reduceLT, Int.reduceLE, Int.reduceEq, Int.reduceNe, Int.reduceAdd, Int.reduceSub, and_self, reduceCtorEq, decide_eq_true_eq, decide_eq_false_iff_not, eq_self, implies_true, exists_const, Option.isNone_some, Option.isNone_none, Option.isSome_some, Option.isSome_none, Option.getD_some]
    exact e2
  simp (disch := omega) only [dm_t, wA, wB, wL, wW, wY, Int.fdiv_eq_ediv_of_nonneg, Int.tdiv_eq_ediv_of_nonneg, Int.tmod_eq_emod_of_nonneg, chk_pos, decT, decF, br_pos, br_neg, wX, ↓reduceIte, Nat.reduceEqDiff, Nat.reduceAdd, Nat.reduceSub, Nat.reduceMul, Nat.reduceLeDiff, Nat.reduceLT, Nat.reduceMod, Nat.reduceDiv, Int.reduceToNat, Nat.min_eq_left, IntKind.bits, Int.reducePow, Int.reduceLT, Int.reduceLE, Int.reduceEq, Int.reduceNe, Int.reduceAdd, Int.reduceSub, and_self, reduceCtorEq, decide_eq_true_eq, decide_eq_false_iff_not, eq_self, implies_true, exists_const, Option.isNone_some, Option.isNone_none, Option.isSome_some, Option.isSome_none, Option.getD_some]
  refine (OpsF_ok hs (by omega) hlim).k ?_
  rintro v g1 ⟨e1, hv⟩
  rcases hv with ⟨h0, vo, rfl, o1⟩ | ⟨h0, rfl⟩
  rotate_left
  · simp (disch := omega) only [dm_t, wA, wB, wL, wW, wY, Int.fdiv_eq_ediv_of_nonneg, Int.tdiv_eq_ediv_of_nonneg, Int.tmod_eq_emod_of_nonneg, chk_pos, decT, decF, br_pos, br_neg, wX, ↓reduceIte, Nat.reduceEqDiff, Nat.reduceAdd, Nat.reduceSub, Nat.reduceMul, Nat.reduceLeDiff, Nat.reduceLT, Nat.reduceMod, Nat.reduceDiv, Int.reduceToNat, Nat.min_eq_left, IntKind.bits, Int.reducePow, Int.reduceLT, Int.reduceLE, Int.reduceEq, Int.reduceNe, Int.reduceAdd, Int.reduceSub, and_self, reduceCtorEq, decide_eq_true_eq, decide_eq_false_iff_not, eq_self, implies_true, exists_const, Option.isNone_some, Option.isNone_none, Option.isSome_some, Option.isSome_none, Option.getD_some]
    refine (known_ok g1).k ?_
    rintro _ g2 ⟨rfl, e2⟩
    simp (disch := omega) only [dm_t, wA, wB, wL, wW, wY, Int.fdiv_eq_ediv_of_nonneg, Int.tdiv_eq_ediv_of_nonneg, Int.tmod_eq_emod_of_nonneg, chk_pos, decT, decF, br_pos, br_neg, wX, ↓reduceIte, Nat.reduceEqDiff, Nat.reduceAdd, Nat.reduceSub, Nat.reduceMul, Nat.reduceLeDiff, Nat.reduceLT, Nat.reduceMod, Nat.reduceDiv, Int.reduceToNat, Nat.min_eq_left, IntKind.bits, Int.reducePow, Int.reduceLT, Int.reduceLE, Int.reduceEq, Int.reduceNe, Int.reduceAdd, Int.reduceSub, and_self, reduceCtorEq, decide_eq_true_eq, decide_eq_false_iff_not, eq_self, implies_true, exists_const, Option.isNone_some, Option.isNone_none, Option.isSome_some, Option.isSome_none, Option.getD_some]
    exact e1.trans e2
  have hcl := ofG_cl h0
  obtain ⟨oa, on, rfl⟩ := o1.len
  obtain ⟨t, ht⟩ : ∃ t, Int.tmod by_ 64 = t := ⟨_, rfl⟩
  have htb := tmod_bd by_ (b := 64) (by omega)
  rw [ht] at htb
  obtain ⟨n, hn⟩ : ∃ n : Nat, (t + 64) % 64 = (n : Int) := ⟨((t + 64) % 64).toNat, by omega⟩
  simp (disch := omega) only [dm_t, wA, wB, wL, wW, wY, Int.fdiv_eq_ediv_of_nonneg, Int.tdiv_eq_ediv_of_nonneg, Int.tmod_eq_emod_of_nonneg, chk_pos, decT, decF, br_pos, br_neg, wX, ↓reduceIte, Nat.reduceEqDiff, Nat.reduceAdd, Nat.reduceSub, Nat.reduceMul, Nat.reduceLeDiff, Nat.reduceLT, Nat.reduceMod, Nat.reduceDiv, Int.reduceToNat, Nat.min_eq_left, IntKind.bits, Int.reducePow, Int.reduceLT, Int.reduceLE, Int.reduceEq, Int.reduceNe, Int.reduceAdd, Int.reduceSub, and_self, reduceCtorEq, decide_eq_true_eq, decide_eq_false_iff_not, eq_self, implies_true, exists_const, Option.isNone_some, Option.isNone_none, Option.isSome_some, Option.isSome_none, Option.getD_some, ht, hn]
  have hs1 : RepL (fun y => g1 y = none) evT g1 (.slice sa l.length sn) l := (hs.ext e1).fresh
  refine OwL.app (O := fun y => g1 y = none) (S := fun y => g1 y = none) (xs := []) 10 rfl OwL.nil (fun y hy => hy) (hs1.mono fun y _ _ hy => hy.elim (fun h => (no_at h).elim) id) (by rfl) (by simp; omega) (by simp; omega) ?_
  intro mv g2 o2 f2 _
  have e2 : Ext g1 g2 := Ext.step (Ext.refl g1) f2
  obtain ⟨ma, mn, rfl⟩ := o2.len
  rw [List.nil_append] at o2 ⊢
  simp (disch := omega) only [dm_t, wA, wB, wL, wW, wY, Int.fdiv_eq_ediv_of_nonneg, Int.tdiv_eq_ediv_of_nonneg, Int.tmod_eq_emod_of_nonneg, chk_pos, decT, decF, br_pos, br_neg, wX, ↓reduceIte, Nat.reduceEqDiff, Nat.reduceAdd, Nat.reduceSub, Nat.reduceMul, Nat.reduceLeDiff, Nat.reduceLT, Nat.reduceMod, Nat.reduceDiv, Int.reduceToNat, Nat.min_eq_left, IntKind.bits, Int.reducePow, Int.reduceLT, Int.reduceLE, Int.reduceEq, Int.reduceNe, Int.reduceAdd, Int.reduceSub, and_self, reduceCtorEq, decide_eq_true_eq, decide_eq_false_iff_not, eq_self, implies_true, exists_const, Option.isNone_some, Option.isNone_none, Option.isSome_some, Option.isSome_none, Option.getD_some]
  refine vc_loop1 (fun vi G => ∃ i : Nat, vi = .int .i64 (i : Int) ∧ i ≤ l.length ∧ OwL (fun y => g1 y = none) evT (fun y => g1 y = none) G 41 (.slice ma l.length mn) ((l.take i).map (ren n) ++ l.drop i) ∧ Ext g1 G) (fun vi _ => l.length - m1 vi) ?_ ?_
  · simp (disch := omega) only [dm_t, wA, wB, wL, wW, wY, Int.fdiv_eq_ediv_of_nonneg, Int.tdiv_eq_ediv_of_nonneg, Int.tmod_eq_emod_of_nonneg, chk_pos, decT, decF, br_pos, br_neg, wX, ↓reduceIte, Nat.reduceEqDiff, Nat.reduceAdd, Nat.reduceSub, Nat.reduceMul, Nat.reduceLeDiff, Nat.reduceLT, Nat.reduceMod, Nat.reduceDiv, Int.reduceToNat, Nat.min_eq_left, IntKind.bits, Int.reducePow, Int.reduceLT, Int.reduceLE, Int.reduceEq, Int.reduceNe, Int.reduceAdd, Int.reduceSub, and_self, reduceCtorEq, decide_eq_true_eq, decide_eq_false_iff_not, eq_self, implies_true, exists_const, Option.isNone_some, Option.isNone_none, Option.isSome_some, Option.isSome_none, Option.getD_some]
    exact ⟨0, rfl, by omega, by simpa using o2, e2⟩
  clear o2 f2 e2
  rintro _ G ⟨i, rfl, hi, o2, e2⟩
  by_cases hil : i < l.length
  · have hll : ((l.take i).map (ren n) ++ l.drop i).length = l.length := by simp; omega
    have hget : ((l.take i).map (ren n) ++ l.drop i)[i]'(by omega) = l[i] := by
      rw [List.getElem_append_right (by simp; omega)]
      simp; congr 1; omega
    obtain ⟨b, o, cs, hidx, hat, _, hc, hr, hset⟩ := o2.set (i := i) (by omega) .i64 10 rfl
    simp only [hget] at hr
    obtain ⟨r, q, rfl, hb, hrr, hrq⟩ := rep_ev.1 hr
    have c0 : cellAt G ⟨b, o, none⟩ = some (.int .i64 (l[i]).1) := hc 0 (by omega)
    have hci := hcl l[i] (List.getElem_mem hil)
    unfold inC at hci
    have hcb : inI (tn (l[i]).1 n) := by unfold inI tn; omega
    simp (disch := omega) only [dm_t, wA, wB, wL, wW, wY, Int.fdiv_eq_ediv_of_nonneg, Int.tdiv_eq_ediv_of_nonneg, Int.tmod_eq_emod_of_nonneg, chk_pos, decT, decF, br_pos, br_neg, wX, ↓reduceIte, Nat.reduceEqDiff, Nat.reduceAdd, Nat.reduceSub, Nat.reduceMul, Nat.reduceLeDiff, Nat.reduceLT, Nat.reduceMod, Nat.reduceDiv, Int.reduceToNat, Nat.min_eq_left, IntKind.bits, Int.reducePow, Int.reduceLT, Int.reduceLE, Int.reduceEq, Int.reduceNe, Int.reduceAdd, Int.reduceSub, and_self, reduceCtorEq, decide_eq_true_eq, decide_eq_false_iff_not, eq_self, implies_true, exists_const, Option.isNone_some, Option.isNone_none, Option.isSome_some, Option.isSome_none, Option.getD_some, hidx, c0]
    refine hset 0 [.int .i64 (tn (l[i]).1 n)] (ren n l[i]) _ (by simp) rfl (rep_ev.2 ⟨r, q, rfl, ⟨hcb, hb.2⟩, hrr, hrq⟩) ?_
    intro G2 o3 f3
    have e3 : Ext g1 G2 := Ext.step' e2 f3 fun y hy => o2.own (hy ▸ hat)
    simp (disch := omega) only [dm_t, wA, wB, wL, wW, wY, Int.fdiv_eq_ediv_of_nonneg, Int.tdiv_eq_ediv_of_nonneg, Int.tmod_eq_emod_of_nonneg, chk_pos, decT, decF, br_pos, br_neg, wX, ↓reduceIte, Nat.reduceEqDiff, Nat.reduceAdd, Nat.reduceSub, Nat.reduceMul, Nat.reduceLeDiff, Nat.reduceLT, Nat.reduceMod, Nat.reduceDiv, Int.reduceToNat, Nat.min_eq_left, IntKind.bits, Int.reducePow, Int.reduceLT, Int.reduceLE, Int.reduceEq, Int.reduceNe, Int.reduceAdd, Int.reduceSub, and_self, reduceCtorEq, decide_eq_true_eq, decide_eq_false_iff_not, eq_self, implies_true, exists_const, Option.isNone_some, Option.isNone_none, Option.isSome_some, Option.isSome_none, Option.getD_some]
    refine ⟨⟨i + 1, by simp, by omega, ?_, e3⟩, by simp [m1]; omega⟩
    have hset2 : ((l.take i).map (ren n) ++ l.drop i).set i (ren n l[i]) = (l.take (i + 1)).map (ren n) ++ l.drop (i + 1) := by
      have hlt : ((l.take i).map (ren n)).length = i := by simp; omega
      rw [List.set_append_right _ _ (by omega), hlt, Nat.sub_self, List.drop_eq_getElem_cons hil, List.set_cons_zero, List.take_succ_eq_append_getElem hil, List.map_append, List.append_assoc]
      rfl
    rw [← hset2]; exact o3
  · obtain rfl : i = l.length := by omega
    rw [List.take_length, List.drop_eq_nil_of_le (by omega), List.append_nil] at o2
    have hlen2 : (l.map (ren n)).length = l.length := by simp
    have hlim2 : ∀ x ∈ l.map (ren n), limE x := by
      intro x hx
      obtain ⟨y, hy, rfl⟩ := List.mem_map.1 hx
      exact hlim y hy
    obtain ⟨h0', hT⟩ := (turned0 n).all (m := 0) h0
    have hops := hT.ops
    have hocl := hT.cl
    simp (disch := omega) only [dm_t, wA, wB, wL, wW, wY, Int.fdiv_eq_ediv_of_nonneg, Int.tdiv_eq_ediv_of_nonneg, Int.tmod_eq_emod_of_nonneg, chk_pos, decT, decF, br_pos, br_neg, wX, ↓reduceIte, Nat.reduceEqDiff, Nat.reduceAdd, Nat.reduceSub, Nat.reduceMul, Nat.reduceLeDiff, Nat.reduceLT, Nat.reduceMod, Nat.reduceDiv, Int.reduceToNat, Nat.min_eq_left, IntKind.bits, Int.reducePow, Int.reduceLT, Int.reduceLE, Int.reduceEq, Int.reduceNe, Int.reduceAdd, Int.reduceSub, and_self, reduceCtorEq, decide_eq_true_eq, decide_eq_false_iff_not, eq_self, implies_true, exists_const, Option.isNone_some, Option.isNone_none, Option.isSome_some, Option.isSome_none, Option.getD_some]
    refine (OpsF_ok o2.rep (by omega) hlim2).k ?_
    rintro v g3 ⟨e3, hv⟩
    rcases hv with ⟨_, vo2, rfl, o3⟩ | ⟨hbad, _⟩
    rotate_left
    · exact absurd h0' hbad
    rw [hops] at o3
    have hosl := ofG_opl (s := Hs.new) (l := l) (n := 0)
    have hz0 : Hs.new.ops.length = 0 := rfl
    rw [hz0] at hosl
    generalize (ofG Hs.new l 0).1.ops = os at *
    obtain ⟨pa, pn, rfl⟩ := o3.len
    have hol : (os.map (renO n)).length = os.length := by simp
    rw [hol]
    have e13 := e2.trans e3
    have r1 : RepL nos opT g3 (.slice oa os.length on) os := (o1.ext e13).rep
    have r3 : RepL nos opT g3 (.slice pa os.length pn) (os.map (renO n)) := by have := o3.rep; rwa [hol] at this
    simp (disch := omega) only [dm_t, wA, wB, wL, wW, wY, Int.fdiv_eq_ediv_of_nonneg, Int.tdiv_eq_ediv_of_nonneg, Int.tmod_eq_emod_of_nonneg, chk_pos, decT, decF, br_pos, br_neg, wX, ↓reduceIte, Nat.reduceEqDiff, Nat.reduceAdd, Nat.reduceSub, Nat.reduceMul, Nat.reduceLeDiff, Nat.reduceLT, Nat.reduceMod, Nat.reduceDiv, Int.reduceToNat, Nat.min_eq_left, IntKind.bits, Int.reducePow, Int.reduceLT, Int.reduceLE, Int.reduceEq, Int.reduceNe, Int.reduceAdd, Int.reduceSub, and_self, reduceCtorEq, decide_eq_true_eq, decide_eq_false_iff_not, eq_self, implies_true, exists_const, Option.isNone_some, Option.isNone_none, Option.isSome_some, Option.isSome_none, Option.getD_some]
    refine vc_loop1 (fun vi G => G = g3 ∧ ∃ i : Nat, vi = .int .i64 (i : Int) ∧ i ≤ os.length) (fun vi _ => os.length - m1 vi) ?_ ?_
    · simp (disch := omega) only [dm_t, wA, wB, wL, wW, wY, Int.fdiv_eq_ediv_of_nonneg, Int.tdiv_eq_ediv_of_nonneg, Int.tmod_eq_emod_of_nonneg, chk_pos, decT, decF, br_pos, br_neg, wX, ↓reduceIte, Nat.reduceEqDiff, Nat.reduceAdd, Nat.reduceSub, Nat.reduceMul, Nat.reduceLeDiff, Nat.reduceLT, Nat.reduceMod, Nat.reduceDiv, Int.reduceToNat, Nat.min_eq_left, IntKind.bits, Int.reducePow, Int.reduceLT, Int.reduceLE, Int.reduceEq, Int.reduceNe, Int.reduceAdd, Int.reduceSub, and_self, reduceCtorEq, decide_eq_true_eq, decide_eq_false_iff_not, eq_self, implies_true, exists_const, Option.isNone_some, Option.isNone_none, Option.isSome_some, Option.isSome_none, Option.getD_some]
      exact ⟨0, rfl, by omega⟩
    rintro _ G' ⟨hgg, i, rfl, hi⟩
    rw [hgg]
    clear hgg
    by_cases hil : i < os.length
    · obtain ⟨b1, a1, cs1, i1, c1, d1, q1⟩ := r1.load (i := i) hil .i64 11 rfl
      obtain ⟨b2, a2, cs2, i2, c2, d2, q2⟩ := r3.load (i := i) (by omega) .i64 11 rfl
      obtain ⟨_, _, rfl, _⟩ := rep_op.1 q1
      obtain ⟨_, _, rfl, _⟩ := rep_op.1 q2
      have hoi := hocl os[i] (List.getElem_mem hil)
      unfold inC at hoi
      have x0 : cellAt g3 ⟨b1, a1, none⟩ = some (.int .i64 (os[i]).1) := d1 0 (by omega)
      have x9 : cellAt g3 ⟨b1, a1 + 9, none⟩ = some (.int .i64 (os[i]).2.2.2.1) := d1 9 (by omega)
      have x10 : cellAt g3 ⟨b1, a1 + 10, none⟩ = some (.int .i64 (os[i]).2.2.2.2) := d1 10 (by omega)
      have y0 : cellAt g3 ⟨b2, a2, none⟩ = some (.int .i64 (((os[i]).1 + (n : Int)) % 64)) := by
        have := d2 0 (by omega)
        rw [List.getElem_map] at this
        exact this
      have y9 : cellAt g3 ⟨b2, a2 + 9, none⟩ = some (.int .i64 (os[i]).2.2.2.1) := by
        have := d2 9 (by omega)
        rw [List.getElem_map] at this
        exact this
      have y10 : cellAt g3 ⟨b2, a2 + 10, none⟩ = some (.int .i64 (os[i]).2.2.2.2) := by
        have := d2 10 (by omega)
        rw [List.getElem_map] at this
        exact this
      simp (disch := omega) only [dm_t, wA, wB, wL, wW, wY, Int.fdiv_eq_ediv_of_nonneg, Int.tdiv_eq_ediv_of_nonneg, Int.tmod_eq_emod_of_nonneg, chk_pos, decT, decF, br_pos, br_neg, wX, ↓reduceIte, Nat.reduceEqDiff, Nat.reduceAdd, Nat.reduceSub, Nat.reduceMul, Nat.reduceLeDiff, Nat.reduceLT, Nat.reduceMod, Nat.reduceDiv, Int.reduceToNat, Nat.min_eq_left, IntKind.bits, Int.reducePow, Int.reduceLT, Int.reduceLE, Int.reduceEq, Int.reduceNe, Int.reduceAdd, Int.reduceSub, and_self, reduceCtorEq, decide_eq_true_eq, decide_eq_false_iff_not, eq_self, implies_true, exists_const, Option.isNone_some, Option.isNone_none, Option.isSome_some, Option.isSome_none, Option.getD_some, i1, i2, x0, x9, x10, y0, y9, y10]
      exact ⟨⟨i + 1, by simp, by omega⟩, by simp [m1]; omega⟩
    · obtain rfl : i = os.length := by omega
      have hsl := hs.ext (e1.trans e13)
      have fin : ∀ k : Nat, k ≤ l.length → vc Try.prog c4_s17 (retQ [6] (okR fun v h' => v = .bool true ∧ Ext g h')) [(0, .slice sa l.length sn), (15, .int .i64 (k : Int))] g3 := by
        intro k hk
        simp (disch := omega) only [dm_t, wA, wB, wL, wW, wY, Int.fdiv_eq_ediv_of_nonneg, Int.tdiv_eq_ediv_of_nonneg, Int.tmod_eq_emod_of_nonneg, chk_pos, decT, decF, br_pos, br_neg, wX, ↓reduceIte, Nat.reduceEqDiff, Nat.reduceAdd, Nat.reduceSub, Nat.reduceMul, Nat.reduceLeDiff, Nat.reduceLT, Nat.reduceMod, Nat.reduceDiv, Int.reduceToNat, Nat.min_eq_left, IntKind.bits, Int.reducePow, Int.reduceLT, Int.reduceLE, Int.reduceEq, Int.reduceNe, Int.reduceAdd, Int.reduceSub, and_self, reduceCtorEq, decide_eq_true_eq, decide_eq_false_iff_not, eq_self, implies_true, exists_const, Option.isNone_some, Option.isNone_none, Option.isSome_some, Option.isSome_none, Option.getD_some]
        refine RepL.cutK hsl (by rfl) 0 k sn rfl (by simp) rfl (by omega) (.inr rfl) ?_
        intro v1 hv1
        rw [List.drop_zero, Nat.sub_zero] at hv1
        have hkl : (l.take k).length = k := by rw [List.length_take]; omega
        simp (disch := omega) only [dm_t, wA, wB, wL, wW, wY, Int.fdiv_eq_ediv_of_nonneg, Int.tdiv_eq_ediv_of_nonneg, Int.tmod_eq_emod_of_nonneg, chk_pos, decT, decF, br_pos, br_neg, wX, ↓reduceIte, Nat.reduceEqDiff, Nat.reduceAdd, Nat.reduceSub, Nat.reduceMul, Nat.reduceLeDiff, Nat.reduceLT, Nat.reduceMod, Nat.reduceDiv, Int.reduceToNat, Nat.min_eq_left, IntKind.bits, Int.reducePow, Int.reduceLT, Int.reduceLE, Int.reduceEq, Int.reduceNe, Int.reduceAdd, Int.reduceSub, and_self, reduceCtorEq, decide_eq_true_eq, decide_eq_false_iff_not, eq_self, implies_true, exists_const, Option.isNone_some, Option.isNone_none, Option.isSome_some, Option.isSome_none, Option.getD_some]
        refine (Check_ok hv1 (by omega) (fun x hx => hlim x (List.mem_of_mem_take hx))).k ?_
        rintro _ g4 ⟨rfl, e4⟩
        have ht := ofG_take k h0
        rw [(ofG_len ht).2, ht, hkl]
        simp (disch := omega) only [dm_t, wA, wB, wL, wW, wY, Int.fdiv_eq_ediv_of_nonneg, Int.tdiv_eq_ediv_of_nonneg, Int.tmod_eq_emod_of_nonneg, chk_pos, decT, decF, br_pos, br_neg, wX, ↓reduceIte, Nat.reduceEqDiff, Nat.reduceAdd, Nat.reduceSub, Nat.reduceMul, Nat.reduceLeDiff, Nat.reduceLT, Nat.reduceMod, Nat.reduceDiv, Int.reduceToNat, Nat.min_eq_left, IntKind.bits, Int.reducePow, Int.reduceLT, Int.reduceLE, Int.reduceEq, Int.reduceNe, Int.reduceAdd, Int.reduceSub, and_self, reduceCtorEq, decide_eq_true_eq, decide_eq_false_iff_not, eq_self, implies_true, exists_const, Option.isNone_some, Option.isNone_none, Option.isSome_some, Option.isSome_none, Option.getD_some]
        refine (known_ok g4).k ?_
        rintro _ g5 ⟨rfl, e5⟩
        simp (disch := omega) only [dm_t, wA, wB, wL, wW, wY, Int.fdiv_eq_ediv_of_nonneg, Int.tdiv_eq_ediv_of_nonneg, Int.tmod_eq_emod_of_nonneg, chk_pos, decT, decF, br_pos, br_neg, wX, ↓reduceIte, Nat.reduceEqDiff, Nat.reduceAdd, Nat.reduceSub, Nat.reduceMul, Nat.reduceLeDiff, Nat.reduceLT, Nat.reduceMod, Nat.reduceDiv, Int.reduceToNat, Nat.min_eq_left, IntKind.bits, Int.reducePow, Int.reduceLT, Int.reduceLE, Int.reduceEq, Int.reduceNe, Int.reduceAdd, Int.reduceSub, and_self, reduceCtorEq, decide_eq_true_eq, decide_eq_false_iff_not, eq_self, implies_true, exists_const, Option.isNone_some, Option.isNone_none, Option.isSome_some, Option.isSome_none, Option.getD_some]
        exact ((e1.trans e13).trans e4).trans e5
      by_cases hl0 : l.length = 0
      · have f0 : vc Try.prog c4_s17 (retQ [6] (okR fun v h' => v = .bool true ∧ Ext g h')) [(0, .slice sa l.length sn), (15, .int .i64 0)] g3 := fin 0 (by omega)
        simp (disch := omega) only [dm_t, wA, wB, wL, wW, wY, Int.fdiv_eq_ediv_of_nonneg, Int.tdiv_eq_ediv_of_nonneg, Int.tmod_eq_emod_of_nonneg, chk_pos, decT, decF, br_pos, br_neg, wX, ↓reduceIte, Nat.reduceEqDiff, Nat.reduceAdd, Nat.reduceSub, Nat.reduceMul, Nat.reduceLeDiff, Nat.reduceLT, Nat.reduceMod, Nat.reduceDiv, Int.reduceToNat, Nat.min_eq_left, IntKind.bits, Int.reducePow, Int.reduceLT, Int.reduceLE, Int.reduceEq, Int.reduceNe, Int.reduceAdd, Int.reduceSub, and_self, reduceCtorEq, decide_eq_true_eq, decide_eq_false_iff_not, eq_self, implies_true, exists_const, Option.isNone_some, Option.isNone_none, Option.isSome_some, Option.isSome_none, Option.getD_some, f0]
      · obtain ⟨t2, ht2⟩ : ∃ t2, Int.tmod cut (l.length : Int) = t2 := ⟨_, rfl⟩
        have htb2 := tmod_bd cut (b := (l.length : Int)) (by omega)
        rw [ht2] at htb2
        have hmod : 0 ≤ (t2 + (l.length : Int)) % (l.length : Int) ∧ (t2 + (l.length : Int)) % (l.length : Int) < l.length := ⟨Int.emod_nonneg _ (by omega), Int.emod_lt_of_pos _ (by omega)⟩
        obtain ⟨k, hk⟩ : ∃ k : Nat, (t2 + (l.length : Int)) % (l.length : Int) = (k : Int) := ⟨((t2 + (l.length : Int)) % (l.length : Int)).toNat, by omega⟩
        have f0 := fin k (by omega)
        simp (disch := omega) only [dm_t, wA, wB, wL, wW, wY, Int.fdiv_eq_ediv_of_nonneg, Int.tdiv_eq_ediv_of_nonneg, Int.tmod_eq_emod_of_nonneg, chk_pos, decT, decF, br_pos, br_neg, wX, ↓reduceIte, Nat.reduceEqDiff, Nat.reduceAdd, Nat.reduceSub, Nat.reduceMul, Nat.reduceLeDiff, Nat.reduceLT, Nat.reduceMod, Nat.reduceDiv, Int.reduceToNat, Nat.min_eq_left, IntKind.bits, Int.reducePow, Int.reduceLT, Int.reduceLE, Int.reduceEq, Int.reduceNe, Int.reduceAdd, Int.reduceSub, and_self, reduceCtorEq, decide_eq_true_eq, decide_eq_false_iff_not, eq_self, implies_true, exists_const, Option.isNone_some, Option.isNone_none, Option.isSome_some, Option.isSome_none, Option.getD_some, ht2, hk, f0]
end Go.Proofs.Ytmolhemoiplpfaa.hi
