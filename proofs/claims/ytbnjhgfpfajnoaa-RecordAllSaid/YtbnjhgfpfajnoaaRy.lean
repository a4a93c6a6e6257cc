/-
  The document's All.
-/
import Derived.Test.YtbnjhgfpfajnoaaRv
import Derived.Test.YtbnjhgfpfajnoaaRs
namespace Go.Proofs.Ytbnjhgfpfajnoaa.rr
open Go.Proofs.Ytbnjhgfpfajnoaa
set_option linter.unusedVariables false
set_option linter.unusedSimpArgs false
abbrev plT : Ty := .pair (.int .i64) (.pair (.int .i64) (.sl rc))
def plc (rs : List RB) : List plT.D := (List.range rs.length).map fun i => ((szs (rs.take i) : Int), (rs.getD i (badR 0)).base, (rs.getD i (badR 0)).recs)
theorem plc_len (rs : List RB) : (plc rs).length = rs.length := by simp [plc]
theorem plc_get (rs : List RB) {i : Nat} (h : i < (plc rs).length) : (plc rs)[i] = (((szs (rs.take i) : Int), (rs.getD i (badR 0)).base, (rs.getD i (badR 0)).recs) : plT.D) := by simp [plc]
theorem plc_snoc (rs : List RB) (r : RB) : plc (rs ++ [r]) = plc rs ++ [(((szs rs : Int), r.base, r.recs) : plT.D)] := by
  unfold plc
  rw [List.length_append, List.length_singleton, List.range_succ, List.map_append]
  congr 1
  · apply List.map_congr_left
    intro i hi
    have hi' : i < rs.length := List.mem_range.1 hi
    rw [List.take_append_of_le_length (by omega)]
    simp [List.getD, List.getElem?_append_left hi']
  · simp
theorem DAll_ok {h : H} {v : Value} {l : List UInt8} (hb : By nos h v l) (hl : l.length ≤ 1000000) :
    Ok Try.prog 11 #[v] h fun r h' => RepL nos plT h' r (plc (allB l 0)) ∧ Ext h h' := by
  obtain ⟨sa, sc, rfl⟩ := hb.len
  refine c11_ok (args := [_]) (by simp) ?_
  simp (disch := omega) only [dm_t, wA, wB, wL, wW, wY, Int.fdiv_eq_ediv_of_nonneg, Int.tdiv_eq_ediv_of_nonneg, Int.tmod_eq_emod_of_nonneg, chk_pos, decT, decF, br_pos, br_neg, wX, ↓reduceIte, Nat.reduceEqDiff, Nat.reduceAdd, Nat.reduceSub, Nat.reduceMul, Nat.reduceLeDiff, Nat.reduceLT, Nat.reduceMod, Nat.reduceDiv, Int.reduceToNat, Nat.min_eq_left, IntKind.bits, Int.reducePow, Int.reduceLT, Int.reduceLE, Int.reduceEq, Int.reduceNe, Int.reduceAdd, Int.reduceSub, and_self, reduceCtorEq, decide_eq_true_eq, decide_eq_false_iff_not, eq_self, implies_true, exists_const, Option.isNone_some, Option.isNone_none, Option.isSome_some, Option.isSome_none, Option.getD_some]
  refine vc_loop2 (fun vo va h' => ∃ rs f, va = .int .i64 (szs rs : Int) ∧ WkI l 0 rs f ∧ OwL (fun y => h y ≠ none) plT (fun y => h y = none) h' 33 vo (plc rs) ∧ Ext h h') (fun _ va _ => l.length - m1 va) ?_ ?_
  · simp (disch := omega) only [dm_t, wA, wB, wL, wW, wY, Int.fdiv_eq_ediv_of_nonneg, Int.tdiv_eq_ediv_of_nonneg, Int.tmod_eq_emod_of_nonneg, chk_pos, decT, decF, br_pos, br_neg, wX, ↓reduceIte, Nat.reduceEqDiff, Nat.reduceAdd, Nat.reduceSub, Nat.reduceMul, Nat.reduceLeDiff, Nat.reduceLT, Nat.reduceMod, Nat.reduceDiv, Int.reduceToNat, Nat.min_eq_left, IntKind.bits, Int.reducePow, Int.reduceLT, Int.reduceLE, Int.reduceEq, Int.reduceNe, Int.reduceAdd, Int.reduceSub, and_self, reduceCtorEq, decide_eq_true_eq, decide_eq_false_iff_not, eq_self, implies_true, exists_const, Option.isNone_some, Option.isNone_none, Option.isSome_some, Option.isSome_none, Option.getD_some]
    exact ⟨[], _, rfl, wk0 (Nat.zero_le _), OwL.nil, Ext.refl _⟩
  rintro vo _ h1 ⟨rs, f, rfl, W, ho, E⟩
  have hp0 : 0 + szs rs = szs rs := Nat.zero_add _
  have hle := W.le
  have hln := W.ln
  have hra := readAt_nat l W.le
  have hst := @wk_step l 0 f rs W
  have hsz := @wk_size l (0 + szs rs) W.le
  have hend := @wk_end l 0 f rs W
  rw [hp0] at hle hra hst hsz hend
  simp (disch := omega) only [dm_t, wA, wB, wL, wW, wY, Int.fdiv_eq_ediv_of_nonneg, Int.tdiv_eq_ediv_of_nonneg, Int.tmod_eq_emod_of_nonneg, chk_pos, decT, decF, br_pos, br_neg, wX, ↓reduceIte, Nat.reduceEqDiff, Nat.reduceAdd, Nat.reduceSub, Nat.reduceMul, Nat.reduceLeDiff, Nat.reduceLT, Nat.reduceMod, Nat.reduceDiv, Int.reduceToNat, Nat.min_eq_left, IntKind.bits, Int.reducePow, Int.reduceLT, Int.reduceLE, Int.reduceEq, Int.reduceNe, Int.reduceAdd, Int.reduceSub, and_self, reduceCtorEq, decide_eq_true_eq, decide_eq_false_iff_not, eq_self, implies_true, exists_const, Option.isNone_some, Option.isNone_none, Option.isSome_some, Option.isSome_none, Option.getD_some]
  refine (DRead_ok (SlK.ext hb E) (by omega) _ (by omega)).k ?_
  rw [hra]
  rintro _ g2 ⟨w, rfl, ow, e2⟩
  simp (disch := omega) only [dm_t, wA, wB, wL, wW, wY, Int.fdiv_eq_ediv_of_nonneg, Int.tdiv_eq_ediv_of_nonneg, Int.tmod_eq_emod_of_nonneg, chk_pos, decT, decF, br_pos, br_neg, wX, ↓reduceIte, Nat.reduceEqDiff, Nat.reduceAdd, Nat.reduceSub, Nat.reduceMul, Nat.reduceLeDiff, Nat.reduceLT, Nat.reduceMod, Nat.reduceDiv, Int.reduceToNat, Nat.min_eq_left, IntKind.bits, Int.reducePow, Int.reduceLT, Int.reduceLE, Int.reduceEq, Int.reduceNe, Int.reduceAdd, Int.reduceSub, and_self, reduceCtorEq, decide_eq_true_eq, decide_eq_false_iff_not, eq_self, implies_true, exists_const, Option.isNone_some, Option.isNone_none, Option.isSome_some, Option.isSome_none, Option.getD_some]
  intro xb hxb
  obtain ⟨wa, wc, rfl⟩ := ow.len
  simp (disch := omega) only [dm_t, wA, wB, wL, wW, wY, Int.fdiv_eq_ediv_of_nonneg, Int.tdiv_eq_ediv_of_nonneg, Int.tmod_eq_emod_of_nonneg, chk_pos, decT, decF, br_pos, br_neg, wX, ↓reduceIte, Nat.reduceEqDiff, Nat.reduceAdd, Nat.reduceSub, Nat.reduceMul, Nat.reduceLeDiff, Nat.reduceLT, Nat.reduceMod, Nat.reduceDiv, Int.reduceToNat, Nat.min_eq_left, IntKind.bits, Int.reducePow, Int.reduceLT, Int.reduceLE, Int.reduceEq, Int.reduceNe, Int.reduceAdd, Int.reduceSub, and_self, reduceCtorEq, decide_eq_true_eq, decide_eq_false_iff_not, eq_self, implies_true, exists_const, Option.isNone_some, Option.isNone_none, Option.isSome_some, Option.isSome_none, Option.getD_some]
  refine storeH_all (vs := [_, _]) (hupd_same _ _ _) rfl rfl ?_
  rw [hupd_hupd]
  generalize hG : hupd g2 xb _ = g3
  obtain ⟨e3, qx⟩ := new_ext hG hxb
  clear hG
  by_cases he : (readP (l.drop (szs rs))).e = 0
  · obtain ⟨k, W'⟩ := hst he
    obtain ⟨z1, z2, z3, z4⟩ := hsz he
    obtain ⟨-, pb1, pb2, -⟩ := put0 (read_inv he).1
    have hz := szs_snoc rs (readP (l.drop (szs rs)))
    have hpl := plc_len rs
    have hps := plc_snoc rs (readP (l.drop (szs rs)))
    have e13 := e2.trans e3
    have ow3 := (ow.ext e3).subS (S' := fun y => isAt vo y ∨ h y ≠ none) fun y hy => hy.elim (fun hy => ho.there hy) fun hy hn => hy (E.bk hn)
    have rw3 : RepL (fun y => isAt vo y ∨ h y ≠ none) rc g3 (.slice wa (readP (l.drop (szs rs))).recs.length wc) (readP (l.drop (szs rs))).recs := ow3.repS fun y hy hs => hs.elim (fun hs => ho.there hs hy) fun hs => hs (E.bk hy)
    have b1 : -9223372036854775808 ≤ (szs rs : Int) ∧ (szs rs : Int) ≤ 9223372036854775807 := by omega
    have b2 : -9223372036854775808 ≤ (readP (l.drop (szs rs))).base ∧ (readP (l.drop (szs rs))).base ≤ 9223372036854775807 := by omega
    have hrow : Rep (fun y => isAt vo y ∨ h y ≠ none) plT g3 [.int .i64 (szs rs : Int), .int .i64 (readP (l.drop (szs rs))).base, .slice wa (readP (l.drop (szs rs))).recs.length wc] (((szs rs : Int), (readP (l.drop (szs rs))).base, (readP (l.drop (szs rs))).recs) : plT.D) :=
      ⟨[_], [_, _], rfl, ⟨rfl, b1⟩, ⟨[_], [_], rfl, ⟨rfl, b2⟩, rw3⟩⟩
    rw [z3]
    clear ow ow3 rw3
    simp (disch := omega) only [dm_t, wA, wB, wL, wW, wY, Int.fdiv_eq_ediv_of_nonneg, Int.tdiv_eq_ediv_of_nonneg, Int.tmod_eq_emod_of_nonneg, chk_pos, decT, decF, br_pos, br_neg, wX, ↓reduceIte, Nat.reduceEqDiff, Nat.reduceAdd, Nat.reduceSub, Nat.reduceMul, Nat.reduceLeDiff, Nat.reduceLT, Nat.reduceMod, Nat.reduceDiv, Int.reduceToNat, Nat.min_eq_left, IntKind.bits, Int.reducePow, Int.reduceLT, Int.reduceLE, Int.reduceEq, Int.reduceNe, Int.reduceAdd, Int.reduceSub, and_self, reduceCtorEq, decide_eq_true_eq, decide_eq_false_iff_not, eq_self, implies_true, exists_const, Option.isNone_some, Option.isNone_none, Option.isSome_some, Option.isSome_none, Option.getD_some, he, cellsAt_all qx 2 rfl]
    intro bl hbl
    simp (disch := omega) only [dm_t, wA, wB, wL, wW, wY, Int.fdiv_eq_ediv_of_nonneg, Int.tdiv_eq_ediv_of_nonneg, Int.tmod_eq_emod_of_nonneg, chk_pos, decT, decF, br_pos, br_neg, wX, ↓reduceIte, Nat.reduceEqDiff, Nat.reduceAdd, Nat.reduceSub, Nat.reduceMul, Nat.reduceLeDiff, Nat.reduceLT, Nat.reduceMod, Nat.reduceDiv, Int.reduceToNat, Nat.min_eq_left, IntKind.bits, Int.reducePow, Int.reduceLT, Int.reduceLE, Int.reduceEq, Int.reduceNe, Int.reduceAdd, Int.reduceSub, and_self, reduceCtorEq, decide_eq_true_eq, decide_eq_false_iff_not, eq_self, implies_true, exists_const, Option.isNone_some, Option.isNone_none, Option.isSome_some, Option.isSome_none, Option.getD_some]
    refine OwL.push (V := fun _ => _) (bytes := 40) (z := #[.int .i64 0, .int .i64 0, .slice none 0 0]) 3 rfl (ho.ext e13) (fun y hy => (E.trans e13).bk hy) hrow (by rfl) (by rw [hpl]; omega) (by rw [hpl]; omega) ?_ bl hbl
    intro _ s' g6 _ o6 f6
    simp (disch := omega) only [dm_t, wA, wB, wL, wW, wY, Int.fdiv_eq_ediv_of_nonneg, Int.tdiv_eq_ediv_of_nonneg, Int.tmod_eq_emod_of_nonneg, chk_pos, decT, decF, br_pos, br_neg, wX, ↓reduceIte, Nat.reduceEqDiff, Nat.reduceAdd, Nat.reduceSub, Nat.reduceMul, Nat.reduceLeDiff, Nat.reduceLT, Nat.reduceMod, Nat.reduceDiv, Int.reduceToNat, Nat.min_eq_left, IntKind.bits, Int.reducePow, Int.reduceLT, Int.reduceLE, Int.reduceEq, Int.reduceNe, Int.reduceAdd, Int.reduceSub, and_self, reduceCtorEq, decide_eq_true_eq, decide_eq_false_iff_not, eq_self, implies_true, exists_const, Option.isNone_some, Option.isNone_none, Option.isSome_some, Option.isSome_none, Option.getD_some]
    rw [← hps] at o6
    refine ⟨⟨rs ++ [readP (l.drop (szs rs))], k, by rw [hz, Int.natCast_add], W', o6, Ext.step (E.trans e13) f6⟩, ?_⟩
    show l.length - Int.toNat ((szs rs : Int) + ((readP (l.drop (szs rs))).size.toNat : Int)) < l.length - Int.toNat (szs rs : Int)
    rw [← Int.natCast_add, Int.toNat_natCast, Int.toNat_natCast]
    omega
  · have hall := hend he
    simp (disch := omega) only [dm_t, wA, wB, wL, wW, wY, Int.fdiv_eq_ediv_of_nonneg, Int.tdiv_eq_ediv_of_nonneg, Int.tmod_eq_emod_of_nonneg, chk_pos, decT, decF, br_pos, br_neg, wX, ↓reduceIte, Nat.reduceEqDiff, Nat.reduceAdd, Nat.reduceSub, Nat.reduceMul, Nat.reduceLeDiff, Nat.reduceLT, Nat.reduceMod, Nat.reduceDiv, Int.reduceToNat, Nat.min_eq_left, IntKind.bits, Int.reducePow, Int.reduceLT, Int.reduceLE, Int.reduceEq, Int.reduceNe, Int.reduceAdd, Int.reduceSub, and_self, reduceCtorEq, decide_eq_true_eq, decide_eq_false_iff_not, eq_self, implies_true, exists_const, Option.isNone_some, Option.isNone_none, Option.isSome_some, Option.isSome_none, Option.getD_some, he]
    rw [hall]
    exact ⟨ho.rep.ext (e2.trans e3), E.trans (e2.trans e3)⟩
end Go.Proofs.Ytbnjhgfpfajnoaa.rr
