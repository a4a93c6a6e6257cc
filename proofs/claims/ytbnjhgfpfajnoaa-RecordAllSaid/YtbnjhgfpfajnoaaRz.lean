/-
  record: RecordAll, walked whole.
-/
import Derived.Test.YtbnjhgfpfajnoaaRy
import Derived.Test.YtbnjhgfpfajnoaaRt
namespace Go.Proofs.Ytbnjhgfpfajnoaa.rr
open Go.Proofs.Ytbnjhgfpfajnoaa
set_option linter.unusedVariables false
set_option linter.unusedSimpArgs false
theorem cellsAt_part {h : H} {b o n : Nat} {cs : List Value} (hc : cellsAt h ⟨b, o, none⟩ n = some cs.toArray) (j m : Nat) (hjm : j + m ≤ n) (hm : 0 < m) : cellsAt h ⟨b, o + j, none⟩ m = some ((cs.drop j).take m).toArray := by
  unfold cellsAt at *
  rw [if_neg (by omega)] at hc ⊢
  split at hc
  · rename_i c E fr hb
    simp only [] at hb
    rw [hb]
    simp only [Option.isNone_none, Bool.true_and, decide_eq_true_eq] at hc ⊢
    split at hc
    · rename_i hl
      rw [if_pos (by omega)]
      simp only [Option.some.injEq] at hc ⊢
      have h1 : cs = (c.extract o (o + n)).toList := by rw [hc]
      apply Array.ext'
      rw [h1]
      simp only [Array.toList_extract, List.extract_eq_take_drop]
      rw [List.drop_take, List.take_take, List.drop_drop]
      congr 1
      omega
    · cases hc
  · cases hc
theorem scan_recs {b : List UInt8} : ∀ {f p : Nat} {r : RB}, p ≤ b.length → r ∈ scan f b p → r.recs.length ≤ 256 := by
  intro f
  induction f with
  | zero => intro p r h1 h2; simp [scan] at h2
  | succ f ih =>
    intro p r h1 h2
    rw [scan] at h2
    by_cases he : (readP (b.drop p)).e = 0
    · obtain ⟨z1, z2, -, -⟩ := wk_size h1 he
      rw [if_pos he, List.mem_cons] at h2
      rcases h2 with rfl | h2
      · exact (fits0 (put0 (read_inv he).1).1).2.2.1
      · exact ih z2 h2
    · rw [if_neg he] at h2; simp at h2
theorem all_recs {b : List UInt8} (i : Nat) : ((allB b 0).getD i (badR 0)).recs.length ≤ 256 := by
  by_cases h : i < (allB b 0).length
  · have : (allB b 0).getD i (badR 0) = (allB b 0)[i] := by simp [h]
    rw [this]
    exact scan_recs (Nat.zero_le _) (List.getElem_mem h)
  · have : (allB b 0).getD i (badR 0) = badR 0 := by simp [List.getD, List.getElem?_eq_none (show (allB b 0).length ≤ i by omega)]
    rw [this]; simp [badR]
/-- What stands while batches are gone over. -/
structure AS (h g1 : H) (rb lb wb b : Nat) (leave : Int) (ua : Option Addr) (uc : Nat) (w : Value) (l : List UInt8) : Prop where
  qr : g1 rb = some (.cells #[.bool false] 4)
  nr : h rb = none
  ql : g1 lb = some (.cells #[.int .i64 leave] 3)
  qw : g1 wb = some (.cells #[.slice ua (allB l 0).length uc] 24)
  rw : RepL nos plT g1 (.slice ua (allB l 0).length uc) (plc (allB l 0))
  qb : g1 b = some (.cells #[w] 22)
  ow : By nos g1 w l
  E : Ext h g1
  len : l.length ≤ 200000
abbrev zQ4 (h : H) : Post := retC [.c 4 4] (okR (qT h))
def mt (v : Value) (h : H) : Nat := match v with
  | .pointer (some a) => (match h a.block with | some (.cells c _ _) => m1 (c.getD 0 undef) | _ => 0)
  | _ => 0
section
variable {h g1 : H} {rb lb wb b : Nat} {leave : Int} {ua : Option Addr} {uc : Nat} {w : Value} {l : List UInt8}
theorem ra_s13 {g : H} {tb kb : Nat} {t : Nat} {Q0 : Post} (A : AS h g1 rb lb wb b leave ua uc w l) (ht : t < 2) (e1 : Ext g1 g) (qt : g tb = some (.cells #[.int .i64 (t : Int)] 3)) (qk : g kb = some (.cells #[.int .i64 0] 3)) (nt : g1 tb = none) (nk : g1 kb = none) (htk : tb ≠ kb)
    (hQ : ∀ G, Ext g1 G → G tb = some (.cells #[.int .i64 (t : Int)] 3) → (G kb = some (.cells #[.int .i64 ((allB l 0).length : Int)] 3) ∨ (t = 0 ∧ G kb = some (.cells #[.int .i64 leave] 3))) → Q0 .normal [(3, .pointer (some ⟨lb, 0, none⟩)), (4, .pointer (some ⟨rb, 0, none⟩)), (5, .pointer (some ⟨wb, 0, none⟩)), (7, .func (.func 37) #[] #[.pointer (some ⟨b, 0, none⟩)]), (9, .pointer (some ⟨tb, 0, none⟩)), (10, .pointer (some ⟨kb, 0, none⟩))] G) :
    vc Try.prog c3_s13 Q0 [(3, .pointer (some ⟨lb, 0, none⟩)), (4, .pointer (some ⟨rb, 0, none⟩)), (5, .pointer (some ⟨wb, 0, none⟩)), (7, .func (.func 37) #[] #[.pointer (some ⟨b, 0, none⟩)]), (9, .pointer (some ⟨tb, 0, none⟩)), (10, .pointer (some ⟨kb, 0, none⟩)), (38, .func (.func 37) #[] #[.pointer (some ⟨b, 0, none⟩)])] g := by
  have hlen := A.len
  simp (disch := omega) only [dm_t, wA, wB, wL, wW, wY, Int.fdiv_eq_ediv_of_nonneg, Int.tdiv_eq_ediv_of_nonneg, Int.tmod_eq_emod_of_nonneg, chk_pos, decT, decF, br_pos, br_neg, wX, ↓reduceIte, Nat.reduceEqDiff, Nat.reduceAdd, Nat.reduceSub, Nat.reduceMul, Nat.reduceLeDiff, Nat.reduceLT, Nat.reduceMod, Nat.reduceDiv, Int.reduceToNat, Nat.min_eq_left, IntKind.bits, Int.reducePow, Int.reduceLT, Int.reduceLE, Int.reduceEq, Int.reduceNe, Int.reduceAdd, Int.reduceSub, and_self, reduceCtorEq, decide_eq_true_eq, decide_eq_false_iff_not, eq_self, implies_true, exists_const, Option.isNone_some, Option.isNone_none, Option.isSome_some, Option.isSome_none, Option.getD_some]
  refine vc_rngA rfl rfl (All_it (w := w) (l := l) (by omega)) ?_
    (fun i G => Ext g1 G ∧ G tb = some (.cells #[.int .i64 (t : Int)] 3) ∧ G kb = some (.cells #[.int .i64 (i : Int)] 3))
    (fun _ => False) (fun j G => j = 4 ∧ Ext g1 G ∧ G tb = some (.cells #[.int .i64 (t : Int)] 3) ∧ t = 0 ∧ G kb = some (.cells #[.int .i64 leave] 3)) ?_ ?_ ?_ ?_ ?_ ?_ (fun _ h => h.elim) ?_
  · rintro h b o hb ⟨h1, h2⟩
    exact ⟨(Ext.new hb o).at h1, SlK.ext h2 (Ext.new hb o)⟩
  · rintro i h' ⟨z1, z2, z3⟩
    exact ⟨z1.at A.qb, SlK.ext A.ow z1⟩
  · rintro i h' h'' ⟨z1, z2, z3⟩ e
    exact ⟨z1.trans e, e.at z2, e.at z3⟩
  · exact ⟨e1, qt, qk⟩
  · rintro i h0 h' args hi ⟨w, rfl, -⟩; rfl
  · rintro L i h0 h1 args hi ⟨r, hr⟩ ⟨z1, z2, z3⟩ e0 ⟨w', rfl, ow'⟩
    have hrecs : ((allB l 0).getD i (badR 0)).recs.length ≤ 256 := all_recs i
    have hwl : ∃ wa wc, w' = .slice wa ((allB l 0).getD i (badR 0)).recs.length wc := ow'.l.len
    obtain ⟨wa, wc, rfl⟩ := hwl
    have hgi : (plc (allB l 0))[i]'(by rw [plc_len]; exact hi) = ((szs ((allB l 0).take i) : Int), ((allB l 0).getD i (badR 0)).base, ((allB l 0).getD i (badR 0)).recs) := plc_get _ _
    have f1 : Fr (fun y => y = L) h1 (hdel h1 L) := fun x o hx hn => by show (if x = L then none else h1 x) = _; rw [if_neg hn]; exact hx
    have r1 : RepL nos rc (hdel h1 L) (.slice wa ((allB l 0).getD i (badR 0)).recs.length wc) ((allB l 0).getD i (badR 0)).recs :=
      (RepL.fr (ow'.l.repS fun y hy hs => hs hy) f1 fun y hy => by rw [hy, hr]; simp).mono fun _ _ _ h => h.elim
    generalize (allB l 0).getD i (badR 0) = R at *
    generalize szs ((allB l 0).take i) = at' at *
    simp (disch := omega) only [dm_t, wA, wB, wL, wW, wY, Int.fdiv_eq_ediv_of_nonneg, Int.tdiv_eq_ediv_of_nonneg, Int.tmod_eq_emod_of_nonneg, chk_pos, decT, decF, br_pos, br_neg, wX, ↓reduceIte, Nat.reduceEqDiff, Nat.reduceAdd, Nat.reduceSub, Nat.reduceMul, Nat.reduceLeDiff, Nat.reduceLT, Nat.reduceMod, Nat.reduceDiv, Int.reduceToNat, Nat.min_eq_left, IntKind.bits, Int.reducePow, Int.reduceLT, Int.reduceLE, Int.reduceEq, Int.reduceNe, Int.reduceAdd, Int.reduceSub, and_self, reduceCtorEq, decide_eq_true_eq, decide_eq_false_iff_not, eq_self, implies_true, exists_const, Option.isNone_some, Option.isNone_none, Option.isSome_some, Option.isSome_none, Option.getD_some, List.zip_cons_cons, List.zip_nil_right, List.cons_append, List.nil_append]
    intro cb hcb
    have hcL : cb ≠ L := fun h => by subst h; rw [e0.at hr] at hcb; cases hcb
    simp (disch := omega) only [dm_t, wA, wB, wL, wW, wY, Int.fdiv_eq_ediv_of_nonneg, Int.tdiv_eq_ediv_of_nonneg, Int.tmod_eq_emod_of_nonneg, chk_pos, decT, decF, br_pos, br_neg, wX, ↓reduceIte, Nat.reduceEqDiff, Nat.reduceAdd, Nat.reduceSub, Nat.reduceMul, Nat.reduceLeDiff, Nat.reduceLT, Nat.reduceMod, Nat.reduceDiv, Int.reduceToNat, Nat.min_eq_left, IntKind.bits, Int.reducePow, Int.reduceLT, Int.reduceLE, Int.reduceEq, Int.reduceNe, Int.reduceAdd, Int.reduceSub, and_self, reduceCtorEq, decide_eq_true_eq, decide_eq_false_iff_not, eq_self, implies_true, exists_const, Option.isNone_some, Option.isNone_none, Option.isSome_some, Option.isSome_none, Option.getD_some]
    refine storeH_all (vs := [_, _]) (hupd_same _ _ _) rfl rfl ?_
    rw [hupd_hupd]
    simp (disch := omega) only [dm_t, wA, wB, wL, wW, wY, Int.fdiv_eq_ediv_of_nonneg, Int.tdiv_eq_ediv_of_nonneg, Int.tmod_eq_emod_of_nonneg, chk_pos, decT, decF, br_pos, br_neg, wX, ↓reduceIte, Nat.reduceEqDiff, Nat.reduceAdd, Nat.reduceSub, Nat.reduceMul, Nat.reduceLeDiff, Nat.reduceLT, Nat.reduceMod, Nat.reduceDiv, Int.reduceToNat, Nat.min_eq_left, IntKind.bits, Int.reducePow, Int.reduceLT, Int.reduceLE, Int.reduceEq, Int.reduceNe, Int.reduceAdd, Int.reduceSub, and_self, reduceCtorEq, decide_eq_true_eq, decide_eq_false_iff_not, eq_self, implies_true, exists_const, Option.isNone_some, Option.isNone_none, Option.isSome_some, Option.isSome_none, Option.getD_some]
    refine ⟨hupd_ne _ _ hcL.symm, ?_⟩
    have e5 := hdel_mono L (Ext.new hcb (.cells #[.int .i64 R.base, .slice wa R.recs.length wc] 31))
    have q0 : hdel (hupd h1 cb (.cells #[.int .i64 R.base, .slice wa R.recs.length wc] 31)) L cb = some (.cells #[.int .i64 R.base, .slice wa R.recs.length wc] 31) := by
      rw [hdel_hupd_ne hcL, hupd_same]
    generalize hdel (hupd h1 cb (.cells #[.int .i64 R.base, .slice wa R.recs.length wc] 31)) L = G at e5 q0 ⊢
    have e05 := (hdel_mono L e0).trans e5
    have E1 := z1.trans e05
    have qt1 := e05.at z2
    have qk1 := e05.at z3
    have rW := A.rw.ext E1
    have hil : i < (plc (allB l 0)).length := by rw [plc_len]; exact hi
    rw [← plc_len] at rW
    obtain ⟨p1, o1, cs, i1, t1, tc, r2⟩ := rW.load hil .i64 3 rfl
    rw [hgi] at r2
    obtain ⟨_, _, rfl, ⟨rfl, -⟩, _, _, rfl, ⟨rfl, -⟩, r3⟩ := r2
    obtain ⟨w2, _, rfl, _⟩ := id r3
    have r3' : RepL nos rc G w2 R.recs := r3
    have r1' : RepL nos rc G (.slice wa R.recs.length wc) R.recs := r1.ext e5
    have ta : cellAt G ⟨p1, o1, none⟩ = some (.int .i64 (at' : Int)) := tc 0 (by omega)
    have tb2 := cellsAt_part t1 1 2 (by omega) (by omega)
    simp only [List.cons_append, List.nil_append, List.drop_succ_cons, List.drop_zero, List.take_succ_cons, List.take_zero] at tb2
    rw [plc_len] at i1
    have k0 : cellAt G ⟨kb, 0, none⟩ = some (.int .i64 (i : Int)) := by rw [cellAt_of qk1]; rfl
    have w0 : cellAt G ⟨wb, 0, none⟩ = some (.slice ua (allB l 0).length uc) := by rw [cellAt_of (E1.at A.qw)]; rfl
    simp (disch := omega) only [dm_t, wA, wB, wL, wW, wY, Int.fdiv_eq_ediv_of_nonneg, Int.tdiv_eq_ediv_of_nonneg, Int.tmod_eq_emod_of_nonneg, chk_pos, decT, decF, br_pos, br_neg, wX, ↓reduceIte, Nat.reduceEqDiff, Nat.reduceAdd, Nat.reduceSub, Nat.reduceMul, Nat.reduceLeDiff, Nat.reduceLT, Nat.reduceMod, Nat.reduceDiv, Int.reduceToNat, Nat.min_eq_left, IntKind.bits, Int.reducePow, Int.reduceLT, Int.reduceLE, Int.reduceEq, Int.reduceNe, Int.reduceAdd, Int.reduceSub, and_self, reduceCtorEq, decide_eq_true_eq, decide_eq_false_iff_not, eq_self, implies_true, exists_const, Option.isNone_some, Option.isNone_none, Option.isSome_some, Option.isSome_none, Option.getD_some, k0, w0, i1, ta, tb2, cellsAt_all q0 2 rfl]
    refine (SameBatch_ok r1' r3' (by omega)).k ?_
    rintro _ g2 ⟨rfl, e6⟩
    have qk2 := e6.at qk1
    have qt2 := e6.at qt1
    have k1 : cellAt g2 ⟨kb, 0, none⟩ = some (.int .i64 (i : Int)) := by rw [cellAt_of qk2]; rfl
    have hib : i ≤ 200000 := by have := szs_le3 l; omega
    have E2 := E1.trans e6
    simp (disch := omega) only [dm_t, wA, wB, wL, wW, wY, Int.fdiv_eq_ediv_of_nonneg, Int.tdiv_eq_ediv_of_nonneg, Int.tmod_eq_emod_of_nonneg, chk_pos, decT, decF, br_pos, br_neg, wX, ↓reduceIte, Nat.reduceEqDiff, Nat.reduceAdd, Nat.reduceSub, Nat.reduceMul, Nat.reduceLeDiff, Nat.reduceLT, Nat.reduceMod, Nat.reduceDiv, Int.reduceToNat, Nat.min_eq_left, IntKind.bits, Int.reducePow, Int.reduceLT, Int.reduceLE, Int.reduceEq, Int.reduceNe, Int.reduceAdd, Int.reduceSub, and_self, reduceCtorEq, decide_eq_true_eq, decide_eq_false_iff_not, eq_self, implies_true, exists_const, Option.isNone_some, Option.isNone_none, Option.isSome_some, Option.isSome_none, Option.getD_some, k1]
    refine storeH_all (vs := [_]) qk2 rfl rfl ?_
    generalize hG : hupd g2 kb _ = g3
    have f3 : Fr (fun y => y = kb) g2 g3 := hG ▸ Fr.upd (S := fun y => y = kb) rfl _
    have qk3 : g3 kb = some (.cells #[.int .i64 ((i : Int) + 1)] 3) := hG ▸ hupd_same _ _ _
    clear hG
    have qt3 := f3 _ _ qt2 htk
    have E3 : Ext g1 g3 := Ext.step' E2 f3 fun y hy => by rw [hy]; exact nk
    have k3 : cellAt g3 ⟨kb, 0, none⟩ = some (.int .i64 ((i : Int) + 1)) := by rw [cellAt_of qk3]; rfl
    have t3 : cellAt g3 ⟨tb, 0, none⟩ = some (.int .i64 (t : Int)) := by rw [cellAt_of qt3]; rfl
    have l3 : cellAt g3 ⟨lb, 0, none⟩ = some (.int .i64 leave) := by rw [cellAt_of (E3.at A.ql)]; rfl
    have qk3' : g3 kb = some (.cells #[.int .i64 ((i + 1 : Nat) : Int)] 3) := qk3
    by_cases ht0 : t = 0
    · subst ht0
      by_cases hlv : (i : Int) + 1 = leave
      · simp (disch := omega) only [dm_t, wA, wB, wL, wW, wY, Int.fdiv_eq_ediv_of_nonneg, Int.tdiv_eq_ediv_of_nonneg, Int.tmod_eq_emod_of_nonneg, chk_pos, decT, decF, br_pos, br_neg, wX, ↓reduceIte, Nat.reduceEqDiff, Nat.reduceAdd, Nat.reduceSub, Nat.reduceMul, Nat.reduceLeDiff, Nat.reduceLT, Nat.reduceMod, Nat.reduceDiv, Int.reduceToNat, Nat.min_eq_left, IntKind.bits, Int.reducePow, Int.reduceLT, Int.reduceLE, Int.reduceEq, Int.reduceNe, Int.reduceAdd, Int.reduceSub, and_self, reduceCtorEq, decide_eq_true_eq, decide_eq_false_iff_not, eq_self, implies_true, exists_const, Option.isNone_some, Option.isNone_none, Option.isSome_some, Option.isSome_none, Option.getD_some, k3, t3, l3, hlv]
        exact fun _ => ⟨rfl, E3, qt3, by rw [← hlv]; exact qk3⟩
      · simp (disch := omega) only [dm_t, wA, wB, wL, wW, wY, Int.fdiv_eq_ediv_of_nonneg, Int.tdiv_eq_ediv_of_nonneg, Int.tmod_eq_emod_of_nonneg, chk_pos, decT, decF, br_pos, br_neg, wX, ↓reduceIte, Nat.reduceEqDiff, Nat.reduceAdd, Nat.reduceSub, Nat.reduceMul, Nat.reduceLeDiff, Nat.reduceLT, Nat.reduceMod, Nat.reduceDiv, Int.reduceToNat, Nat.min_eq_left, IntKind.bits, Int.reducePow, Int.reduceLT, Int.reduceLE, Int.reduceEq, Int.reduceNe, Int.reduceAdd, Int.reduceSub, and_self, reduceCtorEq, decide_eq_true_eq, decide_eq_false_iff_not, eq_self, implies_true, exists_const, Option.isNone_some, Option.isNone_none, Option.isSome_some, Option.isSome_none, Option.getD_some, k3, t3, l3, hlv]
        exact fun _ => ⟨E3, qt3, qk3'⟩
    · simp (disch := omega) only [dm_t, wA, wB, wL, wW, wY, Int.fdiv_eq_ediv_of_nonneg, Int.tdiv_eq_ediv_of_nonneg, Int.tmod_eq_emod_of_nonneg, chk_pos, decT, decF, br_pos, br_neg, wX, ↓reduceIte, Nat.reduceEqDiff, Nat.reduceAdd, Nat.reduceSub, Nat.reduceMul, Nat.reduceLeDiff, Nat.reduceLT, Nat.reduceMod, Nat.reduceDiv, Int.reduceToNat, Nat.min_eq_left, IntKind.bits, Int.reducePow, Int.reduceLT, Int.reduceLE, Int.reduceEq, Int.reduceNe, Int.reduceAdd, Int.reduceSub, and_self, reduceCtorEq, decide_eq_true_eq, decide_eq_false_iff_not, eq_self, implies_true, exists_const, Option.isNone_some, Option.isNone_none, Option.isSome_some, Option.isSome_none, Option.getD_some, k3, t3, l3, ht0]
      exact fun _ => ⟨E3, qt3, qk3'⟩
  · rintro G ⟨z1, z2, z3⟩
    have k := hQ G z1 z2 (.inl z3)
    simp (disch := omega) only [dm_t, wA, wB, wL, wW, wY, Int.fdiv_eq_ediv_of_nonneg, Int.tdiv_eq_ediv_of_nonneg, Int.tmod_eq_emod_of_nonneg, chk_pos, decT, decF, br_pos, br_neg, wX, ↓reduceIte, Nat.reduceEqDiff, Nat.reduceAdd, Nat.reduceSub, Nat.reduceMul, Nat.reduceLeDiff, Nat.reduceLT, Nat.reduceMod, Nat.reduceDiv, Int.reduceToNat, Nat.min_eq_left, IntKind.bits, Int.reducePow, Int.reduceLT, Int.reduceLE, Int.reduceEq, Int.reduceNe, Int.reduceAdd, Int.reduceSub, and_self, reduceCtorEq, decide_eq_true_eq, decide_eq_false_iff_not, eq_self, implies_true, exists_const, Option.isNone_some, Option.isNone_none, Option.isSome_some, Option.isSome_none, Option.getD_some, k]
  · rintro j G ⟨rfl, z1, z2, z3, z4⟩
    have k := hQ G z1 z2 (.inr ⟨z3, z4⟩)
    simp (disch := omega) only [dm_t, wA, wB, wL, wW, wY, Int.fdiv_eq_ediv_of_nonneg, Int.tdiv_eq_ediv_of_nonneg, Int.tmod_eq_emod_of_nonneg, chk_pos, decT, decF, br_pos, br_neg, wX, ↓reduceIte, Nat.reduceEqDiff, Nat.reduceAdd, Nat.reduceSub, Nat.reduceMul, Nat.reduceLeDiff, Nat.reduceLT, Nat.reduceMod, Nat.reduceDiv, Int.reduceToNat, Nat.min_eq_left, IntKind.bits, Int.reducePow, Int.reduceLT, Int.reduceLE, Int.reduceEq, Int.reduceNe, Int.reduceAdd, Int.reduceSub, and_self, reduceCtorEq, decide_eq_true_eq, decide_eq_false_iff_not, eq_self, implies_true, exists_const, Option.isNone_some, Option.isNone_none, Option.isSome_some, Option.isSome_none, Option.getD_some, k]
theorem ra_s10 {g : H} {tb : Nat} (A : AS h g1 rb lb wb b leave ua uc w l) (e1 : Ext g1 g) (qt : g tb = some (.cells #[.int .i64 0] 3)) (nt : g1 tb = none) :
    vc Try.prog c3_s10 (seqQ Try.prog [4] c3_s21 (zQ4 h)) [(3, .pointer (some ⟨lb, 0, none⟩)), (4, .pointer (some ⟨rb, 0, none⟩)), (5, .pointer (some ⟨wb, 0, none⟩)), (7, .func (.func 37) #[] #[.pointer (some ⟨b, 0, none⟩)]), (9, .pointer (some ⟨tb, 0, none⟩))] g := by
  have hlen := A.len
  simp (disch := omega) only [dm_t, wA, wB, wL, wW, wY, Int.fdiv_eq_ediv_of_nonneg, Int.tdiv_eq_ediv_of_nonneg, Int.tmod_eq_emod_of_nonneg, chk_pos, decT, decF, br_pos, br_neg, wX, ↓reduceIte, Nat.reduceEqDiff, Nat.reduceAdd, Nat.reduceSub, Nat.reduceMul, Nat.reduceLeDiff, Nat.reduceLT, Nat.reduceMod, Nat.reduceDiv, Int.reduceToNat, Nat.min_eq_left, IntKind.bits, Int.reducePow, Int.reduceLT, Int.reduceLE, Int.reduceEq, Int.reduceNe, Int.reduceAdd, Int.reduceSub, and_self, reduceCtorEq, decide_eq_true_eq, decide_eq_false_iff_not, eq_self, implies_true, exists_const, Option.isNone_some, Option.isNone_none, Option.isSome_some, Option.isSome_none, Option.getD_some]
  refine vc_loop1 (fun v G => ∃ (tb t : Nat), v = .pointer (some ⟨tb, 0, none⟩) ∧ t ≤ 2 ∧ G tb = some (.cells #[.int .i64 (t : Int)] 3) ∧ g1 tb = none ∧ Ext g1 G) (fun v G => 2 - mt v G) ?_ ?_
  · simp (disch := omega) only [dm_t, wA, wB, wL, wW, wY, Int.fdiv_eq_ediv_of_nonneg, Int.tdiv_eq_ediv_of_nonneg, Int.tmod_eq_emod_of_nonneg, chk_pos, decT, decF, br_pos, br_neg, wX, ↓reduceIte, Nat.reduceEqDiff, Nat.reduceAdd, Nat.reduceSub, Nat.reduceMul, Nat.reduceLeDiff, Nat.reduceLT, Nat.reduceMod, Nat.reduceDiv, Int.reduceToNat, Nat.min_eq_left, IntKind.bits, Int.reducePow, Int.reduceLT, Int.reduceLE, Int.reduceEq, Int.reduceNe, Int.reduceAdd, Int.reduceSub, and_self, reduceCtorEq, decide_eq_true_eq, decide_eq_false_iff_not, eq_self, implies_true, exists_const, Option.isNone_some, Option.isNone_none, Option.isSome_some, Option.isSome_none, Option.getD_some]
    exact ⟨tb, 0, rfl, by omega, qt, nt, e1⟩
  rintro _ g2 ⟨tb, t, rfl, ht, qt, nt, e1⟩
  have t0 : cellAt g2 ⟨tb, 0, none⟩ = some (.int .i64 (t : Int)) := by rw [cellAt_of qt]; rfl
  by_cases htt : t < 2
  · simp (disch := omega) only [dm_t, wA, wB, wL, wW, wY, Int.fdiv_eq_ediv_of_nonneg, Int.tdiv_eq_ediv_of_nonneg, Int.tmod_eq_emod_of_nonneg, chk_pos, decT, decF, br_pos, br_neg, wX, ↓reduceIte, Nat.reduceEqDiff, Nat.reduceAdd, Nat.reduceSub, Nat.reduceMul, Nat.reduceLeDiff, Nat.reduceLT, Nat.reduceMod, Nat.reduceDiv, Int.reduceToNat, Nat.min_eq_left, IntKind.bits, Int.reducePow, Int.reduceLT, Int.reduceLE, Int.reduceEq, Int.reduceNe, Int.reduceAdd, Int.reduceSub, and_self, reduceCtorEq, decide_eq_true_eq, decide_eq_false_iff_not, eq_self, implies_true, exists_const, Option.isNone_some, Option.isNone_none, Option.isSome_some, Option.isSome_none, Option.getD_some, t0]
    intro kb hkb
    refine storeH_all (vs := [_]) (hupd_same _ _ _) rfl rfl ?_
    rw [hupd_hupd]
    generalize hG : hupd g2 kb _ = g3
    obtain ⟨e3, qk⟩ := new_ext hG hkb
    clear hG
    have htk := ne_of qt hkb
    simp (disch := omega) only [dm_t, wV, wB, wL, wW, wU, Int.fdiv_eq_ediv_of_nonneg, Int.tdiv_eq_ediv_of_nonneg, Int.tmod_eq_emod_of_nonneg, chk_pos, decT, decF, br_pos, br_neg, wX, ↓reduceIte, Nat.reduceEqDiff, Nat.reduceAdd, Nat.reduceSub, Nat.reduceMul, Nat.reduceLeDiff, Nat.reduceLT, Nat.reduceMod, Nat.reduceDiv, Int.reduceToNat, Nat.min_eq_left, IntKind.bits, Int.reducePow, Int.reduceLT, Int.reduceLE, Int.reduceEq, Int.reduceNe, Int.reduceAdd, Int.reduceSub, and_self, reduceCtorEq, decide_eq_true_eq, decide_eq_false_iff_not, eq_self, implies_true, exists_const, Option.isNone_some, Option.isNone_none, Option.isSome_some, Option.isSome_none, Option.getD_some]
    unfold c3_s12
    rw [vc_seq, vc_seq, vc_ops]
    simp (disch := omega) only [dm_t, wV, wB, wL, wW, wU, Int.fdiv_eq_ediv_of_nonneg, Int.tdiv_eq_ediv_of_nonneg, Int.tmod_eq_emod_of_nonneg, chk_pos, decT, decF, br_pos, br_neg, wX, ↓reduceIte, Nat.reduceEqDiff, Nat.reduceAdd, Nat.reduceSub, Nat.reduceMul, Nat.reduceLeDiff, Nat.reduceLT, Nat.reduceMod, Nat.reduceDiv, Int.reduceToNat, Nat.min_eq_left, IntKind.bits, Int.reducePow, Int.reduceLT, Int.reduceLE, Int.reduceEq, Int.reduceNe, Int.reduceAdd, Int.reduceSub, and_self, reduceCtorEq, decide_eq_true_eq, decide_eq_false_iff_not, eq_self, implies_true, exists_const, Option.isNone_some, Option.isNone_none, Option.isSome_some, Option.isSome_none, Option.getD_some]
    refine ra_s13 A htt (e1.trans e3) (e3.at qt) qk nt (e1.bk hkb) htk ?_
    intro G E2 qt2 hk
    have t2 : cellAt G ⟨tb, 0, none⟩ = some (.int .i64 (t : Int)) := by rw [cellAt_of qt2]; rfl
    have w2 : cellAt G ⟨wb, 0, none⟩ = some (.slice ua (allB l 0).length uc) := by rw [cellAt_of (E2.at A.qw)]; rfl
    have l2 : cellAt G ⟨lb, 0, none⟩ = some (.int .i64 leave) := by rw [cellAt_of (E2.at A.ql)]; rfl
    have hb8 := szs_le3 l
    have fin : ∀ kv : Int, G kb = some (.cells #[.int .i64 kv] 3) → cellAt G ⟨kb, 0, none⟩ = some (.int .i64 kv) := fun kv q => by rw [cellAt_of q]; rfl
    have nx : ∀ (db : Nat) (G' : H), G db = none → G' = hupd G db (.cells #[.int .i64 ((t : Int) + 1)] 3) → (∃ (tb t : Nat), Value.pointer (some ⟨db, 0, none⟩) = .pointer (some ⟨tb, 0, none⟩) ∧ t ≤ 2 ∧ G' tb = some (.cells #[.int .i64 (t : Int)] 3) ∧ g1 tb = none ∧ Ext g1 G') ∧ 2 - mt (.pointer (some ⟨db, 0, none⟩)) G' < 2 - mt (.pointer (some ⟨tb, 0, none⟩)) g2 := by
      rintro db G' hdb rfl
      refine ⟨⟨db, t + 1, rfl, by omega, hupd_same _ _ _, E2.bk hdb, E2.trans (Ext.new hdb _)⟩, ?_⟩
      have m1' : mt (.pointer (some ⟨db, 0, none⟩)) (hupd G db (.cells #[.int .i64 ((t : Int) + 1)] 3)) = t + 1 := by
        simp only [mt, hupd_same]; show Int.toNat ((t : Int) + 1) = t + 1; omega
      have m2' : mt (.pointer (some ⟨tb, 0, none⟩)) g2 = t := by
        simp only [mt, qt]; show Int.toNat (t : Int) = t; omega
      rw [m1', m2']; omega
    rcases hk with hk | ⟨rfl, hk⟩
    · have k0 := fin _ hk
      simp (disch := omega) only [dm_t, wA, wB, wL, wW, wY, Int.fdiv_eq_ediv_of_nonneg, Int.tdiv_eq_ediv_of_nonneg, Int.tmod_eq_emod_of_nonneg, chk_pos, decT, decF, br_pos, br_neg, wX, ↓reduceIte, Nat.reduceEqDiff, Nat.reduceAdd, Nat.reduceSub, Nat.reduceMul, Nat.reduceLeDiff, Nat.reduceLT, Nat.reduceMod, Nat.reduceDiv, Int.reduceToNat, Nat.min_eq_left, IntKind.bits, Int.reducePow, Int.reduceLT, Int.reduceLE, Int.reduceEq, Int.reduceNe, Int.reduceAdd, Int.reduceSub, and_self, reduceCtorEq, decide_eq_true_eq, decide_eq_false_iff_not, eq_self, implies_true, exists_const, Option.isNone_some, Option.isNone_none, Option.isSome_some, Option.isSome_none, Option.getD_some, k0, w2, t2]
      intro db hdb
      refine storeH_all (vs := [_]) (hupd_same _ _ _) rfl rfl ?_
      rw [hupd_hupd]
      simp (disch := omega) only [dm_t, wA, wB, wL, wW, wY, Int.fdiv_eq_ediv_of_nonneg, Int.tdiv_eq_ediv_of_nonneg, Int.tmod_eq_emod_of_nonneg, chk_pos, decT, decF, br_pos, br_neg, wX, ↓reduceIte, Nat.reduceEqDiff, Nat.reduceAdd, Nat.reduceSub, Nat.reduceMul, Nat.reduceLeDiff, Nat.reduceLT, Nat.reduceMod, Nat.reduceDiv, Int.reduceToNat, Nat.min_eq_left, IntKind.bits, Int.reducePow, Int.reduceLT, Int.reduceLE, Int.reduceEq, Int.reduceNe, Int.reduceAdd, Int.reduceSub, and_self, reduceCtorEq, decide_eq_true_eq, decide_eq_false_iff_not, eq_self, implies_true, exists_const, Option.isNone_some, Option.isNone_none, Option.isSome_some, Option.isSome_none, Option.getD_some, cellAt_same]
      refine storeH_all (vs := [_]) (hupd_same _ _ _) rfl rfl ?_
      rw [hupd_hupd]
      simp (disch := omega) only [dm_t, wA, wB, wL, wW, wY, Int.fdiv_eq_ediv_of_nonneg, Int.tdiv_eq_ediv_of_nonneg, Int.tmod_eq_emod_of_nonneg, chk_pos, decT, decF, br_pos, br_neg, wX, ↓reduceIte, Nat.reduceEqDiff, Nat.reduceAdd, Nat.reduceSub, Nat.reduceMul, Nat.reduceLeDiff, Nat.reduceLT, Nat.reduceMod, Nat.reduceDiv, Int.reduceToNat, Nat.min_eq_left, IntKind.bits, Int.reducePow, Int.reduceLT, Int.reduceLE, Int.reduceEq, Int.reduceNe, Int.reduceAdd, Int.reduceSub, and_self, reduceCtorEq, decide_eq_true_eq, decide_eq_false_iff_not, eq_self, implies_true, exists_const, Option.isNone_some, Option.isNone_none, Option.isSome_some, Option.isSome_none, Option.getD_some]
      exact nx db _ hdb (by first | rfl | simp)
    · have k0 := fin _ hk
      by_cases hl : leave = ((allB l 0).length : Int)
      · rw [hl] at k0 l2
        simp (disch := omega) only [dm_t, wA, wB, wL, wW, wY, Int.fdiv_eq_ediv_of_nonneg, Int.tdiv_eq_ediv_of_nonneg, Int.tmod_eq_emod_of_nonneg, chk_pos, decT, decF, br_pos, br_neg, wX, ↓reduceIte, Nat.reduceEqDiff, Nat.reduceAdd, Nat.reduceSub, Nat.reduceMul, Nat.reduceLeDiff, Nat.reduceLT, Nat.reduceMod, Nat.reduceDiv, Int.reduceToNat, Nat.min_eq_left, IntKind.bits, Int.reducePow, Int.reduceLT, Int.reduceLE, Int.reduceEq, Int.reduceNe, Int.reduceAdd, Int.reduceSub, and_self, reduceCtorEq, decide_eq_true_eq, decide_eq_false_iff_not, eq_self, implies_true, exists_const, Option.isNone_some, Option.isNone_none, Option.isSome_some, Option.isSome_none, Option.getD_some, k0, w2, t2, l2]
        intro db hdb
        refine storeH_all (vs := [_]) (hupd_same _ _ _) rfl rfl ?_
        rw [hupd_hupd]
        simp (disch := omega) only [dm_t, wA, wB, wL, wW, wY, Int.fdiv_eq_ediv_of_nonneg, Int.tdiv_eq_ediv_of_nonneg, Int.tmod_eq_emod_of_nonneg, chk_pos, decT, decF, br_pos, br_neg, wX, ↓reduceIte, Nat.reduceEqDiff, Nat.reduceAdd, Nat.reduceSub, Nat.reduceMul, Nat.reduceLeDiff, Nat.reduceLT, Nat.reduceMod, Nat.reduceDiv, Int.reduceToNat, Nat.min_eq_left, IntKind.bits, Int.reducePow, Int.reduceLT, Int.reduceLE, Int.reduceEq, Int.reduceNe, Int.reduceAdd, Int.reduceSub, and_self, reduceCtorEq, decide_eq_true_eq, decide_eq_false_iff_not, eq_self, implies_true, exists_const, Option.isNone_some, Option.isNone_none, Option.isSome_some, Option.isSome_none, Option.getD_some, cellAt_same]
        refine storeH_all (vs := [_]) (hupd_same _ _ _) rfl rfl ?_
        rw [hupd_hupd]
        simp (disch := omega) only [dm_t, wA, wB, wL, wW, wY, Int.fdiv_eq_ediv_of_nonneg, Int.tdiv_eq_ediv_of_nonneg, Int.tmod_eq_emod_of_nonneg, chk_pos, decT, decF, br_pos, br_neg, wX, ↓reduceIte, Nat.reduceEqDiff, Nat.reduceAdd, Nat.reduceSub, Nat.reduceMul, Nat.reduceLeDiff, Nat.reduceLT, Nat.reduceMod, Nat.reduceDiv, Int.reduceToNat, Nat.min_eq_left, IntKind.bits, Int.reducePow, Int.reduceLT, Int.reduceLE, Int.reduceEq, Int.reduceNe, Int.reduceAdd, Int.reduceSub, and_self, reduceCtorEq, decide_eq_true_eq, decide_eq_false_iff_not, eq_self, implies_true, exists_const, Option.isNone_some, Option.isNone_none, Option.isSome_some, Option.isSome_none, Option.getD_some]
        exact nx db _ hdb (by first | rfl | simp)
      · simp (disch := omega) only [dm_t, wA, wB, wL, wW, wY, Int.fdiv_eq_ediv_of_nonneg, Int.tdiv_eq_ediv_of_nonneg, Int.tmod_eq_emod_of_nonneg, chk_pos, decT, decF, br_pos, br_neg, wX, ↓reduceIte, Nat.reduceEqDiff, Nat.reduceAdd, Nat.reduceSub, Nat.reduceMul, Nat.reduceLeDiff, Nat.reduceLT, Nat.reduceMod, Nat.reduceDiv, Int.reduceToNat, Nat.min_eq_left, IntKind.bits, Int.reducePow, Int.reduceLT, Int.reduceLE, Int.reduceEq, Int.reduceNe, Int.reduceAdd, Int.reduceSub, and_self, reduceCtorEq, decide_eq_true_eq, decide_eq_false_iff_not, eq_self, implies_true, exists_const, Option.isNone_some, Option.isNone_none, Option.isSome_some, Option.isSome_none, Option.getD_some, k0, w2, t2, l2, hl]
        intro db hdb
        refine storeH_all (vs := [_]) (hupd_same _ _ _) rfl rfl ?_
        rw [hupd_hupd]
        simp (disch := omega) only [dm_t, wA, wB, wL, wW, wY, Int.fdiv_eq_ediv_of_nonneg, Int.tdiv_eq_ediv_of_nonneg, Int.tmod_eq_emod_of_nonneg, chk_pos, decT, decF, br_pos, br_neg, wX, ↓reduceIte, Nat.reduceEqDiff, Nat.reduceAdd, Nat.reduceSub, Nat.reduceMul, Nat.reduceLeDiff, Nat.reduceLT, Nat.reduceMod, Nat.reduceDiv, Int.reduceToNat, Nat.min_eq_left, IntKind.bits, Int.reducePow, Int.reduceLT, Int.reduceLE, Int.reduceEq, Int.reduceNe, Int.reduceAdd, Int.reduceSub, and_self, reduceCtorEq, decide_eq_true_eq, decide_eq_false_iff_not, eq_self, implies_true, exists_const, Option.isNone_some, Option.isNone_none, Option.isSome_some, Option.isSome_none, Option.getD_some, cellAt_same]
        refine storeH_all (vs := [_]) (hupd_same _ _ _) rfl rfl ?_
        rw [hupd_hupd]
        simp (disch := omega) only [dm_t, wA, wB, wL, wW, wY, Int.fdiv_eq_ediv_of_nonneg, Int.tdiv_eq_ediv_of_nonneg, Int.tmod_eq_emod_of_nonneg, chk_pos, decT, decF, br_pos, br_neg, wX, ↓reduceIte, Nat.reduceEqDiff, Nat.reduceAdd, Nat.reduceSub, Nat.reduceMul, Nat.reduceLeDiff, Nat.reduceLT, Nat.reduceMod, Nat.reduceDiv, Int.reduceToNat, Nat.min_eq_left, IntKind.bits, Int.reducePow, Int.reduceLT, Int.reduceLE, Int.reduceEq, Int.reduceNe, Int.reduceAdd, Int.reduceSub, and_self, reduceCtorEq, decide_eq_true_eq, decide_eq_false_iff_not, eq_self, implies_true, exists_const, Option.isNone_some, Option.isNone_none, Option.isSome_some, Option.isSome_none, Option.getD_some]
        exact nx db _ hdb (by first | rfl | simp)
  · simp (disch := omega) only [dm_t, wA, wB, wL, wW, wY, Int.fdiv_eq_ediv_of_nonneg, Int.tdiv_eq_ediv_of_nonneg, Int.tmod_eq_emod_of_nonneg, chk_pos, decT, decF, br_pos, br_neg, wX, ↓reduceIte, Nat.reduceEqDiff, Nat.reduceAdd, Nat.reduceSub, Nat.reduceMul, Nat.reduceLeDiff, Nat.reduceLT, Nat.reduceMod, Nat.reduceDiv, Int.reduceToNat, Nat.min_eq_left, IntKind.bits, Int.reducePow, Int.reduceLT, Int.reduceLE, Int.reduceEq, Int.reduceNe, Int.reduceAdd, Int.reduceSub, and_self, reduceCtorEq, decide_eq_true_eq, decide_eq_false_iff_not, eq_self, implies_true, exists_const, Option.isNone_some, Option.isNone_none, Option.isSome_some, Option.isSome_none, Option.getD_some, t0]
    refine (known_ok _).k ?_
    rintro _ g5 ⟨rfl, e5⟩
    simp (disch := omega) only [dm_t, wA, wB, wL, wW, wY, Int.fdiv_eq_ediv_of_nonneg, Int.tdiv_eq_ediv_of_nonneg, Int.tmod_eq_emod_of_nonneg, chk_pos, decT, decF, br_pos, br_neg, wX, ↓reduceIte, Nat.reduceEqDiff, Nat.reduceAdd, Nat.reduceSub, Nat.reduceMul, Nat.reduceLeDiff, Nat.reduceLT, Nat.reduceMod, Nat.reduceDiv, Int.reduceToNat, Nat.min_eq_left, IntKind.bits, Int.reducePow, Int.reduceLT, Int.reduceLE, Int.reduceEq, Int.reduceNe, Int.reduceAdd, Int.reduceSub, and_self, reduceCtorEq, decide_eq_true_eq, decide_eq_false_iff_not, eq_self, implies_true, exists_const, Option.isNone_some, Option.isNone_none, Option.isSome_some, Option.isSome_none, Option.getD_some]
    refine zret ((e1.trans e5).at A.qr) fun G q f => ?_
    simp (disch := omega) only [dm_t, wA, wB, wL, wW, wY, Int.fdiv_eq_ediv_of_nonneg, Int.tdiv_eq_ediv_of_nonneg, Int.tmod_eq_emod_of_nonneg, chk_pos, decT, decF, br_pos, br_neg, wX, ↓reduceIte, Nat.reduceEqDiff, Nat.reduceAdd, Nat.reduceSub, Nat.reduceMul, Nat.reduceLeDiff, Nat.reduceLT, Nat.reduceMod, Nat.reduceDiv, Int.reduceToNat, Nat.min_eq_left, IntKind.bits, Int.reducePow, Int.reduceLT, Int.reduceLE, Int.reduceEq, Int.reduceNe, Int.reduceAdd, Int.reduceSub, and_self, reduceCtorEq, decide_eq_true_eq, decide_eq_false_iff_not, eq_self, implies_true, exists_const, Option.isNone_some, Option.isNone_none, Option.isSome_some, Option.isSome_none, Option.getD_some, cellAt_of q]
    exact ⟨rfl, Ext.step' (A.E.trans (e1.trans e5)) f fun y hy => by rw [hy]; exact A.nr⟩
end
theorem RA_ok {h : H} {v : Value} {l : List UInt8} {leave : Int} (hb : By nos h v l) (ip : inI leave) : Ok Try.prog 3 #[v, .int .i64 leave] h (qT h) := by
  obtain ⟨ba, bc, rfl⟩ := hb.len
  refine c3_ok (args := [_, _]) (by simp) ?_
  simp (disch := omega) only [dm_t, wA, wB, wL, wW, wY, Int.fdiv_eq_ediv_of_nonneg, Int.tdiv_eq_ediv_of_nonneg, Int.tmod_eq_emod_of_nonneg, chk_pos, decT, decF, br_pos, br_neg, wX, ↓reduceIte, Nat.reduceEqDiff, Nat.reduceAdd, Nat.reduceSub, Nat.reduceMul, Nat.reduceLeDiff, Nat.reduceLT, Nat.reduceMod, Nat.reduceDiv, Int.reduceToNat, Nat.min_eq_left, IntKind.bits, Int.reducePow, Int.reduceLT, Int.reduceLE, Int.reduceEq, Int.reduceNe, Int.reduceAdd, Int.reduceSub, and_self, reduceCtorEq, decide_eq_true_eq, decide_eq_false_iff_not, eq_self, implies_true, exists_const, Option.isNone_some, Option.isNone_none, Option.isSome_some, Option.isSome_none, Option.getD_some]
  intro lb hlb rb hrb
  generalize hG : hupd h lb _ = g1 at hrb ⊢
  obtain ⟨e1, ql⟩ := new_ext hG hlb
  clear hG
  generalize hG : hupd g1 rb _ = g2
  obtain ⟨e2, qr⟩ := new_ext hG hrb
  clear hG
  have nr := e1.bk hrb
  replace ql := e2.at ql
  have E2 := e1.trans e2
  by_cases h1 : 200000 < l.length
  · simp (disch := omega) only [dm_t, wA, wB, wL, wW, wY, Int.fdiv_eq_ediv_of_nonneg, Int.tdiv_eq_ediv_of_nonneg, Int.tmod_eq_emod_of_nonneg, chk_pos, decT, decF, br_pos, br_neg, wX, ↓reduceIte, Nat.reduceEqDiff, Nat.reduceAdd, Nat.reduceSub, Nat.reduceMul, Nat.reduceLeDiff, Nat.reduceLT, Nat.reduceMod, Nat.reduceDiv, Int.reduceToNat, Nat.min_eq_left, IntKind.bits, Int.reducePow, Int.reduceLT, Int.reduceLE, Int.reduceEq, Int.reduceNe, Int.reduceAdd, Int.reduceSub, and_self, reduceCtorEq, decide_eq_true_eq, decide_eq_false_iff_not, eq_self, implies_true, exists_const, Option.isNone_some, Option.isNone_none, Option.isSome_some, Option.isSome_none, Option.getD_some]
    refine (known_ok _).k ?_
    rintro _ g5 ⟨rfl, e5⟩
    simp (disch := omega) only [dm_t, wA, wB, wL, wW, wY, Int.fdiv_eq_ediv_of_nonneg, Int.tdiv_eq_ediv_of_nonneg, Int.tmod_eq_emod_of_nonneg, chk_pos, decT, decF, br_pos, br_neg, wX, ↓reduceIte, Nat.reduceEqDiff, Nat.reduceAdd, Nat.reduceSub, Nat.reduceMul, Nat.reduceLeDiff, Nat.reduceLT, Nat.reduceMod, Nat.reduceDiv, Int.reduceToNat, Nat.min_eq_left, IntKind.bits, Int.reducePow, Int.reduceLT, Int.reduceLE, Int.reduceEq, Int.reduceNe, Int.reduceAdd, Int.reduceSub, and_self, reduceCtorEq, decide_eq_true_eq, decide_eq_false_iff_not, eq_self, implies_true, exists_const, Option.isNone_some, Option.isNone_none, Option.isSome_some, Option.isSome_none, Option.getD_some]
    refine zret (e5.at qr) fun G q f => ?_
    simp (disch := omega) only [dm_t, wA, wB, wL, wW, wY, Int.fdiv_eq_ediv_of_nonneg, Int.tdiv_eq_ediv_of_nonneg, Int.tmod_eq_emod_of_nonneg, chk_pos, decT, decF, br_pos, br_neg, wX, ↓reduceIte, Nat.reduceEqDiff, Nat.reduceAdd, Nat.reduceSub, Nat.reduceMul, Nat.reduceLeDiff, Nat.reduceLT, Nat.reduceMod, Nat.reduceDiv, Int.reduceToNat, Nat.min_eq_left, IntKind.bits, Int.reducePow, Int.reduceLT, Int.reduceLE, Int.reduceEq, Int.reduceNe, Int.reduceAdd, Int.reduceSub, and_self, reduceCtorEq, decide_eq_true_eq, decide_eq_false_iff_not, eq_self, implies_true, exists_const, Option.isNone_some, Option.isNone_none, Option.isSome_some, Option.isSome_none, Option.getD_some, cellAt_of q]
    exact ⟨rfl, Ext.step' (E2.trans e5) f fun y hy => by rw [hy]; exact nr⟩
  simp (disch := omega) only [dm_t, wA, wB, wL, wW, wY, Int.fdiv_eq_ediv_of_nonneg, Int.tdiv_eq_ediv_of_nonneg, Int.tmod_eq_emod_of_nonneg, chk_pos, decT, decF, br_pos, br_neg, wX, ↓reduceIte, Nat.reduceEqDiff, Nat.reduceAdd, Nat.reduceSub, Nat.reduceMul, Nat.reduceLeDiff, Nat.reduceLT, Nat.reduceMod, Nat.reduceDiv, Int.reduceToNat, Nat.min_eq_left, IntKind.bits, Int.reducePow, Int.reduceLT, Int.reduceLE, Int.reduceEq, Int.reduceNe, Int.reduceAdd, Int.reduceSub, and_self, reduceCtorEq, decide_eq_true_eq, decide_eq_false_iff_not, eq_self, implies_true, exists_const, Option.isNone_some, Option.isNone_none, Option.isSome_some, Option.isSome_none, Option.getD_some]
  refine (DAll_ok (SlK.ext hb E2) (by omega)).k ?_
  rintro u g3 ⟨ru, e3⟩
  obtain ⟨ua, uc, rfl⟩ := ru.len
  rw [plc_len]
  simp (disch := omega) only [dm_t, wA, wB, wL, wW, wY, Int.fdiv_eq_ediv_of_nonneg, Int.tdiv_eq_ediv_of_nonneg, Int.tmod_eq_emod_of_nonneg, chk_pos, decT, decF, br_pos, br_neg, wX, ↓reduceIte, Nat.reduceEqDiff, Nat.reduceAdd, Nat.reduceSub, Nat.reduceMul, Nat.reduceLeDiff, Nat.reduceLT, Nat.reduceMod, Nat.reduceDiv, Int.reduceToNat, Nat.min_eq_left, IntKind.bits, Int.reducePow, Int.reduceLT, Int.reduceLE, Int.reduceEq, Int.reduceNe, Int.reduceAdd, Int.reduceSub, and_self, reduceCtorEq, decide_eq_true_eq, decide_eq_false_iff_not, eq_self, implies_true, exists_const, Option.isNone_some, Option.isNone_none, Option.isSome_some, Option.isSome_none, Option.getD_some]
  intro wb hwb
  simp (disch := omega) only [dm_t, wA, wB, wL, wW, wY, Int.fdiv_eq_ediv_of_nonneg, Int.tdiv_eq_ediv_of_nonneg, Int.tmod_eq_emod_of_nonneg, chk_pos, decT, decF, br_pos, br_neg, wX, ↓reduceIte, Nat.reduceEqDiff, Nat.reduceAdd, Nat.reduceSub, Nat.reduceMul, Nat.reduceLeDiff, Nat.reduceLT, Nat.reduceMod, Nat.reduceDiv, Int.reduceToNat, Nat.min_eq_left, IntKind.bits, Int.reducePow, Int.reduceLT, Int.reduceLE, Int.reduceEq, Int.reduceNe, Int.reduceAdd, Int.reduceSub, and_self, reduceCtorEq, decide_eq_true_eq, decide_eq_false_iff_not, eq_self, implies_true, exists_const, Option.isNone_some, Option.isNone_none, Option.isSome_some, Option.isSome_none, Option.getD_some]
  refine storeH_all (vs := [_]) (hupd_same _ _ _) rfl rfl ?_
  rw [hupd_hupd]
  generalize hG : hupd g3 wb _ = g4
  obtain ⟨e4, qw⟩ := new_ext hG hwb
  clear hG
  have E4 := (E2.trans e3).trans e4
  rw [plc_len] at ru
  simp (disch := omega) only [dm_t, wA, wB, wL, wW, wY, Int.fdiv_eq_ediv_of_nonneg, Int.tdiv_eq_ediv_of_nonneg, Int.tmod_eq_emod_of_nonneg, chk_pos, decT, decF, br_pos, br_neg, wX, ↓reduceIte, Nat.reduceEqDiff, Nat.reduceAdd, Nat.reduceSub, Nat.reduceMul, Nat.reduceLeDiff, Nat.reduceLT, Nat.reduceMod, Nat.reduceDiv, Int.reduceToNat, Nat.min_eq_left, IntKind.bits, Int.reducePow, Int.reduceLT, Int.reduceLE, Int.reduceEq, Int.reduceNe, Int.reduceAdd, Int.reduceSub, and_self, reduceCtorEq, decide_eq_true_eq, decide_eq_false_iff_not, eq_self, implies_true, exists_const, Option.isNone_some, Option.isNone_none, Option.isSome_some, Option.isSome_none, Option.getD_some]
  refine appB (O := fun y => g4 y = none) (xs := []) OwK.nil (fun _ h => h) (SlK.ext hb E4) (by simp; omega) ?_
  intro w1 g5 o1 f1
  rw [List.nil_append] at o1
  have e5 : Ext g4 g5 := Ext.step (Ext.refl _) f1
  obtain ⟨ma, mc, rfl⟩ := By.len (OwK.s0 o1)
  simp (disch := omega) only [dm_t, wA, wB, wL, wW, wY, Int.fdiv_eq_ediv_of_nonneg, Int.tdiv_eq_ediv_of_nonneg, Int.tmod_eq_emod_of_nonneg, chk_pos, decT, decF, br_pos, br_neg, wX, ↓reduceIte, Nat.reduceEqDiff, Nat.reduceAdd, Nat.reduceSub, Nat.reduceMul, Nat.reduceLeDiff, Nat.reduceLT, Nat.reduceMod, Nat.reduceDiv, Int.reduceToNat, Nat.min_eq_left, IntKind.bits, Int.reducePow, Int.reduceLT, Int.reduceLE, Int.reduceEq, Int.reduceNe, Int.reduceAdd, Int.reduceSub, and_self, reduceCtorEq, decide_eq_true_eq, decide_eq_false_iff_not, eq_self, implies_true, exists_const, Option.isNone_some, Option.isNone_none, Option.isSome_some, Option.isSome_none, Option.getD_some]
  refine (All_ok (OwK.s0 o1) (by omega)).k ?_
  rintro _ g6 ⟨b, w, rfl, nb, qb, ow, e6⟩
  simp (disch := omega) only [dm_t, wA, wB, wL, wW, wY, Int.fdiv_eq_ediv_of_nonneg, Int.tdiv_eq_ediv_of_nonneg, Int.tmod_eq_emod_of_nonneg, chk_pos, decT, decF, br_pos, br_neg, wX, ↓reduceIte, Nat.reduceEqDiff, Nat.reduceAdd, Nat.reduceSub, Nat.reduceMul, Nat.reduceLeDiff, Nat.reduceLT, Nat.reduceMod, Nat.reduceDiv, Int.reduceToNat, Nat.min_eq_left, IntKind.bits, Int.reducePow, Int.reduceLT, Int.reduceLE, Int.reduceEq, Int.reduceNe, Int.reduceAdd, Int.reduceSub, and_self, reduceCtorEq, decide_eq_true_eq, decide_eq_false_iff_not, eq_self, implies_true, exists_const, Option.isNone_some, Option.isNone_none, Option.isSome_some, Option.isSome_none, Option.getD_some]
  refine vc_loop1 (fun vi G => ∃ (i : Nat) (ms : List UInt8), vi = .int .i64 (i : Int) ∧ i ≤ l.length ∧ ms.length = l.length ∧ OwB (fun y => g4 y = none) G 5 (.slice ma l.length mc) ms ∧ OwB (fun y => g5 y = none ∧ y ≠ b) G 5 w l ∧ G b = some (.cells #[w] 22) ∧ Ext g4 G) (fun vi _ => l.length - m1 vi) ?_ ?_
  · simp (disch := omega) only [dm_t, wA, wB, wL, wW, wY, Int.fdiv_eq_ediv_of_nonneg, Int.tdiv_eq_ediv_of_nonneg, Int.tmod_eq_emod_of_nonneg, chk_pos, decT, decF, br_pos, br_neg, wX, ↓reduceIte, Nat.reduceEqDiff, Nat.reduceAdd, Nat.reduceSub, Nat.reduceMul, Nat.reduceLeDiff, Nat.reduceLT, Nat.reduceMod, Nat.reduceDiv, Int.reduceToNat, Nat.min_eq_left, IntKind.bits, Int.reducePow, Int.reduceLT, Int.reduceLE, Int.reduceEq, Int.reduceNe, Int.reduceAdd, Int.reduceSub, and_self, reduceCtorEq, decide_eq_true_eq, decide_eq_false_iff_not, eq_self, implies_true, exists_const, Option.isNone_some, Option.isNone_none, Option.isSome_some, Option.isSome_none, Option.getD_some]
    exact ⟨0, l, rfl, by omega, rfl, OwK.ext o1 e6, ow, qb, e5.trans e6⟩
  rintro _ G ⟨i, ms, rfl, hi, hms, om, ow, qb, E⟩
  by_cases hil : i < l.length
  · obtain ⟨pb, po, i1, c1, O1, a1, st⟩ := OwB.set om i (e := (i : Int)) (kk := .i64) rfl (by omega)
    simp (disch := omega) only [dm_t, wA, wB, wL, wW, wY, Int.fdiv_eq_ediv_of_nonneg, Int.tdiv_eq_ediv_of_nonneg, Int.tmod_eq_emod_of_nonneg, chk_pos, decT, decF, br_pos, br_neg, wX, ↓reduceIte, Nat.reduceEqDiff, Nat.reduceAdd, Nat.reduceSub, Nat.reduceMul, Nat.reduceLeDiff, Nat.reduceLT, Nat.reduceMod, Nat.reduceDiv, Int.reduceToNat, Nat.min_eq_left, IntKind.bits, Int.reducePow, Int.reduceLT, Int.reduceLE, Int.reduceEq, Int.reduceNe, Int.reduceAdd, Int.reduceSub, and_self, reduceCtorEq, decide_eq_true_eq, decide_eq_false_iff_not, eq_self, implies_true, exists_const, Option.isNone_some, Option.isNone_none, Option.isSome_some, Option.isSome_none, Option.getD_some, i1]
    refine st 255 _ _ rfl ?_
    intro G2 om2 f2
    have hg5 : g5 pb ≠ none := OwK.there o1 a1
    have hpb : b ≠ pb := fun hh => hg5 (by rw [← hh]; exact nb)
    simp (disch := omega) only [dm_t, wA, wB, wL, wW, wY, Int.fdiv_eq_ediv_of_nonneg, Int.tdiv_eq_ediv_of_nonneg, Int.tmod_eq_emod_of_nonneg, chk_pos, decT, decF, br_pos, br_neg, wX, ↓reduceIte, Nat.reduceEqDiff, Nat.reduceAdd, Nat.reduceSub, Nat.reduceMul, Nat.reduceLeDiff, Nat.reduceLT, Nat.reduceMod, Nat.reduceDiv, Int.reduceToNat, Nat.min_eq_left, IntKind.bits, Int.reducePow, Int.reduceLT, Int.reduceLE, Int.reduceEq, Int.reduceNe, Int.reduceAdd, Int.reduceSub, and_self, reduceCtorEq, decide_eq_true_eq, decide_eq_false_iff_not, eq_self, implies_true, exists_const, Option.isNone_some, Option.isNone_none, Option.isSome_some, Option.isSome_none, Option.getD_some]
    exact ⟨⟨i + 1, _, by simp, by omega, by rw [List.length_set]; exact hms, om2, OwK.fr ow f2 fun y hy ho _ => by rw [hy] at ho; exact hg5 ho.1, f2 _ _ qb hpb, Ext.step' E f2 fun y hy => by rw [hy]; exact O1⟩, by simp [m1]; omega⟩
  · simp (disch := omega) only [dm_t, wA, wB, wL, wW, wY, Int.fdiv_eq_ediv_of_nonneg, Int.tdiv_eq_ediv_of_nonneg, Int.tmod_eq_emod_of_nonneg, chk_pos, decT, decF, br_pos, br_neg, wX, ↓reduceIte, Nat.reduceEqDiff, Nat.reduceAdd, Nat.reduceSub, Nat.reduceMul, Nat.reduceLeDiff, Nat.reduceLT, Nat.reduceMod, Nat.reduceDiv, Int.reduceToNat, Nat.min_eq_left, IntKind.bits, Int.reducePow, Int.reduceLT, Int.reduceLE, Int.reduceEq, Int.reduceNe, Int.reduceAdd, Int.reduceSub, and_self, reduceCtorEq, decide_eq_true_eq, decide_eq_false_iff_not, eq_self, implies_true, exists_const, Option.isNone_some, Option.isNone_none, Option.isSome_some, Option.isSome_none, Option.getD_some]
    intro tb htb
    refine storeH_all (vs := [_]) (hupd_same _ _ _) rfl rfl ?_
    rw [hupd_hupd]
    have A : AS h G rb lb wb b leave ua uc w l := ⟨((e3.trans e4).trans E).at qr, nr, ((e3.trans e4).trans E).at ql, E.at qw, ru.ext (e4.trans E), qb, OwK.s0 ow, E4.trans E, by omega⟩
    have k := ra_s10 A (Ext.new htb (.cells #[.int .i64 0] 3)) (hupd_same _ _ _) htb
    revert k
    simp (disch := omega) only [dm_t, wA, wB, wL, wW, wY, Int.fdiv_eq_ediv_of_nonneg, Int.tdiv_eq_ediv_of_nonneg, Int.tmod_eq_emod_of_nonneg, chk_pos, decT, decF, br_pos, br_neg, wX, ↓reduceIte, Nat.reduceEqDiff, Nat.reduceAdd, Nat.reduceSub, Nat.reduceMul, Nat.reduceLeDiff, Nat.reduceLT, Nat.reduceMod, Nat.reduceDiv, Int.reduceToNat, Nat.min_eq_left, IntKind.bits, Int.reducePow, Int.reduceLT, Int.reduceLE, Int.reduceEq, Int.reduceNe, Int.reduceAdd, Int.reduceSub, and_self, reduceCtorEq, decide_eq_true_eq, decide_eq_false_iff_not, eq_self, implies_true, exists_const, Option.isNone_some, Option.isNone_none, Option.isSome_some, Option.isSome_none, Option.getD_some]
    exact id
end Go.Proofs.Ytbnjhgfpfajnoaa.rr
