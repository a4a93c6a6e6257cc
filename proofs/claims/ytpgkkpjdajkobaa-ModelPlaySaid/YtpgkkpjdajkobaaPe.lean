/-
  model: ModelPlay, kinds 1 and 2: the call is copied, a record stands behind its own.
-/
import Derived.Test.YtpgkkpjdajkobaaPc
namespace Go.Proofs.Ytpgkkpjdajkobaa.mo
open Go.Proofs.Ytpgkkpjdajkobaa rr
set_option linter.unusedVariables false
set_option linter.unusedSimpArgs false
theorem st_rec {g : H} {cb : Nat} {y : callT.D} {r0 v : Value} {K : H → Prop} (qc : g cb = some (.cells (cCs y r0).toArray 26)) (hv : isCell v = true) (hK : ∀ g', g' cb = some (.cells (cCs y v).toArray 26) → Fr (fun y => y = cb) g g' → K g') : storeH g ⟨cb, 2, none⟩ [v] K := by
  rw [storeH_0 qc]
  exact ⟨by simp, hv, hK _ (by rw [hupd_same]; rfl) (Fr.upd (S := fun y => y = cb) rfl _)⟩
abbrev r42 : List Value := [.int .i64 4242, .slice none 0 0, .slice none 0 0]
/-- The call's copy, and one record more behind its own. -/
structure CR (T : Nat → Prop) (g : H) (cb : Nat) (y : callT.D) (va : Option Addr) (cap : Nat) (rows : List (List Value)) : Prop where
  qc : g cb = some (.cells (cCs y (.slice va y.2.2.1.length cap)).toArray 26)
  nc : ¬ T cb
  ok : OwK 3 T g 55 (.slice va (y.2.2.1.length + 1) cap) (rows ++ [r42])
  rn : rows.length = y.2.2.1.length
  rp : ∀ (i : Nat) r z, rows[i]? = some r → y.2.2.1[i]? = some z → Rep (fun y => ¬ T y) rc g r z
  wr : ∀ r ∈ rows, WRow 5 T g r
section
variable {T B : Nat → Prop} {g g' : H} {cb : Nat} {y : callT.D} {va : Option Addr} {cap : Nat} {rows : List (List Value)}
theorem CR.fr (C : CR T g cb y va cap rows) (f : Fr B g g') (hB : ∀ y, B y → ¬ T y) (hc : ¬ B cb) : CR T g' cb y va cap rows :=
  ⟨f _ _ C.qc hc, C.nc, OwK.fr C.ok f fun y hb ho _ => hB y hb ho, C.rn, fun i r z hr hz => (C.rp i r z hr hz).fr f hB, fun r hr => wrow_fr (C.wr r hr) f hB⟩
theorem CR.ext (C : CR T g cb y va cap rows) (e : Ext g g') : CR T g' cb y va cap rows := C.fr e (fun _ h => h.elim) fun h => h
theorem CR.pre (C : CR T g cb y va cap rows) : OwK 3 T g 55 (.slice va y.2.2.1.length cap) rows := by
  have h := OwK.pre C.ok (m := y.2.2.1.length) (by omega) (by simp [C.rn])
  rwa [List.take_append_of_le_length (by rw [C.rn]; omega), List.take_of_length_le (by rw [C.rn]; omega)] at h
theorem CR.list (C : CR T g cb y va cap rows) : RepL (fun y => ¬ T y) rc g (.slice va y.2.2.1.length cap) y.2.2.1 :=
  repL_iff.2 ⟨rows, OwK.sl C.pre fun x hx h => h hx, C.rn, C.rp⟩
theorem CR.wl (C : CR T g cb y va cap rows) : WL T g (.slice va y.2.2.1.length cap) y.2.2.1.length := ⟨rows, C.pre, C.rn, C.wr⟩
theorem CR.cp (C : CR T g cb y va cap rows) : y.2.2.1.length + 1 ≤ cap := (SlK.cap C.ok.s0).2.1
theorem CR.last (C : CR T g cb y va cap rows) : ∃ b o, idxV1 3 (.slice va (y.2.2.1.length + 1) cap) (.int .i64 (y.2.2.1.length : Int)) = some (.pointer (some ⟨b, o, none⟩)) ∧ cellAt g ⟨b, o, none⟩ = some (.int .i64 4242) := by
  obtain ⟨b, o, h1, _, h2, _⟩ := SlK.row C.ok.s0 (i := rows.length) (by simp) .i64
  have h3 := h2 0 (by omega)
  rw [C.rn] at h1
  refine ⟨b, o, h1, ?_⟩
  simpa using h3
/-- One record is appended to a copy. -/
theorem cr_app {g1 g3 : H} {v : Value} {l : List rc.D} {lb : Nat} {V : Value → H → Prop} (oq : OwQ (WRow 5 fun y => g1 y = none) (fun y => g1 y ≠ none) rc (fun y => g1 y = none) g3 55 v l) (e : Ext g1 g3) (hb : g3 lb = some (.cells r42.toArray 55)) (hl : l.length ≤ 1000000)
    (hV : ∀ va cap rows g4, Ext g1 g4 → OwK 3 (fun y => g1 y = none) g4 55 (.slice va (l.length + 1) cap) (rows ++ [r42]) → rows.length = l.length → (∀ (i : Nat) r z, rows[i]? = some r → l[i]? = some z → Rep (fun y => g1 y ≠ none) rc g4 r z) → (∀ r ∈ rows, WRow 5 (fun y => g1 y = none) g4 r) → V (.slice va (l.length + 1) cap) g4) :
    appM 55 3 56 #[.int .i64 0, .slice none 0 0, .slice none 0 0] v (.slice (some ⟨lb, 0, none⟩) 1 1) g3 V := by
  obtain ⟨rows, h1, h2, h3, h4⟩ := oq
  have hsl : SlK 3 nos g3 (.slice (some ⟨lb, 0, none⟩) 1 1) [r42] := by
    refine ⟨fun r hr => ?_, .inr ⟨lb, 0, 1, r42.toArray, 55, (0, 0), rfl, hb, by simp, by simp, ?_, id⟩⟩
    · simp only [List.mem_singleton] at hr; rw [hr]; rfl
    · intro m hm
      have : flat [r42] = r42 := by simp [flat]
      simp [this]
  obtain ⟨s1, s2⟩ := SlK.src hsl
  refine app_ow h1 (fun b hb => e.bk hb) hsl.rect s1 (s2 _ (Nat.le_refl _)) (by simp [flat, isCell]) (by rfl) (by rw [h2]; simp; omega) (by rw [h2]; simp; omega) ?_
  intro v' g4 o4 f4 hat
  have f4' : Fr (isAt v) g3 g4 := f4.mono fun y hy => hy.2
  obtain ⟨va, cap, rfl⟩ := SlK.len o4.s0
  have hlen : (rows ++ [r42]).length = l.length + 1 := by simp [h2]
  rw [hlen] at o4 ⊢
  refine hV va cap rows g4 (Ext.step e f4) o4 h2 ?_ ?_
  · intro i r z hr hz
    exact ((h3 i r z hr hz).fr f4' fun y hy => .inl hy).mono fun y _ _ hy => .inr hy
  · intro r hr
    exact (h4 r hr).fr (by decide) h1 f4' fun y hy => hy
end
section
variable {h g g' : H} {L : List Nat} {p q rp wp : Nat} {pv qv rv wv : Value} {vs ws rs zs : List Value} {ps qs : List (List rc.D)} {x : stepT.D} {c d sv : Value} {n i sb : Nat}
theorem pl_a {Q : Post} (E : Ext h g) (K : SP h x c d) (k : g sb = some (.cells (sCs x c d).toArray 39)) (h12 : @Eq Int x.1 1 ∨ @Eq Int x.1 2)
    (hQ : ∀ (G : H) (cb : Nat) (va : Option Addr) (cap : Nat) (rows : List (List Value)), g cb = none → G cb ≠ none → Ext g G → CR (fun y => g y = none ∧ G y ≠ none ∧ y ≠ cb) G cb x.2.2.2.1 va cap rows → vc Try.prog c5_s13 (blockQ 2 (seqQ Try.prog [0, 1, 5, 7, 8, 9, 10, 11, 12] c5_s36 Q)) [(0, .int .i64 (n : Int)), (1, sv), (5, .pointer (some ⟨p, 0, none⟩)), (7, .pointer (some ⟨rp, 0, none⟩)), (8, .pointer (some ⟨q, 0, none⟩)), (9, .pointer (some ⟨wp, 0, none⟩)), (10, .int .i64 (i : Int)), (11, .pointer (some ⟨sb, 0, none⟩)), (13, .pointer (some ⟨cb, 0, none⟩))] G) : vc Try.prog c5_s10 Q [(0, .int .i64 (n : Int)), (1, sv), (5, .pointer (some ⟨p, 0, none⟩)), (7, .pointer (some ⟨rp, 0, none⟩)), (8, .pointer (some ⟨q, 0, none⟩)), (9, .pointer (some ⟨wp, 0, none⟩)), (10, .int .i64 (i : Int)), (11, .pointer (some ⟨sb, 0, none⟩)), (12, .bool true)] g := by
  have s := sbC k
  have c0 := s.c0
  obtain ⟨c', e', _, hcr⟩ := rep_call.1 K.rc1
  simp only [List.cons.injEq, and_true, true_and] at e'
  subst e'
  obtain ⟨ca, cc, rfl⟩ := hcr.len
  have hl1 := K.l1
  have hk1 : ∀ r ∈ x.2.2.2.1.2.2.1, r.2.1.length ≤ 140737488355328 ∧ r.2.2.length ≤ 140737488355328 := fun r hr => by have := K.k1 r hr; omega
  have go : vc Try.prog c5_t4 (blockQ 2 (seqQ Try.prog [0, 1, 5, 7, 8, 9, 10, 11, 12] c5_s36 Q)) [(0, .int .i64 (n : Int)), (1, sv), (5, .pointer (some ⟨p, 0, none⟩)), (7, .pointer (some ⟨rp, 0, none⟩)), (8, .pointer (some ⟨q, 0, none⟩)), (9, .pointer (some ⟨wp, 0, none⟩)), (10, .int .i64 (i : Int)), (11, .pointer (some ⟨sb, 0, none⟩)), (12, .bool true), (69, .int .i64 x.1), (70, .bool true)] g := by
    simp (disch := omega) only [dm_t, wA, wB, wL, wW, wY, Int.fdiv_eq_ediv_of_nonneg, Int.tdiv_eq_ediv_of_nonneg, Int.tmod_eq_emod_of_nonneg, chk_pos, decT, decF, br_pos, br_neg, wX, ↓reduceIte, Nat.reduceEqDiff, Nat.reduceAdd, Nat.reduceSub, Nat.reduceMul, Nat.reduceLeDiff, Nat.reduceLT, Nat.reduceMod, Nat.reduceDiv, Int.reduceToNat, Nat.min_eq_left, IntKind.bits, Int.reducePow, Int.reduceLT, Int.reduceLE, Int.reduceEq, Int.reduceNe, Int.reduceAdd, Int.reduceSub, and_self, reduceCtorEq, decide_eq_true_eq, decide_eq_false_iff_not, eq_self, implies_true, exists_const, Option.isNone_some, Option.isNone_none, Option.isSome_some, Option.isSome_none, Option.getD_some, s.cc]
    intro cb hcb
    refine res5 x.2.2.2.1 _ (hupd_same _ _ _) rfl rfl ?_
    intro g1 qc f1
    have e1 : Ext g g1 := Ext.step' (Ext.new hcb _) f1 fun y hy => by rw [hy]; exact hcb
    have hcr1 := hcr.ext (E.trans e1)
    have fin : ∀ va cap rows g4, Ext g1 g4 → OwK 3 (fun y => g1 y = none) g4 55 (.slice va (x.2.2.2.1.2.2.1.length + 1) cap) (rows ++ [r42]) → rows.length = x.2.2.2.1.2.2.1.length → (∀ (i : Nat) r z, rows[i]? = some r → x.2.2.2.1.2.2.1[i]? = some z → Rep (fun y => g1 y ≠ none) rc g4 r z) → (∀ r ∈ rows, WRow 5 (fun y => g1 y = none) g4 r) →
        ∀ g5, g5 cb = some (.cells (cCs x.2.2.2.1 (.slice va x.2.2.2.1.2.2.1.length cap)).toArray 26) → Fr (fun y => y = cb) g4 g5 → vc Try.prog c5_s13 (blockQ 2 (seqQ Try.prog [0, 1, 5, 7, 8, 9, 10, 11, 12] c5_s36 Q)) [(0, .int .i64 (n : Int)), (1, sv), (5, .pointer (some ⟨p, 0, none⟩)), (7, .pointer (some ⟨rp, 0, none⟩)), (8, .pointer (some ⟨q, 0, none⟩)), (9, .pointer (some ⟨wp, 0, none⟩)), (10, .int .i64 (i : Int)), (11, .pointer (some ⟨sb, 0, none⟩)), (13, .pointer (some ⟨cb, 0, none⟩))] g5 := by
      intro va cap rows g4 e4 ok hrl hrep hwr g5 q5 f5
      have hgc : g1 cb ≠ none := by rw [qc]; simp
      have ok5 : OwK 3 (fun y => g1 y = none) g5 55 (.slice va (x.2.2.2.1.2.2.1.length + 1) cap) (rows ++ [r42]) := OwK.fr ok f5 fun y hy ho _ => hgc (hy ▸ ho)
      have hT : ∀ y o, g5 y = some o → g1 y = none → (g y = none ∧ g5 y ≠ none ∧ y ≠ cb) := fun y o hy hn => ⟨e1.bk hn, by rw [hy]; simp, fun hh => hgc (hh ▸ hn)⟩
      refine hQ g5 cb va cap rows hcb (by rw [q5]; simp) (Ext.step' (e1.trans e4) f5 fun y hy => by rw [hy]; exact hcb) ⟨q5, fun hh => hh.2.2 rfl, OwK.mono ok5 hT, hrl, fun i r z hr hz => ?_, fun r hr => ?_⟩
      · refine ((hrep i r z hr hz).fr f5 fun y hy => by rw [hy]; exact hgc).mono fun y o hy hn hg => hn (hT y o hy hg)
      · exact (wrow_fr (hwr r hr) f5 fun y hy ho => hgc (hy ▸ ho)).mono fun y o hy hn => hT y o hy hn
    simp (disch := omega) only [dm_t, wA, wB, wL, wW, wY, Int.fdiv_eq_ediv_of_nonneg, Int.tdiv_eq_ediv_of_nonneg, Int.tmod_eq_emod_of_nonneg, chk_pos, decT, decF, br_pos, br_neg, wX, ↓reduceIte, Nat.reduceEqDiff, Nat.reduceAdd, Nat.reduceSub, Nat.reduceMul, Nat.reduceLeDiff, Nat.reduceLT, Nat.reduceMod, Nat.reduceDiv, Int.reduceToNat, Nat.min_eq_left, IntKind.bits, Int.reducePow, Int.reduceLT, Int.reduceLE, Int.reduceEq, Int.reduceNe, Int.reduceAdd, Int.reduceSub, and_self, reduceCtorEq, decide_eq_true_eq, decide_eq_false_iff_not, eq_self, implies_true, exists_const, Option.isNone_some, Option.isNone_none, Option.isSome_some, Option.isSome_none, Option.getD_some, (caC qc).c2]
    refine ⟨?_, ?_⟩
    · refine (DCopy_ok hcr1 (by omega) hk1).k ?_
      rintro v g2 ⟨oq, e2⟩
      obtain ⟨va, vn, rfl⟩ := oq.l.len
      simp (disch := omega) only [dm_t, wA, wB, wL, wW, wY, Int.fdiv_eq_ediv_of_nonneg, Int.tdiv_eq_ediv_of_nonneg, Int.tmod_eq_emod_of_nonneg, chk_pos, decT, decF, br_pos, br_neg, wX, ↓reduceIte, Nat.reduceEqDiff, Nat.reduceAdd, Nat.reduceSub, Nat.reduceMul, Nat.reduceLeDiff, Nat.reduceLT, Nat.reduceMod, Nat.reduceDiv, Int.reduceToNat, Nat.min_eq_left, IntKind.bits, Int.reducePow, Int.reduceLT, Int.reduceLE, Int.reduceEq, Int.reduceNe, Int.reduceAdd, Int.reduceSub, and_self, reduceCtorEq, decide_eq_true_eq, decide_eq_false_iff_not, eq_self, implies_true, exists_const, Option.isNone_some, Option.isNone_none, Option.isSome_some, Option.isSome_none, Option.getD_some, (caC (e2.at qc)).c2]
      intro lb hlb
      generalize hG : hupd g2 lb _ = g3
      obtain ⟨e3, qb⟩ := new_ext hG hlb
      clear hG
      simp (disch := omega) only [dm_t, wA, wB, wL, wW, wY, Int.fdiv_eq_ediv_of_nonneg, Int.tdiv_eq_ediv_of_nonneg, Int.tmod_eq_emod_of_nonneg, chk_pos, decT, decF, br_pos, br_neg, wX, ↓reduceIte, Nat.reduceEqDiff, Nat.reduceAdd, Nat.reduceSub, Nat.reduceMul, Nat.reduceLeDiff, Nat.reduceLT, Nat.reduceMod, Nat.reduceDiv, Int.reduceToNat, Nat.min_eq_left, IntKind.bits, Int.reducePow, Int.reduceLT, Int.reduceLE, Int.reduceEq, Int.reduceNe, Int.reduceAdd, Int.reduceSub, and_self, reduceCtorEq, decide_eq_true_eq, decide_eq_false_iff_not, eq_self, implies_true, exists_const, Option.isNone_some, Option.isNone_none, Option.isSome_some, Option.isSome_none, Option.getD_some, (caC (e3.at (e2.at qc))).c2]
      refine cr_app (oq.ext e3 fun r hr => hr.ext e3) (e2.trans e3) qb (by omega) ?_
      intro va cap rows g4 e4 ok hrl hrep hwr
      have hcap := (SlK.cap ok.s0).2.1
      simp (disch := omega) only [dm_t, wA, wB, wL, wW, wY, Int.fdiv_eq_ediv_of_nonneg, Int.tdiv_eq_ediv_of_nonneg, Int.tmod_eq_emod_of_nonneg, chk_pos, decT, decF, br_pos, br_neg, wX, ↓reduceIte, Nat.reduceEqDiff, Nat.reduceAdd, Nat.reduceSub, Nat.reduceMul, Nat.reduceLeDiff, Nat.reduceLT, Nat.reduceMod, Nat.reduceDiv, Int.reduceToNat, Nat.min_eq_left, IntKind.bits, Int.reducePow, Int.reduceLT, Int.reduceLE, Int.reduceEq, Int.reduceNe, Int.reduceAdd, Int.reduceSub, and_self, reduceCtorEq, decide_eq_true_eq, decide_eq_false_iff_not, eq_self, implies_true, exists_const, Option.isNone_some, Option.isNone_none, Option.isSome_some, Option.isSome_none, Option.getD_some, (caC (e4.at qc)).c2]
      refine slc_pre _ rfl rfl (by omega) ?_
      simp (disch := omega) only [dm_t, wA, wB, wL, wW, wY, Int.fdiv_eq_ediv_of_nonneg, Int.tdiv_eq_ediv_of_nonneg, Int.tmod_eq_emod_of_nonneg, chk_pos, decT, decF, br_pos, br_neg, wX, ↓reduceIte, Nat.reduceEqDiff, Nat.reduceAdd, Nat.reduceSub, Nat.reduceMul, Nat.reduceLeDiff, Nat.reduceLT, Nat.reduceMod, Nat.reduceDiv, Int.reduceToNat, Nat.min_eq_left, IntKind.bits, Int.reducePow, Int.reduceLT, Int.reduceLE, Int.reduceEq, Int.reduceNe, Int.reduceAdd, Int.reduceSub, and_self, reduceCtorEq, decide_eq_true_eq, decide_eq_false_iff_not, eq_self, implies_true, exists_const, Option.isNone_some, Option.isNone_none, Option.isSome_some, Option.isSome_none, Option.getD_some]
      refine st_rec (e4.at qc) rfl fun g5 q5 f5 => ?_
      have k9 := fin va cap rows g4 e4 ok hrl hrep hwr g5 q5 f5
      simp (disch := omega) only [dm_t, wA, wB, wL, wW, wY, Int.fdiv_eq_ediv_of_nonneg, Int.tdiv_eq_ediv_of_nonneg, Int.tmod_eq_emod_of_nonneg, chk_pos, decT, decF, br_pos, br_neg, wX, ↓reduceIte, Nat.reduceEqDiff, Nat.reduceAdd, Nat.reduceSub, Nat.reduceMul, Nat.reduceLeDiff, Nat.reduceLT, Nat.reduceMod, Nat.reduceDiv, Int.reduceToNat, Nat.min_eq_left, IntKind.bits, Int.reducePow, Int.reduceLT, Int.reduceLE, Int.reduceEq, Int.reduceNe, Int.reduceAdd, Int.reduceSub, and_self, reduceCtorEq, decide_eq_true_eq, decide_eq_false_iff_not, eq_self, implies_true, exists_const, Option.isNone_some, Option.isNone_none, Option.isSome_some, Option.isSome_none, Option.getD_some, k9]
    · intro lb hlb
      generalize hG : hupd g1 lb _ = g2
      obtain ⟨e2, qb⟩ := new_ext hG hlb
      clear hG
      simp (disch := omega) only [dm_t, wA, wB, wL, wW, wY, Int.fdiv_eq_ediv_of_nonneg, Int.tdiv_eq_ediv_of_nonneg, Int.tmod_eq_emod_of_nonneg, chk_pos, decT, decF, br_pos, br_neg, wX, ↓reduceIte, Nat.reduceEqDiff, Nat.reduceAdd, Nat.reduceSub, Nat.reduceMul, Nat.reduceLeDiff, Nat.reduceLT, Nat.reduceMod, Nat.reduceDiv, Int.reduceToNat, Nat.min_eq_left, IntKind.bits, Int.reducePow, Int.reduceLT, Int.reduceLE, Int.reduceEq, Int.reduceNe, Int.reduceAdd, Int.reduceSub, and_self, reduceCtorEq, decide_eq_true_eq, decide_eq_false_iff_not, eq_self, implies_true, exists_const, Option.isNone_some, Option.isNone_none, Option.isSome_some, Option.isSome_none, Option.getD_some, (caC (e2.at qc)).c2]
      refine (DCopy_ok (hcr1.ext e2) (by omega) hk1).k ?_
      rintro v g3 ⟨oq, e3⟩
      obtain ⟨va, vn, rfl⟩ := oq.l.len
      simp (disch := omega) only [dm_t, wA, wB, wL, wW, wY, Int.fdiv_eq_ediv_of_nonneg, Int.tdiv_eq_ediv_of_nonneg, Int.tmod_eq_emod_of_nonneg, chk_pos, decT, decF, br_pos, br_neg, wX, ↓reduceIte, Nat.reduceEqDiff, Nat.reduceAdd, Nat.reduceSub, Nat.reduceMul, Nat.reduceLeDiff, Nat.reduceLT, Nat.reduceMod, Nat.reduceDiv, Int.reduceToNat, Nat.min_eq_left, IntKind.bits, Int.reducePow, Int.reduceLT, Int.reduceLE, Int.reduceEq, Int.reduceNe, Int.reduceAdd, Int.reduceSub, and_self, reduceCtorEq, decide_eq_true_eq, decide_eq_false_iff_not, eq_self, implies_true, exists_const, Option.isNone_some, Option.isNone_none, Option.isSome_some, Option.isSome_none, Option.getD_some, (caC (e3.at (e2.at qc))).c2]
      refine cr_app (oq.imp (fun y hy hn => hy (e2.bk hn)) (fun y _ _ hy => e2.bk hy) fun r hr => hr.mono fun y _ _ hy => e2.bk hy) (e2.trans e3) (e3.at qb) (by omega) ?_
      intro va cap rows g4 e4 ok hrl hrep hwr
      have hcap := (SlK.cap ok.s0).2.1
      simp (disch := omega) only [dm_t, wA, wB, wL, wW, wY, Int.fdiv_eq_ediv_of_nonneg, Int.tdiv_eq_ediv_of_nonneg, Int.tmod_eq_emod_of_nonneg, chk_pos, decT, decF, br_pos, br_neg, wX, ↓reduceIte, Nat.reduceEqDiff, Nat.reduceAdd, Nat.reduceSub, Nat.reduceMul, Nat.reduceLeDiff, Nat.reduceLT, Nat.reduceMod, Nat.reduceDiv, Int.reduceToNat, Nat.min_eq_left, IntKind.bits, Int.reducePow, Int.reduceLT, Int.reduceLE, Int.reduceEq, Int.reduceNe, Int.reduceAdd, Int.reduceSub, and_self, reduceCtorEq, decide_eq_true_eq, decide_eq_false_iff_not, eq_self, implies_true, exists_const, Option.isNone_some, Option.isNone_none, Option.isSome_some, Option.isSome_none, Option.getD_some, (caC (e4.at qc)).c2]
      refine slc_pre _ rfl rfl (by omega) ?_
      simp (disch := omega) only [dm_t, wA, wB, wL, wW, wY, Int.fdiv_eq_ediv_of_nonneg, Int.tdiv_eq_ediv_of_nonneg, Int.tmod_eq_emod_of_nonneg, chk_pos, decT, decF, br_pos, br_neg, wX, ↓reduceIte, Nat.reduceEqDiff, Nat.reduceAdd, Nat.reduceSub, Nat.reduceMul, Nat.reduceLeDiff, Nat.reduceLT, Nat.reduceMod, Nat.reduceDiv, Int.reduceToNat, Nat.min_eq_left, IntKind.bits, Int.reducePow, Int.reduceLT, Int.reduceLE, Int.reduceEq, Int.reduceNe, Int.reduceAdd, Int.reduceSub, and_self, reduceCtorEq, decide_eq_true_eq, decide_eq_false_iff_not, eq_self, implies_true, exists_const, Option.isNone_some, Option.isNone_none, Option.isSome_some, Option.isSome_none, Option.getD_some]
      refine st_rec (e4.at qc) rfl fun g5 q5 f5 => ?_
      have k9 := fin va cap rows g4 e4 ok hrl hrep hwr g5 q5 f5
      simp (disch := omega) only [dm_t, wA, wB, wL, wW, wY, Int.fdiv_eq_ediv_of_nonneg, Int.tdiv_eq_ediv_of_nonneg, Int.tmod_eq_emod_of_nonneg, chk_pos, decT, decF, br_pos, br_neg, wX, ↓reduceIte, Nat.reduceEqDiff, Nat.reduceAdd, Nat.reduceSub, Nat.reduceMul, Nat.reduceLeDiff, Nat.reduceLT, Nat.reduceMod, Nat.reduceDiv, Int.reduceToNat, Nat.min_eq_left, IntKind.bits, Int.reducePow, Int.reduceLT, Int.reduceLE, Int.reduceEq, Int.reduceNe, Int.reduceAdd, Int.reduceSub, and_self, reduceCtorEq, decide_eq_true_eq, decide_eq_false_iff_not, eq_self, implies_true, exists_const, Option.isNone_some, Option.isNone_none, Option.isSome_some, Option.isSome_none, Option.getD_some, k9]
  rcases h12 with h1 | h1
  · rw [h1] at c0 go
    simp (disch := omega) only [dm_t, wA, wB, wL, wW, wY, Int.fdiv_eq_ediv_of_nonneg, Int.tdiv_eq_ediv_of_nonneg, Int.tmod_eq_emod_of_nonneg, chk_pos, decT, decF, br_pos, br_neg, wX, ↓reduceIte, Nat.reduceEqDiff, Nat.reduceAdd, Nat.reduceSub, Nat.reduceMul, Nat.reduceLeDiff, Nat.reduceLT, Nat.reduceMod, Nat.reduceDiv, Int.reduceToNat, Nat.min_eq_left, IntKind.bits, Int.reducePow, Int.reduceLT, Int.reduceLE, Int.reduceEq, Int.reduceNe, Int.reduceAdd, Int.reduceSub, and_self, reduceCtorEq, decide_eq_true_eq, decide_eq_false_iff_not, eq_self, implies_true, exists_const, Option.isNone_some, Option.isNone_none, Option.isSome_some, Option.isSome_none, Option.getD_some, c0, go]
  · rw [h1] at c0 go
    simp (disch := omega) only [dm_t, wA, wB, wL, wW, wY, Int.fdiv_eq_ediv_of_nonneg, Int.tdiv_eq_ediv_of_nonneg, Int.tmod_eq_emod_of_nonneg, chk_pos, decT, decF, br_pos, br_neg, wX, ↓reduceIte, Nat.reduceEqDiff, Nat.reduceAdd, Nat.reduceSub, Nat.reduceMul, Nat.reduceLeDiff, Nat.reduceLT, Nat.reduceMod, Nat.reduceDiv, Int.reduceToNat, Nat.min_eq_left, IntKind.bits, Int.reducePow, Int.reduceLT, Int.reduceLE, Int.reduceEq, Int.reduceNe, Int.reduceAdd, Int.reduceSub, and_self, reduceCtorEq, decide_eq_true_eq, decide_eq_false_iff_not, eq_self, implies_true, exists_const, Option.isNone_some, Option.isNone_none, Option.isSome_some, Option.isSome_none, Option.getD_some, c0, go]
end
end Go.Proofs.Ytpgkkpjdajkobaa.mo
namespace Go.Proofs.Ytpgkkpjdajkobaa.mo
open Go.Proofs.Ytpgkkpjdajkobaa rr
set_option linter.unusedVariables false
set_option linter.unusedSimpArgs false
/-- What was told: its memory is T2. -/
def AN (T2 : Nat → Prop) (g : H) (w : Value) (r : replyT.D) : Prop := OwQ (WRow 5 T2) (fun y => ¬ T2 y) rc T2 g 55 w r.2.2
section
variable {A B T T2 : Nat → Prop} {h g g' : H} {L : List Nat} {p q rp wp : Nat} {pv qv rv wv w : Value} {vs ws rs zs : List Value} {ps ps' qs : List (List rc.D)} {r : replyT.D}
theorem AN.fr (N : AN T2 g w r) (f : Fr B g g') (hB : ∀ y, B y → ¬ T2 y) : AN T2 g' w r := OwQ.fr N f hB (fun y hy ho => absurd ho (hB y hy)) fun r hr => wrow_fr hr f hB
theorem AN.wl (N : AN T2 g w r) : WL T2 g w r.2.2.length := by
  obtain ⟨rows, h1, h2, h3, h4⟩ := N
  exact ⟨rows, h1, h2, h4⟩
theorem AN.rep (N : AN T2 g w r) : RepL nos rc g w r.2.2 := (OwQ.l N).mono0.repS fun _ _ h => h
theorem YR.an {cs : List Value} (y : YR g g' cs r) : ∃ w, cs = yCs r w ∧ yB r ∧ AN (fun y => g y = none ∧ g' y ≠ none) g' w r := by
  obtain ⟨v, h1, h2, rows, h3, h4, h5, h6⟩ := y
  refine ⟨v, h1, h2, rows, OwK.mono h3 fun y o hy hn => ⟨hn, by rw [hy]; simp⟩, h4, fun i r x hr hx => ?_, fun r hr => (h6 r hr).mono fun y o hy hn => ⟨hn, by rw [hy]; simp⟩⟩
  refine (h5 i r x hr hx).mono fun y o hy hs => hs.elim .inl fun hs => .inr fun hn => hs ⟨hn, by rw [hy]; simp⟩
/-- The program's Do, the others beside it. -/
theorem PT.Do {cs : List Value} {y : callT.D} (P : PT A h g p q rp wp pv qv rv wv vs ws rs zs ps ps' qs) (hx : Rep nos callT g cs y) (hl : lims y.2.2.1) (hps : ∀ l ∈ ps, lims l) :
    Ok Try.prog 10 #[.pointer (some ⟨p, 0, none⟩), .agg cs.toArray] g fun v g' => ∃ w vs' T2, v = .agg (yCs (tryP ps y) w).toArray ∧ yB (tryP ps y) ∧ AN T2 g' w (tryP ps y) ∧ PT (fun y => A y ∨ T2 y) h g' p q rp wp pv qv rv wv vs' ws rs zs (doP ps y) ps' qs ∧ (∀ y, T2 y → g y = none) ∧ Fr (MF p pv vs) g g' := by
  refine (Do2_ok P.X P.E (fun y hy => P.there (.inr hy)) hx hl hps).mono ?_
  rintro v g' ⟨cs', rfl, ⟨hy, hcs⟩, ⟨vs', X', hM, hvs⟩, f⟩
  by_cases h1 : @Eq Int y.1 1
  · have h2 := hcs h1
    have h3 := tryP_put (ps := ps) h1
    subst h2
    obtain ⟨_, _, hyb, _⟩ := hy.an
    refine ⟨_, vs', nos, rfl, hyb, ?_, (P.mstep X' hM f).grow (Ext.refl _) (fun y hy => hy.imp id fun h => h.elim) (.inl P.mr) (.inl P.mw), fun _ h => h.elim, f⟩
    unfold AN
    rw [h3]
    exact OwQ.nil
  · obtain ⟨rfl, e⟩ := hvs h1
    obtain ⟨w, rfl, hyb, N⟩ := hy.an
    have hd : doP ps y = ps := by rw [doP, if_neg fun h => h1 h.1]
    rw [hd]
    exact ⟨w, vs', _, rfl, hyb, N, P.grow e (fun y hy => hy) (.inl P.mr) (.inl P.mw), fun y hy => hy.1, f⟩
theorem PT.Try {cs : List Value} {y : callT.D} (P : PT A h g p q rp wp pv qv rv wv vs ws rs zs ps ps' qs) (hx : Rep nos callT g cs y) (hl : lims y.2.2.1) (hps : ∀ l ∈ ps, lims l) :
    Ok Try.prog 21 #[.pointer (some ⟨p, 0, none⟩), .agg cs.toArray] g fun v g' => ∃ w T2, v = .agg (yCs (tryP ps y) w).toArray ∧ yB (tryP ps y) ∧ AN T2 g' w (tryP ps y) ∧ PT (fun y => A y ∨ T2 y) h g' p q rp wp pv qv rv wv vs ws rs zs ps ps' qs ∧ (∀ y, T2 y → g y = none) ∧ Ext g g' := by
  refine (Try_ok P.X hx (by have := hl.1; omega) hps).mono ?_
  rintro v g' ⟨cs', rfl, ⟨hy, hcs⟩, e⟩
  obtain ⟨w, rfl, hyb, N⟩ := hy.an
  exact ⟨w, _, rfl, hyb, N, P.grow e (fun y hy => hy) (.inl P.mr) (.inl P.mw), fun y hy => hy.1, e⟩
theorem PT.st {d : Nat} {o : Obj} (P : PT A h g p q rp wp pv qv rv wv vs ws rs zs ps ps' qs) (f : Fr (fun y => y = d) g g') (hd : A d) (hq : g' d = some o) (nr : rp ≠ d) (nw : wp ≠ d) : PT A h g' p q rp wp pv qv rv wv vs ws rs zs ps ps' qs :=
  P.write f (fun y hy => hy ▸ hd) (fun y hy => ⟨hy, fun h => by rw [h, hq]; simp⟩) P.mr P.mw nr nw
variable {x : stepT.D} {c d sv w2 : Value} {n i sb cb ab bb cap : Nat} {va : Option Addr} {rows : List (List Value)}
theorem pl_b {Q : Post} (P : PT (fun y => (y ∈ bb :: ab :: cb :: L ∨ T y) ∨ T2 y) h g p q rp wp pv qv rv wv vs ws rs zs ps ps qs) (hr : rp ∈ L) (hw : wp ∈ L) (ms : sb ∈ L) (n1 : ∀ y ∈ bb :: ab :: cb :: L, ¬ T y ∧ ¬ T2 y) (n2 : ∀ y, T2 y → ¬ T y) (C : CR T g cb x.2.2.2.1 va cap rows) (N : AN T2 g w r)
    (qa : g ab = some (.cells (yCs r w).toArray 36)) (qb : g bb = some (.cells (yCs r w2).toArray 36)) (r2 : RepL nos rc g w2 r.2.2) (hyB : yB r) (hrl : r.2.2.length ≤ 1000000) (k : g sb = some (.cells (sCs x c d).toArray 39)) (K : SP h x c d)
    (hQ : ∀ G, PX L h G p q rp wp pv qv rv wv vs ws rs zs ps qs → G sb = some (.cells (sCs x c d).toArray 39) → vc Try.prog c5_s36 Q [(0, .int .i64 (n : Int)), (1, sv), (5, .pointer (some ⟨p, 0, none⟩)), (7, .pointer (some ⟨rp, 0, none⟩)), (8, .pointer (some ⟨q, 0, none⟩)), (9, .pointer (some ⟨wp, 0, none⟩)), (10, .int .i64 (i : Int)), (11, .pointer (some ⟨sb, 0, none⟩)), (12, .bool true)] G) : vc Try.prog c5_s15 (blockQ 2 (seqQ Try.prog [0, 1, 5, 7, 8, 9, 10, 11, 12] c5_s36 Q)) [(0, .int .i64 (n : Int)), (1, sv), (5, .pointer (some ⟨p, 0, none⟩)), (7, .pointer (some ⟨rp, 0, none⟩)), (8, .pointer (some ⟨q, 0, none⟩)), (9, .pointer (some ⟨wp, 0, none⟩)), (10, .int .i64 (i : Int)), (11, .pointer (some ⟨sb, 0, none⟩)), (13, .pointer (some ⟨cb, 0, none⟩)), (14, .pointer (some ⟨ab, 0, none⟩)), (15, .pointer (some ⟨bb, 0, none⟩))] g := by
  obtain ⟨wa, wc, rfl⟩ := (OwQ.l N).len
  have hL : ∀ y ∈ L, y ∈ bb :: ab :: cb :: L := fun y hy => by simp [hy]
  have hab : ab ∈ bb :: ab :: cb :: L := by simp
  have hl1 := K.l1
  obtain ⟨c', e', _, hcr⟩ := rep_call.1 K.rc1
  simp only [List.cons.injEq, and_true, true_and] at e'
  subst e'
  simp (disch := omega) only [dm_t, wA, wB, wL, wW, wY, Int.fdiv_eq_ediv_of_nonneg, Int.tdiv_eq_ediv_of_nonneg, Int.tmod_eq_emod_of_nonneg, chk_pos, decT, decF, br_pos, br_neg, wX, ↓reduceIte, Nat.reduceEqDiff, Nat.reduceAdd, Nat.reduceSub, Nat.reduceMul, Nat.reduceLeDiff, Nat.reduceLT, Nat.reduceMod, Nat.reduceDiv, Int.reduceToNat, Nat.min_eq_left, IntKind.bits, Int.reducePow, Int.reduceLT, Int.reduceLE, Int.reduceEq, Int.reduceNe, Int.reduceAdd, Int.reduceSub, and_self, reduceCtorEq, decide_eq_true_eq, decide_eq_false_iff_not, eq_self, implies_true, exists_const, Option.isNone_some, Option.isNone_none, Option.isSome_some, Option.isSome_none, Option.getD_some, cellsAt_all qa 3 rfl, cellsAt_all qb 3 rfl]
  refine (SameReply_ok (rep_reply.2 ⟨_, rfl, hyB, N.rep⟩) (rep_reply.2 ⟨_, rfl, hyB, r2⟩) (by omega)).k ?_
  rintro _ g2 ⟨rfl, e2⟩
  have C2 := C.ext e2
  simp (disch := omega) only [dm_t, wA, wB, wL, wW, wY, Int.fdiv_eq_ediv_of_nonneg, Int.tdiv_eq_ediv_of_nonneg, Int.tmod_eq_emod_of_nonneg, chk_pos, decT, decF, br_pos, br_neg, wX, ↓reduceIte, Nat.reduceEqDiff, Nat.reduceAdd, Nat.reduceSub, Nat.reduceMul, Nat.reduceLeDiff, Nat.reduceLT, Nat.reduceMod, Nat.reduceDiv, Int.reduceToNat, Nat.min_eq_left, IntKind.bits, Int.reducePow, Int.reduceLT, Int.reduceLE, Int.reduceEq, Int.reduceNe, Int.reduceAdd, Int.reduceSub, and_self, reduceCtorEq, decide_eq_true_eq, decide_eq_false_iff_not, eq_self, implies_true, exists_const, Option.isNone_some, Option.isNone_none, Option.isSome_some, Option.isSome_none, Option.getD_some, (caC C2.qc).c2, (sbC (e2.at k)).c5]
  refine (DSameAll_ok C2.list (hcr.ext (P.E.trans e2)) (by omega)).k ?_
  rintro _ g3 ⟨rfl, e3⟩
  have C3 := C2.ext e3
  have e23 := e2.trans e3
  obtain ⟨b0, o0, i0, t0⟩ := C3.last
  have hcp := C3.cp
  simp (disch := omega) only [dm_t, wA, wB, wL, wW, wY, Int.fdiv_eq_ediv_of_nonneg, Int.tdiv_eq_ediv_of_nonneg, Int.tmod_eq_emod_of_nonneg, chk_pos, decT, decF, br_pos, br_neg, wX, ↓reduceIte, Nat.reduceEqDiff, Nat.reduceAdd, Nat.reduceSub, Nat.reduceMul, Nat.reduceLeDiff, Nat.reduceLT, Nat.reduceMod, Nat.reduceDiv, Int.reduceToNat, Nat.min_eq_left, IntKind.bits, Int.reducePow, Int.reduceLT, Int.reduceLE, Int.reduceEq, Int.reduceNe, Int.reduceAdd, Int.reduceSub, and_self, reduceCtorEq, decide_eq_true_eq, decide_eq_false_iff_not, eq_self, implies_true, exists_const, Option.isNone_some, Option.isNone_none, Option.isSome_some, Option.isSome_none, Option.getD_some, (caC C3.qc).c2]
  refine slc_pre (x.2.2.2.1.2.2.1.length + 1) (by simp) rfl (by omega) ?_
  have P3 := P.ext e23
  have N3 := N.fr e23 fun _ h => h.elim
  have k3 := e23.at k
  have qa3 := e23.at qa
  have k9 := pk1 (g := g3) (T := T) (z0 := .int .i64 (n : Int)) (z1 := sv) (z5 := .pointer (some ⟨p, 0, none⟩)) (z7 := .pointer (some ⟨rp, 0, none⟩)) (z8 := .pointer (some ⟨q, 0, none⟩)) (z9 := .pointer (some ⟨wp, 0, none⟩)) (z10 := .int .i64 (i : Int)) (z11 := .pointer (some ⟨sb, 0, none⟩)) (z12 := .bool true) (z14 := .pointer (some ⟨ab, 0, none⟩))
    (Q := blockQ 2 (seqQ Try.prog [0, 1, 5, 7, 8, 9, 10, 11, 12] c5_s36 Q)) C3.qc C3.nc C3.wl (by omega) fun G f => by
      have P4 : PT (fun y => y ∈ bb :: ab :: cb :: L ∨ T2 y) h G p q rp wp pv qv rv wv vs ws rs zs ps ps qs := P3.write f (fun y hy => .inl (.inr hy)) (fun y hy => ⟨hy.elim (fun h => .inl (.inl h)) .inr, fun ht => absurd ht (hy.elim (fun h => (n1 y h).1) (n2 y))⟩) (.inl (hL _ hr)) (.inl (hL _ hw)) (n1 _ (hL _ hr)).1 (n1 _ (hL _ hw)).1
      have N4 := N3.fr f fun y hy h2 => n2 y h2 hy
      have k4 := f _ _ k3 (n1 _ (hL _ ms)).1
      have qa4 := f _ _ qa3 (n1 _ hab).1
      refine pk2 qa4 (n1 _ hab).2 N4.wl hrl fun G2 f2 w u => ?_
      have P5 : PT (fun y => y ∈ L) h G2 p q rp wp pv qv rv wv vs ws rs zs ps ps qs := P4.write f2 (fun y hy => .inr hy) (fun y hy => ⟨.inl (hL y hy), fun ht => absurd ht (n1 y (hL y hy)).2⟩) hr hw (n1 _ (hL _ hr)).2 (n1 _ (hL _ hw)).2
      have k5 := hQ G2 (P5.px (fun y hy => hy) hr hw) (f2 _ _ k4 (n1 _ (hL _ ms)).2)
      simp (disch := omega) only [dm_t, wA, wB, wL, wW, wY, Int.fdiv_eq_ediv_of_nonneg, Int.tdiv_eq_ediv_of_nonneg, Int.tmod_eq_emod_of_nonneg, chk_pos, decT, decF, br_pos, br_neg, wX, ↓reduceIte, Nat.reduceEqDiff, Nat.reduceAdd, Nat.reduceSub, Nat.reduceMul, Nat.reduceLeDiff, Nat.reduceLT, Nat.reduceMod, Nat.reduceDiv, Int.reduceToNat, Nat.min_eq_left, IntKind.bits, Int.reducePow, Int.reduceLT, Int.reduceLE, Int.reduceEq, Int.reduceNe, Int.reduceAdd, Int.reduceSub, and_self, reduceCtorEq, decide_eq_true_eq, decide_eq_false_iff_not, eq_self, implies_true, exists_const, Option.isNone_some, Option.isNone_none, Option.isSome_some, Option.isSome_none, Option.getD_some, k5]
  revert k9
  simp (disch := omega) only [dm_t, wA, wB, wL, wW, wY, Int.fdiv_eq_ediv_of_nonneg, Int.tdiv_eq_ediv_of_nonneg, Int.tmod_eq_emod_of_nonneg, chk_pos, decT, decF, br_pos, br_neg, wX, ↓reduceIte, Nat.reduceEqDiff, Nat.reduceAdd, Nat.reduceSub, Nat.reduceMul, Nat.reduceLeDiff, Nat.reduceLT, Nat.reduceMod, Nat.reduceDiv, Int.reduceToNat, Nat.min_eq_left, IntKind.bits, Int.reducePow, Int.reduceLT, Int.reduceLE, Int.reduceEq, Int.reduceNe, Int.reduceAdd, Int.reduceSub, and_self, reduceCtorEq, decide_eq_true_eq, decide_eq_false_iff_not, eq_self, implies_true, exists_const, Option.isNone_some, Option.isNone_none, Option.isSome_some, Option.isSome_none, Option.getD_some, (caC C3.qc).c2, i0, t0]
  exact id
end
end Go.Proofs.Ytpgkkpjdajkobaa.mo
