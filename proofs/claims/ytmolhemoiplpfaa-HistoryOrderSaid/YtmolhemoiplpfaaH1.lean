/-
  history: records, events, operations are copied.
-/
import Derived.Test.YtmolhemoiplpfaaK22
import Derived.Test.YtmolhemoiplpfaaC1
namespace Go.Proofs.Ytmolhemoiplpfaa.hi
open Go.Proofs.Ytmolhemoiplpfaa
set_option linter.unusedVariables false
set_option linter.unusedSimpArgs false

/-- Records of bounded lengths. -/
abbrev lims (l : List rc.D) : Prop := ∀ x ∈ l, x.2.1.length ≤ 140737488355328 ∧ x.2.2.length ≤ 140737488355328
theorem Clone_ok {S : Nat → Prop} {h : H} {s : Value} {l : List UInt8} (hs : By S h s l) (hl : l.length ≤ 140737488355328) : Ok Try.prog 48 #[s] h fun v h' => OwB (fun y => h y = none) h' 5 v l ∧ Ext h h' := by
  obtain ⟨sa, sc, rfl⟩ := hs.len
  refine c48_ok (args := [_]) (by simp) ?_
  cases sa with
  | none => 
    simp (disch := omega) only [dm_t, wA, wB, wL, wW, wY, Int.fdiv_eq_ediv_of_nonneg, Int.tdiv_eq_ediv_of_nonneg, Int.tmod_eq_emod_of_nonneg, chk_pos, decT, decF, br_pos, br_neg, wX, ↓reduceIte, Nat.reduceEqDiff, Nat.reduceAdd, Nat.reduceSub, Nat.reduceMul, Nat.reduceLeDiff, Nat.reduceLT, Nat.reduceMod, Nat.reduceDiv, Int.reduceToNat, Nat.min_eq_left, IntKind.bits, Int.reducePow, Int.reduceLT, Int.reduceLE, Int.reduceEq, Int.reduceNe, Int.reduceAdd, Int.reduceSub, and_self, reduceCtorEq, decide_eq_true_eq, decide_eq_false_iff_not, eq_self, implies_true, exists_const, Option.isNone_some, Option.isNone_none, Option.isSome_some, Option.isSome_none, Option.getD_some]
    obtain ⟨_, ⟨a, h1, h2⟩ | ⟨b, o, cp, c, E, fr, h1, _⟩⟩ := hs
    · have : l = [] := by cases l <;> simp [one, bvs] at h2 ⊢
      subst this
      exact ⟨OwK.nil, Ext.refl _⟩
    · simp at h1
  | some a =>
    simp (disch := omega) only [dm_t, wA, wB, wL, wW, wY, Int.fdiv_eq_ediv_of_nonneg, Int.tdiv_eq_ediv_of_nonneg, Int.tmod_eq_emod_of_nonneg, chk_pos, decT, decF, br_pos, br_neg, wX, ↓reduceIte, Nat.reduceEqDiff, Nat.reduceAdd, Nat.reduceSub, Nat.reduceMul, Nat.reduceLeDiff, Nat.reduceLT, Nat.reduceMod, Nat.reduceDiv, Int.reduceToNat, Nat.min_eq_left, IntKind.bits, Int.reducePow, Int.reduceLT, Int.reduceLE, Int.reduceEq, Int.reduceNe, Int.reduceAdd, Int.reduceSub, and_self, reduceCtorEq, decide_eq_true_eq, decide_eq_false_iff_not, eq_self, implies_true, exists_const, Option.isNone_some, Option.isNone_none, Option.isSome_some, Option.isSome_none, Option.getD_some]
    intro b hb
    refine appB (O := fun y => h y = none) (xs := []) (olit1 (xs := []) rfl hb) (fun y hy => (Ext.new hb _).bk hy) (hs.ext (Ext.new hb _)) (by simp; omega) ?_
    intro w G o f
    simp (disch := omega) only [dm_t, wA, wB, wL, wW, wY, Int.fdiv_eq_ediv_of_nonneg, Int.tdiv_eq_ediv_of_nonneg, Int.tmod_eq_emod_of_nonneg, chk_pos, decT, decF, br_pos, br_neg, wX, ↓reduceIte, Nat.reduceEqDiff, Nat.reduceAdd, Nat.reduceSub, Nat.reduceMul, Nat.reduceLeDiff, Nat.reduceLT, Nat.reduceMod, Nat.reduceDiv, Int.reduceToNat, Nat.min_eq_left, IntKind.bits, Int.reducePow, Int.reduceLT, Int.reduceLE, Int.reduceEq, Int.reduceNe, Int.reduceAdd, Int.reduceSub, and_self, reduceCtorEq, decide_eq_true_eq, decide_eq_false_iff_not, eq_self, implies_true, exists_const, Option.isNone_some, Option.isNone_none, Option.isSome_some, Option.isSome_none, Option.getD_some]
    exact ⟨o, Ext.step (Ext.new hb _) f⟩
theorem records_ok {S : Nat → Prop} {h : H} {s : Value} {l : List rc.D} (hs : RepL S rc h s l) (hl : l.length ≤ 2513169434916) (hk : lims l) :
    Ok Try.prog 42 #[s] h fun v h' => OwL (fun y => h y ≠ none) rc (fun y => h y = none) h' 83 v l ∧ Ext h h' := by
  obtain ⟨sa, sc, rfl⟩ := hs.len
  refine c42_ok (args := [_]) (by simp) ?_
  simp (disch := omega) only [dm_t, wA, wB, wL, wW, wY, Int.fdiv_eq_ediv_of_nonneg, Int.tdiv_eq_ediv_of_nonneg, Int.tmod_eq_emod_of_nonneg, chk_pos, decT, decF, br_pos, br_neg, wX, ↓reduceIte, Nat.reduceEqDiff, Nat.reduceAdd, Nat.reduceSub, Nat.reduceMul, Nat.reduceLeDiff, Nat.reduceLT, Nat.reduceMod, Nat.reduceDiv, Int.reduceToNat, Nat.min_eq_left, IntKind.bits, Int.reducePow, Int.reduceLT, Int.reduceLE, Int.reduceEq, Int.reduceNe, Int.reduceAdd, Int.reduceSub, and_self, reduceCtorEq, decide_eq_true_eq, decide_eq_false_iff_not, eq_self, implies_true, exists_const, Option.isNone_some, Option.isNone_none, Option.isSome_some, Option.isSome_none, Option.getD_some]
  refine vc_loop2 (fun vo vi h' => ∃ i : Nat, vi = .int .i64 (i : Int) ∧ i ≤ l.length ∧ OwL (fun y => h y ≠ none) rc (fun y => h y = none) h' 83 vo (l.take i) ∧ Ext h h') (fun _ vi _ => l.length - m1 vi) ?_ ?_
  · simp (disch := omega) only [dm_t, wA, wB, wL, wW, wY, Int.fdiv_eq_ediv_of_nonneg, Int.tdiv_eq_ediv_of_nonneg, Int.tmod_eq_emod_of_nonneg, chk_pos, decT, decF, br_pos, br_neg, wX, ↓reduceIte, Nat.reduceEqDiff, Nat.reduceAdd, Nat.reduceSub, Nat.reduceMul, Nat.reduceLeDiff, Nat.reduceLT, Nat.reduceMod, Nat.reduceDiv, Int.reduceToNat, Nat.min_eq_left, IntKind.bits, Int.reducePow, Int.reduceLT, Int.reduceLE, Int.reduceEq, Int.reduceNe, Int.reduceAdd, Int.reduceSub, and_self, reduceCtorEq, decide_eq_true_eq, decide_eq_false_iff_not, eq_self, implies_true, exists_const, Option.isNone_some, Option.isNone_none, Option.isSome_some, Option.isSome_none, Option.getD_some]
    exact ⟨0, rfl, by omega, OwL.nil, Ext.refl h⟩
  rintro vo _ g ⟨i, rfl, hi, ho, e1⟩
  by_cases hil : i < l.length
  · have hsplit : l.take (i + 1) = l.take i ++ [l[i]] := by simp
    have hlt : (l.take i).length = i := by rw [List.length_take]; omega
    have hki := hk l[i] (List.getElem_mem hil)
    simp (disch := omega) only [dm_t, wA, wB, wL, wW, wY, Int.fdiv_eq_ediv_of_nonneg, Int.tdiv_eq_ediv_of_nonneg, Int.tmod_eq_emod_of_nonneg, chk_pos, decT, decF, br_pos, br_neg, wX, ↓reduceIte, Nat.reduceEqDiff, Nat.reduceAdd, Nat.reduceSub, Nat.reduceMul, Nat.reduceLeDiff, Nat.reduceLT, Nat.reduceMod, Nat.reduceDiv, Int.reduceToNat, Nat.min_eq_left, IntKind.bits, Int.reducePow, Int.reduceLT, Int.reduceLE, Int.reduceEq, Int.reduceNe, Int.reduceAdd, Int.reduceSub, and_self, reduceCtorEq, decide_eq_true_eq, decide_eq_false_iff_not, eq_self, implies_true, exists_const, Option.isNone_some, Option.isNone_none, Option.isSome_some, Option.isSome_none, Option.getD_some]
    refine (hs.ext e1).at sz_rc i rfl hil ?_
    intro pb po cs g1 g2 g3
    simp (disch := omega) only [dm_t, wA, wB, wL, wW, wY, Int.fdiv_eq_ediv_of_nonneg, Int.tdiv_eq_ediv_of_nonneg, Int.tmod_eq_emod_of_nonneg, chk_pos, decT, decF, br_pos, br_neg, wX, ↓reduceIte, Nat.reduceEqDiff, Nat.reduceAdd, Nat.reduceSub, Nat.reduceMul, Nat.reduceLeDiff, Nat.reduceLT, Nat.reduceMod, Nat.reduceDiv, Int.reduceToNat, Nat.min_eq_left, IntKind.bits, Int.reducePow, Int.reduceLT, Int.reduceLE, Int.reduceEq, Int.reduceNe, Int.reduceAdd, Int.reduceSub, and_self, reduceCtorEq, decide_eq_true_eq, decide_eq_false_iff_not, eq_self, implies_true, exists_const, Option.isNone_some, Option.isNone_none, Option.isSome_some, Option.isSome_none, Option.getD_some, g1]
    intro c hc
    simp (disch := omega) only [dm_t, wA, wB, wL, wW, wY, Int.fdiv_eq_ediv_of_nonneg, Int.tdiv_eq_ediv_of_nonneg, Int.tmod_eq_emod_of_nonneg, chk_pos, decT, decF, br_pos, br_neg, wX, ↓reduceIte, Nat.reduceEqDiff, Nat.reduceAdd, Nat.reduceSub, Nat.reduceMul, Nat.reduceLeDiff, Nat.reduceLT, Nat.reduceMod, Nat.reduceDiv, Int.reduceToNat, Nat.min_eq_left, IntKind.bits, Int.reducePow, Int.reduceLT, Int.reduceLE, Int.reduceEq, Int.reduceNe, Int.reduceAdd, Int.reduceSub, and_self, reduceCtorEq, decide_eq_true_eq, decide_eq_false_iff_not, eq_self, implies_true, exists_const, Option.isNone_some, Option.isNone_none, Option.isSome_some, Option.isSome_none, Option.getD_some]
    refine stn_new (g3.len.trans sz_rc) (by rfl) g3.cells ?_
    obtain ⟨ka, kc, va, vc', rfl, hbd, hkk, hvv⟩ := rc_len g3
    generalize hG : hupd _ c _ = G
    obtain ⟨e', qc⟩ := new_ext hG hc
    clear hG
    have hcn := e1.bk hc
    have ho1 := ho.ext e'
    simp (disch := omega) only [dm_t, wA, wB, wL, wW, wY, Int.fdiv_eq_ediv_of_nonneg, Int.tdiv_eq_ediv_of_nonneg, Int.tmod_eq_emod_of_nonneg, chk_pos, decT, decF, br_pos, br_neg, wX, ↓reduceIte, Nat.reduceEqDiff, Nat.reduceAdd, Nat.reduceSub, Nat.reduceMul, Nat.reduceLeDiff, Nat.reduceLT, Nat.reduceMod, Nat.reduceDiv, Int.reduceToNat, Nat.min_eq_left, IntKind.bits, Int.reducePow, Int.reduceLT, Int.reduceLE, Int.reduceEq, Int.reduceNe, Int.reduceAdd, Int.reduceSub, and_self, reduceCtorEq, decide_eq_true_eq, decide_eq_false_iff_not, eq_self, implies_true, exists_const, Option.isNone_some, Option.isNone_none, Option.isSome_some, Option.isSome_none, Option.getD_some, cellAt_of qc]
    refine (Clone_ok (hkk.ext e') hki.1).k ?_
    rintro w1 G1 ⟨o1, f1⟩
    obtain ⟨wa1, wc1, rfl⟩ := By.len o1.s0
    have qc1 := f1.at qc
    simp (disch := omega) only [dm_t, wA, wB, wL, wW, wY, Int.fdiv_eq_ediv_of_nonneg, Int.tdiv_eq_ediv_of_nonneg, Int.tmod_eq_emod_of_nonneg, chk_pos, decT, decF, br_pos, br_neg, wX, ↓reduceIte, Nat.reduceEqDiff, Nat.reduceAdd, Nat.reduceSub, Nat.reduceMul, Nat.reduceLeDiff, Nat.reduceLT, Nat.reduceMod, Nat.reduceDiv, Int.reduceToNat, Nat.min_eq_left, IntKind.bits, Int.reducePow, Int.reduceLT, Int.reduceLE, Int.reduceEq, Int.reduceNe, Int.reduceAdd, Int.reduceSub, and_self, reduceCtorEq, decide_eq_true_eq, decide_eq_false_iff_not, eq_self, implies_true, exists_const, Option.isNone_some, Option.isNone_none, Option.isSome_some, Option.isSome_none, Option.getD_some, cellAt_of qc1]
    refine (Clone_ok (hvv.ext (e'.trans f1)) hki.2).k ?_
    rintro w2 G2 ⟨o2, f2⟩
    obtain ⟨wa2, wc2, rfl⟩ := By.len o2.s0
    have qc2 := f2.at qc1
    have E2 := (e'.trans f1).trans f2
    have o1' := OwK.ext o1 f2
    generalize hG3 : hupd G2 c (.cells #[.int .i64 l[i].1, .slice wa1 l[i].2.1.length wc1, .slice wa2 l[i].2.2.length wc2] 83) = G3
    have f3 : Fr (fun y => y = c) G2 G3 := by rw [← hG3]; exact Fr.upd (S := fun y => y = c) rfl _
    have qc3 : G3 c = some (.cells #[.int .i64 l[i].1, .slice wa1 l[i].2.1.length wc1, .slice wa2 l[i].2.2.length wc2] 83) := by rw [← hG3, hupd_same]
    have E3 : Ext g G3 := Ext.step' E2 f3 fun x hx => by rw [hx]; exact hc
    have o1'' := OwK.fr o1' f3 fun x hx ho' => by rw [hx, qc] at ho'; cases ho'
    have o2'' := OwK.fr o2 f3 fun x hx ho' => by rw [hx, qc1] at ho'; cases ho'
    have b1 : By (fun y => isAt vo y ∨ h y ≠ none) G3 (.slice wa1 l[i].2.1.length wc1) (l[i]).2.1 := OwK.sl o1'' fun x hx hy => hy.elim (fun hy => ho1.there hy hx) fun hy => hy ((e1.trans e').bk hx)
    have b2 : By (fun y => isAt vo y ∨ h y ≠ none) G3 (.slice wa2 l[i].2.2.length wc2) (l[i]).2.2 := OwK.sl o2'' fun x hx hy => hy.elim (fun hy => (ho1.ext f1).there hy hx) fun hy => hy (((e1.trans e').trans f1).bk hx)
    simp (disch := omega) only [dm_t, wA, wB, wL, wW, wY, Int.fdiv_eq_ediv_of_nonneg, Int.tdiv_eq_ediv_of_nonneg, Int.tmod_eq_emod_of_nonneg, chk_pos, decT, decF, br_pos, br_neg, wX, ↓reduceIte, Nat.reduceEqDiff, Nat.reduceAdd, Nat.reduceSub, Nat.reduceMul, Nat.reduceLeDiff, Nat.reduceLT, Nat.reduceMod, Nat.reduceDiv, Int.reduceToNat, Nat.min_eq_left, IntKind.bits, Int.reducePow, Int.reduceLT, Int.reduceLE, Int.reduceEq, Int.reduceNe, Int.reduceAdd, Int.reduceSub, and_self, reduceCtorEq, decide_eq_true_eq, decide_eq_false_iff_not, eq_self, implies_true, exists_const, Option.isNone_some, Option.isNone_none, Option.isSome_some, Option.isSome_none, Option.getD_some, cellAt_of qc2, storeH_0 qc2, storeH_same, hG3, cellsAt_all qc3 3 rfl]
    refine OwL.push (bytes := 56) (V := fun _ => _) (x := l[i]) 3 sz_rc (ho.ext E3) (fun y hy => (e1.trans E3).bk hy) (rep_rc.2 ⟨_, _, rfl, hbd, b1, b2⟩) (by rfl) (by rw [hlt]; omega) (by rw [hlt]; omega) ?_
    intro _ s' G4 _ o4 f4
    simp (disch := omega) only [dm_t, wA, wB, wL, wW, wY, Int.fdiv_eq_ediv_of_nonneg, Int.tdiv_eq_ediv_of_nonneg, Int.tmod_eq_emod_of_nonneg, chk_pos, decT, decF, br_pos, br_neg, wX, ↓reduceIte, Nat.reduceEqDiff, Nat.reduceAdd, Nat.reduceSub, Nat.reduceMul, Nat.reduceLeDiff, Nat.reduceLT, Nat.reduceMod, Nat.reduceDiv, Int.reduceToNat, Nat.min_eq_left, IntKind.bits, Int.reducePow, Int.reduceLT, Int.reduceLE, Int.reduceEq, Int.reduceNe, Int.reduceAdd, Int.reduceSub, and_self, reduceCtorEq, decide_eq_true_eq, decide_eq_false_iff_not, eq_self, implies_true, exists_const, Option.isNone_some, Option.isNone_none, Option.isSome_some, Option.isSome_none, Option.getD_some]
    refine ⟨⟨i + 1, by simp, by omega, by rw [hsplit]; exact o4, Ext.step (e1.trans E3) f4⟩, by simp [m1]; omega⟩
  · obtain rfl : i = l.length := by omega
    rw [List.take_length] at ho
    simp (disch := omega) only [dm_t, wA, wB, wL, wW, wY, Int.fdiv_eq_ediv_of_nonneg, Int.tdiv_eq_ediv_of_nonneg, Int.tmod_eq_emod_of_nonneg, chk_pos, decT, decF, br_pos, br_neg, wX, ↓reduceIte, Nat.reduceEqDiff, Nat.reduceAdd, Nat.reduceSub, Nat.reduceMul, Nat.reduceLeDiff, Nat.reduceLT, Nat.reduceMod, Nat.reduceDiv, Int.reduceToNat, Nat.min_eq_left, IntKind.bits, Int.reducePow, Int.reduceLT, Int.reduceLE, Int.reduceEq, Int.reduceNe, Int.reduceAdd, Int.reduceSub, and_self, reduceCtorEq, decide_eq_true_eq, decide_eq_false_iff_not, eq_self, implies_true, exists_const, Option.isNone_some, Option.isNone_none, Option.isSome_some, Option.isSome_none, Option.getD_some]
    exact ⟨ho, e1⟩
/-! ### Calls, replies, events, operations -/
abbrev tI : Ty := .int .i64
abbrev callT : Ty := .pair tI (.pair tI (.pair (.sl rc) (.pair tI tI)))
abbrev replyT : Ty := .pair tI (.pair tI (.sl rc))
abbrev evT : Ty := .pair tI (.pair .bool (.pair callT replyT))
abbrev opT : Ty := .pair tI (.pair callT (.pair replyT (.pair tI tI)))
def inI (n : Int) : Prop := -9223372036854775808 ≤ n ∧ n ≤ 9223372036854775807
theorem rep_i {S : Nat → Prop} {h : H} {cs : List Value} {n : Int} : Rep S tI h cs n ↔ cs = [.int .i64 n] ∧ inI n := Iff.rfl
def cB (x : callT.D) : Prop := inI x.1 ∧ inI x.2.1 ∧ inI x.2.2.2.1 ∧ inI x.2.2.2.2
def yB (x : replyT.D) : Prop := inI x.1 ∧ inI x.2.1
abbrev cCs (x : callT.D) (r : Value) : List Value := [.int .i64 x.1, .int .i64 x.2.1, r, .int .i64 x.2.2.2.1, .int .i64 x.2.2.2.2]
abbrev yCs (x : replyT.D) (r : Value) : List Value := [.int .i64 x.1, .int .i64 x.2.1, r]
abbrev eCs (x : evT.D) (r q : Value) : List Value := [.int .i64 x.1, .bool x.2.1, .int .i64 x.2.2.1.1, .int .i64 x.2.2.1.2.1, r, .int .i64 x.2.2.1.2.2.2.1, .int .i64 x.2.2.1.2.2.2.2, .int .i64 x.2.2.2.1, .int .i64 x.2.2.2.2.1, q]
abbrev oCs (x : opT.D) (r q : Value) : List Value := [.int .i64 x.1, .int .i64 x.2.1.1, .int .i64 x.2.1.2.1, r, .int .i64 x.2.1.2.2.2.1, .int .i64 x.2.1.2.2.2.2, .int .i64 x.2.2.1.1, .int .i64 x.2.2.1.2.1, q, .int .i64 x.2.2.2.1, .int .i64 x.2.2.2.2]
theorem rep_call {S : Nat → Prop} {h : H} {cs : List Value} {x : callT.D} : Rep S callT h cs x ↔ ∃ r, cs = cCs x r ∧ cB x ∧ RepL S rc h r x.2.2.1 := by
  constructor
  · rintro ⟨c1, d1, rfl, ⟨rfl, b1⟩, c2, d2, rfl, ⟨rfl, b2⟩, c3, d3, rfl, r3, c4, d4, rfl, ⟨rfl, b4⟩, rfl, b5⟩
    obtain ⟨r, _, rfl, _⟩ := id r3
    exact ⟨r, rfl, ⟨b1, b2, b4, b5⟩, r3⟩
  · rintro ⟨r, rfl, ⟨b1, b2, b4, b5⟩, r3⟩
    exact ⟨[_], _, rfl, ⟨rfl, b1⟩, [_], _, rfl, ⟨rfl, b2⟩, [_], _, rfl, r3, [_], [_], rfl, ⟨rfl, b4⟩, rfl, b5⟩
theorem rep_reply {S : Nat → Prop} {h : H} {cs : List Value} {x : replyT.D} : Rep S replyT h cs x ↔ ∃ r, cs = yCs x r ∧ yB x ∧ RepL S rc h r x.2.2 := by
  constructor
  · rintro ⟨c1, d1, rfl, ⟨rfl, b1⟩, c2, d2, rfl, ⟨rfl, b2⟩, r3⟩
    obtain ⟨r, _, rfl, _⟩ := id r3
    exact ⟨r, rfl, ⟨b1, b2⟩, r3⟩
  · rintro ⟨r, rfl, ⟨b1, b2⟩, r3⟩
    exact ⟨[_], _, rfl, ⟨rfl, b1⟩, [_], _, rfl, ⟨rfl, b2⟩, r3⟩
theorem rep_ev {S : Nat → Prop} {h : H} {cs : List Value} {x : evT.D} : Rep S evT h cs x ↔ ∃ r q, cs = eCs x r q ∧ (inI x.1 ∧ cB x.2.2.1 ∧ yB x.2.2.2) ∧ RepL S rc h r x.2.2.1.2.2.1 ∧ RepL S rc h q x.2.2.2.2.2 := by
  constructor
  · rintro ⟨c1, d1, rfl, ⟨rfl, b1⟩, c2, d2, rfl, rfl, c3, d3, rfl, r3, r4⟩
    obtain ⟨r, rfl, b3, r3⟩ := rep_call.1 r3
    obtain ⟨q, rfl, b4, r4⟩ := rep_reply.1 r4
    exact ⟨r, q, rfl, ⟨b1, b3, b4⟩, r3, r4⟩
  · rintro ⟨r, q, rfl, ⟨b1, b3, b4⟩, r3, r4⟩
    exact ⟨[_], _, rfl, ⟨rfl, b1⟩, [_], _, rfl, rfl, _, _, rfl, rep_call.2 ⟨r, rfl, b3, r3⟩, rep_reply.2 ⟨q, rfl, b4, r4⟩⟩
theorem rep_op {S : Nat → Prop} {h : H} {cs : List Value} {x : opT.D} : Rep S opT h cs x ↔ ∃ r q, cs = oCs x r q ∧ (inI x.1 ∧ cB x.2.1 ∧ yB x.2.2.1 ∧ inI x.2.2.2.1 ∧ inI x.2.2.2.2) ∧ RepL S rc h r x.2.1.2.2.1 ∧ RepL S rc h q x.2.2.1.2.2 := by
  constructor
  · rintro ⟨c1, d1, rfl, ⟨rfl, b1⟩, c3, d3, rfl, r3, c4, d4, rfl, r4, c5, d5, rfl, ⟨rfl, b5⟩, rfl, b6⟩
    obtain ⟨r, rfl, b3, r3⟩ := rep_call.1 r3
    obtain ⟨q, rfl, b4, r4⟩ := rep_reply.1 r4
    exact ⟨r, q, rfl, ⟨b1, b3, b4, b5, b6⟩, r3, r4⟩
  · rintro ⟨r, q, rfl, ⟨b1, b3, b4, b5, b6⟩, r3, r4⟩
    exact ⟨[_], _, rfl, ⟨rfl, b1⟩, _, _, rfl, rep_call.2 ⟨r, rfl, b3, r3⟩, _, _, rfl, rep_reply.2 ⟨q, rfl, b4, r4⟩, [_], [_], rfl, ⟨rfl, b5⟩, rfl, b6⟩
/-- Lists of records that can be copied. -/
abbrev limL (l : List rc.D) : Prop := l.length ≤ 2513169434916 ∧ lims l
theorem event_ok {S : Nat → Prop} {h : H} {cs : List Value} {x : evT.D} (hx : Rep S evT h cs x) (h1 : limL x.2.2.1.2.2.1) (h2 : limL x.2.2.2.2.2) :
    Ok Try.prog 31 #[.agg cs.toArray] h fun v h' => ∃ cs', v = .agg cs'.toArray ∧ Rep (fun y => h y ≠ none) evT h' cs' x ∧ Ext h h' := by
  obtain ⟨r, q, rfl, hb', hr, hq⟩ := rep_ev.1 hx
  obtain ⟨ra, rn, rfl⟩ := hr.len
  obtain ⟨qa, qn, rfl⟩ := hq.len
  refine c31_ok (args := [_]) (by simp) ?_
  simp (disch := omega) only [dm_t, wA, wB, wL, wW, wY, Int.fdiv_eq_ediv_of_nonneg, Int.tdiv_eq_ediv_of_nonneg, Int.tmod_eq_emod_of_nonneg, chk_pos, decT, decF, br_pos, br_neg, wX, ↓reduceIte, Nat.reduceEqDiff, Nat.reduceAdd, Nat.reduceSub, Nat.reduceMul, Nat.reduceLeDiff, Nat.reduceLT, Nat.reduceMod, Nat.reduceDiv, Int.reduceToNat, Nat.min_eq_left, IntKind.bits, Int.reducePow, Int.reduceLT, Int.reduceLE, Int.reduceEq, Int.reduceNe, Int.reduceAdd, Int.reduceSub, and_self, reduceCtorEq, decide_eq_true_eq, decide_eq_false_iff_not, eq_self, implies_true, exists_const, Option.isNone_some, Option.isNone_none, Option.isSome_some, Option.isSome_none, Option.getD_some]
  intro b hb d hd
  generalize hG : hupd h b _ = g at hd ⊢
  obtain ⟨e, qb⟩ := new_ext hG hb
  clear hG
  generalize hG : hupd g d _ = g1
  obtain ⟨e', qd⟩ := new_ext hG hd
  clear hG
  have hdb := ne_of qb hd
  replace qb := e'.at qb
  have E1 := e.trans e'
  have c4 : cellAt g1 ⟨b, 4, none⟩ = some (.slice ra x.2.2.1.2.2.1.length rn) := by rw [cellAt_of qb]; rfl
  have c9 : cellAt g1 ⟨b, 9, none⟩ = some (.slice qa x.2.2.2.2.2.length qn) := by rw [cellAt_of qb]; rfl
  simp (disch := omega) only [dm_t, wA, wB, wL, wW, wY, Int.fdiv_eq_ediv_of_nonneg, Int.tdiv_eq_ediv_of_nonneg, Int.tmod_eq_emod_of_nonneg, chk_pos, decT, decF, br_pos, br_neg, wX, ↓reduceIte, Nat.reduceEqDiff, Nat.reduceAdd, Nat.reduceSub, Nat.reduceMul, Nat.reduceLeDiff, Nat.reduceLT, Nat.reduceMod, Nat.reduceDiv, Int.reduceToNat, Nat.min_eq_left, IntKind.bits, Int.reducePow, Int.reduceLT, Int.reduceLE, Int.reduceEq, Int.reduceNe, Int.reduceAdd, Int.reduceSub, and_self, reduceCtorEq, decide_eq_true_eq, decide_eq_false_iff_not, eq_self, implies_true, exists_const, Option.isNone_some, Option.isNone_none, Option.isSome_some, Option.isSome_none, Option.getD_some, c4, c9]
  refine (records_ok (hr.ext E1) h1.1 h1.2).k ?_
  rintro w1 g2 ⟨o1, f1⟩
  obtain ⟨wa1, wc1, rfl⟩ := o1.len
  simp (disch := omega) only [dm_t, wA, wB, wL, wW, wY, Int.fdiv_eq_ediv_of_nonneg, Int.tdiv_eq_ediv_of_nonneg, Int.tmod_eq_emod_of_nonneg, chk_pos, decT, decF, br_pos, br_neg, wX, ↓reduceIte, Nat.reduceEqDiff, Nat.reduceAdd, Nat.reduceSub, Nat.reduceMul, Nat.reduceLeDiff, Nat.reduceLT, Nat.reduceMod, Nat.reduceDiv, Int.reduceToNat, Nat.min_eq_left, IntKind.bits, Int.reducePow, Int.reduceLT, Int.reduceLE, Int.reduceEq, Int.reduceNe, Int.reduceAdd, Int.reduceSub, and_self, reduceCtorEq, decide_eq_true_eq, decide_eq_false_iff_not, eq_self, implies_true, exists_const, Option.isNone_some, Option.isNone_none, Option.isSome_some, Option.isSome_none, Option.getD_some, cellAt_ext f1 c9]
  refine (records_ok (hq.ext (E1.trans f1)) h2.1 h2.2).k ?_
  rintro w2 g3 ⟨o2, f2⟩
  obtain ⟨wa2, wc2, rfl⟩ := o2.len
  have qb3 := f2.at (f1.at qb)
  have qd3 := f2.at (f1.at qd)
  simp (disch := omega) only [dm_t, wA, wB, wL, wW, wY, Int.fdiv_eq_ediv_of_nonneg, Int.tdiv_eq_ediv_of_nonneg, Int.tmod_eq_emod_of_nonneg, chk_pos, decT, decF, br_pos, br_neg, wX, ↓reduceIte, Nat.reduceEqDiff, Nat.reduceAdd, Nat.reduceSub, Nat.reduceMul, Nat.reduceLeDiff, Nat.reduceLT, Nat.reduceMod, Nat.reduceDiv, Int.reduceToNat, Nat.min_eq_left, IntKind.bits, Int.reducePow, Int.reduceLT, Int.reduceLE, Int.reduceEq, Int.reduceNe, Int.reduceAdd, Int.reduceSub, and_self, reduceCtorEq, decide_eq_true_eq, decide_eq_false_iff_not, eq_self, implies_true, exists_const, Option.isNone_some, Option.isNone_none, Option.isSome_some, Option.isSome_none, Option.getD_some, storeH_0 qb3, storeH_same]
  generalize hG : hupd g3 b _ = g4
  have f4 : Fr (fun y => y = b) g3 g4 := by rw [← hG]; exact Fr.upd (S := fun y => y = b) rfl _
  have qb4 : g4 b = some (.cells (eCs x (.slice wa1 x.2.2.1.2.2.1.length wc1) (.slice wa2 x.2.2.2.2.2.length wc2)).toArray 41) := by rw [← hG, hupd_same]
  clear hG
  have qd4 := f4 _ _ qd3 fun hx => hdb hx.symm
  have E4 : Ext h g4 := Ext.step' ((E1.trans f1).trans f2) f4 fun y hy => by rw [hy]; exact hb
  have hbn : g1 b ≠ none := by rw [qb]; simp
  have hdn : g1 d ≠ none := by rw [qd]; simp
  have r1 : RepL (fun y => y = b ∨ y = d ∨ h y ≠ none) rc g4 (.slice wa1 x.2.2.1.2.2.1.length wc1) x.2.2.1.2.2.1 := ((o1.ext f2).repS (S := fun y => g1 y ≠ none) fun y hy hn => hn hy).fr (T := fun y => y = b) f4 (fun y hy => by rw [hy]; exact hbn) |>.mono fun y _ _ hy => by
    rcases hy with rfl | rfl | hy
    · exact hbn
    · exact hdn
    · exact fun hn => hy (E1.bk hn)
  have r2 : RepL (fun y => y = b ∨ y = d ∨ h y ≠ none) rc g4 (.slice wa2 x.2.2.2.2.2.length wc2) x.2.2.2.2.2 := (o2.repS (S := fun y => g2 y ≠ none) fun y hy hn => hn hy).fr (T := fun y => y = b) f4 (fun y hy => by rw [hy, f1.at qb]; simp) |>.mono fun y _ _ hy => by
    rcases hy with rfl | rfl | hy
    · rw [f1.at qb]; simp
    · rw [f1.at qd]; simp
    · exact fun hn => hy ((E1.trans f1).bk hn)
  simp (disch := omega) only [dm_t, wA, wB, wL, wW, wY, Int.fdiv_eq_ediv_of_nonneg, Int.tdiv_eq_ediv_of_nonneg, Int.tmod_eq_emod_of_nonneg, chk_pos, decT, decF, br_pos, br_neg, wX, ↓reduceIte, Nat.reduceEqDiff, Nat.reduceAdd, Nat.reduceSub, Nat.reduceMul, Nat.reduceLeDiff, Nat.reduceLT, Nat.reduceMod, Nat.reduceDiv, Int.reduceToNat, Nat.min_eq_left, IntKind.bits, Int.reducePow, Int.reduceLT, Int.reduceLE, Int.reduceEq, Int.reduceNe, Int.reduceAdd, Int.reduceSub, and_self, reduceCtorEq, decide_eq_true_eq, decide_eq_false_iff_not, eq_self, implies_true, exists_const, Option.isNone_some, Option.isNone_none, Option.isSome_some, Option.isSome_none, Option.getD_some, cellsAt_all qb4 10 rfl]
  refine storeH_all qd4 rfl rfl ?_
  generalize hG : hupd g4 d _ = g5
  have f5 : Fr (fun y => y = d) g4 g5 := by rw [← hG]; exact Fr.upd (S := fun y => y = d) rfl _
  have qd5 : g5 d = some (.cells (eCs x (.slice wa1 x.2.2.1.2.2.1.length wc1) (.slice wa2 x.2.2.2.2.2.length wc2)).toArray 41) := by rw [← hG, hupd_same]
  clear hG
  simp (disch := omega) only [dm_t, wA, wB, wL, wW, wY, Int.fdiv_eq_ediv_of_nonneg, Int.tdiv_eq_ediv_of_nonneg, Int.tmod_eq_emod_of_nonneg, chk_pos, decT, decF, br_pos, br_neg, wX, ↓reduceIte, Nat.reduceEqDiff, Nat.reduceAdd, Nat.reduceSub, Nat.reduceMul, Nat.reduceLeDiff, Nat.reduceLT, Nat.reduceMod, Nat.reduceDiv, Int.reduceToNat, Nat.min_eq_left, IntKind.bits, Int.reducePow, Int.reduceLT, Int.reduceLE, Int.reduceEq, Int.reduceNe, Int.reduceAdd, Int.reduceSub, and_self, reduceCtorEq, decide_eq_true_eq, decide_eq_false_iff_not, eq_self, implies_true, exists_const, Option.isNone_some, Option.isNone_none, Option.isSome_some, Option.isSome_none, Option.getD_some, cellsAt_all qd5 10 rfl]
  refine ⟨_, rfl, rep_ev.2 ⟨_, _, rfl, hb', ?_, ?_⟩, Ext.step' E4 f5 fun y hy => by rw [hy]; exact e.bk hd⟩
  · exact (RepL.fr r1 f5 fun y hy => .inr (.inl hy)).mono fun y _ _ hy => .inr (.inr hy)
  · exact (RepL.fr r2 f5 fun y hy => .inr (.inl hy)).mono fun y _ _ hy => .inr (.inr hy)
theorem op_ok {S : Nat → Prop} {h : H} {cs : List Value} {x : opT.D} (hx : Rep S opT h cs x) (h1 : limL x.2.1.2.2.1) (h2 : limL x.2.2.1.2.2) :
    Ok Try.prog 37 #[.agg cs.toArray] h fun v h' => ∃ cs', v = .agg cs'.toArray ∧ Rep (fun y => h y ≠ none) opT h' cs' x ∧ Ext h h' := by
  obtain ⟨r, q, rfl, hb', hr, hq⟩ := rep_op.1 hx
  obtain ⟨ra, rn, rfl⟩ := hr.len
  obtain ⟨qa, qn, rfl⟩ := hq.len
  refine c37_ok (args := [_]) (by simp) ?_
  simp (disch := omega) only [dm_t, wA, wB, wL, wW, wY, Int.fdiv_eq_ediv_of_nonneg, Int.tdiv_eq_ediv_of_nonneg, Int.tmod_eq_emod_of_nonneg, chk_pos, decT, decF, br_pos, br_neg, wX, ↓reduceIte, Nat.reduceEqDiff, Nat.reduceAdd, Nat.reduceSub, Nat.reduceMul, Nat.reduceLeDiff, Nat.reduceLT, Nat.reduceMod, Nat.reduceDiv, Int.reduceToNat, Nat.min_eq_left, IntKind.bits, Int.reducePow, Int.reduceLT, Int.reduceLE, Int.reduceEq, Int.reduceNe, Int.reduceAdd, Int.reduceSub, and_self, reduceCtorEq, decide_eq_true_eq, decide_eq_false_iff_not, eq_self, implies_true, exists_const, Option.isNone_some, Option.isNone_none, Option.isSome_some, Option.isSome_none, Option.getD_some]
  intro b hb d hd
  generalize hG : hupd h b _ = g at hd ⊢
  obtain ⟨e, qb⟩ := new_ext hG hb
  clear hG
  generalize hG : hupd g d _ = g1
  obtain ⟨e', qd⟩ := new_ext hG hd
  clear hG
  have hdb := ne_of qb hd
  replace qb := e'.at qb
  have E1 := e.trans e'
  have c4 : cellAt g1 ⟨b, 3, none⟩ = some (.slice ra x.2.1.2.2.1.length rn) := by rw [cellAt_of qb]; rfl
  have c9 : cellAt g1 ⟨b, 8, none⟩ = some (.slice qa x.2.2.1.2.2.length qn) := by rw [cellAt_of qb]; rfl
  simp (disch := omega) only [dm_t, wA, wB, wL, wW, wY, Int.fdiv_eq_ediv_of_nonneg, Int.tdiv_eq_ediv_of_nonneg, Int.tmod_eq_emod_of_nonneg, chk_pos, decT, decF, br_pos, br_neg, wX, ↓reduceIte, Nat.reduceEqDiff, Nat.reduceAdd, Nat.reduceSub, Nat.reduceMul, Nat.reduceLeDiff, Nat.reduceLT, Nat.reduceMod, Nat.reduceDiv, Int.reduceToNat, Nat.min_eq_left, IntKind.bits, Int.reducePow, Int.reduceLT, Int.reduceLE, Int.reduceEq, Int.reduceNe, Int.reduceAdd, Int.reduceSub, and_self, reduceCtorEq, decide_eq_true_eq, decide_eq_false_iff_not, eq_self, implies_true, exists_const, Option.isNone_some, Option.isNone_none, Option.isSome_some, Option.isSome_none, Option.getD_some, c4, c9]
  refine (records_ok (hr.ext E1) h1.1 h1.2).k ?_
  rintro w1 g2 ⟨o1, f1⟩
  obtain ⟨wa1, wc1, rfl⟩ := o1.len
  simp (disch := omega) only [dm_t, wA, wB, wL, wW, wY, Int.fdiv_eq_ediv_of_nonneg, Int.tdiv_eq_ediv_of_nonneg, Int.tmod_eq_emod_of_nonneg, chk_pos, decT, decF, br_pos, br_neg, wX, ↓reduceIte, Nat.reduceEqDiff, Nat.reduceAdd, Nat.reduceSub, Nat.reduceMul, Nat.reduceLeDiff, Nat.reduceLT, Nat.reduceMod, Nat.reduceDiv, Int.reduceToNat, Nat.min_eq_left, IntKind.bits, Int.reducePow, Int.reduceLT, Int.reduceLE, Int.reduceEq, Int.reduceNe, Int.reduceAdd, Int.reduceSub, and_self, reduceCtorEq, decide_eq_true_eq, decide_eq_false_iff_not, eq_self, implies_true, exists_const, Option.isNone_some, Option.isNone_none, Option.isSome_some, Option.isSome_none, Option.getD_some, cellAt_ext f1 c9]
  refine (records_ok (hq.ext (E1.trans f1)) h2.1 h2.2).k ?_
  rintro w2 g3 ⟨o2, f2⟩
  obtain ⟨wa2, wc2, rfl⟩ := o2.len
  have qb3 := f2.at (f1.at qb)
  have qd3 := f2.at (f1.at qd)
  simp (disch := omega) only [dm_t, wA, wB, wL, wW, wY, Int.fdiv_eq_ediv_of_nonneg, Int.tdiv_eq_ediv_of_nonneg, Int.tmod_eq_emod_of_nonneg, chk_pos, decT, decF, br_pos, br_neg, wX, ↓reduceIte, Nat.reduceEqDiff, Nat.reduceAdd, Nat.reduceSub, Nat.reduceMul, Nat.reduceLeDiff, Nat.reduceLT, Nat.reduceMod, Nat.reduceDiv, Int.reduceToNat, Nat.min_eq_left, IntKind.bits, Int.reducePow, Int.reduceLT, Int.reduceLE, Int.reduceEq, Int.reduceNe, Int.reduceAdd, Int.reduceSub, and_self, reduceCtorEq, decide_eq_true_eq, decide_eq_false_iff_not, eq_self, implies_true, exists_const, Option.isNone_some, Option.isNone_none, Option.isSome_some, Option.isSome_none, Option.getD_some, storeH_0 qb3, storeH_same]
  generalize hG : hupd g3 b _ = g4
  have f4 : Fr (fun y => y = b) g3 g4 := by rw [← hG]; exact Fr.upd (S := fun y => y = b) rfl _
  have qb4 : g4 b = some (.cells (oCs x (.slice wa1 x.2.1.2.2.1.length wc1) (.slice wa2 x.2.2.1.2.2.length wc2)).toArray 43) := by rw [← hG, hupd_same]
  clear hG
  have qd4 := f4 _ _ qd3 fun hx => hdb hx.symm
  have E4 : Ext h g4 := Ext.step' ((E1.trans f1).trans f2) f4 fun y hy => by rw [hy]; exact hb
  have hbn : g1 b ≠ none := by rw [qb]; simp
  have hdn : g1 d ≠ none := by rw [qd]; simp
  have r1 : RepL (fun y => y = b ∨ y = d ∨ h y ≠ none) rc g4 (.slice wa1 x.2.1.2.2.1.length wc1) x.2.1.2.2.1 := ((o1.ext f2).repS (S := fun y => g1 y ≠ none) fun y hy hn => hn hy).fr (T := fun y => y = b) f4 (fun y hy => by rw [hy]; exact hbn) |>.mono fun y _ _ hy => by
    rcases hy with rfl | rfl | hy
    · exact hbn
    · exact hdn
    · exact fun hn => hy (E1.bk hn)
  have r2 : RepL (fun y => y = b ∨ y = d ∨ h y ≠ none) rc g4 (.slice wa2 x.2.2.1.2.2.length wc2) x.2.2.1.2.2 := (o2.repS (S := fun y => g2 y ≠ none) fun y hy hn => hn hy).fr (T := fun y => y = b) f4 (fun y hy => by rw [hy, f1.at qb]; simp) |>.mono fun y _ _ hy => by
    rcases hy with rfl | rfl | hy
    · rw [f1.at qb]; simp
    · rw [f1.at qd]; simp
    · exact fun hn => hy ((E1.trans f1).bk hn)
  simp (disch := omega) only [dm_t, wA, wB, wL, wW, wY, Int.fdiv_eq_ediv_of_nonneg, Int.tdiv_eq_ediv_of_nonneg, Int.tmod_eq_emod_of_nonneg, chk_pos, decT, decF, br_pos, br_neg, wX, ↓reduceIte, Nat.reduceEqDiff, Nat.reduceAdd, Nat.reduceSub, Nat.reduceMul, Nat.reduceLeDiff, Nat.reduceLT, Nat.reduceMod, Nat.reduceDiv, Int.reduceToNat, Nat.min_eq_left, IntKind.bits, Int.reducePow, Int.reduceLT, Int.reduceLE, Int.reduceEq, Int.reduceNe, Int.reduceAdd, Int.reduceSub, and_self, reduceCtorEq, decide_eq_true_eq, decide_eq_false_iff_not, eq_self, implies_true, exists_const, Option.isNone_some, Option.isNone_none, Option.isSome_some, Option.isSome_none, Option.getD_some, cellsAt_all qb4 11 rfl]
  refine storeH_all qd4 rfl rfl ?_
  generalize hG : hupd g4 d _ = g5
  have f5 : Fr (fun y => y = d) g4 g5 := by rw [← hG]; exact Fr.upd (S := fun y => y = d) rfl _
  have qd5 : g5 d = some (.cells (oCs x (.slice wa1 x.2.1.2.2.1.length wc1) (.slice wa2 x.2.2.1.2.2.length wc2)).toArray 43) := by rw [← hG, hupd_same]
  clear hG
  simp (disch := omega) only [dm_t, wA, wB, wL, wW, wY, Int.fdiv_eq_ediv_of_nonneg, Int.tdiv_eq_ediv_of_nonneg, Int.tmod_eq_emod_of_nonneg, chk_pos, decT, decF, br_pos, br_neg, wX, ↓reduceIte, Nat.reduceEqDiff, Nat.reduceAdd, Nat.reduceSub, Nat.reduceMul, Nat.reduceLeDiff, Nat.reduceLT, Nat.reduceMod, Nat.reduceDiv, Int.reduceToNat, Nat.min_eq_left, IntKind.bits, Int.reducePow, Int.reduceLT, Int.reduceLE, Int.reduceEq, Int.reduceNe, Int.reduceAdd, Int.reduceSub, and_self, reduceCtorEq, decide_eq_true_eq, decide_eq_false_iff_not, eq_self, implies_true, exists_const, Option.isNone_some, Option.isNone_none, Option.isSome_some, Option.isSome_none, Option.getD_some, cellsAt_all qd5 11 rfl]
  refine ⟨_, rfl, rep_op.2 ⟨_, _, rfl, hb', ?_, ?_⟩, Ext.step' E4 f5 fun y hy => by rw [hy]; exact e.bk hd⟩
  · exact (RepL.fr r1 f5 fun y hy => .inr (.inl hy)).mono fun y _ _ hy => .inr (.inr hy)
  · exact (RepL.fr r2 f5 fun y hy => .inr (.inl hy)).mono fun y _ _ hy => .inr (.inr hy)
end Go.Proofs.Ytmolhemoiplpfaa.hi
