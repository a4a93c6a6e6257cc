/-
  A batch, read: plain side; clones, parts, what is given up.
-/
import Derived.Test.YtbnjhgfpfajnoaaRd
import Derived.Test.YtbnjhgfpfajnoaaKE
namespace Go.Proofs.Ytbnjhgfpfajnoaa.rr
open Go.Proofs.Ytbnjhgfpfajnoaa
set_option linter.unusedVariables false
set_option linter.unusedSimpArgs false
/-! ### The plain side -/
/-- One record at the begin of bytes. -/
def prs1 (b : List UInt8) : Option (rc.D × List UInt8) :=
  if b.length < 12 then none
  else if 9007199254740992 < num (b.take 8) ∨ 256 < num ((b.drop 8).take 2) ∨ 4096 < num ((b.drop 10).take 2) ∨ b.length < 12 + (num ((b.drop 8).take 2) + num ((b.drop 10).take 2)) then none
  else some (((num (b.take 8) : Int), (b.drop 12).take (num ((b.drop 8).take 2)), (b.drop (12 + num ((b.drop 8).take 2))).take (num ((b.drop 10).take 2))), b.drop (12 + (num ((b.drop 8).take 2) + num ((b.drop 10).take 2))))
def prs : Nat → List UInt8 → Option (List rc.D × List UInt8)
  | 0, b => some ([], b)
  | n + 1, b => (prs1 b).bind fun (r, b') => (prs n b').map fun (l, z) => (r :: l, z)
structure RB where
  base : Int
  recs : List rc.D
  size : Int
  e : Int
def badR (e : Int) : RB := ⟨0, [], 0, e⟩
def bodyP (b : List UInt8) : List UInt8 := (b.drop 8).take (num (b.take 4) - 4)
def finP (b : List UInt8) : RB :=
  match prs (num (((bodyP b).drop 8).take 4)) ((bodyP b).drop 12) with
  | some (l, []) => ⟨(num ((bodyP b).take 8) : Int), l, (num (b.take 4) : Int) + 4, 0⟩
  | _ => badR 152
def readS (b : List UInt8) : RB :=
  if 9007199254740992 < num ((bodyP b).take 8) ∨ num (((bodyP b).drop 8).take 4) < 1 ∨ 256 < num (((bodyP b).drop 8).take 4) ∨ 9007199254740992 < num ((bodyP b).take 8) + num (((bodyP b).drop 8).take 4) - 1 then badR 152
  else finP b
def readQ (b : List UInt8) : RB :=
  if b.length < num (b.take 4) + 4 then badR 151
  else if (sumB (bodyP b)).toNat ≠ num ((b.drop 4).take 4) then badR 152
  else readS b
def readP (b : List UInt8) : RB :=
  if b.length = 0 then badR 150 else if b.length < 4 then badR 151
  else if num (b.take 4) < 28 ∨ 65532 < num (b.take 4) then badR 152
  else readQ b
/-! ### Clones, parts -/
theorem Clone_ok {S : Nat → Prop} {h : H} {v : Value} {l : List UInt8} (hb : By S h v l) (hl : l.length ≤ 140737488355328) : Ok Try.prog 36 #[v] h fun r h' => OwB (fun y => h y = none) h' 5 r l ∧ Ext h h' := by
  obtain ⟨sa, sc, rfl⟩ := hb.len
  refine c36_ok (args := [_]) (by simp) ?_
  cases sa with
  | none =>
    have hl0 : l = [] := by
      obtain ⟨_, ⟨a, h1, h2⟩ | ⟨b, o, cp, c, E, fr, h1, _⟩⟩ := hb
      · cases l with
        | nil => rfl
        | cons x t => simp [one, bvs] at h2
      · simp at h1
    subst hl0
    simp (disch := omega) only [dm_t, wA, wB, wL, wW, wY, Int.fdiv_eq_ediv_of_nonneg, Int.tdiv_eq_ediv_of_nonneg, Int.tmod_eq_emod_of_nonneg, chk_pos, decT, decF, br_pos, br_neg, wX, ↓reduceIte, Nat.reduceEqDiff, Nat.reduceAdd, Nat.reduceSub, Nat.reduceMul, Nat.reduceLeDiff, Nat.reduceLT, Nat.reduceMod, Nat.reduceDiv, Int.reduceToNat, Nat.min_eq_left, IntKind.bits, Int.reducePow, Int.reduceLT, Int.reduceLE, Int.reduceEq, Int.reduceNe, Int.reduceAdd, Int.reduceSub, and_self, reduceCtorEq, decide_eq_true_eq, decide_eq_false_iff_not, eq_self, implies_true, exists_const, Option.isNone_some, Option.isNone_none, Option.isSome_some, Option.isSome_none, Option.getD_some]
    exact ⟨OwK.nil, Ext.refl h⟩
  | some a =>
    simp (disch := omega) only [dm_t, wA, wB, wL, wW, wY, Int.fdiv_eq_ediv_of_nonneg, Int.tdiv_eq_ediv_of_nonneg, Int.tmod_eq_emod_of_nonneg, chk_pos, decT, decF, br_pos, br_neg, wX, ↓reduceIte, Nat.reduceEqDiff, Nat.reduceAdd, Nat.reduceSub, Nat.reduceMul, Nat.reduceLeDiff, Nat.reduceLT, Nat.reduceMod, Nat.reduceDiv, Int.reduceToNat, Nat.min_eq_left, IntKind.bits, Int.reducePow, Int.reduceLT, Int.reduceLE, Int.reduceEq, Int.reduceNe, Int.reduceAdd, Int.reduceSub, and_self, reduceCtorEq, decide_eq_true_eq, decide_eq_false_iff_not, eq_self, implies_true, exists_const, Option.isNone_some, Option.isNone_none, Option.isSome_some, Option.isSome_none, Option.getD_some]
    intro b hbn
    have e1 : Ext h _ := Ext.new hbn (.cells #[] 5)
    simp (disch := omega) only [dm_t, wA, wB, wL, wW, wY, Int.fdiv_eq_ediv_of_nonneg, Int.tdiv_eq_ediv_of_nonneg, Int.tmod_eq_emod_of_nonneg, chk_pos, decT, decF, br_pos, br_neg, wX, ↓reduceIte, Nat.reduceEqDiff, Nat.reduceAdd, Nat.reduceSub, Nat.reduceMul, Nat.reduceLeDiff, Nat.reduceLT, Nat.reduceMod, Nat.reduceDiv, Int.reduceToNat, Nat.min_eq_left, IntKind.bits, Int.reducePow, Int.reduceLT, Int.reduceLE, Int.reduceEq, Int.reduceNe, Int.reduceAdd, Int.reduceSub, and_self, reduceCtorEq, decide_eq_true_eq, decide_eq_false_iff_not, eq_self, implies_true, exists_const, Option.isNone_some, Option.isNone_none, Option.isSome_some, Option.isSome_none, Option.getD_some]
    refine appB (O := fun y => h y = none) (xs := []) (olit1 (xs := []) rfl hbn) (fun y hy => e1.bk hy) (SlK.ext hb e1) (by simp; omega) ?_
    intro w g o f
    simp (disch := omega) only [dm_t, wA, wB, wL, wW, wY, Int.fdiv_eq_ediv_of_nonneg, Int.tdiv_eq_ediv_of_nonneg, Int.tmod_eq_emod_of_nonneg, chk_pos, decT, decF, br_pos, br_neg, wX, ↓reduceIte, Nat.reduceEqDiff, Nat.reduceAdd, Nat.reduceSub, Nat.reduceMul, Nat.reduceLeDiff, Nat.reduceLT, Nat.reduceMod, Nat.reduceDiv, Int.reduceToNat, Nat.min_eq_left, IntKind.bits, Int.reducePow, Int.reduceLT, Int.reduceLE, Int.reduceEq, Int.reduceNe, Int.reduceAdd, Int.reduceSub, and_self, reduceCtorEq, decide_eq_true_eq, decide_eq_false_iff_not, eq_self, implies_true, exists_const, Option.isNone_some, Option.isNone_none, Option.isSome_some, Option.isSome_none, Option.getD_some]
    exact ⟨o, Ext.step (Ext.new hbn _) f⟩
def giveUp (e : Int) : PanicEntry := { v := .iface 92 (.agg #[.int .i64 e]), recovered := false }
theorem part_ok {h0 h : H} {rb : Nat} {v : Value} {l : List UInt8} (hb : By nos h0 v l) (E : Ext h0 h) (q : h rb = some (.cells #[v] 22)) (hr : h0 rb = none) {n : Nat} (hn : n ≤ l.length) (hl : l.length ≤ 4611686018427387904) :
    Ok Try.prog 53 #[.pointer (some ⟨rb, 0, none⟩), .int .i64 (n : Int)] h fun r h' => By nos h0 r (l.take n) ∧ (∃ v', By nos h0 v' (l.drop n) ∧ h' rb = some (.cells #[v'] 22)) ∧ Fr (fun y => y = rb) h h' ∧ Ext h0 h' := by
  obtain ⟨sa, sc, rfl⟩ := hb.len
  refine c53_ok (args := [_, _]) (by simp) ?_
  have hc := SlK.cap hb
  rw [one_len, bvs_len] at hc
  obtain ⟨w1, c1, o1⟩ := By.cut hb (m3 := false) (lo := ((0 : Nat) : Int)) (hi := (n : Int)) (mx := (sc : Int)) (l := 0) (u := n) (m := sc) rfl rfl rfl (Nat.zero_le _) hn (by omega) (Nat.le_refl _) (.inr rfl)
  obtain ⟨w2, c2, o2⟩ := By.cut hb (m3 := false) (lo := (n : Int)) (hi := (l.length : Int)) (mx := (sc : Int)) (l := n) (u := l.length) (m := sc) rfl rfl rfl hn (Nat.le_refl _) (by omega) (Nat.le_refl _) (.inr rfl)
  rw [List.drop_zero, Nat.sub_zero] at o1
  rw [List.take_of_length_le (by rw [List.length_drop]; omega)] at o2
  have q0 : cellAt h ⟨rb, 0, none⟩ = some (.slice sa l.length sc) := by rw [cellAt_of q]; rfl
  obtain ⟨w2a, w2c, rfl⟩ := o2.len
  simp (disch := omega) only [dm_t, wA, wB, wL, wW, wY, Int.fdiv_eq_ediv_of_nonneg, Int.tdiv_eq_ediv_of_nonneg, Int.tmod_eq_emod_of_nonneg, chk_pos, decT, decF, br_pos, br_neg, wX, ↓reduceIte, Nat.reduceEqDiff, Nat.reduceAdd, Nat.reduceSub, Nat.reduceMul, Nat.reduceLeDiff, Nat.reduceLT, Nat.reduceMod, Nat.reduceDiv, Int.reduceToNat, Nat.min_eq_left, IntKind.bits, Int.reducePow, Int.reduceLT, Int.reduceLE, Int.reduceEq, Int.reduceNe, Int.reduceAdd, Int.reduceSub, and_self, reduceCtorEq, decide_eq_true_eq, decide_eq_false_iff_not, eq_self, implies_true, exists_const, Option.isNone_some, Option.isNone_none, Option.isSome_some, Option.isSome_none, Option.getD_some, q0, c1, c2, storeH_0 q]
  exact ⟨o1, ⟨_, o2, hupd_same _ _ _⟩, Fr.upd (S := fun y => y = rb) rfl _, Ext.step' E (Fr.upd (S := fun y => y = rb) rfl _) fun y hy => by rw [hy]; exact hr⟩
theorem part_pan {h : H} {rb : Nat} {a : Option Addr} {m c : Nat} (q : h rb = some (.cells #[.slice a m c] 22)) {n : Nat} (hn : m < n) (hn2 : n ≤ 4611686018427387904) {K : Value → H → Prop} {X : List PanicEntry → H → Prop} (hX : X [giveUp 152] h) :
    callK Try.prog 53 #[.pointer (some ⟨rb, 0, none⟩), .int .i64 (n : Int)] h K X := by
  refine CallsE.mono (R := fun e h' => e = .panicked [giveUp 152] ∧ h' = h) (c53_ce (args := [_, _]) (by simp) ?_) ?_
  · have q0 : cellAt h ⟨rb, 0, none⟩ = some (.slice a m c) := by rw [cellAt_of q]; rfl
    simp (disch := omega) only [dm_t, wA, wB, wL, wW, wY, Int.fdiv_eq_ediv_of_nonneg, Int.tdiv_eq_ediv_of_nonneg, Int.tmod_eq_emod_of_nonneg, chk_pos, decT, decF, br_pos, br_neg, wX, ↓reduceIte, Nat.reduceEqDiff, Nat.reduceAdd, Nat.reduceSub, Nat.reduceMul, Nat.reduceLeDiff, Nat.reduceLT, Nat.reduceMod, Nat.reduceDiv, Int.reduceToNat, Nat.min_eq_left, IntKind.bits, Int.reducePow, Int.reduceLT, Int.reduceLE, Int.reduceEq, Int.reduceNe, Int.reduceAdd, Int.reduceSub, and_self, reduceCtorEq, decide_eq_true_eq, decide_eq_false_iff_not, eq_self, implies_true, exists_const, Option.isNone_some, Option.isNone_none, Option.isSome_some, Option.isSome_none, Option.getD_some, q0]
    rfl
  · rintro e h' ⟨rfl, rfl⟩
    exact hX
/-! ### What is given up is told -/
theorem rec_idle {h : H} {x y z : Nat} : DCall Try.prog 51 #[.pointer (some ⟨x, 0, none⟩), .pointer (some ⟨y, 0, none⟩), .pointer (some ⟨z, 0, none⟩)] .returning h fun e u' h' => e = .returned (.tuple #[]) ∧ u' = .returning ∧ h' = h := by
  refine c51_ok (args := [_, _, _]) (by simp) ?_
  rw [recM_ret]
  simp (disch := omega) only [dm_t, wA, wB, wL, wW, wY, Int.fdiv_eq_ediv_of_nonneg, Int.tdiv_eq_ediv_of_nonneg, Int.tmod_eq_emod_of_nonneg, chk_pos, decT, decF, br_pos, br_neg, wX, ↓reduceIte, Nat.reduceEqDiff, Nat.reduceAdd, Nat.reduceSub, Nat.reduceMul, Nat.reduceLeDiff, Nat.reduceLT, Nat.reduceMod, Nat.reduceDiv, Int.reduceToNat, Nat.min_eq_left, IntKind.bits, Int.reducePow, Int.reduceLT, Int.reduceLE, Int.reduceEq, Int.reduceNe, Int.reduceAdd, Int.reduceSub, and_self, reduceCtorEq, decide_eq_true_eq, decide_eq_false_iff_not, eq_self, implies_true, exists_const, Option.isNone_some, Option.isNone_none, Option.isSome_some, Option.isSome_none, Option.getD_some, wD]
  refine raw_eqnil Try.underlying20 rfl (.inl rfl) ?_
  simp (disch := omega) only [dm_t, wA, wB, wL, wW, wY, Int.fdiv_eq_ediv_of_nonneg, Int.tdiv_eq_ediv_of_nonneg, Int.tmod_eq_emod_of_nonneg, chk_pos, decT, decF, br_pos, br_neg, wX, ↓reduceIte, Nat.reduceEqDiff, Nat.reduceAdd, Nat.reduceSub, Nat.reduceMul, Nat.reduceLeDiff, Nat.reduceLT, Nat.reduceMod, Nat.reduceDiv, Int.reduceToNat, Nat.min_eq_left, IntKind.bits, Int.reducePow, Int.reduceLT, Int.reduceLE, Int.reduceEq, Int.reduceNe, Int.reduceAdd, Int.reduceSub, and_self, reduceCtorEq, decide_eq_true_eq, decide_eq_false_iff_not, eq_self, implies_true, exists_const, Option.isNone_some, Option.isNone_none, Option.isSome_some, Option.isSome_none, Option.getD_some, wD, isNilI]
theorem rec_caught {h : H} {x y z : Nat} {w w' : Value} {n m : Int} (e : Int) (qx : h x = some (.cells #[w, w'] 31)) (qy : h y = some (.cells #[.int .i64 n] 3)) (qz : h z = some (.cells #[.int .i64 m] 41)) :
    DCall Try.prog 51 #[.pointer (some ⟨x, 0, none⟩), .pointer (some ⟨y, 0, none⟩), .pointer (some ⟨z, 0, none⟩)] (.panicking [giveUp e]) h fun en u' h' => en = .returned (.tuple #[]) ∧ settle u' = .returning ∧
      h' x = some (.cells #[.int .i64 0, .slice none 0 0] 31) ∧ h' y = some (.cells #[.int .i64 0] 3) ∧ h' z = some (.cells #[.int .i64 e] 41) ∧ Fr (fun b => b = x ∨ b = y ∨ b = z) h h' := by
  refine c51_ok (args := [_, _, _]) (by simp) ?_
  rw [giveUp, recM_pan]
  simp (disch := omega) only [dm_t, wA, wB, wL, wW, wY, Int.fdiv_eq_ediv_of_nonneg, Int.tdiv_eq_ediv_of_nonneg, Int.tmod_eq_emod_of_nonneg, chk_pos, decT, decF, br_pos, br_neg, wX, ↓reduceIte, Nat.reduceEqDiff, Nat.reduceAdd, Nat.reduceSub, Nat.reduceMul, Nat.reduceLeDiff, Nat.reduceLT, Nat.reduceMod, Nat.reduceDiv, Int.reduceToNat, Nat.min_eq_left, IntKind.bits, Int.reducePow, Int.reduceLT, Int.reduceLE, Int.reduceEq, Int.reduceNe, Int.reduceAdd, Int.reduceSub, and_self, reduceCtorEq, decide_eq_true_eq, decide_eq_false_iff_not, eq_self, implies_true, exists_const, Option.isNone_some, Option.isNone_none, Option.isSome_some, Option.isSome_none, Option.getD_some, wD]
  refine raw_eqnil Try.underlying20 rfl (.inr ⟨_, _, rfl⟩) ?_
  simp (disch := omega) only [dm_t, wA, wB, wL, wW, wY, Int.fdiv_eq_ediv_of_nonneg, Int.tdiv_eq_ediv_of_nonneg, Int.tmod_eq_emod_of_nonneg, chk_pos, decT, decF, br_pos, br_neg, wX, ↓reduceIte, Nat.reduceEqDiff, Nat.reduceAdd, Nat.reduceSub, Nat.reduceMul, Nat.reduceLeDiff, Nat.reduceLT, Nat.reduceMod, Nat.reduceDiv, Int.reduceToNat, Nat.min_eq_left, IntKind.bits, Int.reducePow, Int.reduceLT, Int.reduceLE, Int.reduceEq, Int.reduceNe, Int.reduceAdd, Int.reduceSub, and_self, reduceCtorEq, decide_eq_true_eq, decide_eq_false_iff_not, eq_self, implies_true, exists_const, Option.isNone_some, Option.isNone_none, Option.isSome_some, Option.isSome_none, Option.getD_some, wD, isNilI]
  refine raw_ta Try.underlying92 (by intro m; simp) rfl ?_
  simp (disch := omega) only [dm_t, wA, wB, wL, wW, wY, Int.fdiv_eq_ediv_of_nonneg, Int.tdiv_eq_ediv_of_nonneg, Int.tmod_eq_emod_of_nonneg, chk_pos, decT, decF, br_pos, br_neg, wX, ↓reduceIte, Nat.reduceEqDiff, Nat.reduceAdd, Nat.reduceSub, Nat.reduceMul, Nat.reduceLeDiff, Nat.reduceLT, Nat.reduceMod, Nat.reduceDiv, Int.reduceToNat, Nat.min_eq_left, IntKind.bits, Int.reducePow, Int.reduceLT, Int.reduceLE, Int.reduceEq, Int.reduceNe, Int.reduceAdd, Int.reduceSub, and_self, reduceCtorEq, decide_eq_true_eq, decide_eq_false_iff_not, eq_self, implies_true, exists_const, Option.isNone_some, Option.isNone_none, Option.isSome_some, Option.isSome_none, Option.getD_some, wD]
  intro b hb
  simp (disch := omega) only [dm_t, wA, wB, wL, wW, wY, Int.fdiv_eq_ediv_of_nonneg, Int.tdiv_eq_ediv_of_nonneg, Int.tmod_eq_emod_of_nonneg, chk_pos, decT, decF, br_pos, br_neg, wX, ↓reduceIte, Nat.reduceEqDiff, Nat.reduceAdd, Nat.reduceSub, Nat.reduceMul, Nat.reduceLeDiff, Nat.reduceLT, Nat.reduceMod, Nat.reduceDiv, Int.reduceToNat, Nat.min_eq_left, IntKind.bits, Int.reducePow, Int.reduceLT, Int.reduceLE, Int.reduceEq, Int.reduceNe, Int.reduceAdd, Int.reduceSub, and_self, reduceCtorEq, decide_eq_true_eq, decide_eq_false_iff_not, eq_self, implies_true, exists_const, Option.isNone_some, Option.isNone_none, Option.isSome_some, Option.isSome_none, Option.getD_some, wD]
  refine storeH_all (hupd_same _ _ _) rfl rfl ?_
  rw [hupd_hupd]
  generalize hG : hupd h b _ = g1
  obtain ⟨e1, qb⟩ := new_ext hG hb
  clear hG
  have hxy : x ≠ y := fun h => by subst h; rw [qx] at qy; simp at qy
  have hxz : x ≠ z := fun h => by subst h; rw [qx] at qz; simp at qz
  have hyz : y ≠ z := fun h => by subst h; rw [qy] at qz; simp at qz
  have hbx := ne_of qx hb
  have hby := ne_of qy hb
  have b0 : cellAt g1 ⟨b, 0, none⟩ = some (.int .i64 e) := by rw [cellAt_of qb]; rfl
  simp (disch := omega) only [dm_t, wA, wB, wL, wW, wY, Int.fdiv_eq_ediv_of_nonneg, Int.tdiv_eq_ediv_of_nonneg, Int.tmod_eq_emod_of_nonneg, chk_pos, decT, decF, br_pos, br_neg, wX, ↓reduceIte, Nat.reduceEqDiff, Nat.reduceAdd, Nat.reduceSub, Nat.reduceMul, Nat.reduceLeDiff, Nat.reduceLT, Nat.reduceMod, Nat.reduceDiv, Int.reduceToNat, Nat.min_eq_left, IntKind.bits, Int.reducePow, Int.reduceLT, Int.reduceLE, Int.reduceEq, Int.reduceNe, Int.reduceAdd, Int.reduceSub, and_self, reduceCtorEq, decide_eq_true_eq, decide_eq_false_iff_not, eq_self, implies_true, exists_const, Option.isNone_some, Option.isNone_none, Option.isSome_some, Option.isSome_none, Option.getD_some, wD, b0]
  refine storeH_all (e1.at qx) rfl rfl ?_
  generalize hG : hupd g1 x _ = g2
  have f2 : Fr (fun b => b = x ∨ b = y ∨ b = z) g1 g2 := by rw [← hG]; exact Fr.upd (.inl rfl) _
  have q2 : g2 x = some (.cells #[.int .i64 0, .slice none 0 0] 31) := by rw [← hG]; exact hupd_same _ _ _
  have y2 : g2 y = some (.cells #[.int .i64 n] 3) := by rw [← hG, hupd_ne _ _ hxy.symm]; exact e1.at qy
  have z2 : g2 z = some (.cells #[.int .i64 m] 41) := by rw [← hG, hupd_ne _ _ hxz.symm]; exact e1.at qz
  have b2 : cellAt g2 ⟨b, 0, none⟩ = some (.int .i64 e) := by
    have : g2 b = some (.cells #[.int .i64 e] 92) := by rw [← hG, hupd_ne _ _ hbx.symm]; exact qb
    rw [cellAt_of this]; rfl
  clear hG
  simp (disch := omega) only [dm_t, wA, wB, wL, wW, wY, Int.fdiv_eq_ediv_of_nonneg, Int.tdiv_eq_ediv_of_nonneg, Int.tmod_eq_emod_of_nonneg, chk_pos, decT, decF, br_pos, br_neg, wX, ↓reduceIte, Nat.reduceEqDiff, Nat.reduceAdd, Nat.reduceSub, Nat.reduceMul, Nat.reduceLeDiff, Nat.reduceLT, Nat.reduceMod, Nat.reduceDiv, Int.reduceToNat, Nat.min_eq_left, IntKind.bits, Int.reducePow, Int.reduceLT, Int.reduceLE, Int.reduceEq, Int.reduceNe, Int.reduceAdd, Int.reduceSub, and_self, reduceCtorEq, decide_eq_true_eq, decide_eq_false_iff_not, eq_self, implies_true, exists_const, Option.isNone_some, Option.isNone_none, Option.isSome_some, Option.isSome_none, Option.getD_some, wD, b2]
  refine storeH_all y2 rfl rfl ?_
  generalize hG : hupd g2 y _ = g3
  have f3 : Fr (fun b => b = x ∨ b = y ∨ b = z) g2 g3 := by rw [← hG]; exact Fr.upd (.inr (.inl rfl)) _
  have q3 : g3 x = some (.cells #[.int .i64 0, .slice none 0 0] 31) := by rw [← hG, hupd_ne _ _ hxy]; exact q2
  have y3 : g3 y = some (.cells #[.int .i64 0] 3) := by rw [← hG]; exact hupd_same _ _ _
  have z3 : g3 z = some (.cells #[.int .i64 m] 41) := by rw [← hG, hupd_ne _ _ hyz.symm]; exact z2
  have b3 : cellAt g3 ⟨b, 0, none⟩ = some (.int .i64 e) := by rw [cellAt_look, ← hG, hupd_ne _ _ hby.symm, ← cellAt_look]; exact b2
  clear hG
  simp (disch := omega) only [dm_t, wA, wB, wL, wW, wY, Int.fdiv_eq_ediv_of_nonneg, Int.tdiv_eq_ediv_of_nonneg, Int.tmod_eq_emod_of_nonneg, chk_pos, decT, decF, br_pos, br_neg, wX, ↓reduceIte, Nat.reduceEqDiff, Nat.reduceAdd, Nat.reduceSub, Nat.reduceMul, Nat.reduceLeDiff, Nat.reduceLT, Nat.reduceMod, Nat.reduceDiv, Int.reduceToNat, Nat.min_eq_left, IntKind.bits, Int.reducePow, Int.reduceLT, Int.reduceLE, Int.reduceEq, Int.reduceNe, Int.reduceAdd, Int.reduceSub, and_self, reduceCtorEq, decide_eq_true_eq, decide_eq_false_iff_not, eq_self, implies_true, exists_const, Option.isNone_some, Option.isNone_none, Option.isSome_some, Option.isSome_none, Option.getD_some, wD, b3]
  refine storeH_all (vs := [.int .i64 e]) z3 rfl rfl ?_
  simp (disch := omega) only [dm_t, wA, wB, wL, wW, wY, Int.fdiv_eq_ediv_of_nonneg, Int.tdiv_eq_ediv_of_nonneg, Int.tmod_eq_emod_of_nonneg, chk_pos, decT, decF, br_pos, br_neg, wX, ↓reduceIte, Nat.reduceEqDiff, Nat.reduceAdd, Nat.reduceSub, Nat.reduceMul, Nat.reduceLeDiff, Nat.reduceLT, Nat.reduceMod, Nat.reduceDiv, Int.reduceToNat, Nat.min_eq_left, IntKind.bits, Int.reducePow, Int.reduceLT, Int.reduceLE, Int.reduceEq, Int.reduceNe, Int.reduceAdd, Int.reduceSub, and_self, reduceCtorEq, decide_eq_true_eq, decide_eq_false_iff_not, eq_self, implies_true, exists_const, Option.isNone_some, Option.isNone_none, Option.isSome_some, Option.isSome_none, Option.getD_some, wD]
  refine ⟨by rw [hupd_ne _ _ hxz]; exact q3, by rw [hupd_ne _ _ hyz]; exact y3, hupd_same _ _ _, ?_⟩
  exact (((e1.mono fun _ h => h.elim).trans f2).trans f3).trans (Fr.upd (.inr (.inr rfl)) _)
end Go.Proofs.Ytbnjhgfpfajnoaa.rr
