/-
  times: the document's index; Right, Open.
-/
import Derived.Test.YtmjbgfflbeibnaaTk
namespace Go.Proofs.Ytmjbgfflbeibnaa.ti
open Go.Proofs.Ytmjbgfflbeibnaa wi
set_option linter.unusedVariables false
set_option linter.unusedSimpArgs false
theorem Number_ok {S : Nat → Prop} {h : H} {b : Value} {l : List UInt8} (hb : By S h b l) (hl : l.length ≤ 8) : Ok Try.prog 35 #[b] h fun v h' => v = .int .u64 (num l : Nat) ∧ h = h' := by
  obtain ⟨ba, bc, rfl⟩ := hb.len
  refine c35_ok (args := [_]) (by simp) ?_
  simp (disch := omega) only [dm_t, wZ, ↓reduceIte, Nat.reduceEqDiff, Nat.reduceAdd, Nat.reduceSub, Nat.reduceMul, Nat.reduceLeDiff, Nat.reduceLT, Nat.reduceMod, Nat.reduceDiv, Int.reduceToNat, Nat.min_eq_left, IntKind.bits, Int.reducePow, Int.reduceLT, Int.reduceLE, Int.reduceEq, Int.reduceNe, Int.reduceAdd, Int.reduceSub, reduceCtorEq, eq_self, implies_true, exists_const, Option.isNone_some, Option.isNone_none, Option.isSome_some, Option.isSome_none, Option.getD_some]
  refine vc_loop2 (fun vx vi h' => h' = h ∧ ∃ i : Nat, i ≤ l.length ∧ vx = .int .u64 (num (l.drop i) : Nat) ∧ vi = .int .i64 ((i : Int) - 1)) (fun _ vi _ => mp vi) ?_ ?_
  · simp (disch := omega) only [dm_t, wZ, ↓reduceIte, Nat.reduceEqDiff, Nat.reduceAdd, Nat.reduceSub, Nat.reduceMul, Nat.reduceLeDiff, Nat.reduceLT, Nat.reduceMod, Nat.reduceDiv, Int.reduceToNat, Nat.min_eq_left, IntKind.bits, Int.reducePow, Int.reduceLT, Int.reduceLE, Int.reduceEq, Int.reduceNe, Int.reduceAdd, Int.reduceSub, reduceCtorEq, eq_self, implies_true, exists_const, Option.isNone_some, Option.isNone_none, Option.isSome_some, Option.isSome_none, Option.getD_some]
    exact ⟨l.length, by omega, by rw [List.drop_eq_nil_of_le (by omega)]; rfl, rfl⟩
  rintro _ _ _ ⟨rfl, i, hi, rfl, rfl⟩
  by_cases hi0 : 0 < i
  · obtain ⟨j, rfl⟩ : ∃ j, i = j + 1 := ⟨i - 1, by omega⟩
    have hnum : num (l.drop j) = l[j].toNat + 256 * num (l.drop (j + 1)) := by
      rw [List.drop_eq_getElem_cons (by omega), num]
    have hx := num_lt (l.drop (j + 1))
    have hlen : (l.drop (j + 1)).length ≤ 7 := by rw [List.length_drop]; omega
    have hx7 : num (l.drop (j + 1)) < 256 ^ 7 := Nat.lt_of_lt_of_le hx (Nat.pow_le_pow_right (by decide) hlen)
    have hbl := (l[j]).toNat_lt
    generalize num (l.drop (j + 1)) = x at hnum hx7 ⊢
    simp (disch := omega) only [dm_t, wZ, ↓reduceIte, Nat.reduceEqDiff, Nat.reduceAdd, Nat.reduceSub, Nat.reduceMul, Nat.reduceLeDiff, Nat.reduceLT, Nat.reduceMod, Nat.reduceDiv, Int.reduceToNat, Nat.min_eq_left, IntKind.bits, Int.reducePow, Int.reduceLT, Int.reduceLE, Int.reduceEq, Int.reduceNe, Int.reduceAdd, Int.reduceSub, reduceCtorEq, eq_self, implies_true, exists_const, Option.isNone_some, Option.isNone_none, Option.isSome_some, Option.isSome_none, Option.getD_some]
    refine hb.at j (by omega) (by omega) ?_
    intro pb po g2
    simp (disch := omega) only [dm_t, wZ, ↓reduceIte, Nat.reduceEqDiff, Nat.reduceAdd, Nat.reduceSub, Nat.reduceMul, Nat.reduceLeDiff, Nat.reduceLT, Nat.reduceMod, Nat.reduceDiv, Int.reduceToNat, Nat.min_eq_left, IntKind.bits, Int.reducePow, Int.reduceLT, Int.reduceLE, Int.reduceEq, Int.reduceNe, Int.reduceAdd, Int.reduceSub, reduceCtorEq, eq_self, implies_true, exists_const, Option.isNone_some, Option.isNone_none, Option.isSome_some, Option.isSome_none, Option.getD_some, g2]
    refine ⟨⟨j, by omega, by rw [hnum]; congr 1; omega, by simp⟩, by simp [mp]⟩
  · obtain rfl : i = 0 := by omega
    simp (disch := omega) only [dm_t, wZ, ↓reduceIte, Nat.reduceEqDiff, Nat.reduceAdd, Nat.reduceSub, Nat.reduceMul, Nat.reduceLeDiff, Nat.reduceLT, Nat.reduceMod, Nat.reduceDiv, Int.reduceToNat, Nat.min_eq_left, IntKind.bits, Int.reducePow, Int.reduceLT, Int.reduceLE, Int.reduceEq, Int.reduceNe, Int.reduceAdd, Int.reduceSub, reduceCtorEq, eq_self, implies_true, exists_const, Option.isNone_some, Option.isNone_none, Option.isSome_some, Option.isSome_none, Option.getD_some]
    simp
/-- The document's index. -/
structure DX (S : Nat → Prop) (g : H) (q : Nat) (b e : Int) (v : Value) (l : List Ri) : Prop where
  obj : g q = some (.cells #[.int .i64 b, .int .i64 e, v] 59)
  lst : SlK 2 S g v (rrows l)
  len : l.length ≤ 1000000
section
variable {S T : Nat → Prop} {g g' : H} {p q : Nat} {b e b2 e2 : Int} {v v2 : Value} {l l2 : List Ri}
theorem DX.fr (X : DX S g q b e v l) (f : Fr T g g') (hT : ∀ y, T y → S y) (hp : ¬ T q) : DX S g' q b e v l := ⟨f _ _ X.obj hp, SlK.fr X.lst f hT, X.len⟩
theorem DX.ext (X : DX S g q b e v l) (f : Ext g g') : DX S g' q b e v l := X.fr f (fun _ h => h.elim) fun h => h
theorem DX.mono (X : DX S g q b e v l) (hS : ∀ x o, g x = some o → T x → S x) : DX T g q b e v l := ⟨X.obj, SlK.mono X.lst hS, X.len⟩
theorem DX.avoid (X : DX S g q b e v l) (hS : ∀ y, T y → S y ∨ g y = none) : DX T g q b e v l := X.mono fun x o hx hT => (hS x hT).elim id fun hn => by rw [hn] at hx; cases hx
theorem DX.slen (X : DX S g q b e v l) : ∃ a c, v = .slice a l.length c := by
  obtain ⟨a, c, h⟩ := SlK.len X.lst
  exact ⟨a, c, by rw [h]; simp⟩
theorem DX.c0 (X : DX S g q b e v l) : cellAt g ⟨q, 0, none⟩ = some (.int .i64 b) := by rw [cellAt_of X.obj]; rfl
theorem DX.c1 (X : DX S g q b e v l) : cellAt g ⟨q, 1, none⟩ = some (.int .i64 e) := by rw [cellAt_of X.obj]; rfl
theorem DX.c2 (X : DX S g q b e v l) : cellAt g ⟨q, 2, none⟩ = some v := by rw [cellAt_of X.obj]; rfl
theorem pg_take (h : PG b e l) (i : Nat) : PG b e (l.take i) := by
  refine pg_pre (a := l.drop i) ?_
  rwa [List.take_append_drop]
theorem no_chk {i : Nat} (hi : i < l.length) (h : ¬ Chk b e (l.take i) l[i]) : ¬ WF b e l := fun hw => by
  have h1 := pg_take hw.pg (i + 1)
  rw [List.take_succ_eq_append_getElem hi] at h1
  exact h (pg_chk h1)
def RightR (b e : Int) (l : List Ri) (g : H) (u : Value) (h' : H) : Prop := ∃ bb, u = .bool bb ∧ (bb = true ↔ WF b e l) ∧ Ext g h'
theorem right_no {g h' : H} (h : ¬ WF b e l) (E : Ext g h') : RightR b e l g (.bool false) h' := ⟨false, rfl, ⟨fun h0 => (nomatch h0), fun h0 => absurd h0 h⟩, E⟩
theorem Right_body {Q0 : Post} {G : H} {i : Nat} (X : DX S g q b e v l) (E : Ext g G) (hi : i < l.length) (hpg : PG b e (l.take i))
    (hQ1 : Chk b e (l.take i) l[i] → ∀ G', Ext g G' → vc Try.prog c36_s5 Q0 [(0, .pointer (some ⟨q, 0, none⟩)), (3, .int .i64 (i : Int))] G')
    (hQ2 : ¬ Chk b e (l.take i) l[i] → ∀ G' e', Ext g G' → e'.get 2 = some (.bool false) → Q0 .ret e' G') :
    vc Try.prog c36_s3 Q0 [(0, .pointer (some ⟨q, 0, none⟩)), (3, .int .i64 (i : Int))] G := by
  have XG := X.ext E
  have hll := X.len
  obtain ⟨a, c, rfl⟩ := X.slen
  obtain ⟨b1, o1, i1, -, -, t1⟩ := rl_at XG.lst hi .i64
  have htl : (l.take i).length = i := by rw [List.length_take]; omega
  simp (disch := omega) only [dm_t, wZ, ↓reduceIte, Nat.reduceEqDiff, Nat.reduceAdd, Nat.reduceSub, Nat.reduceMul, Nat.reduceLeDiff, Nat.reduceLT, Nat.reduceMod, Nat.reduceDiv, Int.reduceToNat, Nat.min_eq_left, IntKind.bits, Int.reducePow, Int.reduceLT, Int.reduceLE, Int.reduceEq, Int.reduceNe, Int.reduceAdd, Int.reduceSub, reduceCtorEq, eq_self, implies_true, exists_const, Option.isNone_some, Option.isNone_none, Option.isSome_some, Option.isSome_none, Option.getD_some, XG.c2, i1, t1]
  intro rb hrb
  refine storeH_all (vs := [_, _]) (hupd_same _ _ _) rfl rfl ?_
  rw [hupd_hupd]
  generalize hG : hupd G rb _ = G1
  obtain ⟨e1, qr⟩ := new_ext hG hrb
  clear hG
  have X1 := XG.ext e1
  have E1 := E.trans e1
  have r0 : cellAt G1 ⟨rb, 0, none⟩ = some (.int .i64 l[i].1) := by rw [cellAt_of qr]; rfl
  have r1 : cellAt G1 ⟨rb, 1, none⟩ = some (.int .i64 l[i].2) := by rw [cellAt_of qr]; rfl
  have pos : Chk b e (l.take i) l[i] → 0 ≤ l[i].2 := fun h => ((pg_snoc hpg h).rng _ (List.mem_append_right _ (List.mem_singleton_self _))).1
  by_cases c1 : l[i].2 < 0
  · have hb : ¬ Chk b e (l.take i) l[i] := fun h => by have := pos h; omega
    simp (disch := omega) only [dm_t, wZ, ↓reduceIte, Nat.reduceEqDiff, Nat.reduceAdd, Nat.reduceSub, Nat.reduceMul, Nat.reduceLeDiff, Nat.reduceLT, Nat.reduceMod, Nat.reduceDiv, Int.reduceToNat, Nat.min_eq_left, IntKind.bits, Int.reducePow, Int.reduceLT, Int.reduceLE, Int.reduceEq, Int.reduceNe, Int.reduceAdd, Int.reduceSub, reduceCtorEq, eq_self, implies_true, exists_const, Option.isNone_some, Option.isNone_none, Option.isSome_some, Option.isSome_none, Option.getD_some, r0, r1, X1.c0, X1.c1, X1.c2]
    exact hQ2 hb _ _ E1 rfl
  by_cases c2 : 9007199254740992 < l[i].2
  · have hb : ¬ Chk b e (l.take i) l[i] := fun h => by have := h.t2; omega
    simp (disch := omega) only [dm_t, wZ, ↓reduceIte, Nat.reduceEqDiff, Nat.reduceAdd, Nat.reduceSub, Nat.reduceMul, Nat.reduceLeDiff, Nat.reduceLT, Nat.reduceMod, Nat.reduceDiv, Int.reduceToNat, Nat.min_eq_left, IntKind.bits, Int.reducePow, Int.reduceLT, Int.reduceLE, Int.reduceEq, Int.reduceNe, Int.reduceAdd, Int.reduceSub, reduceCtorEq, eq_self, implies_true, exists_const, Option.isNone_some, Option.isNone_none, Option.isSome_some, Option.isSome_none, Option.getD_some, r0, r1, X1.c0, X1.c1, X1.c2]
    exact hQ2 hb _ _ E1 rfl
  by_cases c3 : e ≤ l[i].1
  · have hb : ¬ Chk b e (l.take i) l[i] := fun h => by have := h.o1; omega
    simp (disch := omega) only [dm_t, wZ, ↓reduceIte, Nat.reduceEqDiff, Nat.reduceAdd, Nat.reduceSub, Nat.reduceMul, Nat.reduceLeDiff, Nat.reduceLT, Nat.reduceMod, Nat.reduceDiv, Int.reduceToNat, Nat.min_eq_left, IntKind.bits, Int.reducePow, Int.reduceLT, Int.reduceLE, Int.reduceEq, Int.reduceNe, Int.reduceAdd, Int.reduceSub, reduceCtorEq, eq_self, implies_true, exists_const, Option.isNone_some, Option.isNone_none, Option.isSome_some, Option.isSome_none, Option.getD_some, r0, r1, X1.c0, X1.c1, X1.c2]
    exact hQ2 hb _ _ E1 rfl
  by_cases hi0 : i = 0
  · subst hi0
    by_cases c4 : l[0].1 = b
    · have hc : Chk b e (l.take 0) l[0] := ⟨by show (-1 : Int) < _; omega, by omega, by omega, fun _ => c4, fun h => by simp at h⟩
      have k := hQ1 hc _ E1
      simp (disch := omega) only [dm_t, wZ, ↓reduceIte, Nat.reduceEqDiff, Nat.reduceAdd, Nat.reduceSub, Nat.reduceMul, Nat.reduceLeDiff, Nat.reduceLT, Nat.reduceMod, Nat.reduceDiv, Int.reduceToNat, Nat.min_eq_left, IntKind.bits, Int.reducePow, Int.reduceLT, Int.reduceLE, Int.reduceEq, Int.reduceNe, Int.reduceAdd, Int.reduceSub, reduceCtorEq, eq_self, implies_true, exists_const, Option.isNone_some, Option.isNone_none, Option.isSome_some, Option.isSome_none, Option.getD_some, r0, r1, X1.c0, X1.c1, X1.c2, k]
    · have hb : ¬ Chk b e (l.take 0) l[0] := fun h => c4 (h.o2 rfl)
      simp (disch := omega) only [dm_t, wZ, ↓reduceIte, Nat.reduceEqDiff, Nat.reduceAdd, Nat.reduceSub, Nat.reduceMul, Nat.reduceLeDiff, Nat.reduceLT, Nat.reduceMod, Nat.reduceDiv, Int.reduceToNat, Nat.min_eq_left, IntKind.bits, Int.reducePow, Int.reduceLT, Int.reduceLE, Int.reduceEq, Int.reduceNe, Int.reduceAdd, Int.reduceSub, reduceCtorEq, eq_self, implies_true, exists_const, Option.isNone_some, Option.isNone_none, Option.isSome_some, Option.isSome_none, Option.getD_some, r0, r1, X1.c0, X1.c1, X1.c2]
      exact hQ2 hb _ _ E1 rfl
  obtain ⟨b2, o2, i2, t20, t21, -⟩ := rl_at X1.lst (i := i - 1) (by omega) .i64
  have hii : ((i - 1 : Nat) : Int) = (i : Int) - 1 := by omega
  rw [hii] at i2
  have hg : ∀ h, (l.take i)[(l.take i).length - 1]'h = l[i - 1]'(by omega) := fun h => by simp [htl]
  have htop : topP (l.take i) = (l[i - 1]'(by omega)).2 := by rw [topP_last (by omega), hg]
  by_cases c5 : l[i].1 ≤ (l[i - 1]'(by omega)).1
  · have hb : ¬ Chk b e (l.take i) l[i] := fun h => by have := h.o3 (by omega); rw [hg] at this; omega
    simp (disch := omega) only [dm_t, wZ, ↓reduceIte, Nat.reduceEqDiff, Nat.reduceAdd, Nat.reduceSub, Nat.reduceMul, Nat.reduceLeDiff, Nat.reduceLT, Nat.reduceMod, Nat.reduceDiv, Int.reduceToNat, Nat.min_eq_left, IntKind.bits, Int.reducePow, Int.reduceLT, Int.reduceLE, Int.reduceEq, Int.reduceNe, Int.reduceAdd, Int.reduceSub, reduceCtorEq, eq_self, implies_true, exists_const, Option.isNone_some, Option.isNone_none, Option.isSome_some, Option.isSome_none, Option.getD_some, r0, r1, X1.c0, X1.c1, X1.c2, i2, t20, t21]
    exact hQ2 hb _ _ E1 rfl
  by_cases c6 : l[i].2 ≤ (l[i - 1]'(by omega)).2
  · have hb : ¬ Chk b e (l.take i) l[i] := fun h => by have := h.t1; rw [htop] at this; omega
    simp (disch := omega) only [dm_t, wZ, ↓reduceIte, Nat.reduceEqDiff, Nat.reduceAdd, Nat.reduceSub, Nat.reduceMul, Nat.reduceLeDiff, Nat.reduceLT, Nat.reduceMod, Nat.reduceDiv, Int.reduceToNat, Nat.min_eq_left, IntKind.bits, Int.reducePow, Int.reduceLT, Int.reduceLE, Int.reduceEq, Int.reduceNe, Int.reduceAdd, Int.reduceSub, reduceCtorEq, eq_self, implies_true, exists_const, Option.isNone_some, Option.isNone_none, Option.isSome_some, Option.isSome_none, Option.getD_some, r0, r1, X1.c0, X1.c1, X1.c2, i2, t20, t21]
    exact hQ2 hb _ _ E1 rfl
  have hc : Chk b e (l.take i) l[i] := ⟨by rw [htop]; omega, by omega, by omega, fun h => by rw [h] at htl; simp at htl; omega, fun h => by rw [hg]; omega⟩
  have k := hQ1 hc _ E1
  simp (disch := omega) only [dm_t, wZ, ↓reduceIte, Nat.reduceEqDiff, Nat.reduceAdd, Nat.reduceSub, Nat.reduceMul, Nat.reduceLeDiff, Nat.reduceLT, Nat.reduceMod, Nat.reduceDiv, Int.reduceToNat, Nat.min_eq_left, IntKind.bits, Int.reducePow, Int.reduceLT, Int.reduceLE, Int.reduceEq, Int.reduceNe, Int.reduceAdd, Int.reduceSub, reduceCtorEq, eq_self, implies_true, exists_const, Option.isNone_some, Option.isNone_none, Option.isSome_some, Option.isSome_none, Option.getD_some, r0, r1, X1.c0, X1.c1, X1.c2, i2, t20, t21, k]
theorem Right_ok (X : DX S g q b e v l) : Ok Try.prog 36 #[.pointer (some ⟨q, 0, none⟩)] g fun u h' => RightR b e l g u h' := by
  have hll := X.len
  obtain ⟨a, c, rfl⟩ := X.slen
  refine c36_ok (args := [_]) (by simp) ?_
  have bad : ¬ WF b e l → RightR b e l g (.bool false) g := fun h => right_no h (Ext.refl _)
  by_cases c1 : b < 0
  · have k := bad fun h => by have := h.b0; omega
    simp (disch := omega) only [dm_t, wZ, ↓reduceIte, Nat.reduceEqDiff, Nat.reduceAdd, Nat.reduceSub, Nat.reduceMul, Nat.reduceLeDiff, Nat.reduceLT, Nat.reduceMod, Nat.reduceDiv, Int.reduceToNat, Nat.min_eq_left, IntKind.bits, Int.reducePow, Int.reduceLT, Int.reduceLE, Int.reduceEq, Int.reduceNe, Int.reduceAdd, Int.reduceSub, reduceCtorEq, eq_self, implies_true, exists_const, Option.isNone_some, Option.isNone_none, Option.isSome_some, Option.isSome_none, Option.getD_some, X.c0, X.c1, X.c2]
    exact k
  by_cases c2 : 9007199254740992 < b
  · have k := bad fun h => by have := h.b0; omega
    simp (disch := omega) only [dm_t, wZ, ↓reduceIte, Nat.reduceEqDiff, Nat.reduceAdd, Nat.reduceSub, Nat.reduceMul, Nat.reduceLeDiff, Nat.reduceLT, Nat.reduceMod, Nat.reduceDiv, Int.reduceToNat, Nat.min_eq_left, IntKind.bits, Int.reducePow, Int.reduceLT, Int.reduceLE, Int.reduceEq, Int.reduceNe, Int.reduceAdd, Int.reduceSub, reduceCtorEq, eq_self, implies_true, exists_const, Option.isNone_some, Option.isNone_none, Option.isSome_some, Option.isSome_none, Option.getD_some, X.c0, X.c1, X.c2]
    exact k
  by_cases c3 : e < b
  · have k := bad fun h => by have := h.be; omega
    simp (disch := omega) only [dm_t, wZ, ↓reduceIte, Nat.reduceEqDiff, Nat.reduceAdd, Nat.reduceSub, Nat.reduceMul, Nat.reduceLeDiff, Nat.reduceLT, Nat.reduceMod, Nat.reduceDiv, Int.reduceToNat, Nat.min_eq_left, IntKind.bits, Int.reducePow, Int.reduceLT, Int.reduceLE, Int.reduceEq, Int.reduceNe, Int.reduceAdd, Int.reduceSub, reduceCtorEq, eq_self, implies_true, exists_const, Option.isNone_some, Option.isNone_none, Option.isSome_some, Option.isSome_none, Option.getD_some, X.c0, X.c1, X.c2]
    exact k
  by_cases c4 : 9007199254740993 < e
  · have k := bad fun h => by have := h.be; omega
    simp (disch := omega) only [dm_t, wZ, ↓reduceIte, Nat.reduceEqDiff, Nat.reduceAdd, Nat.reduceSub, Nat.reduceMul, Nat.reduceLeDiff, Nat.reduceLT, Nat.reduceMod, Nat.reduceDiv, Int.reduceToNat, Nat.min_eq_left, IntKind.bits, Int.reducePow, Int.reduceLT, Int.reduceLE, Int.reduceEq, Int.reduceNe, Int.reduceAdd, Int.reduceSub, reduceCtorEq, eq_self, implies_true, exists_const, Option.isNone_some, Option.isNone_none, Option.isSome_some, Option.isSome_none, Option.getD_some, X.c0, X.c1, X.c2]
    exact k
  by_cases c5 : 65536 < l.length
  · have k := bad fun h => by have := h.len; omega
    simp (disch := omega) only [dm_t, wZ, ↓reduceIte, Nat.reduceEqDiff, Nat.reduceAdd, Nat.reduceSub, Nat.reduceMul, Nat.reduceLeDiff, Nat.reduceLT, Nat.reduceMod, Nat.reduceDiv, Int.reduceToNat, Nat.min_eq_left, IntKind.bits, Int.reducePow, Int.reduceLT, Int.reduceLE, Int.reduceEq, Int.reduceNe, Int.reduceAdd, Int.reduceSub, reduceCtorEq, eq_self, implies_true, exists_const, Option.isNone_some, Option.isNone_none, Option.isSome_some, Option.isSome_none, Option.getD_some, X.c0, X.c1, X.c2]
    exact k
  have hnil : l.length = 0 ↔ l = [] := List.length_eq_zero_iff
  have hl0 : ((l.length : Int) = 0) ↔ l = [] := by rw [← hnil]; omega
  by_cases c6 : (l = [] ↔ e = b)
  · have key : vc Try.prog c36_s1 (retQ [2] (okR (RightR b e l g))) [(0, .pointer (some ⟨q, 0, none⟩))] g := by
      simp (disch := omega) only [dm_t, wZ, ↓reduceIte, Nat.reduceEqDiff, Nat.reduceAdd, Nat.reduceSub, Nat.reduceMul, Nat.reduceLeDiff, Nat.reduceLT, Nat.reduceMod, Nat.reduceDiv, Int.reduceToNat, Nat.min_eq_left, IntKind.bits, Int.reducePow, Int.reduceLT, Int.reduceLE, Int.reduceEq, Int.reduceNe, Int.reduceAdd, Int.reduceSub, reduceCtorEq, eq_self, implies_true, exists_const, Option.isNone_some, Option.isNone_none, Option.isSome_some, Option.isSome_none, Option.getD_some]
      refine vc_loop1 (fun vi G => ∃ i : Nat, vi = .int .i64 (i : Int) ∧ i ≤ l.length ∧ PG b e (l.take i) ∧ Ext g G) (fun vi _ => l.length - m1 vi) ?_ ?_
      · simp (disch := omega) only [dm_t, wZ, ↓reduceIte, Nat.reduceEqDiff, Nat.reduceAdd, Nat.reduceSub, Nat.reduceMul, Nat.reduceLeDiff, Nat.reduceLT, Nat.reduceMod, Nat.reduceDiv, Int.reduceToNat, Nat.min_eq_left, IntKind.bits, Int.reducePow, Int.reduceLT, Int.reduceLE, Int.reduceEq, Int.reduceNe, Int.reduceAdd, Int.reduceSub, reduceCtorEq, eq_self, implies_true, exists_const, Option.isNone_some, Option.isNone_none, Option.isSome_some, Option.isSome_none, Option.getD_some]
        exact ⟨0, rfl, by omega, ⟨by simp, by simp, by simp⟩, Ext.refl _⟩
      rintro _ G ⟨i, rfl, hi, hpg, E⟩
      by_cases hil : i < l.length
      · generalize hQ0 : lq1 _ _ _ _ _ _ _ = Q0
        have k3 := Right_body (Q0 := Q0) X E hil hpg (fun hc G' e' => by
          rw [← hQ0]
          simp (disch := omega) only [dm_t, wZ, ↓reduceIte, Nat.reduceEqDiff, Nat.reduceAdd, Nat.reduceSub, Nat.reduceMul, Nat.reduceLeDiff, Nat.reduceLT, Nat.reduceMod, Nat.reduceDiv, Int.reduceToNat, Nat.min_eq_left, IntKind.bits, Int.reducePow, Int.reduceLT, Int.reduceLE, Int.reduceEq, Int.reduceNe, Int.reduceAdd, Int.reduceSub, reduceCtorEq, eq_self, implies_true, exists_const, Option.isNone_some, Option.isNone_none, Option.isSome_some, Option.isSome_none, Option.getD_some]
          exact ⟨⟨i + 1, by simp, by omega, by rw [List.take_succ_eq_append_getElem hil]; exact pg_snoc hpg hc, e'⟩, by simp [m1]; omega⟩) (fun hc G' e' EG' he' => by
          rw [← hQ0]
          simp (disch := omega) only [dm_t, wZ, ↓reduceIte, Nat.reduceEqDiff, Nat.reduceAdd, Nat.reduceSub, Nat.reduceMul, Nat.reduceLeDiff, Nat.reduceLT, Nat.reduceMod, Nat.reduceDiv, Int.reduceToNat, Nat.min_eq_left, IntKind.bits, Int.reducePow, Int.reduceLT, Int.reduceLE, Int.reduceEq, Int.reduceNe, Int.reduceAdd, Int.reduceSub, reduceCtorEq, eq_self, implies_true, exists_const, Option.isNone_some, Option.isNone_none, Option.isSome_some, Option.isSome_none, Option.getD_some, he']
          exact right_no (no_chk hil hc) EG')
        have XG := X.ext E
        simp (disch := omega) only [dm_t, wZ, ↓reduceIte, Nat.reduceEqDiff, Nat.reduceAdd, Nat.reduceSub, Nat.reduceMul, Nat.reduceLeDiff, Nat.reduceLT, Nat.reduceMod, Nat.reduceDiv, Int.reduceToNat, Nat.min_eq_left, IntKind.bits, Int.reducePow, Int.reduceLT, Int.reduceLE, Int.reduceEq, Int.reduceNe, Int.reduceAdd, Int.reduceSub, reduceCtorEq, eq_self, implies_true, exists_const, Option.isNone_some, Option.isNone_none, Option.isSome_some, Option.isSome_none, Option.getD_some, XG.c2, k3]
      · obtain rfl : i = l.length := by omega
        rw [List.take_length] at hpg
        have XG := X.ext E
        have hw := wf_pg hpg (by omega) (by omega) (by omega) c6
        simp (disch := omega) only [dm_t, wZ, ↓reduceIte, Nat.reduceEqDiff, Nat.reduceAdd, Nat.reduceSub, Nat.reduceMul, Nat.reduceLeDiff, Nat.reduceLT, Nat.reduceMod, Nat.reduceDiv, Int.reduceToNat, Nat.min_eq_left, IntKind.bits, Int.reducePow, Int.reduceLT, Int.reduceLE, Int.reduceEq, Int.reduceNe, Int.reduceAdd, Int.reduceSub, reduceCtorEq, eq_self, implies_true, exists_const, Option.isNone_some, Option.isNone_none, Option.isSome_some, Option.isSome_none, Option.getD_some, XG.c2]
        exact ⟨true, rfl, by simp [hw], E⟩
    by_cases c7 : l = []
    · have c8 := c6.1 c7
      have c7' := hl0.2 c7
      have hd : decide (e = b) = true := by simp [c8]
      simp (disch := omega) only [dm_t, wZ, ↓reduceIte, Nat.reduceEqDiff, Nat.reduceAdd, Nat.reduceSub, Nat.reduceMul, Nat.reduceLeDiff, Nat.reduceLT, Nat.reduceMod, Nat.reduceDiv, Int.reduceToNat, Nat.min_eq_left, IntKind.bits, Int.reducePow, Int.reduceLT, Int.reduceLE, Int.reduceEq, Int.reduceNe, Int.reduceAdd, Int.reduceSub, reduceCtorEq, eq_self, implies_true, exists_const, Option.isNone_some, Option.isNone_none, Option.isSome_some, Option.isSome_none, Option.getD_some, X.c0, X.c1, X.c2, c7', hd, key]
    · have c8 : ¬ e = b := fun h => c7 (c6.2 h)
      have c7' : ¬ (l.length : Int) = 0 := fun h => c7 (hl0.1 h)
      simp (disch := omega) only [dm_t, wZ, ↓reduceIte, Nat.reduceEqDiff, Nat.reduceAdd, Nat.reduceSub, Nat.reduceMul, Nat.reduceLeDiff, Nat.reduceLT, Nat.reduceMod, Nat.reduceDiv, Int.reduceToNat, Nat.min_eq_left, IntKind.bits, Int.reducePow, Int.reduceLT, Int.reduceLE, Int.reduceEq, Int.reduceNe, Int.reduceAdd, Int.reduceSub, reduceCtorEq, eq_self, implies_true, exists_const, Option.isNone_some, Option.isNone_none, Option.isSome_some, Option.isSome_none, Option.getD_some, X.c0, X.c1, X.c2, c7', c8, key]
  · have k := bad fun h => c6 h.nil
    by_cases c7 : l = []
    · have c8 : ¬ e = b := fun h => c6 ⟨fun _ => h, fun _ => c7⟩
      have c7' := hl0.2 c7
      simp (disch := omega) only [dm_t, wZ, ↓reduceIte, Nat.reduceEqDiff, Nat.reduceAdd, Nat.reduceSub, Nat.reduceMul, Nat.reduceLeDiff, Nat.reduceLT, Nat.reduceMod, Nat.reduceDiv, Int.reduceToNat, Nat.min_eq_left, IntKind.bits, Int.reducePow, Int.reduceLT, Int.reduceLE, Int.reduceEq, Int.reduceNe, Int.reduceAdd, Int.reduceSub, reduceCtorEq, eq_self, implies_true, exists_const, Option.isNone_some, Option.isNone_none, Option.isSome_some, Option.isSome_none, Option.getD_some, X.c0, X.c1, X.c2, c7', c8]
      exact k
    · have c8 : e = b := Classical.byContradiction fun h => c6 ⟨fun h' => absurd h' c7, fun h' => absurd h' h⟩
      have c7' : ¬ (l.length : Int) = 0 := fun h => c7 (hl0.1 h)
      have hd : decide (e = b) = true := by simp [c8]
      simp (disch := omega) only [dm_t, wZ, ↓reduceIte, Nat.reduceEqDiff, Nat.reduceAdd, Nat.reduceSub, Nat.reduceMul, Nat.reduceLeDiff, Nat.reduceLT, Nat.reduceMod, Nat.reduceDiv, Int.reduceToNat, Nat.min_eq_left, IntKind.bits, Int.reducePow, Int.reduceLT, Int.reduceLE, Int.reduceEq, Int.reduceNe, Int.reduceAdd, Int.reduceSub, reduceCtorEq, eq_self, implies_true, exists_const, Option.isNone_some, Option.isNone_none, Option.isSome_some, Option.isSome_none, Option.getD_some, X.c0, X.c1, X.c2, c7', hd]
      exact k
end
end Go.Proofs.Ytmjbgfflbeibnaa.ti
