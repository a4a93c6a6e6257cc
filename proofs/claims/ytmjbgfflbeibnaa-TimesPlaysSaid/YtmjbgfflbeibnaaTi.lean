/-
  times: Open, walked.
-/
import Derived.Test.YtmjbgfflbeibnaaTh
namespace Go.Proofs.Ytmjbgfflbeibnaa.ti
open Go.Proofs.Ytmjbgfflbeibnaa wi
set_option linter.unusedVariables false
set_option linter.unusedSimpArgs false
theorem oe2 {bs : List UInt8} (h : ¬ bs.length < 20) (h1 : oCnt bs ≤ 65536 ∧ bs.length - 20 < 16 * oCnt bs) : openE bs = 111 := by rw [openE, if_neg h, if_pos h1]
theorem oe3 {bs : List UInt8} (h : ¬ bs.length < 20) (h1 : ¬ (oCnt bs ≤ 65536 ∧ bs.length - 20 < 16 * oCnt bs)) (h2 : 65536 < oCnt bs ∨ bs.length - 20 ≠ 16 * oCnt bs) : openE bs = 220 := by rw [openE, if_neg h, if_neg h1, if_pos h2]
theorem oe4 {bs : List UInt8} (h : ¬ bs.length < 20) (h1 : ¬ (oCnt bs ≤ 65536 ∧ bs.length - 20 < 16 * oCnt bs)) (h2 : ¬ (65536 < oCnt bs ∨ bs.length - 20 ≠ 16 * oCnt bs)) (hw : WF (oBase bs) (oEnd bs) (oLst bs (oCnt bs))) : openE bs = 0 := by rw [openE, if_neg h, if_neg h1, if_neg h2, if_pos hw]
theorem oe5 {bs : List UInt8} (h : ¬ bs.length < 20) (h1 : ¬ (oCnt bs ≤ 65536 ∧ bs.length - 20 < 16 * oCnt bs)) (h2 : ¬ (65536 < oCnt bs ∨ bs.length - 20 ≠ 16 * oCnt bs)) (hw : ¬ WF (oBase bs) (oEnd bs) (oLst bs (oCnt bs))) : openE bs = 220 := by rw [openE, if_neg h, if_neg h1, if_neg h2, if_neg hw]
/-- What Open answers. -/
def OR (g : H) (bs : List UInt8) (u : Value) (h' : H) : Prop :=
  (∃ pv, u = .tuple #[pv, .int .i64 (openE bs)] ∧ if openE bs = 0 then ∃ p v, pv = .pointer (some ⟨p, 0, none⟩) ∧ g p = none ∧ XI (fun y => g y ≠ none ∨ y = p) h' p (oBase bs) (oEnd bs) v (oLst bs (oCnt bs)) else pv = .pointer none) ∧ Ext g h'
theorem or_bad {g h' : H} {bs : List UInt8} {n : Int} (h : openE bs = n) (hn : n ≠ 0) (E : Ext g h') : OR g bs (.tuple #[.pointer none, .int .i64 n]) h' :=
  ⟨⟨_, by rw [h], by rw [h, if_neg hn]⟩, E⟩
structure OS (gR G : H) (rb p : Nat) (s : Value) (bs : List UInt8) (i : Nat) (v : Value) : Prop where
  obj : G p = some (.cells #[.int .i64 (oBase bs), .int .i64 (oEnd bs), v, .bool true] 72)
  rd : G rb = some (.cells #[s, .int .i64 ((20 + 16 * i : Nat) : Int), .bool true] 99)
  own : OwK 2 (fun y => gR y = none ∧ y ≠ p) G 50 v (rrows (oLst bs i))
  pg : PG (oBase bs) (oEnd bs) (oLst bs i)
  F : Fr (fun y => y = rb) gR G
theorem rd_at {gR G : H} {rb : Nat} {s : Value} {bs : List UInt8} {k : Nat} (r0 : Rd gR rb s bs 0) (F : Fr (fun y => y = rb) gR G) (obj : G rb = some (.cells #[s, .int .i64 (k : Int), .bool true] 99)) (hk : k ≤ bs.length) : Rd G rb s bs k :=
  ⟨obj, r0.sl.fr F fun _ h => h, hk, r0.big⟩
section
variable {g gR G : H} {rb p i : Nat} {s v : Value} {bs : List UInt8}
theorem op_s11 {Q0 : Post} (r0 : Rd gR rb s bs 0) (E : Ext g gR) (hrb : g rb = none) (hp : gR p = none) (O : OS gR G rb p s bs i v) (hi : i < oCnt bs) (hc : oCnt bs ≤ 65536) (hl : bs.length = 20 + 16 * oCnt bs) (hE : ¬ WF (oBase bs) (oEnd bs) (oLst bs (oCnt bs)) → openE bs = 220)
    (hQ1 : ∀ G' v', OS gR G' rb p s bs (i + 1) v' → vc Try.prog c8_s16 Q0 [(4, .pointer (some ⟨rb, 0, none⟩)), (5, .pointer (some ⟨p, 0, none⟩)), (6, .int .u32 (oCnt bs : Int)), (60, .int .u32 (oCnt bs : Int)), (61, .int .u32 (i : Int))] G')
    (hQ2 : ∀ G' n, openE bs = 220 → Ext g G' → n = 220 → ∀ e', e'.get 2 = some (.pointer none) → e'.get 3 = some (.int .i64 n) → Q0 .ret e' G') :
    vc Try.prog c8_s11 Q0 [(4, .pointer (some ⟨rb, 0, none⟩)), (5, .pointer (some ⟨p, 0, none⟩)), (6, .int .u32 (oCnt bs : Int)), (60, .int .u32 (oCnt bs : Int)), (61, .int .u32 (i : Int))] G := by
  have hprb : p ≠ rb := fun h => r0.there (h ▸ hp)
  have hgp : ∀ {G'}, Fr (fun y => y = rb ∨ y = p) gR G' → Ext g G' := fun f => Ext.step' E f fun y hy => hy.elim (fun h => h ▸ hrb) fun h => h ▸ E.bk hp
  have R := rd_at r0 O.F O.rd (by omega)
  simp (disch := omega) only [dm_t, wZ, ↓reduceIte, Nat.reduceEqDiff, Nat.reduceAdd, Nat.reduceSub, Nat.reduceMul, Nat.reduceLeDiff, Nat.reduceLT, Nat.reduceMod, Nat.reduceDiv, Int.reduceToNat, Nat.min_eq_left, IntKind.bits, Int.reducePow, Int.reduceLT, Int.reduceLE, Int.reduceEq, Int.reduceNe, Int.reduceAdd, Int.reduceSub, reduceCtorEq, eq_self, implies_true, exists_const, Option.isNone_some, Option.isNone_none, Option.isSome_some, Option.isSome_none, Option.getD_some]
  intro yb hyb
  have hyr : rb ≠ yb := ne_of O.rd hyb
  have hyp : p ≠ yb := ne_of O.obj hyb
  generalize hG : hupd G yb _ = G1
  obtain ⟨e1, qy⟩ := new_ext hG hyb
  clear hG
  have hRy : gR yb = none := by
    cases hc : gR yb with
    | none => rfl
    | some o =>
      have := O.F yb o hc hyr.symm
      rw [hyb] at this; cases this
  simp (disch := omega) only [dm_t, wZ, ↓reduceIte, Nat.reduceEqDiff, Nat.reduceAdd, Nat.reduceSub, Nat.reduceMul, Nat.reduceLeDiff, Nat.reduceLT, Nat.reduceMod, Nat.reduceDiv, Int.reduceToNat, Nat.min_eq_left, IntKind.bits, Int.reducePow, Int.reduceLT, Int.reduceLE, Int.reduceEq, Int.reduceNe, Int.reduceAdd, Int.reduceSub, reduceCtorEq, eq_self, implies_true, exists_const, Option.isNone_some, Option.isNone_none, Option.isSome_some, Option.isSome_none, Option.getD_some]
  refine (wi.I64_ok (R.ext e1) (by omega)).k ?_
  rintro _ G2 ⟨rfl, R2, f2⟩
  have qy2 := f2 _ _ qy hyr.symm
  simp (disch := omega) only [dm_t, wZ, ↓reduceIte, Nat.reduceEqDiff, Nat.reduceAdd, Nat.reduceSub, Nat.reduceMul, Nat.reduceLeDiff, Nat.reduceLT, Nat.reduceMod, Nat.reduceDiv, Int.reduceToNat, Nat.min_eq_left, IntKind.bits, Int.reducePow, Int.reduceLT, Int.reduceLE, Int.reduceEq, Int.reduceNe, Int.reduceAdd, Int.reduceSub, reduceCtorEq, eq_self, implies_true, exists_const, Option.isNone_some, Option.isNone_none, Option.isSome_some, Option.isSome_none, Option.getD_some]
  rw [storeH_0 qy2]
  refine ⟨by simp, rfl, ?_⟩
  generalize hG : hupd G2 yb _ = G3
  have f3 : Fr (fun y => y = yb) G2 G3 := hG ▸ Fr.upd (S := fun y => y = yb) rfl _
  have qy3 : G3 yb = some (.cells #[.int .i64 (sgn64 (num ((bs.drop (20 + 16 * i)).take 8))), .int .i64 0] 50) := by rw [← hG, hupd_same]; rfl
  clear hG
  have FR3 : Fr (fun y => y = rb) gR G3 := fun y o hy hn => f3 y o (f2 y o (e1.at (O.F y o hy hn)) hn) fun h => by rw [h, hRy] at hy; cases hy
  have R3 := rd_at (k := 20 + 16 * i + 8) r0 FR3 (f3 _ _ R2.obj hyr) (by omega)
  simp (disch := omega) only [dm_t, wZ, ↓reduceIte, Nat.reduceEqDiff, Nat.reduceAdd, Nat.reduceSub, Nat.reduceMul, Nat.reduceLeDiff, Nat.reduceLT, Nat.reduceMod, Nat.reduceDiv, Int.reduceToNat, Nat.min_eq_left, IntKind.bits, Int.reducePow, Int.reduceLT, Int.reduceLE, Int.reduceEq, Int.reduceNe, Int.reduceAdd, Int.reduceSub, reduceCtorEq, eq_self, implies_true, exists_const, Option.isNone_some, Option.isNone_none, Option.isSome_some, Option.isSome_none, Option.getD_some]
  refine (wi.I64_ok R3 (by omega)).k ?_
  rintro _ G4 ⟨rfl, R4, f4⟩
  have qy4 := f4 _ _ qy3 hyr.symm
  simp (disch := omega) only [dm_t, wZ, ↓reduceIte, Nat.reduceEqDiff, Nat.reduceAdd, Nat.reduceSub, Nat.reduceMul, Nat.reduceLeDiff, Nat.reduceLT, Nat.reduceMod, Nat.reduceDiv, Int.reduceToNat, Nat.min_eq_left, IntKind.bits, Int.reducePow, Int.reduceLT, Int.reduceLE, Int.reduceEq, Int.reduceNe, Int.reduceAdd, Int.reduceSub, reduceCtorEq, eq_self, implies_true, exists_const, Option.isNone_some, Option.isNone_none, Option.isSome_some, Option.isSome_none, Option.getD_some]
  rw [storeH_0 qy4]
  refine ⟨by simp, rfl, ?_⟩
  generalize hG : hupd G4 yb _ = G5
  have f5 : Fr (fun y => y = yb) G4 G5 := hG ▸ Fr.upd (S := fun y => y = yb) rfl _
  have qy5 : G5 yb = some (.cells #[.int .i64 (oRise bs i).1, .int .i64 (oRise bs i).2] 50) := by
    rw [← hG, hupd_same]
    have : 20 + 16 * i + 8 = 28 + 16 * i := by omega
    rw [this]; rfl
  clear hG
  have F15 : Fr (fun y => y = rb ∨ y = yb) G1 G5 := (((f2.mono fun y h => .inl h).trans (f3.mono fun y h => .inr h)).trans (f4.mono fun y h => .inl h)).trans (f5.mono fun y h => .inr h)
  have FG5 : Fr (fun y => y = rb) G G5 := fun y o hy hn => F15 y o (e1.at hy) fun h => h.elim hn fun h => by rw [h, hyb] at hy; cases hy
  have FR5 : Fr (fun y => y = rb) gR G5 := O.F.trans FG5
  have obj5 := FG5 _ _ O.obj hprb
  have own5 := OwK.fr O.own FG5 fun y hy ho _ => r0.there (hy ▸ ho.1)
  have rd5 := f5 _ _ R4.obj hyr
  have hli := oLst_len bs i
  obtain ⟨a, c, hv⟩ := SlK.len own5.s0
  rw [List.length_map, hli] at hv
  subst hv
  have y0 : cellAt G5 ⟨yb, 0, none⟩ = some (.int .i64 (oRise bs i).1) := by rw [cellAt_of qy5]; rfl
  have y1 : cellAt G5 ⟨yb, 1, none⟩ = some (.int .i64 (oRise bs i).2) := by rw [cellAt_of qy5]; rfl
  have x0 : cellAt G5 ⟨p, 0, none⟩ = some (.int .i64 (oBase bs)) := by rw [cellAt_of obj5]; rfl
  have x1 : cellAt G5 ⟨p, 1, none⟩ = some (.int .i64 (oEnd bs)) := by rw [cellAt_of obj5]; rfl
  have x2 : cellAt G5 ⟨p, 2, none⟩ = some (.slice a i c) := by rw [cellAt_of obj5]; rfl
  have ya := cellsAt_all qy5 2 rfl
  have E5 : Ext g G5 := hgp (FR5.mono fun y h => .inl h)
  have bad : ¬ Chk (oBase bs) (oEnd bs) (oLst bs i) (oRise bs i) → openE bs = 220 := fun h => hE (no_wf hi h)
  generalize hr : oRise bs i = r at *
  simp (disch := omega) only [dm_t, wZ, ↓reduceIte, Nat.reduceEqDiff, Nat.reduceAdd, Nat.reduceSub, Nat.reduceMul, Nat.reduceLeDiff, Nat.reduceLT, Nat.reduceMod, Nat.reduceDiv, Int.reduceToNat, Nat.min_eq_left, IntKind.bits, Int.reducePow, Int.reduceLT, Int.reduceLE, Int.reduceEq, Int.reduceNe, Int.reduceAdd, Int.reduceSub, reduceCtorEq, eq_self, implies_true, exists_const, Option.isNone_some, Option.isNone_none, Option.isSome_some, Option.isSome_none, Option.getD_some, y1]
  refine (topO_ok obj5 own5.s0 (by omega)).k ?_
  rintro _ _ ⟨rfl, rfl⟩
  by_cases c1 : r.2 ≤ topP (oLst bs i)
  · have hb := bad fun h => by have := h.t1; omega
    simp (disch := omega) only [dm_t, wZ, ↓reduceIte, Nat.reduceEqDiff, Nat.reduceAdd, Nat.reduceSub, Nat.reduceMul, Nat.reduceLeDiff, Nat.reduceLT, Nat.reduceMod, Nat.reduceDiv, Int.reduceToNat, Nat.min_eq_left, IntKind.bits, Int.reducePow, Int.reduceLT, Int.reduceLE, Int.reduceEq, Int.reduceNe, Int.reduceAdd, Int.reduceSub, reduceCtorEq, eq_self, implies_true, exists_const, Option.isNone_some, Option.isNone_none, Option.isSome_some, Option.isSome_none, Option.getD_some, y1]
    exact hQ2 _ _ hb E5 rfl _ rfl rfl
  by_cases c2 : 9007199254740992 < r.2
  · have hb := bad fun h => by have := h.t2; omega
    simp (disch := omega) only [dm_t, wZ, ↓reduceIte, Nat.reduceEqDiff, Nat.reduceAdd, Nat.reduceSub, Nat.reduceMul, Nat.reduceLeDiff, Nat.reduceLT, Nat.reduceMod, Nat.reduceDiv, Int.reduceToNat, Nat.min_eq_left, IntKind.bits, Int.reducePow, Int.reduceLT, Int.reduceLE, Int.reduceEq, Int.reduceNe, Int.reduceAdd, Int.reduceSub, reduceCtorEq, eq_self, implies_true, exists_const, Option.isNone_some, Option.isNone_none, Option.isSome_some, Option.isSome_none, Option.getD_some, y1]
    exact hQ2 _ _ hb E5 rfl _ rfl rfl
  by_cases c3 : oEnd bs ≤ r.1
  · have hb := bad fun h => by have := h.o1; omega
    simp (disch := omega) only [dm_t, wZ, ↓reduceIte, Nat.reduceEqDiff, Nat.reduceAdd, Nat.reduceSub, Nat.reduceMul, Nat.reduceLeDiff, Nat.reduceLT, Nat.reduceMod, Nat.reduceDiv, Int.reduceToNat, Nat.min_eq_left, IntKind.bits, Int.reducePow, Int.reduceLT, Int.reduceLE, Int.reduceEq, Int.reduceNe, Int.reduceAdd, Int.reduceSub, reduceCtorEq, eq_self, implies_true, exists_const, Option.isNone_some, Option.isNone_none, Option.isSome_some, Option.isSome_none, Option.getD_some, y1, y0, x1]
    exact hQ2 _ _ hb E5 rfl _ rfl rfl
  -- the append
  have app : Chk (oBase bs) (oEnd bs) (oLst bs i) r → vc Try.prog c8_s15 (blockQ 2 (seqQ Try.prog [4, 5, 6, 60, 61] c8_s16 Q0)) [(4, .pointer (some ⟨rb, 0, none⟩)), (5, .pointer (some ⟨p, 0, none⟩)), (6, .int .u32 (oCnt bs : Int)), (9, .pointer (some ⟨yb, 0, none⟩)), (60, .int .u32 (oCnt bs : Int)), (61, .int .u32 (i : Int))] G5 := by
    intro hchk
    simp (disch := omega) only [dm_t, wZ, ↓reduceIte, Nat.reduceEqDiff, Nat.reduceAdd, Nat.reduceSub, Nat.reduceMul, Nat.reduceLeDiff, Nat.reduceLT, Nat.reduceMod, Nat.reduceDiv, Int.reduceToNat, Nat.min_eq_left, IntKind.bits, Int.reducePow, Int.reduceLT, Int.reduceLE, Int.reduceEq, Int.reduceNe, Int.reduceAdd, Int.reduceSub, reduceCtorEq, eq_self, implies_true, exists_const, Option.isNone_some, Option.isNone_none, Option.isSome_some, Option.isSome_none, Option.getD_some, x2, ya]
    intro lb hlb
    have hlp : p ≠ lb := ne_of obj5 hlb
    have el := Ext.new hlb (.cells #[.int .i64 r.1, .int .i64 r.2] 50)
    simp (disch := omega) only [dm_t, wZ, ↓reduceIte, Nat.reduceEqDiff, Nat.reduceAdd, Nat.reduceSub, Nat.reduceMul, Nat.reduceLeDiff, Nat.reduceLT, Nat.reduceMod, Nat.reduceDiv, Int.reduceToNat, Nat.min_eq_left, IntKind.bits, Int.reducePow, Int.reduceLT, Int.reduceLE, Int.reduceEq, Int.reduceNe, Int.reduceAdd, Int.reduceSub, reduceCtorEq, eq_self, implies_true, exists_const, Option.isNone_some, Option.isNone_none, Option.isSome_some, Option.isSome_none, Option.getD_some, cellAt_ext el x2, cellsAt_ext el ya]
    refine pushk (V := fun _ => _) (bytes := 16) (z := #[.int .i64 0, .int .i64 0]) (row := rrow r) own5 (fun y hy => ⟨?_, fun h => by rw [h, obj5] at hy; cases hy⟩) rfl rfl rfl (by simp [hli]; omega) (by simp [hli]; omega) ?_ lb hlb
    · cases hcy : gR y with
      | none => rfl
      | some o =>
        by_cases hyrb : y = rb
        · rw [hyrb, rd5] at hy; cases hy
        · rw [FR5 y o hcy hyrb] at hy; cases hy
    intro _ v' G6 hb6 o6 f6 hat
    have obj6 := f6 _ _ obj5 fun h => h.1.2 rfl
    have rd6 := f6 _ _ rd5 fun h => r0.there h.1.1
    obtain ⟨va, vn, rfl⟩ := SlK.len o6.s0
    simp (disch := omega) only [dm_t, wZ, ↓reduceIte, Nat.reduceEqDiff, Nat.reduceAdd, Nat.reduceSub, Nat.reduceMul, Nat.reduceLeDiff, Nat.reduceLT, Nat.reduceMod, Nat.reduceDiv, Int.reduceToNat, Nat.min_eq_left, IntKind.bits, Int.reducePow, Int.reduceLT, Int.reduceLE, Int.reduceEq, Int.reduceNe, Int.reduceAdd, Int.reduceSub, reduceCtorEq, eq_self, implies_true, exists_const, Option.isNone_some, Option.isNone_none, Option.isSome_some, Option.isSome_none, Option.getD_some]
    rw [storeH_0 obj6]
    refine ⟨by simp, rfl, ?_⟩
    generalize hG : hupd G6 p _ = G7
    have f7 : Fr (fun y => y = p) G6 G7 := hG ▸ Fr.upd (S := fun y => y = p) rfl _
    have q7 : G7 p = some (.cells #[.int .i64 (oBase bs), .int .i64 (oEnd bs), .slice va (rrows (oLst bs i) ++ [rrow r]).length vn, .bool true] 72) := by rw [← hG, hupd_same]; rfl
    clear hG
    have hsn : oLst bs (i + 1) = oLst bs i ++ [r] := by rw [oLst_succ, hr]
    have k9 := hQ1 G7 _ ⟨q7, ?_, ?_, ?_, ?_⟩
    · simp (disch := omega) only [dm_t, wZ, ↓reduceIte, Nat.reduceEqDiff, Nat.reduceAdd, Nat.reduceSub, Nat.reduceMul, Nat.reduceLeDiff, Nat.reduceLT, Nat.reduceMod, Nat.reduceDiv, Int.reduceToNat, Nat.min_eq_left, IntKind.bits, Int.reducePow, Int.reduceLT, Int.reduceLE, Int.reduceEq, Int.reduceNe, Int.reduceAdd, Int.reduceSub, reduceCtorEq, eq_self, implies_true, exists_const, Option.isNone_some, Option.isNone_none, Option.isSome_some, Option.isSome_none, Option.getD_some, k9]
    · have := f7 _ _ rd6 hprb.symm
      rw [this]
      congr 4
    · rw [hsn, show rrows (oLst bs i ++ [r]) = rrows (oLst bs i) ++ [rrow r] by simp]
      exact OwK.fr o6 f7 fun y hy ho _ => ho.2 hy
    · rw [hsn]
      exact pg_snoc O.pg hchk
    · intro y o hy hn
      refine f7 y o (f6 y o (FR5 y o hy hn) fun h => by have h2 := h.1.1; rw [hy] at h2; cases h2) fun h => by rw [h, hp] at hy; cases hy
  by_cases hi0 : i = 0
  · subst hi0
    have hnil : oLst bs 0 = [] := rfl
    by_cases c4 : r.1 = oBase bs
    · have k15 := app ⟨by omega, by omega, by omega, fun _ => c4, fun h => by rw [hnil] at h; simp at h⟩
      simp (disch := omega) only [dm_t, wZ, ↓reduceIte, Nat.reduceEqDiff, Nat.reduceAdd, Nat.reduceSub, Nat.reduceMul, Nat.reduceLeDiff, Nat.reduceLT, Nat.reduceMod, Nat.reduceDiv, Int.reduceToNat, Nat.min_eq_left, IntKind.bits, Int.reducePow, Int.reduceLT, Int.reduceLE, Int.reduceEq, Int.reduceNe, Int.reduceAdd, Int.reduceSub, reduceCtorEq, eq_self, implies_true, exists_const, Option.isNone_some, Option.isNone_none, Option.isSome_some, Option.isSome_none, Option.getD_some, y1, y0, x1, x2, x0, k15]
    · have hb := bad fun h => c4 (h.o2 hnil)
      simp (disch := omega) only [dm_t, wZ, ↓reduceIte, Nat.reduceEqDiff, Nat.reduceAdd, Nat.reduceSub, Nat.reduceMul, Nat.reduceLeDiff, Nat.reduceLT, Nat.reduceMod, Nat.reduceDiv, Int.reduceToNat, Nat.min_eq_left, IntKind.bits, Int.reducePow, Int.reduceLT, Int.reduceLE, Int.reduceEq, Int.reduceNe, Int.reduceAdd, Int.reduceSub, reduceCtorEq, eq_self, implies_true, exists_const, Option.isNone_some, Option.isNone_none, Option.isSome_some, Option.isSome_none, Option.getD_some, y1, y0, x1, x2, x0]
      exact hQ2 _ _ hb E5 rfl _ rfl rfl
  · obtain ⟨pb, po, i1, t1, -, -⟩ := rl_at own5.s0 (i := i - 1) (by omega) .i64
    have hii : ((i - 1 : Nat) : Int) = (i : Int) - 1 := by omega
    rw [hii] at i1
    have hg : ∀ h, (oLst bs i)[(oLst bs i).length - 1]'h = (oLst bs i)[i - 1]'(by omega) := fun h => by congr 1; omega
    by_cases c5 : r.1 ≤ ((oLst bs i)[i - 1]'(by omega)).1
    · have hb := bad fun h => by have := h.o3 (by omega); rw [hg] at this; omega
      simp (disch := omega) only [dm_t, wZ, ↓reduceIte, Nat.reduceEqDiff, Nat.reduceAdd, Nat.reduceSub, Nat.reduceMul, Nat.reduceLeDiff, Nat.reduceLT, Nat.reduceMod, Nat.reduceDiv, Int.reduceToNat, Nat.min_eq_left, IntKind.bits, Int.reducePow, Int.reduceLT, Int.reduceLE, Int.reduceEq, Int.reduceNe, Int.reduceAdd, Int.reduceSub, reduceCtorEq, eq_self, implies_true, exists_const, Option.isNone_some, Option.isNone_none, Option.isSome_some, Option.isSome_none, Option.getD_some, y1, y0, x1, x2, x0, i1, t1]
      exact hQ2 _ _ hb E5 rfl _ rfl rfl
    · have k15 := app ⟨by omega, by omega, by omega, fun h => by rw [h] at hli; simp at hli; omega, fun h => by rw [hg]; omega⟩
      simp (disch := omega) only [dm_t, wZ, ↓reduceIte, Nat.reduceEqDiff, Nat.reduceAdd, Nat.reduceSub, Nat.reduceMul, Nat.reduceLeDiff, Nat.reduceLT, Nat.reduceMod, Nat.reduceDiv, Int.reduceToNat, Nat.min_eq_left, IntKind.bits, Int.reducePow, Int.reduceLT, Int.reduceLE, Int.reduceEq, Int.reduceNe, Int.reduceAdd, Int.reduceSub, reduceCtorEq, eq_self, implies_true, exists_const, Option.isNone_some, Option.isNone_none, Option.isSome_some, Option.isSome_none, Option.getD_some, y1, y0, x1, x2, x0, i1, t1, k15]
theorem Open_ok {w : Value} (hw : By nos g w bs) (hl0 : bs.length ≤ 140737488355328) : Ok Try.prog 8 #[w] g fun u h' => OR g bs u h' := by
  obtain ⟨wa, wc, rfl⟩ := hw.len
  refine c8_ok (args := [_]) (by simp) ?_
  by_cases h20 : bs.length < 20
  · simp (disch := omega) only [dm_t, wZ, ↓reduceIte, Nat.reduceEqDiff, Nat.reduceAdd, Nat.reduceSub, Nat.reduceMul, Nat.reduceLeDiff, Nat.reduceLT, Nat.reduceMod, Nat.reduceDiv, Int.reduceToNat, Nat.min_eq_left, IntKind.bits, Int.reducePow, Int.reduceLT, Int.reduceLE, Int.reduceEq, Int.reduceNe, Int.reduceAdd, Int.reduceSub, reduceCtorEq, eq_self, implies_true, exists_const, Option.isNone_some, Option.isNone_none, Option.isSome_some, Option.isSome_none, Option.getD_some]
    exact or_bad (by rw [openE, if_pos h20]) (by decide) (Ext.refl _)
  simp (disch := omega) only [dm_t, wZ, ↓reduceIte, Nat.reduceEqDiff, Nat.reduceAdd, Nat.reduceSub, Nat.reduceMul, Nat.reduceLeDiff, Nat.reduceLT, Nat.reduceMod, Nat.reduceDiv, Int.reduceToNat, Nat.min_eq_left, IntKind.bits, Int.reducePow, Int.reduceLT, Int.reduceLE, Int.reduceEq, Int.reduceNe, Int.reduceAdd, Int.reduceSub, reduceCtorEq, eq_self, implies_true, exists_const, Option.isNone_some, Option.isNone_none, Option.isSome_some, Option.isSome_none, Option.getD_some]
  refine (wi.New_ok hw hl0).k ?_
  rintro _ gR ⟨rb, s, rfl, hrb, r0, E⟩
  simp (disch := omega) only [dm_t, wZ, ↓reduceIte, Nat.reduceEqDiff, Nat.reduceAdd, Nat.reduceSub, Nat.reduceMul, Nat.reduceLeDiff, Nat.reduceLT, Nat.reduceMod, Nat.reduceDiv, Int.reduceToNat, Nat.min_eq_left, IntKind.bits, Int.reducePow, Int.reduceLT, Int.reduceLE, Int.reduceEq, Int.reduceNe, Int.reduceAdd, Int.reduceSub, reduceCtorEq, eq_self, implies_true, exists_const, Option.isNone_some, Option.isNone_none, Option.isSome_some, Option.isSome_none, Option.getD_some]
  intro p hp
  have hprb : p ≠ rb := fun h => r0.there (h ▸ hp)
  generalize hG : hupd gR p _ = G1
  obtain ⟨e1, qp⟩ := new_ext hG hp
  clear hG
  have hgp : ∀ {G'}, Fr (fun y => y = rb ∨ y = p) gR G' → Ext g G' := fun f => Ext.step' E f fun y hy => hy.elim (fun h => h ▸ hrb) fun h => h ▸ E.bk hp
  simp (disch := omega) only [dm_t, wZ, ↓reduceIte, Nat.reduceEqDiff, Nat.reduceAdd, Nat.reduceSub, Nat.reduceMul, Nat.reduceLeDiff, Nat.reduceLT, Nat.reduceMod, Nat.reduceDiv, Int.reduceToNat, Nat.min_eq_left, IntKind.bits, Int.reducePow, Int.reduceLT, Int.reduceLE, Int.reduceEq, Int.reduceNe, Int.reduceAdd, Int.reduceSub, reduceCtorEq, eq_self, implies_true, exists_const, Option.isNone_some, Option.isNone_none, Option.isSome_some, Option.isSome_none, Option.getD_some]
  refine (wi.I64_ok (r0.ext e1) (by omega)).k ?_
  rintro _ G2 ⟨rfl, R2, f2⟩
  have qp2 := f2 _ _ qp hprb
  simp (disch := omega) only [dm_t, wZ, ↓reduceIte, Nat.reduceEqDiff, Nat.reduceAdd, Nat.reduceSub, Nat.reduceMul, Nat.reduceLeDiff, Nat.reduceLT, Nat.reduceMod, Nat.reduceDiv, Int.reduceToNat, Nat.min_eq_left, IntKind.bits, Int.reducePow, Int.reduceLT, Int.reduceLE, Int.reduceEq, Int.reduceNe, Int.reduceAdd, Int.reduceSub, reduceCtorEq, eq_self, implies_true, exists_const, Option.isNone_some, Option.isNone_none, Option.isSome_some, Option.isSome_none, Option.getD_some]
  rw [storeH_0 qp2]
  refine ⟨by simp, rfl, ?_⟩
  generalize hG : hupd G2 p _ = G3
  have f3 : Fr (fun y => y = p) G2 G3 := hG ▸ Fr.upd (S := fun y => y = p) rfl _
  have q3 : G3 p = some (.cells #[.int .i64 (oBase bs), .int .i64 0, .slice none 0 0, .bool true] 72) := by rw [← hG, hupd_same]; rfl
  clear hG
  have F3 : Fr (fun y => y = rb) gR G3 := fun y o hy hn => f3 y o (f2 y o (e1.at hy) hn) fun h => by rw [h, hp] at hy; cases hy
  have R3 := rd_at (k := 8) r0 F3 (f3 _ _ R2.obj hprb.symm) (by omega)
  simp (disch := omega) only [dm_t, wZ, ↓reduceIte, Nat.reduceEqDiff, Nat.reduceAdd, Nat.reduceSub, Nat.reduceMul, Nat.reduceLeDiff, Nat.reduceLT, Nat.reduceMod, Nat.reduceDiv, Int.reduceToNat, Nat.min_eq_left, IntKind.bits, Int.reducePow, Int.reduceLT, Int.reduceLE, Int.reduceEq, Int.reduceNe, Int.reduceAdd, Int.reduceSub, reduceCtorEq, eq_self, implies_true, exists_const, Option.isNone_some, Option.isNone_none, Option.isSome_some, Option.isSome_none, Option.getD_some]
  refine (wi.I64_ok R3 (by omega)).k ?_
  rintro _ G4 ⟨rfl, R4, f4⟩
  have q4 := f4 _ _ q3 hprb
  simp (disch := omega) only [dm_t, wZ, ↓reduceIte, Nat.reduceEqDiff, Nat.reduceAdd, Nat.reduceSub, Nat.reduceMul, Nat.reduceLeDiff, Nat.reduceLT, Nat.reduceMod, Nat.reduceDiv, Int.reduceToNat, Nat.min_eq_left, IntKind.bits, Int.reducePow, Int.reduceLT, Int.reduceLE, Int.reduceEq, Int.reduceNe, Int.reduceAdd, Int.reduceSub, reduceCtorEq, eq_self, implies_true, exists_const, Option.isNone_some, Option.isNone_none, Option.isSome_some, Option.isSome_none, Option.getD_some]
  rw [storeH_0 q4]
  refine ⟨by simp, rfl, ?_⟩
  generalize hG : hupd G4 p _ = G5
  have f5 : Fr (fun y => y = p) G4 G5 := hG ▸ Fr.upd (S := fun y => y = p) rfl _
  have q5 : G5 p = some (.cells #[.int .i64 (oBase bs), .int .i64 (oEnd bs), .slice none 0 0, .bool true] 72) := by rw [← hG, hupd_same]; rfl
  clear hG
  have F5 : Fr (fun y => y = rb) gR G5 := fun y o hy hn => f5 y o (f4 y o (F3 y o hy hn) hn) fun h => by rw [h, hp] at hy; cases hy
  have R5 := rd_at (k := 16) r0 F5 (f5 _ _ R4.obj hprb.symm) (by omega)
  simp (disch := omega) only [dm_t, wZ, ↓reduceIte, Nat.reduceEqDiff, Nat.reduceAdd, Nat.reduceSub, Nat.reduceMul, Nat.reduceLeDiff, Nat.reduceLT, Nat.reduceMod, Nat.reduceDiv, Int.reduceToNat, Nat.min_eq_left, IntKind.bits, Int.reducePow, Int.reduceLT, Int.reduceLE, Int.reduceEq, Int.reduceNe, Int.reduceAdd, Int.reduceSub, reduceCtorEq, eq_self, implies_true, exists_const, Option.isNone_some, Option.isNone_none, Option.isSome_some, Option.isSome_none, Option.getD_some]
  refine (wi.U32_ok R5 (by omega)).k ?_
  rintro _ G6 ⟨rfl, R6, f6⟩
  have q6 := f6 _ _ q5 hprb
  have F6 := F5.trans f6
  have E6 : Ext g G6 := hgp (F6.mono fun y h => .inl h)
  have hcn : oCnt bs < 4294967296 := by
    have := num_lt ((bs.drop 16).take 4)
    have hw : ((bs.drop 16).take 4).length = 4 := by rw [List.length_take, List.length_drop]; omega
    rw [hw] at this
    exact this
  have hfold : num ((bs.drop 16).take 4) = oCnt bs := rfl
  rw [hfold]
  simp (disch := omega) only [dm_t, wZ, ↓reduceIte, Nat.reduceEqDiff, Nat.reduceAdd, Nat.reduceSub, Nat.reduceMul, Nat.reduceLeDiff, Nat.reduceLT, Nat.reduceMod, Nat.reduceDiv, Int.reduceToNat, Nat.min_eq_left, IntKind.bits, Int.reducePow, Int.reduceLT, Int.reduceLE, Int.reduceEq, Int.reduceNe, Int.reduceAdd, Int.reduceSub, reduceCtorEq, eq_self, implies_true, exists_const, Option.isNone_some, Option.isNone_none, Option.isSome_some, Option.isSome_none, Option.getD_some]
  refine (wi.Left_ok R6).k ?_
  rintro _ _ ⟨rfl, rfl⟩
  have hwi : IntKind.i64.wrap (oCnt bs : Int) = (oCnt bs : Int) := by simp [IntKind.wrap, IntKind.bits, IntKind.signed]; omega
  by_cases c1 : oCnt bs ≤ 65536
  · by_cases c2 : bs.length - 20 < 16 * oCnt bs
    · simp (disch := omega) only [dm_t, wZ, ↓reduceIte, Nat.reduceEqDiff, Nat.reduceAdd, Nat.reduceSub, Nat.reduceMul, Nat.reduceLeDiff, Nat.reduceLT, Nat.reduceMod, Nat.reduceDiv, Int.reduceToNat, Nat.min_eq_left, IntKind.bits, Int.reducePow, Int.reduceLT, Int.reduceLE, Int.reduceEq, Int.reduceNe, Int.reduceAdd, Int.reduceSub, reduceCtorEq, eq_self, implies_true, exists_const, Option.isNone_some, Option.isNone_none, Option.isSome_some, Option.isSome_none, Option.getD_some, hwi]
      exact or_bad (oe2 h20 ⟨c1, c2⟩) (by decide) E6
    · have n1 : ¬ (oCnt bs ≤ 65536 ∧ bs.length - 20 < 16 * oCnt bs) := fun h => c2 h.2
      by_cases c3 : bs.length - 20 = 16 * oCnt bs
      · have n2 : ¬ (65536 < oCnt bs ∨ bs.length - 20 ≠ 16 * oCnt bs) := fun h => h.elim (by omega) fun h => h c3
        simp (disch := omega) only [dm_t, wZ, ↓reduceIte, Nat.reduceEqDiff, Nat.reduceAdd, Nat.reduceSub, Nat.reduceMul, Nat.reduceLeDiff, Nat.reduceLT, Nat.reduceMod, Nat.reduceDiv, Int.reduceToNat, Nat.min_eq_left, IntKind.bits, Int.reducePow, Int.reduceLT, Int.reduceLE, Int.reduceEq, Int.reduceNe, Int.reduceAdd, Int.reduceSub, reduceCtorEq, eq_self, implies_true, exists_const, Option.isNone_some, Option.isNone_none, Option.isSome_some, Option.isSome_none, Option.getD_some, hwi]
        refine vc_loop1 (fun vi G => ∃ (i : Nat) (v : Value), vi = .int .u32 (i : Int) ∧ i ≤ oCnt bs ∧ OS gR G rb p s bs i v) (fun vi _ => oCnt bs - m1 vi) ?_ ?_
        · simp (disch := omega) only [dm_t, wZ, ↓reduceIte, Nat.reduceEqDiff, Nat.reduceAdd, Nat.reduceSub, Nat.reduceMul, Nat.reduceLeDiff, Nat.reduceLT, Nat.reduceMod, Nat.reduceDiv, Int.reduceToNat, Nat.min_eq_left, IntKind.bits, Int.reducePow, Int.reduceLT, Int.reduceLE, Int.reduceEq, Int.reduceNe, Int.reduceAdd, Int.reduceSub, reduceCtorEq, eq_self, implies_true, exists_const, Option.isNone_some, Option.isNone_none, Option.isSome_some, Option.isSome_none, Option.getD_some]
          refine ⟨0, _, rfl, by omega, q6, R6.obj, OwK.nil, ⟨fun r hr => ?_, List.Pairwise.nil, fun r hr => ?_⟩, F6⟩
          · simp [oLst] at hr
          · simp [oLst] at hr
        rintro _ G ⟨i, v, rfl, hi, O⟩
        by_cases hil : i < oCnt bs
        · generalize hQ0 : lq1 _ _ _ _ _ _ _ = Q0
          have k11 := op_s11 (Q0 := Q0) r0 E hrb hp O hil c1 (by omega) (fun hw => oe5 h20 n1 n2 hw) (fun G' v' O' => by
            rw [← hQ0]
            simp (disch := omega) only [dm_t, wZ, ↓reduceIte, Nat.reduceEqDiff, Nat.reduceAdd, Nat.reduceSub, Nat.reduceMul, Nat.reduceLeDiff, Nat.reduceLT, Nat.reduceMod, Nat.reduceDiv, Int.reduceToNat, Nat.min_eq_left, IntKind.bits, Int.reducePow, Int.reduceLT, Int.reduceLE, Int.reduceEq, Int.reduceNe, Int.reduceAdd, Int.reduceSub, reduceCtorEq, eq_self, implies_true, exists_const, Option.isNone_some, Option.isNone_none, Option.isSome_some, Option.isSome_none, Option.getD_some]
            exact ⟨⟨i + 1, v', by simp, by omega, O'⟩, by simp [m1]; omega⟩) (fun G' n hb E' hn e' g2 g3 => by
            subst hn
            rw [← hQ0]
            simp (disch := omega) only [dm_t, wZ, ↓reduceIte, Nat.reduceEqDiff, Nat.reduceAdd, Nat.reduceSub, Nat.reduceMul, Nat.reduceLeDiff, Nat.reduceLT, Nat.reduceMod, Nat.reduceDiv, Int.reduceToNat, Nat.min_eq_left, IntKind.bits, Int.reducePow, Int.reduceLT, Int.reduceLE, Int.reduceEq, Int.reduceNe, Int.reduceAdd, Int.reduceSub, reduceCtorEq, eq_self, implies_true, exists_const, Option.isNone_some, Option.isNone_none, Option.isSome_some, Option.isSome_none, Option.getD_some, g2, g3]
            exact or_bad hb (by decide) E')
          simp (disch := omega) only [dm_t, wZ, ↓reduceIte, Nat.reduceEqDiff, Nat.reduceAdd, Nat.reduceSub, Nat.reduceMul, Nat.reduceLeDiff, Nat.reduceLT, Nat.reduceMod, Nat.reduceDiv, Int.reduceToNat, Nat.min_eq_left, IntKind.bits, Int.reducePow, Int.reduceLT, Int.reduceLE, Int.reduceEq, Int.reduceNe, Int.reduceAdd, Int.reduceSub, reduceCtorEq, eq_self, implies_true, exists_const, Option.isNone_some, Option.isNone_none, Option.isSome_some, Option.isSome_none, Option.getD_some, k11]
        · obtain rfl : i = oCnt bs := by omega
          have hprG : ∀ {y : Nat} {o : Obj}, g y = some o → ¬ (y = rb ∨ y = p) := fun hy h => h.elim (fun h => by rw [h, hrb] at hy; cases hy) fun h => by rw [h, E.bk hp] at hy; cases hy
          have EG : Ext g G := hgp (O.F.mono fun y h => .inl h)
          have x0 : cellAt G ⟨p, 0, none⟩ = some (.int .i64 (oBase bs)) := by rw [cellAt_of O.obj]; rfl
          have x1 : cellAt G ⟨p, 1, none⟩ = some (.int .i64 (oEnd bs)) := by rw [cellAt_of O.obj]; rfl
          have hli := oLst_len bs (oCnt bs)
          have hnil : oLst bs (oCnt bs) = [] ↔ oCnt bs = 0 := by rw [← List.length_eq_zero_iff, hli]
          have bad : ¬ WF (oBase bs) (oEnd bs) (oLst bs (oCnt bs)) → OR g bs (.tuple #[.pointer none, .int .i64 220]) G := fun h => or_bad (oe5 h20 n1 n2 h) (by decide) EG
          by_cases d1 : oBase bs < 0
          · have k := bad fun h => by have := h.b0; omega
            simp (disch := omega) only [dm_t, wZ, ↓reduceIte, Nat.reduceEqDiff, Nat.reduceAdd, Nat.reduceSub, Nat.reduceMul, Nat.reduceLeDiff, Nat.reduceLT, Nat.reduceMod, Nat.reduceDiv, Int.reduceToNat, Nat.min_eq_left, IntKind.bits, Int.reducePow, Int.reduceLT, Int.reduceLE, Int.reduceEq, Int.reduceNe, Int.reduceAdd, Int.reduceSub, reduceCtorEq, eq_self, implies_true, exists_const, Option.isNone_some, Option.isNone_none, Option.isSome_some, Option.isSome_none, Option.getD_some, x0]
            exact k
          by_cases d2 : 9007199254740992 < oBase bs
          · have k := bad fun h => by have := h.b0; omega
            simp (disch := omega) only [dm_t, wZ, ↓reduceIte, Nat.reduceEqDiff, Nat.reduceAdd, Nat.reduceSub, Nat.reduceMul, Nat.reduceLeDiff, Nat.reduceLT, Nat.reduceMod, Nat.reduceDiv, Int.reduceToNat, Nat.min_eq_left, IntKind.bits, Int.reducePow, Int.reduceLT, Int.reduceLE, Int.reduceEq, Int.reduceNe, Int.reduceAdd, Int.reduceSub, reduceCtorEq, eq_self, implies_true, exists_const, Option.isNone_some, Option.isNone_none, Option.isSome_some, Option.isSome_none, Option.getD_some, x0]
            exact k
          by_cases d3 : oEnd bs < oBase bs
          · have k := bad fun h => by have := h.be; omega
            simp (disch := omega) only [dm_t, wZ, ↓reduceIte, Nat.reduceEqDiff, Nat.reduceAdd, Nat.reduceSub, Nat.reduceMul, Nat.reduceLeDiff, Nat.reduceLT, Nat.reduceMod, Nat.reduceDiv, Int.reduceToNat, Nat.min_eq_left, IntKind.bits, Int.reducePow, Int.reduceLT, Int.reduceLE, Int.reduceEq, Int.reduceNe, Int.reduceAdd, Int.reduceSub, reduceCtorEq, eq_self, implies_true, exists_const, Option.isNone_some, Option.isNone_none, Option.isSome_some, Option.isSome_none, Option.getD_some, x0, x1]
            exact k
          by_cases d4 : 9007199254740993 < oEnd bs
          · have k := bad fun h => by have := h.be; omega
            simp (disch := omega) only [dm_t, wZ, ↓reduceIte, Nat.reduceEqDiff, Nat.reduceAdd, Nat.reduceSub, Nat.reduceMul, Nat.reduceLeDiff, Nat.reduceLT, Nat.reduceMod, Nat.reduceDiv, Int.reduceToNat, Nat.min_eq_left, IntKind.bits, Int.reducePow, Int.reduceLT, Int.reduceLE, Int.reduceEq, Int.reduceNe, Int.reduceAdd, Int.reduceSub, reduceCtorEq, eq_self, implies_true, exists_const, Option.isNone_some, Option.isNone_none, Option.isSome_some, Option.isSome_none, Option.getD_some, x0, x1]
            exact k
          have good : (oLst bs (oCnt bs) = [] ↔ oEnd bs = oBase bs) → OR g bs (.tuple #[.pointer (some ⟨p, 0, none⟩), .int .i64 0]) G := fun hn => by
            have hw := wf_pg O.pg ⟨by omega, by omega⟩ ⟨by omega, by omega⟩ (by omega) hn
            have h0 := oe4 h20 n1 n2 hw
            refine ⟨⟨_, by rw [h0], ?_⟩, EG⟩
            rw [if_pos h0]
            exact ⟨p, v, rfl, E.bk hp, O.obj, OwK.sl O.own fun y hy hs => hs.elim (fun h => h (E.bk hy.1)) hy.2, hw⟩
          by_cases d5 : oCnt bs = 0
          · by_cases d6 : oEnd bs = oBase bs
            · have k := good ⟨fun _ => d6, fun _ => hnil.2 d5⟩
              have hd6 : decide (oEnd bs = oBase bs) = true := by simp [d6]
              rw [d5] at *
              simp (disch := omega) only [dm_t, wZ, ↓reduceIte, Nat.reduceEqDiff, Nat.reduceAdd, Nat.reduceSub, Nat.reduceMul, Nat.reduceLeDiff, Nat.reduceLT, Nat.reduceMod, Nat.reduceDiv, Int.reduceToNat, Nat.min_eq_left, IntKind.bits, Int.reducePow, Int.reduceLT, Int.reduceLE, Int.reduceEq, Int.reduceNe, Int.reduceAdd, Int.reduceSub, reduceCtorEq, eq_self, implies_true, exists_const, Option.isNone_some, Option.isNone_none, Option.isSome_some, Option.isSome_none, Option.getD_some, x0, x1, hd6]
              exact k
            · have k := bad fun h => d6 (h.nil.1 (hnil.2 d5))
              rw [d5] at *
              simp (disch := omega) only [dm_t, wZ, ↓reduceIte, Nat.reduceEqDiff, Nat.reduceAdd, Nat.reduceSub, Nat.reduceMul, Nat.reduceLeDiff, Nat.reduceLT, Nat.reduceMod, Nat.reduceDiv, Int.reduceToNat, Nat.min_eq_left, IntKind.bits, Int.reducePow, Int.reduceLT, Int.reduceLE, Int.reduceEq, Int.reduceNe, Int.reduceAdd, Int.reduceSub, reduceCtorEq, eq_self, implies_true, exists_const, Option.isNone_some, Option.isNone_none, Option.isSome_some, Option.isSome_none, Option.getD_some, x0, x1]
              exact k
          · by_cases d6 : oEnd bs = oBase bs
            · have k := bad fun h => d5 (hnil.1 (h.nil.2 d6))
              have hd6 : decide (oEnd bs = oBase bs) = true := by simp [d6]
              simp (disch := omega) only [dm_t, wZ, ↓reduceIte, Nat.reduceEqDiff, Nat.reduceAdd, Nat.reduceSub, Nat.reduceMul, Nat.reduceLeDiff, Nat.reduceLT, Nat.reduceMod, Nat.reduceDiv, Int.reduceToNat, Nat.min_eq_left, IntKind.bits, Int.reducePow, Int.reduceLT, Int.reduceLE, Int.reduceEq, Int.reduceNe, Int.reduceAdd, Int.reduceSub, reduceCtorEq, eq_self, implies_true, exists_const, Option.isNone_some, Option.isNone_none, Option.isSome_some, Option.isSome_none, Option.getD_some, x0, x1, d5, hd6]
              exact k
            · have k := good ⟨fun h => absurd (hnil.1 h) d5, fun h => absurd h d6⟩
              simp (disch := omega) only [dm_t, wZ, ↓reduceIte, Nat.reduceEqDiff, Nat.reduceAdd, Nat.reduceSub, Nat.reduceMul, Nat.reduceLeDiff, Nat.reduceLT, Nat.reduceMod, Nat.reduceDiv, Int.reduceToNat, Nat.min_eq_left, IntKind.bits, Int.reducePow, Int.reduceLT, Int.reduceLE, Int.reduceEq, Int.reduceNe, Int.reduceAdd, Int.reduceSub, reduceCtorEq, eq_self, implies_true, exists_const, Option.isNone_some, Option.isNone_none, Option.isSome_some, Option.isSome_none, Option.getD_some, x0, x1, d5, d6]
              exact k
      · simp (disch := omega) only [dm_t, wZ, ↓reduceIte, Nat.reduceEqDiff, Nat.reduceAdd, Nat.reduceSub, Nat.reduceMul, Nat.reduceLeDiff, Nat.reduceLT, Nat.reduceMod, Nat.reduceDiv, Int.reduceToNat, Nat.min_eq_left, IntKind.bits, Int.reducePow, Int.reduceLT, Int.reduceLE, Int.reduceEq, Int.reduceNe, Int.reduceAdd, Int.reduceSub, reduceCtorEq, eq_self, implies_true, exists_const, Option.isNone_some, Option.isNone_none, Option.isSome_some, Option.isSome_none, Option.getD_some, hwi]
        exact or_bad (oe3 h20 n1 (.inr c3)) (by decide) E6
  · simp (disch := omega) only [dm_t, wZ, ↓reduceIte, Nat.reduceEqDiff, Nat.reduceAdd, Nat.reduceSub, Nat.reduceMul, Nat.reduceLeDiff, Nat.reduceLT, Nat.reduceMod, Nat.reduceDiv, Int.reduceToNat, Nat.min_eq_left, IntKind.bits, Int.reducePow, Int.reduceLT, Int.reduceLE, Int.reduceEq, Int.reduceNe, Int.reduceAdd, Int.reduceSub, reduceCtorEq, eq_self, implies_true, exists_const, Option.isNone_some, Option.isNone_none, Option.isSome_some, Option.isSome_none, Option.getD_some, hwi]
    exact or_bad (oe3 h20 (fun h => c1 h.1) (.inl (by omega))) (by decide) E6
end
end Go.Proofs.Ytmjbgfflbeibnaa.ti
