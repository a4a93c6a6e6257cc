/-
  model: a copy.
-/
import Derived.Test.YtpgkkpjdajkobaaMd
import Derived.Test.YtpgkkpjdajkobaaR3
namespace Go.Proofs.Ytpgkkpjdajkobaa.mo
open Go.Proofs.Ytpgkkpjdajkobaa rr
set_option linter.unusedVariables false
set_option linter.unusedSimpArgs false
/-! ### Lists, one by one -/
theorem Values2_ok {h : H} {a : Option Addr} {n c : Nat} : Ok Try.prog 32 #[.slice a n c] h fun v h' => ∃ b, v = .func (.func 45) #[] #[.pointer (some ⟨b, 0, none⟩)] ∧ h b = none ∧ h' = hupd h b (.cells #[.slice a n c] 57) := by
  refine c32_ok (args := [_]) (by simp) ?_
  simp (disch := omega) only [dm_t, wA, wB, wL, wW, wY, Int.fdiv_eq_ediv_of_nonneg, Int.tdiv_eq_ediv_of_nonneg, Int.tmod_eq_emod_of_nonneg, chk_pos, decT, decF, br_pos, br_neg, wX, ↓reduceIte, Nat.reduceEqDiff, Nat.reduceAdd, Nat.reduceSub, Nat.reduceMul, Nat.reduceLeDiff, Nat.reduceLT, Nat.reduceMod, Nat.reduceDiv, Int.reduceToNat, Nat.min_eq_left, IntKind.bits, Int.reducePow, Int.reduceLT, Int.reduceLE, Int.reduceEq, Int.reduceNe, Int.reduceAdd, Int.reduceSub, and_self, reduceCtorEq, decide_eq_true_eq, decide_eq_false_iff_not, eq_self, implies_true, exists_const, Option.isNone_some, Option.isNone_none, Option.isSome_some, Option.isSome_none, Option.getD_some]
  intro b hb
  exact ⟨b, rfl, hb, rfl⟩
theorem Values2_it {b : Nat} {s : Value} {xs : List Value} (hlen : xs.length ≤ 4611686018427387904) :
    Rng Try.prog 45 #[.pointer (some ⟨b, 0, none⟩)] xs.length (fun i => [xs.getD i undef]) (fun h => h b = some (.cells #[s] 57) ∧ S1 nos h s xs) := by
  intro L J Jx h X hJ hE hy h0
  obtain ⟨hb, hsl⟩ := hJ _ _ h0
  obtain ⟨sa, sc, rfl⟩ := S1.len hsl
  have key : Ok Try.prog 45 #[.func (.yield L) #[] #[], .pointer (some ⟨b, 0, none⟩)] h fun _ h' => J xs.length h' ∨ ∃ i, i < xs.length ∧ Jx (i + 1) h' := by
    refine c45_ok (args := [_, _]) (by simp) ?_
    simp (disch := omega) only [dm_t, wA, wB, wL, wW, wY, Int.fdiv_eq_ediv_of_nonneg, Int.tdiv_eq_ediv_of_nonneg, Int.tmod_eq_emod_of_nonneg, chk_pos, decT, decF, br_pos, br_neg, wX, ↓reduceIte, Nat.reduceEqDiff, Nat.reduceAdd, Nat.reduceSub, Nat.reduceMul, Nat.reduceLeDiff, Nat.reduceLT, Nat.reduceMod, Nat.reduceDiv, Int.reduceToNat, Nat.min_eq_left, IntKind.bits, Int.reducePow, Int.reduceLT, Int.reduceLE, Int.reduceEq, Int.reduceNe, Int.reduceAdd, Int.reduceSub, and_self, reduceCtorEq, decide_eq_true_eq, decide_eq_false_iff_not, eq_self, implies_true, exists_const, Option.isNone_some, Option.isNone_none, Option.isSome_some, Option.isSome_none, Option.getD_some, cellAt_of hb]
    refine vc_loop1 (fun vi h' => ∃ i : Nat, vi = .int .i64 (i : Int) ∧ i ≤ xs.length ∧ J i h') (fun vi _ => xs.length - m1 vi) ?_ ?_
    · simp (disch := omega) only [dm_t, wA, wB, wL, wW, wY, Int.fdiv_eq_ediv_of_nonneg, Int.tdiv_eq_ediv_of_nonneg, Int.tmod_eq_emod_of_nonneg, chk_pos, decT, decF, br_pos, br_neg, wX, ↓reduceIte, Nat.reduceEqDiff, Nat.reduceAdd, Nat.reduceSub, Nat.reduceMul, Nat.reduceLeDiff, Nat.reduceLT, Nat.reduceMod, Nat.reduceDiv, Int.reduceToNat, Nat.min_eq_left, IntKind.bits, Int.reducePow, Int.reduceLT, Int.reduceLE, Int.reduceEq, Int.reduceNe, Int.reduceAdd, Int.reduceSub, and_self, reduceCtorEq, decide_eq_true_eq, decide_eq_false_iff_not, eq_self, implies_true, exists_const, Option.isNone_some, Option.isNone_none, Option.isSome_some, Option.isSome_none, Option.getD_some]
      exact ⟨0, rfl, by omega, h0⟩
    rintro _ h1 ⟨i, rfl, hi, hj⟩
    by_cases hil : i < xs.length
    · obtain ⟨hb1, hs1⟩ := hJ _ _ hj
      obtain ⟨pb, po, g1, g2⟩ := S1.load hs1 hil .i64
      have hy1 := hy i hil _ hj
      have henc : xs.getD i undef = xs[i] := by simp [hil]
      simp only [henc] at hy1
      simp (disch := omega) only [dm_t, wA, wB, wL, wW, wY, Int.fdiv_eq_ediv_of_nonneg, Int.tdiv_eq_ediv_of_nonneg, Int.tmod_eq_emod_of_nonneg, chk_pos, decT, decF, br_pos, br_neg, wX, ↓reduceIte, Nat.reduceEqDiff, Nat.reduceAdd, Nat.reduceSub, Nat.reduceMul, Nat.reduceLeDiff, Nat.reduceLT, Nat.reduceMod, Nat.reduceDiv, Int.reduceToNat, Nat.min_eq_left, IntKind.bits, Int.reducePow, Int.reduceLT, Int.reduceLE, Int.reduceEq, Int.reduceNe, Int.reduceAdd, Int.reduceSub, and_self, reduceCtorEq, decide_eq_true_eq, decide_eq_false_iff_not, eq_self, implies_true, exists_const, Option.isNone_some, Option.isNone_none, Option.isSome_some, Option.isSome_none, Option.getD_some, g1, g2]
      refine hy1.k ?_
      rintro (_ | _) h2 hj3
      · simp (disch := omega) only [dm_t, wA, wB, wL, wW, wY, Int.fdiv_eq_ediv_of_nonneg, Int.tdiv_eq_ediv_of_nonneg, Int.tmod_eq_emod_of_nonneg, chk_pos, decT, decF, br_pos, br_neg, wX, ↓reduceIte, Nat.reduceEqDiff, Nat.reduceAdd, Nat.reduceSub, Nat.reduceMul, Nat.reduceLeDiff, Nat.reduceLT, Nat.reduceMod, Nat.reduceDiv, Int.reduceToNat, Nat.min_eq_left, IntKind.bits, Int.reducePow, Int.reduceLT, Int.reduceLE, Int.reduceEq, Int.reduceNe, Int.reduceAdd, Int.reduceSub, and_self, reduceCtorEq, decide_eq_true_eq, decide_eq_false_iff_not, eq_self, implies_true, exists_const, Option.isNone_some, Option.isNone_none, Option.isSome_some, Option.isSome_none, Option.getD_some]
        exact .inr ⟨i, hil, by simpa using hj3⟩
      · simp (disch := omega) only [dm_t, wA, wB, wL, wW, wY, Int.fdiv_eq_ediv_of_nonneg, Int.tdiv_eq_ediv_of_nonneg, Int.tmod_eq_emod_of_nonneg, chk_pos, decT, decF, br_pos, br_neg, wX, ↓reduceIte, Nat.reduceEqDiff, Nat.reduceAdd, Nat.reduceSub, Nat.reduceMul, Nat.reduceLeDiff, Nat.reduceLT, Nat.reduceMod, Nat.reduceDiv, Int.reduceToNat, Nat.min_eq_left, IntKind.bits, Int.reducePow, Int.reduceLT, Int.reduceLE, Int.reduceEq, Int.reduceNe, Int.reduceAdd, Int.reduceSub, and_self, reduceCtorEq, decide_eq_true_eq, decide_eq_false_iff_not, eq_self, implies_true, exists_const, Option.isNone_some, Option.isNone_none, Option.isSome_some, Option.isSome_none, Option.getD_some]
        exact ⟨⟨i + 1, by simp, by omega, by simpa using hj3⟩, by simp [m1]; omega⟩
    · obtain rfl : i = xs.length := by omega
      simp (disch := omega) only [dm_t, wA, wB, wL, wW, wY, Int.fdiv_eq_ediv_of_nonneg, Int.tdiv_eq_ediv_of_nonneg, Int.tmod_eq_emod_of_nonneg, chk_pos, decT, decF, br_pos, br_neg, wX, ↓reduceIte, Nat.reduceEqDiff, Nat.reduceAdd, Nat.reduceSub, Nat.reduceMul, Nat.reduceLeDiff, Nat.reduceLT, Nat.reduceMod, Nat.reduceDiv, Int.reduceToNat, Nat.min_eq_left, IntKind.bits, Int.reducePow, Int.reduceLT, Int.reduceLE, Int.reduceEq, Int.reduceNe, Int.reduceAdd, Int.reduceSub, and_self, reduceCtorEq, decide_eq_true_eq, decide_eq_false_iff_not, eq_self, implies_true, exists_const, Option.isNone_some, Option.isNone_none, Option.isSome_some, Option.isSome_none, Option.getD_some]
      exact .inl hj
  exact key.k fun _ _ h => h
/-! ### A model that is being built -/
structure MY (S : Nat → Prop) (h0 h : H) (p : Nat) (pv : Value) (vs : List Value) (ps : List (List rc.D)) : Prop where
  obj : h p = some (.cells #[pv] 64)
  new : h0 p = none ∧ ¬ S p
  len : vs.length = ps.length
  par : O1 (fun y => h0 y = none ∧ ¬ S y) h 24 pv vs
  lst : ∀ (i : Nat) v l, vs[i]? = some v → ps[i]? = some l → OwL (fun y => MF p pv vs y ∨ S y) rc (fun y => h0 y = none ∧ ¬ S y) h 55 v l
  apart : ∀ (i j : Nat) v w, vs[i]? = some v → vs[j]? = some w → i ≠ j → ∀ y, isAt v y → ¬ isAt w y
section
variable {S : Nat → Prop} {h0 g g' : H} {p : Nat} {pv : Value} {vs : List Value} {ps : List (List rc.D)}
theorem MY.mx (Y : MY S h0 g p pv vs ps) (hp : 0 < ps.length ∧ ps.length ≤ 16) : MX S h0 g p pv vs ps := ⟨Y.obj, Y.new, Y.len, hp, Y.par, Y.lst, Y.apart⟩
theorem MX.my (X : MX S h0 g p pv vs ps) : MY S h0 g p pv vs ps := ⟨X.obj, X.new, X.len, X.par, X.lst, X.apart⟩
theorem MY.ext (Y : MY S h0 g p pv vs ps) (e : Ext g g') : MY S h0 g' p pv vs ps :=
  ⟨e.at Y.obj, Y.new, Y.len, OwK.ext Y.par e, fun i v l hv hl => (Y.lst i v l hv hl).ext e, Y.apart⟩
theorem MY.cell (Y : MY S h0 g p pv vs ps) : cellAt g ⟨p, 0, none⟩ = some pv := by rw [cellAt_of Y.obj]; rfl
theorem MY.there (Y : MY S h0 g p pv vs ps) {y : Nat} (hy : MF p pv vs y) : g y ≠ none := by
  rcases hy with rfl | hy | ⟨v, hv, hy⟩
  · rw [Y.obj]; simp
  · exact OwK.there Y.par hy
  · obtain ⟨i, hi, rfl⟩ := List.getElem_of_mem hv
    exact (Y.lst i _ _ (List.getElem?_eq_getElem hi) (List.getElem?_eq_getElem (by rw [← Y.len]; exact hi))).there hy
/-- One partition more. -/
theorem MY.push {bytes : Nat} {z v : Value} {l : List rc.D} {gg : H} {V : Nat → Value → H → Prop} (Y : MY S h0 g p pv vs ps) (e : Ext g gg) (hO : ∀ y, gg y = none → h0 y = none ∧ ¬ S y)
    (hl : OwL (fun y => MF p pv vs y ∨ S y) rc (fun y => h0 y = none ∧ ¬ S y) gg 55 v l) (hv : ∀ y, isAt v y → g y = none)
    (hlen : 2 * ((ps.length + 1) * bytes) ≤ 281474976710656) (hps : ps.length ≤ 16)
    (hV : ∀ b pv' g1, gg b = none → Fr (MF p pv vs) gg g1 → g1 p = some (.cells #[pv] 64) → isCell pv' = true → (MY S h0 (hupd g1 p (.cells #[pv'] 64)) p pv' (vs ++ [v]) (ps ++ [l]) ∧ Fr (MF p pv vs) gg (hupd g1 p (.cells #[pv'] 64))) → V b pv' g1) :
    ∀ b, gg b = none → appM 24 1 bytes #[z] pv (.slice (some ⟨b, 0, none⟩) 1 1) (hupd gg b (.cells #[v] 24)) (V b) := by
  have hcell : isCell v = true := by obtain ⟨a, c, rfl⟩ := hl.len; rfl
  have hol : (one vs).length = ps.length := by rw [one_len, Y.len]
  have Yg := Y.ext e
  refine pushk (k := 1) (row := [v]) Yg.par (fun y hy => hO y hy) rfl rfl (by simp [hcell]) (by rw [hol]; exact hlen) (by rw [hol]; omega) ?_
  intro b pv' g1 hb ho hf hat
  have ho' : O1 (fun y => h0 y = none ∧ ¬ S y) g1 24 pv' (vs ++ [v]) := by rw [O1, one_append]; exact ho
  have hf1 : Fr (MF p pv vs) gg g1 := hf.mono fun y hy => .inr (.inl hy.2)
  have hp1 : g1 p = some (.cells #[pv] 64) := hf _ _ Yg.obj fun h => Yg.par.tyno Yg.obj (by decide) h.2
  have hpc : isCell pv' = true := by obtain ⟨a, c, rfl⟩ := S1.len ho'.s0; rfl
  have f2 : Fr (fun y => y = p) g1 (hupd g1 p (.cells #[pv'] 64)) := Fr.upd (S := fun y => y = p) rfl _
  have F : Fr (fun y => y = p ∨ isAt pv y) gg (hupd g1 p (.cells #[pv'] 64)) := (hf.mono fun y hy => .inr hy.2).trans (f2.mono fun y hy => .inl hy)
  have FM : Fr (MF p pv vs) gg (hupd g1 p (.cells #[pv'] 64)) := F.mono fun y hy => hy.elim .inl fun h => .inr (.inl h)
  refine hV b pv' g1 hb hf1 hp1 hpc ⟨?_, FM⟩
  have hMF : ∀ y, MF p pv' (vs ++ [v]) y → (MF p pv vs y ∨ gg y = none) ∨ isAt v y := by
    rintro y (hy | hy | ⟨w, hw, hy⟩)
    · exact .inl (.inl (.inl hy))
    · exact (hat y hy).elim (fun h => .inl (.inl (.inr (.inl h)))) fun h => .inl (.inr h)
    · rcases List.mem_append.1 hw with hw | hw
      · exact .inl (.inl (.inr (.inr ⟨w, hw, hy⟩)))
      · simp only [List.mem_singleton] at hw; subst hw; exact .inr hy
  have hW : ∀ {w m} {Q : Nat → Prop}, OwL Q rc (fun y => h0 y = none ∧ ¬ S y) gg 55 w m → ∀ y, (y = p ∨ isAt pv y) → (h0 y = none ∧ ¬ S y) → ¬ isAt w y := by
    intro w m Q ho y hy _
    obtain ⟨r, hr⟩ := ho.k
    rcases hy with rfl | hy
    · exact hr.tyno Yg.obj (by decide)
    · exact fun hw => hr.unlike Yg.par (by decide) hw hy
  have hnew : OwL (fun y => MF p pv' (vs ++ [v]) y ∨ S y) rc (fun y => h0 y = none ∧ ¬ S y) (hupd g1 p (.cells #[pv'] 64)) 55 v l := by
    refine (hl.avoid.fr F (fun y hy => .inl (.inl (hy.elim .inl fun h => .inr (.inl h)))) (hW hl)).subS2 fun y hy => ?_
    rcases hy with hy | hy
    · rcases hMF y hy with (h | h) | h
      · exact .inr (.inl (.inl h))
      · exact .inr (.inr h)
      · exact .inl h
    · exact .inr (.inl (.inr hy))
  have hold : ∀ (i : Nat) w m, vs[i]? = some w → ps[i]? = some m → OwL (fun y => MF p pv' (vs ++ [v]) y ∨ S y) rc (fun y => h0 y = none ∧ ¬ S y) (hupd g1 p (.cells #[pv'] 64)) 55 w m := by
    intro i w m hw hm
    have ho := (Y.lst i w m hw hm).avoid.ext e
    refine (ho.fr F (fun y hy => .inl (.inl (hy.elim .inl fun h => .inr (.inl h)))) (hW ho)).subS fun y hy => ?_
    rcases hy with hy | hy
    · rcases hMF y hy with (h | h) | h
      · exact .inl (.inl h)
      · exact .inr (e.bk h)
      · exact .inr (hv y h)
    · exact .inl (.inr hy)
  refine ⟨hupd_same _ _ _, Y.new, by simp [Y.len], OwK.fr ho' f2 fun y hy _ h => OwK.tyno ho' hp1 (by decide) (hy ▸ h), ?_, ?_⟩
  · intro i w m hw hm
    by_cases hi : i < vs.length
    · rw [List.getElem?_append_left hi] at hw
      rw [List.getElem?_append_left (by rw [← Y.len]; exact hi)] at hm
      exact hold i w m hw hm
    · rw [List.getElem?_append_right (by omega)] at hw
      rw [List.getElem?_append_right (by rw [← Y.len]; omega), ← Y.len] at hm
      generalize i - vs.length = j at hw hm
      cases j with
      | zero =>
        simp only [List.getElem?_cons_zero, Option.some.injEq] at hw hm
        subst hw hm
        exact hnew
      | succ j => simp at hw
  · have hvo : ∀ (i : Nat) w, vs[i]? = some w → ∀ y, isAt w y → ¬ isAt v y := by
      intro i w hw y hy hvy
      have := Y.there (y := y) (.inr (.inr ⟨w, List.mem_of_getElem? hw, hy⟩))
      exact this (hv y hvy)
    intro i j w u hw hu hij y hy hy'
    by_cases hi : i < vs.length
    · rw [List.getElem?_append_left hi] at hw
      by_cases hj : j < vs.length
      · rw [List.getElem?_append_left hj] at hu
        exact Y.apart i j w u hw hu hij y hy hy'
      · rw [List.getElem?_append_right (by omega)] at hu
        have : u = v := by
          generalize j - vs.length = k at hu
          cases k with
          | zero => simpa using hu.symm
          | succ k => simp at hu
        subst this
        exact hvo i w hw y hy hy'
    · rw [List.getElem?_append_right (by omega)] at hw
      have hwv : w = v ∧ i = vs.length := by
        cases hk : i - vs.length with
        | zero => rw [hk] at hw; exact ⟨by simpa using hw.symm, by omega⟩
        | succ k => rw [hk] at hw; simp at hw
      obtain ⟨rfl, rfl⟩ := hwv
      by_cases hj : j < vs.length
      · rw [List.getElem?_append_left hj] at hu
        exact hvo j u hu y hy' hy
      · rw [List.getElem?_append_right (by omega)] at hu
        cases hk : j - vs.length with
        | zero => omega
        | succ k => rw [hk] at hu; simp at hu
end
/-! ### The walk -/
section
variable {S : Nat → Prop} {h0 g : H} {p : Nat} {pv : Value} {vs : List Value} {ps : List (List rc.D)}
theorem Copy_ok (X : MX S h0 g p pv vs ps) (hps : ∀ l ∈ ps, lims l) : Ok Try.prog 11 #[.pointer (some ⟨p, 0, none⟩)] g fun v h' => ∃ q pw ws, v = .pointer (some ⟨q, 0, none⟩) ∧ MX (fun y => g y ≠ none) g h' q pw ws ps ∧ Ext g h' := by
  refine c11_ok (args := [_]) (by simp) ?_
  simp (disch := omega) only [dm_t, wA, wB, wL, wW, wY, Int.fdiv_eq_ediv_of_nonneg, Int.tdiv_eq_ediv_of_nonneg, Int.tmod_eq_emod_of_nonneg, chk_pos, decT, decF, br_pos, br_neg, wX, ↓reduceIte, Nat.reduceEqDiff, Nat.reduceAdd, Nat.reduceSub, Nat.reduceMul, Nat.reduceLeDiff, Nat.reduceLT, Nat.reduceMod, Nat.reduceDiv, Int.reduceToNat, Nat.min_eq_left, IntKind.bits, Int.reducePow, Int.reduceLT, Int.reduceLE, Int.reduceEq, Int.reduceNe, Int.reduceAdd, Int.reduceSub, and_self, reduceCtorEq, decide_eq_true_eq, decide_eq_false_iff_not, eq_self, implies_true, exists_const, Option.isNone_some, Option.isNone_none, Option.isSome_some, Option.isSome_none, Option.getD_some]
  refine (none_ok X).k ?_
  rintro _ _ ⟨rfl, rfl⟩
  simp (disch := omega) only [dm_t, wA, wB, wL, wW, wY, Int.fdiv_eq_ediv_of_nonneg, Int.tdiv_eq_ediv_of_nonneg, Int.tmod_eq_emod_of_nonneg, chk_pos, decT, decF, br_pos, br_neg, wX, ↓reduceIte, Nat.reduceEqDiff, Nat.reduceAdd, Nat.reduceSub, Nat.reduceMul, Nat.reduceLeDiff, Nat.reduceLT, Nat.reduceMod, Nat.reduceDiv, Int.reduceToNat, Nat.min_eq_left, IntKind.bits, Int.reducePow, Int.reduceLT, Int.reduceLE, Int.reduceEq, Int.reduceNe, Int.reduceAdd, Int.reduceSub, and_self, reduceCtorEq, decide_eq_true_eq, decide_eq_false_iff_not, eq_self, implies_true, exists_const, Option.isNone_some, Option.isNone_none, Option.isSome_some, Option.isSome_none, Option.getD_some]
  obtain ⟨pa, pn, pc, rfl⟩ : ∃ pa pn pc, pv = .slice pa pn pc := by obtain ⟨a, c, h⟩ := X.par.s0.len; exact ⟨_, _, _, h⟩
  intro q hq ob hob
  simp (disch := omega) only [dm_t, wA, wB, wL, wW, wY, Int.fdiv_eq_ediv_of_nonneg, Int.tdiv_eq_ediv_of_nonneg, Int.tmod_eq_emod_of_nonneg, chk_pos, decT, decF, br_pos, br_neg, wX, ↓reduceIte, Nat.reduceEqDiff, Nat.reduceAdd, Nat.reduceSub, Nat.reduceMul, Nat.reduceLeDiff, Nat.reduceLT, Nat.reduceMod, Nat.reduceDiv, Int.reduceToNat, Nat.min_eq_left, IntKind.bits, Int.reducePow, Int.reduceLT, Int.reduceLE, Int.reduceEq, Int.reduceNe, Int.reduceAdd, Int.reduceSub, and_self, reduceCtorEq, decide_eq_true_eq, decide_eq_false_iff_not, eq_self, implies_true, exists_const, Option.isNone_some, Option.isNone_none, Option.isSome_some, Option.isSome_none, Option.getD_some, storeH_same]
  generalize hG : hupd g q _ = g1 at hob ⊢
  obtain ⟨e1, qq⟩ := new_ext hG hq
  clear hG
  generalize hG : hupd g1 ob _ = g2
  obtain ⟨e2, qo⟩ := new_ext hG hob
  clear hG
  have E2 := e1.trans e2
  simp (disch := omega) only [dm_t, wA, wB, wL, wW, wY, Int.fdiv_eq_ediv_of_nonneg, Int.tdiv_eq_ediv_of_nonneg, Int.tmod_eq_emod_of_nonneg, chk_pos, decT, decF, br_pos, br_neg, wX, ↓reduceIte, Nat.reduceEqDiff, Nat.reduceAdd, Nat.reduceSub, Nat.reduceMul, Nat.reduceLeDiff, Nat.reduceLT, Nat.reduceMod, Nat.reduceDiv, Int.reduceToNat, Nat.min_eq_left, IntKind.bits, Int.reducePow, Int.reduceLT, Int.reduceLE, Int.reduceEq, Int.reduceNe, Int.reduceAdd, Int.reduceSub, and_self, reduceCtorEq, decide_eq_true_eq, decide_eq_false_iff_not, eq_self, implies_true, exists_const, Option.isNone_some, Option.isNone_none, Option.isSome_some, Option.isSome_none, Option.getD_some, (X.ext E2).cell]
  refine (Values2_ok).k ?_
  rintro _ _ ⟨vb, rfl, hvb, rfl⟩
  generalize hG : hupd g2 vb _ = g3
  obtain ⟨e3, qv⟩ := new_ext hG hvb
  clear hG
  have E3 := E2.trans e3
  replace qo := e3.at qo
  replace qq := (e2.trans e3).at qq
  have hobn := e1.bk hob
  have hvbn := E2.bk hvb
  have hqo : q ≠ ob := fun h => by subst h; rw [qq] at qo; cases qo
  have hqv : q ≠ vb := fun h => by subst h; rw [qq] at qv; cases qv
  have hov : ob ≠ vb := fun h => by subst h; rw [qo] at qv; cases qv
  simp (disch := omega) only [dm_t, wA, wB, wL, wW, wY, Int.fdiv_eq_ediv_of_nonneg, Int.tdiv_eq_ediv_of_nonneg, Int.tmod_eq_emod_of_nonneg, chk_pos, decT, decF, br_pos, br_neg, wX, ↓reduceIte, Nat.reduceEqDiff, Nat.reduceAdd, Nat.reduceSub, Nat.reduceMul, Nat.reduceLeDiff, Nat.reduceLT, Nat.reduceMod, Nat.reduceDiv, Int.reduceToNat, Nat.min_eq_left, IntKind.bits, Int.reducePow, Int.reduceLT, Int.reduceLE, Int.reduceEq, Int.reduceNe, Int.reduceAdd, Int.reduceSub, and_self, reduceCtorEq, decide_eq_true_eq, decide_eq_false_iff_not, eq_self, implies_true, exists_const, Option.isNone_some, Option.isNone_none, Option.isSome_some, Option.isSome_none, Option.getD_some]
  refine vc_rng rfl rfl (Values2_it (b := vb) (s := .slice pa pn pc) (xs := vs) (by have := X.len; have := X.pos; omega)) ?_
    (fun i h' => ∃ pw ws, h' ob = some (.cells #[.pointer (some ⟨q, 0, none⟩)] 31) ∧ h' vb = some (.cells #[.slice pa pn pc] 57) ∧ MY (fun y => g y ≠ none ∨ y = ob ∨ y = vb) g h' q pw ws (ps.take i) ∧ Ext g h')
    (fun _ => False) (fun _ _ => False) ?_ ?_ ?_ ?_ ?_ ?_ (fun _ h => h.elim) (fun _ _ h => h.elim)
  · rintro h b o hb ⟨h1, h2⟩
    exact ⟨(Ext.new hb o).at h1, SlK.ext h2 (Ext.new hb o)⟩
  · rintro i h' ⟨pw, ws, h1, h2, h3, h4⟩
    exact ⟨h2, SlK.ext X.par.s0 h4⟩
  · rintro i h' h'' ⟨pw, ws, h1, h2, h3, h4⟩ e
    exact ⟨pw, ws, e.at h1, e.at h2, h3.ext e, h4.trans e⟩
  · refine ⟨_, [], qo, qv, ⟨qq, ⟨hq, ?_⟩, rfl, OwK.nil, ?_, ?_⟩, E3⟩
    · rintro (h | h | h)
      · exact h hq
      · exact hqo h
      · exact hqv h
    · intro i v l hv; simp at hv
    · intro i j v w hv; simp at hv
  · intro i hi; rfl
  · rintro L i h1 hi ⟨r, hr⟩ ⟨pw, ws, q1, q2, Y, e4⟩
    have hil : i < ps.length := by rw [← X.len]; exact hi
    have hgd : vs.getD i undef = vs[i] := by simp [hi]
    obtain ⟨va, vn, hva⟩ := (X.recAt hil).len
    have hrep := ((X.recAt hil).mono0.repS fun _ _ h => h).ext e4
    rw [hgd]
    simp (disch := omega) only [dm_t, wA, wB, wL, wW, wY, Int.fdiv_eq_ediv_of_nonneg, Int.tdiv_eq_ediv_of_nonneg, Int.tmod_eq_emod_of_nonneg, chk_pos, decT, decF, br_pos, br_neg, wX, ↓reduceIte, Nat.reduceEqDiff, Nat.reduceAdd, Nat.reduceSub, Nat.reduceMul, Nat.reduceLeDiff, Nat.reduceLT, Nat.reduceMod, Nat.reduceDiv, Int.reduceToNat, Nat.min_eq_left, IntKind.bits, Int.reducePow, Int.reduceLT, Int.reduceLE, Int.reduceEq, Int.reduceNe, Int.reduceAdd, Int.reduceSub, and_self, reduceCtorEq, decide_eq_true_eq, decide_eq_false_iff_not, eq_self, implies_true, exists_const, Option.isNone_some, Option.isNone_none, Option.isSome_some, Option.isSome_none, Option.getD_some, List.zip_cons_cons, List.zip_nil_right, List.cons_append, List.nil_append]
    clear hgd hr
    generalize hdel h1 L = gL at *
    have c1 : cellAt gL ⟨ob, 0, none⟩ = some (.pointer (some ⟨q, 0, none⟩)) := by rw [cellAt_of q1]; rfl
    simp (disch := omega) only [dm_t, wA, wB, wL, wW, wY, Int.fdiv_eq_ediv_of_nonneg, Int.tdiv_eq_ediv_of_nonneg, Int.tmod_eq_emod_of_nonneg, chk_pos, decT, decF, br_pos, br_neg, wX, ↓reduceIte, Nat.reduceEqDiff, Nat.reduceAdd, Nat.reduceSub, Nat.reduceMul, Nat.reduceLeDiff, Nat.reduceLT, Nat.reduceMod, Nat.reduceDiv, Int.reduceToNat, Nat.min_eq_left, IntKind.bits, Int.reducePow, Int.reduceLT, Int.reduceLE, Int.reduceEq, Int.reduceNe, Int.reduceAdd, Int.reduceSub, and_self, reduceCtorEq, decide_eq_true_eq, decide_eq_false_iff_not, eq_self, implies_true, exists_const, Option.isNone_some, Option.isNone_none, Option.isSome_some, Option.isSome_none, Option.getD_some, c1, Y.cell]
    obtain ⟨hli, hki⟩ := hps _ (List.getElem_mem hil)
    refine (rr.Copy_ok hrep hli hki).k ?_
    rintro v5 g5 ⟨oq, e5⟩
    have c5 := cellAt_ext e5 c1
    have hol : OwL (fun y => MF q pw ws y ∨ (g y ≠ none ∨ y = ob ∨ y = vb)) rc (fun y => g y = none ∧ ¬ (g y ≠ none ∨ y = ob ∨ y = vb)) g5 55 v5 ps[i] := by
      refine (oq.l.subS ?_).mono ?_
      · rintro y (hy | hy | rfl | rfl)
        · exact Y.there hy
        · exact fun hn => hy (e4.bk hn)
        · rw [q1]; simp
        · rw [q2]; simp
      · intro y o hy hn
        refine ⟨e4.bk hn, ?_⟩
        rintro (hh | rfl | rfl)
        · exact hh (e4.bk hn)
        · rw [q1] at hn; cases hn
        · rw [q2] at hn; cases hn
    obtain ⟨v5a, v5c, rfl⟩ := oq.l.len
    simp (disch := omega) only [dm_t, wA, wB, wL, wW, wY, Int.fdiv_eq_ediv_of_nonneg, Int.tdiv_eq_ediv_of_nonneg, Int.tmod_eq_emod_of_nonneg, chk_pos, decT, decF, br_pos, br_neg, wX, ↓reduceIte, Nat.reduceEqDiff, Nat.reduceAdd, Nat.reduceSub, Nat.reduceMul, Nat.reduceLeDiff, Nat.reduceLT, Nat.reduceMod, Nat.reduceDiv, Int.reduceToNat, Nat.min_eq_left, IntKind.bits, Int.reducePow, Int.reduceLT, Int.reduceLE, Int.reduceEq, Int.reduceNe, Int.reduceAdd, Int.reduceSub, and_self, reduceCtorEq, decide_eq_true_eq, decide_eq_false_iff_not, eq_self, implies_true, exists_const, Option.isNone_some, Option.isNone_none, Option.isSome_some, Option.isSome_none, Option.getD_some, c5, (Y.ext e5).cell]
    intro bl hbl
    have e6 : Ext g5 _ := Ext.new hbl (.cells #[.slice v5a ps[i].length v5c] 24)
    refine ⟨?_, ?_⟩
    · simp (disch := omega) only [dm_t, wA, wB, wL, wW, wY, Int.fdiv_eq_ediv_of_nonneg, Int.tdiv_eq_ediv_of_nonneg, Int.tmod_eq_emod_of_nonneg, chk_pos, decT, decF, br_pos, br_neg, wX, ↓reduceIte, Nat.reduceEqDiff, Nat.reduceAdd, Nat.reduceSub, Nat.reduceMul, Nat.reduceLeDiff, Nat.reduceLT, Nat.reduceMod, Nat.reduceDiv, Int.reduceToNat, Nat.min_eq_left, IntKind.bits, Int.reducePow, Int.reduceLT, Int.reduceLE, Int.reduceEq, Int.reduceNe, Int.reduceAdd, Int.reduceSub, and_self, reduceCtorEq, decide_eq_true_eq, decide_eq_false_iff_not, eq_self, implies_true, exists_const, Option.isNone_some, Option.isNone_none, Option.isSome_some, Option.isSome_none, Option.getD_some, cellAt_ext e6 c5, (Y.ext (e5.trans e6)).cell]
    have hsplit : ps.take (i + 1) = ps.take i ++ [ps[i]] := by simp
    have hlt : (ps.take i).length = i := by rw [List.length_take]; omega
    have hpos := X.pos
    refine MY.push (V := fun _ => _) Y e5 (fun y hy => ?_) hol (fun y hy => ?_) (by rw [hlt]; omega) (by rw [hlt]; omega) ?_ bl hbl
    · have hy2 := e5.bk hy
      refine ⟨e4.bk hy2, ?_⟩
      rintro (hh | rfl | rfl)
      · exact hh (e4.bk hy2)
      · rw [q1] at hy2; cases hy2
      · rw [q2] at hy2; cases hy2
    · exact oq.l.own hy
    intro b pv' g6 hb F6 hq6 hpc ⟨Y6, F7⟩
    have nMF : ∀ y, (y = ob ∨ y = vb) → ¬ MF q pw ws y := by
      intro y hy hm
      have h2 : gL y = some (.cells #[.pointer (some ⟨q, 0, none⟩)] 31) ∨ gL y = some (.cells #[.slice pa pn pc] 57) := by
        rcases hy with rfl | rfl
        · exact .inl q1
        · exact .inr q2
      rcases hm with rfl | hm | ⟨w, hw, hm⟩
      · rcases hy with h | h
        · exact hqo h
        · exact hqv h
      · rcases h2 with h2 | h2
        · exact OwK.tyno Y.par h2 (by decide) hm
        · exact OwK.tyno Y.par h2 (by decide) hm
      · obtain ⟨j, hj, rfl⟩ := List.getElem_of_mem hw
        have ho := Y.lst j _ _ (List.getElem?_eq_getElem hj) (List.getElem?_eq_getElem (by rw [← Y.len]; exact hj))
        rcases h2 with h2 | h2
        · exact ho.tyno h2 (by decide) hm
        · exact ho.tyno h2 (by decide) hm
    have o6 := F6 _ _ (e5.at q1) (nMF _ (.inl rfl))
    have c6 : cellAt g6 ⟨ob, 0, none⟩ = some (.pointer (some ⟨q, 0, none⟩)) := by rw [cellAt_of o6]; rfl
    simp (disch := omega) only [dm_t, wA, wB, wL, wW, wY, Int.fdiv_eq_ediv_of_nonneg, Int.tdiv_eq_ediv_of_nonneg, Int.tmod_eq_emod_of_nonneg, chk_pos, decT, decF, br_pos, br_neg, wX, ↓reduceIte, Nat.reduceEqDiff, Nat.reduceAdd, Nat.reduceSub, Nat.reduceMul, Nat.reduceLeDiff, Nat.reduceLT, Nat.reduceMod, Nat.reduceDiv, Int.reduceToNat, Nat.min_eq_left, IntKind.bits, Int.reducePow, Int.reduceLT, Int.reduceLE, Int.reduceEq, Int.reduceNe, Int.reduceAdd, Int.reduceSub, and_self, reduceCtorEq, decide_eq_true_eq, decide_eq_false_iff_not, eq_self, implies_true, exists_const, Option.isNone_some, Option.isNone_none, Option.isSome_some, Option.isSome_none, Option.getD_some, c6, storeH_0 hq6, hpc]
    intro _
    refine ⟨_, _, F7 _ _ (e5.at q1) (nMF _ (.inl rfl)), F7 _ _ (e5.at q2) (nMF _ (.inr rfl)), by rw [hsplit]; exact Y6, ?_⟩
    refine Ext.step' (e4.trans e5) F7 fun y hy => ?_
    rcases hy with rfl | hy | ⟨w, hw, hy⟩
    · exact hq
    · exact (OwK.own Y.par hy).1
    · obtain ⟨j, hj, rfl⟩ := List.getElem_of_mem hw
      exact ((Y.lst j _ _ (List.getElem?_eq_getElem hj) (List.getElem?_eq_getElem (by rw [← Y.len]; exact hj))).own hy).1
  · rintro h' ⟨pw, ws, q1, q2, Y, e4⟩
    rw [show vs.length = ps.length from X.len, List.take_length] at Y
    have c1 : cellAt h' ⟨ob, 0, none⟩ = some (.pointer (some ⟨q, 0, none⟩)) := by rw [cellAt_of q1]; rfl
    simp (disch := omega) only [dm_t, wA, wB, wL, wW, wY, Int.fdiv_eq_ediv_of_nonneg, Int.tdiv_eq_ediv_of_nonneg, Int.tmod_eq_emod_of_nonneg, chk_pos, decT, decF, br_pos, br_neg, wX, ↓reduceIte, Nat.reduceEqDiff, Nat.reduceAdd, Nat.reduceSub, Nat.reduceMul, Nat.reduceLeDiff, Nat.reduceLT, Nat.reduceMod, Nat.reduceDiv, Int.reduceToNat, Nat.min_eq_left, IntKind.bits, Int.reducePow, Int.reduceLT, Int.reduceLE, Int.reduceEq, Int.reduceNe, Int.reduceAdd, Int.reduceSub, and_self, reduceCtorEq, decide_eq_true_eq, decide_eq_false_iff_not, eq_self, implies_true, exists_const, Option.isNone_some, Option.isNone_none, Option.isSome_some, Option.isSome_none, Option.getD_some, c1]
    refine ⟨q, pw, ws, rfl, ?_, e4⟩
    have Y2 := Y.mx X.pos
    exact Y2.avoid fun y hy => .inl (.inl hy)
end
end Go.Proofs.Ytpgkkpjdajkobaa.mo
