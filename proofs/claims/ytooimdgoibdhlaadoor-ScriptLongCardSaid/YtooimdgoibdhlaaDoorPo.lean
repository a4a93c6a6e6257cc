/-
  The words taken one by one: the program's two closures.
-/
import Derived.Test.YtooimdgoibdhlaaDoorPn
namespace Go.Proofs.YtooimdgoibdhlaaDoor.sc
open Go Go.Proofs.YtooimdgoibdhlaaDoor Go.RowKit
set_option linter.unusedVariables false
set_option linter.unusedSimpArgs false
section
variable {U : Nat → Prop} {h g0 : H} {vw : Value} {ws : List (List UInt8)} {pat pw pn : Nat}
/-- The variables that the closures share: where they are (i), the words. -/
structure RS (U : Nat → Prop) (h g0 : H) (vw : Value) (ws : List (List UInt8)) (pat pw pn : Nat) (g : H) (i : Nat) : Prop where
  G : GL h
  E0 : Ext h g0
  hw : S1 U g0 vw (ws.map sv)
  fr : Fr U g0 g
  at' : g pat = some (.cells #[.int .i64 (i : Int)] 3)
  w : g pw = some (.cells #[vw] 74)
  n : g pn = some (.cells #[.func (.func 38) #[] #[.pointer (some ⟨pat, 0, none⟩), .pointer (some ⟨pw, 0, none⟩)]] 80)
  le : i ≤ ws.length
  wl : ws.length ≤ 1048577
  wsl : ∀ w ∈ ws, w.length ≤ 1048576
  nat : U pat
  hU : ∀ y, U y → h y = none
  nU : ∀ y, g0 y = none → U y
theorem RS.E {g : H} {i : Nat} (r : RS U h g0 vw ws pat pw pn g i) : Ext h g := Ext.step' r.E0 r.fr r.hU
theorem RS.step {g g' : H} {i : Nat} (r : RS U h g0 vw ws pat pw pn g i) (e : Ext g g') : RS U h g0 vw ws pat pw pn g' i :=
  ⟨r.G, r.E0, r.hw, r.fr.trans (e.mono fun _ h => h.elim), e.at r.at', e.at r.w, e.at r.n, r.le, r.wl, r.wsl, r.nat, r.hU, r.nU⟩
theorem RS.un {g : H} {i : Nat} (r : RS U h g0 vw ws pat pw pn g i) {y : Nat} (hy : g y = none) : U y := by
  cases h0 : g0 y with
  | none => exact r.nU y h0
  | some o =>
    by_cases hu : U y
    · exact hu
    · have := r.fr y o h0 hu
      rw [hy] at this; cases this
/-- Something else of what is new is written. -/
theorem RS.frame {g g' : H} {i : Nat} {T : Nat → Prop} (r : RS U h g0 vw ws pat pw pn g i) (f : Fr T g g') (hT : ∀ y, T y → U y ∧ y ≠ pat ∧ y ≠ pw ∧ y ≠ pn) : RS U h g0 vw ws pat pw pn g' i :=
  ⟨r.G, r.E0, r.hw, r.fr.trans (f.mono fun y hy => (hT y hy).1), f _ _ r.at' fun hh => (hT _ hh).2.1 rfl, f _ _ r.w fun hh => (hT _ hh).2.2.1 rfl, f _ _ r.n fun hh => (hT _ hh).2.2.2 rfl, r.le, r.wl, r.wsl, r.nat, r.hU, r.nU⟩
theorem isN : isNilI .nilIface = true := rfl
theorem isI (t : TypeId) (p : Value) : isNilI (.iface t p) = false := rfl
theorem next_ok {g : H} {i : Nat} (r : RS U h g0 vw ws pat pw pn g i) : Ok Tryd.prog 38 #[.pointer (some ⟨pat, 0, none⟩), .pointer (some ⟨pw, 0, none⟩)] g fun v g' => v = sv (ws.getD i []) ∧ (∃ i', RS U h g0 vw ws pat pw pn g' i' ∧ (i < ws.length → i' = i + 1)) ∧ Fr (fun y => y = pat) g g' := by
  have c1 : cellAt g ⟨pat, 0, none⟩ = some (.int .i64 (i : Int)) := by rw [cellAt_of r.at']; rfl
  have c2 : cellAt g ⟨pw, 0, none⟩ = some vw := by rw [cellAt_of r.w]; rfl
  have hwl := r.wl
  obtain ⟨aw, cw, hvw⟩ := S1.len r.hw
  rw [List.length_map] at hvw
  refine c38_ok (args := [_, _]) (by simp) ?_
  by_cases hi : i < ws.length
  · obtain ⟨bw, ow, i1, t1⟩ := S1.ldA r.hw (i := i) (w := ws[i]) (List.getElem?_eq_getElem hi) .i64
    have hpw : pw ≠ pat := fun he => by
      have h1 := r.w
      rw [he, r.at'] at h1
      simp at h1
    have f : Fr (fun y => y = pat) g (hupd g pat (.cells #[.int .i64 ((i : Int) + 1)] 3)) := Fr.upd (S := fun y => y = pat) rfl _
    have fr2 := r.fr.trans (f.mono fun y (hy : y = pat) => hy ▸ r.nat)
    have t2 := t1 _ fr2
    have c3 : cellAt (hupd g pat (.cells #[.int .i64 ((i : Int) + 1)] 3)) ⟨pw, 0, none⟩ = some vw := by rw [cellAt_of (f _ _ r.w hpw)]; rfl
    have c4 : cellAt (hupd g pat (.cells #[.int .i64 ((i : Int) + 1)] 3)) ⟨pat, 0, none⟩ = some (.int .i64 ((i : Int) + 1)) := by rw [cellAt_of (hupd_same _ _ _)]; rfl
    have ha : (i : Int) + 1 - 1 = i := by omega
    rw [hvw] at i1 c2 c3
    simp (disch := omega) only [dm_t, wS, simprocAttr, IntKind.bits, c1, c2, storeH_0 r.at', c3, c4, ha, i1, t2]
    refine ⟨?_, ⟨i + 1, ⟨r.G, r.E0, r.hw, fr2, by rw [hupd_same]; rfl, f _ _ r.w hpw, f _ _ r.n ?_, hi, hwl, r.wsl, r.nat, r.hU, r.nU⟩, fun _ => rfl⟩, f⟩
    · rw [List.getD_eq_getElem?_getD, List.getElem?_eq_getElem hi]; rfl
    · intro he
      have h1 := r.n
      rw [he, r.at'] at h1
      simp at h1
  · rw [hvw] at c2
    simp (disch := omega) only [dm_t, wS, simprocAttr, IntKind.bits, c1, c2]
    refine ⟨?_, ⟨i, r, fun h => absurd h hi⟩, Fr.refl _ _⟩
    rw [List.getD_eq_getElem?_getD, List.getElem?_eq_none (by omega)]; rfl
theorem num_ok {g : H} {i : Nat} (r : RS U h g0 vw ws pat pw pn g i) : Ok Tryd.prog 39 #[.pointer (some ⟨pn, 0, none⟩)] g fun v g' => (∃ q : Int, v = .int .i64 q ∧ inI q ∧ ∀ m : Nat, m ≤ 2147483647 → ws.getD i [] = dec m → q = m) ∧ (∃ i', RS U h g0 vw ws pat pw pn g' i' ∧ (i < ws.length → i' = i + 1)) ∧ Fr (fun y => y = pat) g g' := by
  have c1 : cellAt g ⟨pn, 0, none⟩ = some (.func (.func 38) #[] #[.pointer (some ⟨pat, 0, none⟩), .pointer (some ⟨pw, 0, none⟩)]) := by rw [cellAt_of r.n]; rfl
  refine c39_ok (args := [_]) (by simp) ?_
  simp (disch := omega) only [dm_t, wS, simprocAttr, IntKind.bits, c1]
  refine ⟨by kernel_rfl, (next_ok r).k ?_⟩
  rintro _ g2 ⟨rfl, ⟨i', r2, hi'⟩, f2⟩
  have hlen : (ws.getD i []).length ≤ 1048576 := by
    rw [List.getD_eq_getElem?_getD]
    by_cases hi : i < ws.length
    · rw [List.getElem?_eq_getElem hi]; exact r.wsl _ (List.getElem_mem hi)
    · rw [List.getElem?_eq_none (by omega)]; simp
  simp (disch := omega) only [dm_t, wS, simprocAttr, IntKind.bits]
  refine (Atoi_ok (r2.G.ext r2.E) (ws.getD i []) hlen).k ?_
  rintro _ g3 ⟨⟨q, e, rfl, hq, he, hqm⟩, e3⟩
  rcases he with rfl | ⟨t, p, rfl⟩
  · simp (disch := omega) only [dm_t, wS, simprocAttr, IntKind.bits]
    refine raw_nenil Tryd.underlying82 rfl (.inl rfl) ?_
    simp (disch := omega) only [dm_t, wS, simprocAttr, IntKind.bits, isN, Bool.not_true]
    exact ⟨⟨q, rfl, hq, fun m hm hw => (hqm m hm hw).1⟩, ⟨i', r2.step e3, hi'⟩, f2.trans (e3.mono fun _ h => h.elim)⟩
  · simp (disch := omega) only [dm_t, wS, simprocAttr, IntKind.bits]
    refine raw_nenil Tryd.underlying82 rfl (.inr ⟨t, p, rfl⟩) ?_
    simp (disch := omega) only [dm_t, wS, simprocAttr, IntKind.bits, isI, Bool.not_false]
    exact ⟨⟨-1, rfl, by decide, fun m hm hw => by have := (hqm m hm hw).2; cases this⟩, ⟨i', r2.step e3, hi'⟩, f2.trans (e3.mono fun _ h => h.elim)⟩
end
end Go.Proofs.YtooimdgoibdhlaaDoor.sc
