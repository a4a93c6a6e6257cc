/-
  The bytes of digits: the program's.
-/
import Derived.Test.YtooimdgoibdhlaaDoorPl
namespace Go.Proofs.YtooimdgoibdhlaaDoor.sc
open Go Go.Proofs.YtooimdgoibdhlaaDoor Go.RowKit
set_option linter.unusedVariables false
set_option linter.unusedSimpArgs false
theorem or16 {a b : Nat} (ha : a < 16) (hb : b < 16) : (BitVec.ofInt 8 ((a : Int) * 16) ||| BitVec.ofInt 8 (b : Int)).toNat = 16 * a + b := by
  have h1 : BitVec.ofInt 8 ((a : Int) * 16) = BitVec.ofNat 8 (a * 16) := by
    rw [show (a : Int) * 16 = ((a * 16 : Nat) : Int) by omega]; exact BitVec.ofInt_natCast _ _
  have h2 : BitVec.ofInt 8 (b : Int) = BitVec.ofNat 8 b := by simp
  rw [h1, h2, BitVec.toNat_or, BitVec.toNat_ofNat, BitVec.toNat_ofNat, Nat.mod_eq_of_lt (by omega : a * 16 < 2 ^ 8), Nat.mod_eq_of_lt (by omega : b < 2 ^ 8)]
  have := Nat.shiftLeft_add_eq_or_of_lt (b := b) (i := 4) (by omega) a
  rw [Nat.shiftLeft_eq] at this
  rw [show a * 16 = a * 2 ^ 4 from rfl, ← this]; omega
/-- What stands at place t behind i digits. -/
def tkn (s : List UInt8) (i t : Nat) : Nat := if 2 * t + 2 ≤ i then 16 * hd (s.getD (2 * t) 0) + hd (s.getD (2 * t + 1) 0) else if 2 * t + 1 ≤ i then hd (s.getD (2 * t) 0) else 0
theorem taken_ok (h : H) (s : List UInt8) (hl : s.length ≤ 1048576) : Ok Tryd.prog 41 #[sv s] h fun v h' => (∃ vb b l, v = .tuple #[vb, .bool b] ∧ OwB (fun y => h y = none) h' 5 vb l ∧ (∀ m, s = hexs m → l = m) ∧ (s = [45] → l = [])) ∧ Ext h h' := by
  refine c41_ok (args := [_]) (by simp) ?_
  simp (disch := omega) only [dm_t, wS, simprocAttr, IntKind.bits, size_mk]
  refine ⟨by omega, fun y hy => ?_⟩
  have ho := omakeB (O := fun y => h y = none) (h := h) (b := y) (E := 5) (n := ((s.length : Int) / 2).toNat) (m := ((s.length : Int) / 2).toNat) (by omega) hy
  generalize hG : hupd h y _ = g1 at ho ⊢
  obtain ⟨e1, _⟩ := new_ext hG hy
  clear hG
  have hn : ((s.length : Int) / 2).toNat = s.length / 2 := by omega
  rw [hn] at ho ⊢
  generalize hv : Value.slice (some ⟨y, 0, none⟩) (s.length / 2) (s.length / 2) = vo at ho ⊢
  have hvo : ∃ a c, vo = .slice a (s.length / 2) c := ⟨_, _, hv.symm⟩
  clear hv
  simp (disch := omega) only [dm_t, wS, simprocAttr, IntKind.bits, size_mk]
  refine vc_loop1 (fun vi h' => ∃ (i : Nat) (l : List UInt8), vi = .int .i64 (i : Int) ∧ i ≤ s.length ∧ l.length = s.length / 2 ∧ OwB (fun y => h y = none) h' 5 vo l ∧ Ext h h' ∧ (0 < i → s.length % 2 = 0) ∧ (∀ c ∈ s.take i, hd c < 16) ∧ ∀ (t : Nat) (ht : t < l.length), l[t].toNat = tkn s i t) (fun vi _ => s.length - m1 vi) ?_ ?_
  · simp (disch := omega) only [dm_t, wS, simprocAttr, IntKind.bits]
    refine ⟨0, List.replicate (s.length / 2) 0, by simp, by omega, by simp, ho, e1, by omega, by simp, fun t ht => ?_⟩
    rw [List.getElem_replicate]
    unfold tkn
    rw [if_neg (by omega), if_neg (by omega)]; rfl
  rintro _ g ⟨i, l, rfl, hi, hll, ho, e, hev, hall, htk⟩
  by_cases hil : i < s.length
  · have x1 := get_mk s hil
    obtain ⟨d1, d2⟩ := dgI_bd s[i]
    simp (disch := omega) only [dm_t, wS, simprocAttr, IntKind.bits, x1, size_mk, Option.map_some]
    refine (IB_ok g s[i]).k ?_
    rintro _ _ ⟨rfl, rfl⟩
    by_cases hdg : hd s[i] < 16
    · have hdi : dgI s[i] = (hd s[i] : Int) := by unfold dgI; rw [if_pos hdg]
      rw [hdi]
      by_cases hodd : s.length % 2 = 0
      · have hk : i / 2 < l.length := by omega
        obtain ⟨b1, o1, i1, t1, hO, hat, st⟩ := OwB.set (kk := .i64) (e := (i : Int) / 2) ho (i / 2) (by omega) hk
        have hlk := htk (i / 2) hk
        have hlk16 : l[i / 2].toNat < 16 := by
          rw [hlk]; unfold tkn
          rw [if_neg (by omega)]
          split
          · rw [List.getD_eq_getElem?_getD, List.getElem?_eq_getElem (by omega)]
            refine hall _ ?_
            simp only [Option.getD_some]
            rw [List.mem_take_iff_getElem]
            exact ⟨2 * (i / 2), by omega, rfl⟩
          · omega
        have x2 : (BitVec.ofInt IntKind.u8.bits ((l[i / 2].toNat : Int) * 16) ||| BitVec.ofInt IntKind.u8.bits (hd s[i] : Int)).toNat = 16 * l[i / 2].toNat + hd s[i] := or16 hlk16 hdg
        simp only [IntKind.bits, simprocAttr] at x2
        simp (disch := omega) only [dm_t, wS, simprocAttr, IntKind.bits, x1, size_mk, i1, t1, x2]
        refine st (UInt8.ofNat (16 * l[i / 2].toNat + hd s[i])) _ _ ?_ ?_
        · simp only [UInt8.toNat_ofNat', Nat.reducePow]; omega
        intro h3 ho3 hf3
        simp (disch := omega) only [dm_t, wS, simprocAttr, IntKind.bits]
        have e3 : Ext h h3 := Ext.step' e hf3 fun y hy => by rw [hy]; exact hO
        refine ⟨⟨i + 1, l.set (i / 2) (UInt8.ofNat (16 * l[i / 2].toNat + hd s[i])), by simp, by omega, by simp [hll], ho3, e3, fun _ => hodd, ?_, ?_⟩, by simp [m1] <;> omega⟩
        · intro c hc
          rw [show s.take (i + 1) = s.take i ++ [s[i]] by simp] at hc
          rcases List.mem_append.1 hc with hc | hc
          · exact hall c hc
          · simp only [List.mem_cons, List.not_mem_nil, or_false] at hc
            rw [hc]; exact hdg
        · intro t ht
          rw [List.length_set] at ht
          rw [List.getElem_set]
          by_cases htk' : i / 2 = t
          · rw [if_pos htk']
            subst htk'
            simp only [UInt8.toNat_ofNat', Nat.reducePow]
            rw [Nat.mod_eq_of_lt (by omega), hlk]
            have hsi : s.getD i 0 = s[i] := by rw [List.getD_eq_getElem?_getD, List.getElem?_eq_getElem hil]; rfl
            unfold tkn
            by_cases hpar : i % 2 = 0
            · have h2 : 2 * (i / 2) = i := by omega
              rw [h2, if_neg (by omega), if_neg (by omega), if_neg (by omega), if_pos (by omega), hsi]; omega
            · have h2 : 2 * (i / 2) + 1 = i := by omega
              rw [if_neg (by omega), if_pos (by omega), if_pos (by omega), h2, hsi]
          · rw [if_neg htk', htk t ht]
            unfold tkn
            by_cases c1 : 2 * t + 2 ≤ i
            · rw [if_pos c1, if_pos (by omega)]
            · rw [if_neg c1, if_neg (by omega), if_neg (by omega), if_neg (by omega)]
      · simp (disch := omega) only [dm_t, wS, simprocAttr, IntKind.bits, x1, size_mk]
        refine ⟨⟨.slice none 0 0, false, [], rfl, OwK.nil, fun m hm => ?_, fun _ => rfl⟩, e⟩
        rw [hm, hexs_len] at hodd; omega
    · have hdi : dgI s[i] = -1 := by unfold dgI; rw [if_neg hdg]
      rw [hdi]
      simp (disch := omega) only [dm_t, wS, simprocAttr, IntKind.bits]
      refine ⟨⟨.slice none 0 0, false, [], rfl, OwK.nil, fun m hm => ?_, fun _ => rfl⟩, e⟩
      exact absurd (hexs_mem (l := m) (c := s[i]) (by rw [← hm]; exact List.getElem_mem hil)).1 hdg
  · obtain rfl : i = s.length := by omega
    simp (disch := omega) only [dm_t, wS, simprocAttr, IntKind.bits]
    refine ⟨⟨vo, true, l, rfl, ho, fun m hm => ?_, fun h45 => ?_⟩, e⟩
    · refine of_hexs (l := m) (m := l) (by rw [← hm]; omega) (fun t ht c d hc hd2 h1 h2 => ?_)
      rw [htk t ht]
      unfold tkn
      rw [if_pos (by omega), List.getD_eq_getElem?_getD, List.getD_eq_getElem?_getD, hm, hc, hd2]; rfl
    · have := hall 45 (by rw [h45]; simp)
      exact absurd this (by decide)
end Go.Proofs.YtooimdgoibdhlaaDoor.sc
namespace Go.Proofs.YtooimdgoibdhlaaDoor.sc
open Go Go.Proofs.YtooimdgoibdhlaaDoor Go.RowKit
set_option linter.unusedVariables false
set_option linter.unusedSimpArgs false
section
variable {U : Nat → Prop} {h g0 : H} {vw : Value} {ws : List (List UInt8)} {pat pw pn : Nat}
/-- The variables that the closures share: where they are (i), the words. -/
structure RS (U : Nat → Prop) (h g0 : H) (vw : Value) (ws : List (List UInt8)) (pat pw pn : Nat) (g : H) (i : Nat) : Prop where
  G : GL h
  E0 : Ext h g0
  hw : S1 U g0 vw (ws.map sv)
  fr : Fr U g0 g
  at' : g pat = some (.cells #[.int .i64 (i : Int)] 3)
  w : g pw = some (.cells #[vw] 74)
  n : g pn = some (.cells #[.func (.func 38) #[] #[.pointer (some ⟨pat, 0, none⟩), .pointer (some ⟨pw, 0, none⟩)]] 80)
  le : i ≤ ws.length
  wl : ws.length ≤ 1048577
  wsl : ∀ w ∈ ws, w.length ≤ 1048576
  nat : U pat
  hU : ∀ y, U y → h y = none
  nU : ∀ y, g0 y = none → U y
theorem RS.E {g : H} {i : Nat} (r : RS U h g0 vw ws pat pw pn g i) : Ext h g := Ext.step' r.E0 r.fr r.hU
theorem RS.step {g g' : H} {i : Nat} (r : RS U h g0 vw ws pat pw pn g i) (e : Ext g g') : RS U h g0 vw ws pat pw pn g' i :=
  ⟨r.G, r.E0, r.hw, r.fr.trans (e.mono fun _ h => h.elim), e.at r.at', e.at r.w, e.at r.n, r.le, r.wl, r.wsl, r.nat, r.hU, r.nU⟩
theorem RS.un {g : H} {i : Nat} (r : RS U h g0 vw ws pat pw pn g i) {y : Nat} (hy : g y = none) : U y := by
  cases h0 : g0 y with
  | none => exact r.nU y h0
  | some o =>
    by_cases hu : U y
    · exact hu
    · have := r.fr y o h0 hu
      rw [hy] at this; cases this
/-- Something else of what is new is written. -/
theorem RS.frame {g g' : H} {i : Nat} {T : Nat → Prop} (r : RS U h g0 vw ws pat pw pn g i) (f : Fr T g g') (hT : ∀ y, T y → U y ∧ y ≠ pat ∧ y ≠ pw ∧ y ≠ pn) : RS U h g0 vw ws pat pw pn g' i :=
  ⟨r.G, r.E0, r.hw, r.fr.trans (f.mono fun y hy => (hT y hy).1), f _ _ r.at' fun hh => (hT _ hh).2.1 rfl, f _ _ r.w fun hh => (hT _ hh).2.2.1 rfl, f _ _ r.n fun hh => (hT _ hh).2.2.2 rfl, r.le, r.wl, r.wsl, r.nat, r.hU, r.nU⟩
theorem isN : isNilI .nilIface = true := rfl
theorem isI (t : TypeId) (p : Value) : isNilI (.iface t p) = false := rfl
theorem next_ok {g : H} {i : Nat} (r : RS U h g0 vw ws pat pw pn g i) : Ok Tryd.prog 38 #[.pointer (some ⟨pat, 0, none⟩), .pointer (some ⟨pw, 0, none⟩)] g fun v g' => v = sv (ws.getD i []) ∧ (∃ i', RS U h g0 vw ws pat pw pn g' i' ∧ (i < ws.length → i' = i + 1)) ∧ Fr (fun y => y = pat) g g' := by
  have c1 : cellAt g ⟨pat, 0, none⟩ = some (.int .i64 (i : Int)) := by rw [cellAt_of r.at']; rfl
  have c2 : cellAt g ⟨pw, 0, none⟩ = some vw := by rw [cellAt_of r.w]; rfl
  have hwl := r.wl
  obtain ⟨aw, cw, hvw⟩ := S1.len r.hw
  rw [List.length_map] at hvw
  refine c38_ok (args := [_, _]) (by simp) ?_
  by_cases hi : i < ws.length
  · obtain ⟨bw, ow, i1, t1⟩ := S1.ldA r.hw (i := i) (w := ws[i]) (List.getElem?_eq_getElem hi) .i64
    have hpw : pw ≠ pat := fun he => by
      have h1 := r.w
      rw [he, r.at'] at h1
      simp at h1
    have f : Fr (fun y => y = pat) g (hupd g pat (.cells #[.int .i64 ((i : Int) + 1)] 3)) := Fr.upd (S := fun y => y = pat) rfl _
    have fr2 := r.fr.trans (f.mono fun y (hy : y = pat) => hy ▸ r.nat)
    have t2 := t1 _ fr2
    have c3 : cellAt (hupd g pat (.cells #[.int .i64 ((i : Int) + 1)] 3)) ⟨pw, 0, none⟩ = some vw := by rw [cellAt_of (f _ _ r.w hpw)]; rfl
    have c4 : cellAt (hupd g pat (.cells #[.int .i64 ((i : Int) + 1)] 3)) ⟨pat, 0, none⟩ = some (.int .i64 ((i : Int) + 1)) := by rw [cellAt_of (hupd_same _ _ _)]; rfl
    have ha : (i : Int) + 1 - 1 = i := by omega
    rw [hvw] at i1 c2 c3
    simp (disch := omega) only [dm_t, wS, simprocAttr, IntKind.bits, c1, c2, storeH_0 r.at', c3, c4, ha, i1, t2]
    refine ⟨?_, ⟨i + 1, ⟨r.G, r.E0, r.hw, fr2, by rw [hupd_same]; rfl, f _ _ r.w hpw, f _ _ r.n ?_, hi, hwl, r.wsl, r.nat, r.hU, r.nU⟩, fun _ => rfl⟩, f⟩
    · rw [List.getD_eq_getElem?_getD, List.getElem?_eq_getElem hi]; rfl
    · intro he
      have h1 := r.n
      rw [he, r.at'] at h1
      simp at h1
  · rw [hvw] at c2
    simp (disch := omega) only [dm_t, wS, simprocAttr, IntKind.bits, c1, c2]
    refine ⟨?_, ⟨i, r, fun h => absurd h hi⟩, Fr.refl _ _⟩
    rw [List.getD_eq_getElem?_getD, List.getElem?_eq_none (by omega)]; rfl
theorem num_ok {g : H} {i : Nat} (r : RS U h g0 vw ws pat pw pn g i) : Ok Tryd.prog 39 #[.pointer (some ⟨pn, 0, none⟩)] g fun v g' => (∃ q : Int, v = .int .i64 q ∧ inI q ∧ ∀ m : Nat, m ≤ 2147483647 → ws.getD i [] = dec m → q = m) ∧ (∃ i', RS U h g0 vw ws pat pw pn g' i' ∧ (i < ws.length → i' = i + 1)) ∧ Fr (fun y => y = pat) g g' := by
  have c1 : cellAt g ⟨pn, 0, none⟩ = some (.func (.func 38) #[] #[.pointer (some ⟨pat, 0, none⟩), .pointer (some ⟨pw, 0, none⟩)]) := by rw [cellAt_of r.n]; rfl
  refine c39_ok (args := [_]) (by simp) ?_
  simp (disch := omega) only [dm_t, wS, simprocAttr, IntKind.bits, c1]
  refine ⟨by kernel_rfl, (next_ok r).k ?_⟩
  rintro _ g2 ⟨rfl, ⟨i', r2, hi'⟩, f2⟩
  have hlen : (ws.getD i []).length ≤ 1048576 := by
    rw [List.getD_eq_getElem?_getD]
    by_cases hi : i < ws.length
    · rw [List.getElem?_eq_getElem hi]; exact r.wsl _ (List.getElem_mem hi)
    · rw [List.getElem?_eq_none (by omega)]; simp
  simp (disch := omega) only [dm_t, wS, simprocAttr, IntKind.bits]
  refine (Atoi_ok (r2.G.ext r2.E) (ws.getD i []) hlen).k ?_
  rintro _ g3 ⟨⟨q, e, rfl, hq, he, hqm⟩, e3⟩
  rcases he with rfl | ⟨t, p, rfl⟩
  · simp (disch := omega) only [dm_t, wS, simprocAttr, IntKind.bits]
    refine raw_nenil Tryd.underlying82 rfl (.inl rfl) ?_
    simp (disch := omega) only [dm_t, wS, simprocAttr, IntKind.bits, isN, Bool.not_true]
    exact ⟨⟨q, rfl, hq, fun m hm hw => (hqm m hm hw).1⟩, ⟨i', r2.step e3, hi'⟩, f2.trans (e3.mono fun _ h => h.elim)⟩
  · simp (disch := omega) only [dm_t, wS, simprocAttr, IntKind.bits]
    refine raw_nenil Tryd.underlying82 rfl (.inr ⟨t, p, rfl⟩) ?_
    simp (disch := omega) only [dm_t, wS, simprocAttr, IntKind.bits, isI, Bool.not_false]
    exact ⟨⟨-1, rfl, by decide, fun m hm hw => by have := (hqm m hm hw).2; cases this⟩, ⟨i', r2.step e3, hi'⟩, f2.trans (e3.mono fun _ h => h.elim)⟩
end
end Go.Proofs.YtooimdgoibdhlaaDoor.sc
