/-
  The bytes of digits: the program's.
-/
import Derived.Test.YtooimdgoibdhlaaDoorPl
namespace Go.Proofs.YtooimdgoibdhlaaDoor.sc
open Go Go.Proofs.YtooimdgoibdhlaaDoor Go.RowKit
set_option linter.unusedVariables false
set_option linter.unusedSimpArgs false
theorem or16 {a b : Nat} (ha : a < 16) (hb : b < 16) : (BitVec.ofInt 8 ((a : Int) * 16) ||| BitVec.ofInt 8 (b : Int)).toNat = 16 * a + b := by
  have h1 : BitVec.ofInt 8 ((a : Int) * 16) = BitVec.ofNat 8 (a * 16) := by
    rw [show (a : Int) * 16 = ((a * 16 : Nat) : Int) by omega]; exact BitVec.ofInt_natCast _ _
  have h2 : BitVec.ofInt 8 (b : Int) = BitVec.ofNat 8 b := by simp
  rw [h1, h2, BitVec.toNat_or, BitVec.toNat_ofNat, BitVec.toNat_ofNat, Nat.mod_eq_of_lt (by omega : a * 16 < 2 ^ 8), Nat.mod_eq_of_lt (by omega : b < 2 ^ 8)]
  have := Nat.shiftLeft_add_eq_or_of_lt (b := b) (i := 4) (by omega) a
  rw [Nat.shiftLeft_eq] at this
  rw [show a * 16 = a * 2 ^ 4 from rfl, ← this]; omega
/-- What stands at place t behind i digits. -/
def tkn (s : List UInt8) (i t : Nat) : Nat := if 2 * t + 2 ≤ i then 16 * hd (s.getD (2 * t) 0) + hd (s.getD (2 * t + 1) 0) else if 2 * t + 1 ≤ i then hd (s.getD (2 * t) 0) else 0
theorem taken_ok (h : H) (s : List UInt8) (hl : s.length ≤ 1048576) : Ok Tryd.prog 41 #[sv s] h fun v h' => (∃ vb b l, v = .tuple #[vb, .bool b] ∧ OwB (fun y => h y = none) h' 5 vb l ∧ (∀ m, s = hexs m → l = m) ∧ (s = [45] → l = [])) ∧ Ext h h' := by
  refine c41_ok (args := [_]) (by simp) ?_
  simp (disch := omega) only [dm_t, wS, simprocAttr, IntKind.bits, size_mk]
  refine ⟨by omega, fun y hy => ?_⟩
  have ho := omakeB (O := fun y => h y = none) (h := h) (b := y) (E := 5) (n := ((s.length : Int) / 2).toNat) (m := ((s.length : Int) / 2).toNat) (by omega) hy
  generalize hG : hupd h y _ = g1 at ho ⊢
  obtain ⟨e1, _⟩ := new_ext hG hy
  clear hG
  have hn : ((s.length : Int) / 2).toNat = s.length / 2 := by omega
  rw [hn] at ho ⊢
  generalize hv : Value.slice (some ⟨y, 0, none⟩) (s.length / 2) (s.length / 2) = vo at ho ⊢
  have hvo : ∃ a c, vo = .slice a (s.length / 2) c := ⟨_, _, hv.symm⟩
  clear hv
  simp (disch := omega) only [dm_t, wS, simprocAttr, IntKind.bits, size_mk]
  refine vc_loop1 (fun vi h' => ∃ (i : Nat) (l : List UInt8), vi = .int .i64 (i : Int) ∧ i ≤ s.length ∧ l.length = s.length / 2 ∧ OwB (fun y => h y = none) h' 5 vo l ∧ Ext h h' ∧ (0 < i → s.length % 2 = 0) ∧ (∀ c ∈ s.take i, hd c < 16) ∧ ∀ (t : Nat) (ht : t < l.length), l[t].toNat = tkn s i t) (fun vi _ => s.length - m1 vi) ?_ ?_
  · simp (disch := omega) only [dm_t, wS, simprocAttr, IntKind.bits]
    refine ⟨0, List.replicate (s.length / 2) 0, by simp, by omega, by simp, ho, e1, by omega, by simp, fun t ht => ?_⟩
    rw [List.getElem_replicate]
    unfold tkn
    rw [if_neg (by omega), if_neg (by omega)]; rfl
  rintro _ g ⟨i, l, rfl, hi, hll, ho, e, hev, hall, htk⟩
  by_cases hil : i < s.length
  · have x1 := get_mk s hil
    obtain ⟨d1, d2⟩ := dgI_bd s[i]
    simp (disch := omega) only [dm_t, wS, simprocAttr, IntKind.bits, x1, size_mk, Option.map_some]
    refine (IB_ok g s[i]).k ?_
    rintro _ _ ⟨rfl, rfl⟩
    by_cases hdg : hd s[i] < 16
    · have hdi : dgI s[i] = (hd s[i] : Int) := by unfold dgI; rw [if_pos hdg]
      rw [hdi]
      by_cases hodd : s.length % 2 = 0
      · have hk : i / 2 < l.length := by omega
        obtain ⟨b1, o1, i1, t1, hO, hat, st⟩ := OwB.set (kk := .i64) (e := (i : Int) / 2) ho (i / 2) (by omega) hk
        have hlk := htk (i / 2) hk
        have hlk16 : l[i / 2].toNat < 16 := by
          rw [hlk]; unfold tkn
          rw [if_neg (by omega)]
          split
          · rw [List.getD_eq_getElem?_getD, List.getElem?_eq_getElem (by omega)]
            refine hall _ ?_
            simp only [Option.getD_some]
            rw [List.mem_take_iff_getElem]
            exact ⟨2 * (i / 2), by omega, rfl⟩
          · omega
        have x2 : (BitVec.ofInt IntKind.u8.bits ((l[i / 2].toNat : Int) * 16) ||| BitVec.ofInt IntKind.u8.bits (hd s[i] : Int)).toNat = 16 * l[i / 2].toNat + hd s[i] := or16 hlk16 hdg
        simp only [IntKind.bits, simprocAttr] at x2
        simp (disch := omega) only [dm_t, wS, simprocAttr, IntKind.bits, x1, size_mk, i1, t1, x2]
        refine st (UInt8.ofNat (16 * l[i / 2].toNat + hd s[i])) _ _ ?_ ?_
        · simp only [UInt8.toNat_ofNat', Nat.reducePow]; omega
        intro h3 ho3 hf3
        simp (disch := omega) only [dm_t, wS, simprocAttr, IntKind.bits]
        have e3 : Ext h h3 := Ext.step' e hf3 fun y hy => by rw [hy]; exact hO
        refine ⟨⟨i + 1, l.set (i / 2) (UInt8.ofNat (16 * l[i / 2].toNat + hd s[i])), by simp, by omega, by simp [hll], ho3, e3, fun _ => hodd, ?_, ?_⟩, by simp [m1] <;> omega⟩
        · intro c hc
          rw [show s.take (i + 1) = s.take i ++ [s[i]] by simp] at hc
          rcases List.mem_append.1 hc with hc | hc
          · exact hall c hc
          · simp only [List.mem_cons, List.not_mem_nil, or_false] at hc
            rw [hc]; exact hdg
        · intro t ht
          rw [List.length_set] at ht
          rw [List.getElem_set]
          by_cases htk' : i / 2 = t
          · rw [if_pos htk']
            subst htk'
            simp only [UInt8.toNat_ofNat', Nat.reducePow]
            rw [Nat.mod_eq_of_lt (by omega), hlk]
            have hsi : s.getD i 0 = s[i] := by rw [List.getD_eq_getElem?_getD, List.getElem?_eq_getElem hil]; rfl
            unfold tkn
            by_cases hpar : i % 2 = 0
            · have h2 : 2 * (i / 2) = i := by omega
              rw [h2, if_neg (by omega), if_neg (by omega), if_neg (by omega), if_pos (by omega), hsi]; omega
            · have h2 : 2 * (i / 2) + 1 = i := by omega
              rw [if_neg (by omega), if_pos (by omega), if_pos (by omega), h2, hsi]
          · rw [if_neg htk', htk t ht]
            unfold tkn
            by_cases c1 : 2 * t + 2 ≤ i
            · rw [if_pos c1, if_pos (by omega)]
            · rw [if_neg c1, if_neg (by omega), if_neg (by omega), if_neg (by omega)]
      · simp (disch := omega) only [dm_t, wS, simprocAttr, IntKind.bits, x1, size_mk]
        refine ⟨⟨.slice none 0 0, false, [], rfl, OwK.nil, fun m hm => ?_, fun _ => rfl⟩, e⟩
        rw [hm, hexs_len] at hodd; omega
    · have hdi : dgI s[i] = -1 := by unfold dgI; rw [if_neg hdg]
      rw [hdi]
      simp (disch := omega) only [dm_t, wS, simprocAttr, IntKind.bits]
      refine ⟨⟨.slice none 0 0, false, [], rfl, OwK.nil, fun m hm => ?_, fun _ => rfl⟩, e⟩
      exact absurd (hexs_mem (l := m) (c := s[i]) (by rw [← hm]; exact List.getElem_mem hil)).1 hdg
  · obtain rfl : i = s.length := by omega
    simp (disch := omega) only [dm_t, wS, simprocAttr, IntKind.bits]
    refine ⟨⟨vo, true, l, rfl, ho, fun m hm => ?_, fun h45 => ?_⟩, e⟩
    · refine of_hexs (l := m) (m := l) (by rw [← hm]; omega) (fun t ht c d hc hd2 h1 h2 => ?_)
      rw [htk t ht]
      unfold tkn
      rw [if_pos (by omega), List.getD_eq_getElem?_getD, List.getD_eq_getElem?_getD, hm, hc, hd2]; rfl
    · have := hall 45 (by rw [h45]; simp)
      exact absurd this (by decide)
end Go.Proofs.YtooimdgoibdhlaaDoor.sc
