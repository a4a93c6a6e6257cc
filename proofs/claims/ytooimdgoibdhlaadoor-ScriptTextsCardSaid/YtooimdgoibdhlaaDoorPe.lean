/-
  Digits in memory: bytes to digits (the document's, the program's), the document's numbers and bytes of digits.
-/
import Derived.Test.YtooimdgoibdhlaaDoorPc
namespace Go.Proofs.YtooimdgoibdhlaaDoor.sc
open Go Go.Proofs.YtooimdgoibdhlaaDoor
set_option linter.unusedVariables false
set_option linter.unusedSimpArgs false
theorem ext_mk (l : List UInt8) (a b : Nat) : (⟨l.toArray⟩ : ByteArray).extract a b = ⟨((l.take b).drop a).toArray⟩ := by
  apply ByteArray.ext
  rw [ByteArray.data_extract]
  apply Array.ext'
  simp [List.extract_eq_take_drop, List.drop_take]
theorem get_mk (l : List UInt8) {i : Nat} (hi : i < l.length) : (⟨l.toArray⟩ : ByteArray)[i]? = some l[i] := by
  show l.toArray[i]? = _
  simp [hi]
theorem get_int (l : List UInt8) {i : Nat} (hi : i < l.length) : (⟨l.toArray⟩ : ByteArray)[((i : Int)).toNat]? = some l[i] := get_mk l hi
abbrev sixteen : List UInt8 := [48, 49, 50, 51, 52, 53, 54, 55, 56, 57, 97, 98, 99, 100, 101, 102]
theorem sixteen_get : ∀ (n : Nat) (h : n < 16), sixteen[n]'h = hx n := by decide
theorem hex_get {j : Int} {n : Nat} (hj : j = (n : Int)) (hn : n < 16) : (⟨sixteen.toArray⟩ : ByteArray)[j.toNat]? = some (hx n) := by
  subst hj
  rw [get_int sixteen (by simpa using hn), sixteen_get n hn]
/-- append of two bytes. -/
theorem push2B {O : Nat → Prop} {h : H} {E : TypeId} {z s : Value} {m n : Int} {xs : List UInt8} {V : Nat → Value → H → Prop} (b c : UInt8) (hs : OwB O h E s xs) (hO : ∀ b, h b = none → O b) (hm : m = (b.toNat : Int)) (hn : n = (c.toNat : Int))
    (hlen : xs.length + 2 ≤ 140737488355328)
    (hk : ∀ (y0 : Nat) v h', h y0 = none → OwB O h' E v (xs ++ [b, c]) → Fr (fun y => O y ∧ isAt s y) h h' → V y0 v h') :
    ∀ b, h b = none → appM E 1 1 #[z] s (.slice (some ⟨b, 0, none⟩) 2 2) (hupd h b (.cells #[.int .u8 m, .int .u8 n] E)) (V b) := by
  subst hm hn
  intro y hy
  have hl : By nos (hupd h y (.cells (bvs [b, c]).toArray E)) (.slice (some ⟨y, 0, none⟩) 2 2) [b, c] := slit1 (bvs [b, c]) rfl
  refine appB (hs.ext (Ext.new hy _)) (fun x hx => hO x ?_) hl (by simpa using hlen) ?_
  · by_cases hxy : x = y
    · subst hxy; exact hy
    · rwa [hupd_ne _ _ hxy] at hx
  · intro v h' ho hf
    refine hk y v h' hy ho (fun x o hx hsx => hf x o ?_ hsx)
    rw [hupd_ne _ _ (ne_of hx hy)]; exact hx
theorem hexs_take (l : List UInt8) {i : Nat} (hi : i < l.length) : hexs (l.take (i + 1)) = hexs (l.take i) ++ [hx (l[i].toNat / 16), hx (l[i].toNat % 16)] := by
  rw [show l.take (i + 1) = l.take i ++ [l[i]] by simp, hexs_append]; rfl
theorem hexs_take_len (l : List UInt8) {i : Nat} (hi : i ≤ l.length) : (hexs (l.take i)).length = 2 * i := by
  rw [hexs_len, List.length_take]; omega
theorem and15 {n : Nat} (h : n < 256) : (BitVec.ofInt 8 (n : Int) &&& 15#8).toNat = n % 16 := by
  have h1 : BitVec.ofInt 8 (n : Int) = BitVec.ofNat 8 n := by simp
  rw [h1, BitVec.toNat_and, BitVec.toNat_ofNat, Nat.mod_eq_of_lt (by omega : n < 2 ^ 8)]
  show n &&& (2 ^ 4 - 1) = n % 2 ^ 4
  exact Nat.and_two_pow_sub_one_eq_mod n 4
def hexd (l : List UInt8) : List UInt8 := if l = [] then [45] else hexs l
theorem hex_ok {S : Nat → Prop} {h : H} {b : Value} {l : List UInt8} (hb : By S h b l) (hl : l.length ≤ 1048576) : Ok Tryd.prog 51 #[b] h fun v h' => v = sv (hexd l) ∧ Ext h h' := by
  obtain ⟨ba, bc, rfl⟩ := hb.len
  refine c51_ok (args := [_]) (by simp) ?_
  by_cases h0 : l.length = 0
  · have : l = [] := List.length_eq_zero_iff.1 h0
    subst this
    simp (disch := omega) only [dm_t, wS, simprocAttr, IntKind.bits]
    exact ⟨rfl, Ext.refl _⟩
  have hne : l ≠ [] := fun h => h0 (by rw [h]; rfl)
  simp (disch := omega) only [dm_t, wS, simprocAttr, IntKind.bits]
  refine ⟨by omega, fun y hy => ?_⟩
  have ho := omakeB (O := fun y => h y = none) (h := h) (b := y) (E := 5) (n := 0) (m := (2 * (l.length : Int)).toNat) (by omega) hy
  generalize hG : hupd h y _ = g1 at ho ⊢
  obtain ⟨e1, _⟩ := new_ext hG hy
  clear hG
  simp (disch := omega) only [dm_t, wS, simprocAttr, IntKind.bits]
  refine vc_loop2 (fun vo vi h' => ∃ i : Nat, vi = .int .i64 (i : Int) ∧ i ≤ l.length ∧ OwB (fun y => h y = none) h' 5 vo (hexs (l.take i)) ∧ Ext h h') (fun _ vi _ => l.length - m1 vi) ?_ ?_
  · simp (disch := omega) only [dm_t, wS, simprocAttr, IntKind.bits]
    refine ⟨0, by simp, by omega, ?_, e1⟩
    simpa [hexs] using ho
  rintro vo _ g ⟨i, rfl, hi, ho, e⟩
  by_cases hil : i < l.length
  · obtain ⟨b1, o1, i1, t1⟩ := By.load (hb.ext e) hil .i64
    have hlt := (l[i]).toNat_lt
    have x1 : (⟨sixteen.toArray⟩ : ByteArray)[((l[i].toNat : Int) / 16).toNat]? = some (hx (l[i].toNat / 16)) := hex_get (by simp) (by omega)
    have x2 : (⟨sixteen.toArray⟩ : ByteArray)[((l[i].toNat : Int) % 16).toNat]? = some (hx (l[i].toNat % 16)) := hex_get (by simp) (by omega)
    simp (disch := omega) only [dm_t, wS, simprocAttr, IntKind.bits, i1, t1, x1, x2, Option.map_some]
    refine push2B (hx (l[i].toNat / 16)) (hx (l[i].toNat % 16)) ho (fun y hy => e.bk hy) rfl rfl (by rw [hexs_take_len l hi]; omega) ?_
    intro _ v h3 _ ho3 hf3
    simp (disch := omega) only [dm_t, wS, simprocAttr, IntKind.bits]
    refine ⟨⟨i + 1, by simp, by omega, ?_, e.step hf3⟩, by simp [m1]; omega⟩
    rw [hexs_take l hil]; exact ho3
  · obtain rfl : i = l.length := by omega
    rw [List.take_length] at ho
    simp (disch := omega) only [dm_t, wS, simprocAttr, IntKind.bits]
    refine cvbs_of ho.s0 ?_
    simp (disch := omega) only [dm_t, wS, simprocAttr, IntKind.bits]
    exact ⟨by simp [hexd, hne], e⟩
theorem told_ok {S : Nat → Prop} {h : H} {b : Value} {l : List UInt8} (hb : By S h b l) (hl : l.length ≤ 1048576) : Ok Tryd.prog 34 #[b] h fun v h' => v = sv (hexs l) ∧ Ext h h' := by
  obtain ⟨ba, bc, rfl⟩ := hb.len
  refine c34_ok (args := [_]) (by simp) ?_
  simp (disch := omega) only [dm_t, wS, simprocAttr, IntKind.bits]
  refine ⟨by omega, fun y hy => ?_⟩
  have ho := omakeB (O := fun y => h y = none) (h := h) (b := y) (E := 5) (n := 0) (m := (2 * (l.length : Int)).toNat) (by omega) hy
  generalize hG : hupd h y _ = g1 at ho ⊢
  obtain ⟨e1, _⟩ := new_ext hG hy
  clear hG
  simp (disch := omega) only [dm_t, wS, simprocAttr, IntKind.bits]
  refine vc_loop2 (fun vo vi h' => ∃ i : Nat, vi = .int .i64 (i : Int) ∧ i ≤ l.length ∧ OwB (fun y => h y = none) h' 5 vo (hexs (l.take i)) ∧ Ext h h') (fun _ vi _ => l.length - m1 vi) ?_ ?_
  · simp (disch := omega) only [dm_t, wS, simprocAttr, IntKind.bits]
    refine ⟨0, by simp, by omega, ?_, e1⟩
    simpa [hexs] using ho
  rintro vo _ g ⟨i, rfl, hi, ho, e⟩
  by_cases hil : i < l.length
  · obtain ⟨b1, o1, i1, t1⟩ := By.load (hb.ext e) hil .i64
    have hlt := (l[i]).toNat_lt
    have x1 : (⟨sixteen.toArray⟩ : ByteArray)[((l[i].toNat : Int) / 16).toNat]? = some (hx (l[i].toNat / 16)) := hex_get (by simp) (by omega)
    have x2 : (⟨sixteen.toArray⟩ : ByteArray)[l[i].toNat % 16]? = some (hx (l[i].toNat % 16)) := (get_mk sixteen (by simp; omega)).trans (congrArg some (sixteen_get _ (by omega)))
    have x3 : (BitVec.ofInt IntKind.u8.bits (l[i].toNat : Int) &&& BitVec.ofInt IntKind.u8.bits 15).toNat = l[i].toNat % 16 := and15 hlt
    simp only [IntKind.bits, simprocAttr] at x3
    simp (disch := omega) only [dm_t, wS, simprocAttr, IntKind.bits, i1, t1, x1, x2, x3, Option.map_some]
    refine push2B (hx (l[i].toNat / 16)) (hx (l[i].toNat % 16)) ho (fun y hy => e.bk hy) rfl rfl (by rw [hexs_take_len l hi]; omega) ?_
    intro _ v h3 _ ho3 hf3
    simp (disch := omega) only [dm_t, wS, simprocAttr, IntKind.bits]
    refine ⟨⟨i + 1, by simp, by omega, ?_, e.step hf3⟩, by simp [m1]; omega⟩
    rw [hexs_take l hil]; exact ho3
  · obtain rfl : i = l.length := by omega
    rw [List.take_length] at ho
    simp (disch := omega) only [dm_t, wS, simprocAttr, IntKind.bits]
    refine cvbs_of ho.s0 ?_
    simp (disch := omega) only [dm_t, wS, simprocAttr, IntKind.bits]
    exact e
theorem digit_ok (h : H) (c : UInt8) : Ok Tryd.prog 69 #[.int .u8 (c.toNat : Int)] h fun v h' => v = .int .i64 (if hd c < 16 then (hd c : Int) else -1) ∧ h = h' := by
  have hlt := c.toNat_lt
  refine c69_ok (args := [_]) (by simp) ?_
  by_cases h1 : 48 ≤ c.toNat ∧ c.toNat ≤ 57
  · have hh : hd c = c.toNat - 48 := by unfold hd; rw [if_pos h1]
    simp (disch := omega) only [dm_t, wS, simprocAttr, IntKind.bits]
    rw [hh, if_pos (by omega)]
    congr 1; omega
  have h2 : 97 ≤ c.toNat ∧ c.toNat ≤ 102 ∨ ¬ (97 ≤ c.toNat ∧ c.toNat ≤ 102) := Decidable.em _
  have h3 : c.toNat < 48 ∨ 57 < c.toNat := by omega
  rcases h2 with h2 | h2
  · have hh : hd c = c.toNat - 87 := by unfold hd; rw [if_neg h1, if_pos h2]
    simp (disch := omega) only [dm_t, wS, simprocAttr, IntKind.bits]
    rw [hh, if_pos (by omega)]
    congr 1; omega
  · have hh : hd c = 16 := by unfold hd; rw [if_neg h1, if_neg h2]
    rw [hh, if_neg (by omega)]
    rcases h3 with h3 | h3
    · simp (disch := omega) only [dm_t, wS, simprocAttr, IntKind.bits]
    · by_cases h4 : c.toNat < 97
      · simp (disch := omega) only [dm_t, wS, simprocAttr, IntKind.bits]
      · have : 102 < c.toNat := by omega
        simp (disch := omega) only [dm_t, wS, simprocAttr, IntKind.bits]
theorem number_ok (h : H) (s : List UInt8) (hl : s.length ≤ 1048576) : Ok Tryd.prog 43 #[sv s] h fun v h' => (∃ r : Int, v = .int .i64 r ∧ inI r ∧ ∀ n : Nat, n ≤ 2147483647 → s = dec n → r = n) ∧ h = h' := by
  refine c43_ok (args := [_]) (by simp) ?_
  simp (disch := omega) only [dm_t, wS, simprocAttr, IntKind.bits]
  refine vc_loop2 (fun vn vi h' => h' = h ∧ ∃ i : Nat, vi = .int .i64 (i : Int) ∧ vn = .int .i64 (num (s.take i) : Int) ∧ i ≤ s.length ∧ i ≤ 12 ∧ ∀ c ∈ s.take i, isDg c) (fun _ vi _ => s.length - m1 vi) ?_ ?_
  · simp (disch := omega) only [dm_t, wS, simprocAttr, IntKind.bits]
    exact ⟨0, by simp, by simp [num], by omega, by omega, by simp⟩
  rintro _ _ g ⟨rfl, i, rfl, rfl, hi, h12, hall⟩
  have hlt := num_lt _ hall
  rw [List.length_take, Nat.min_eq_left hi] at hlt
  have hlt' : num (s.take i) < 1000000000000 := Nat.lt_of_lt_of_le hlt (Nat.pow_le_pow_right (by omega) h12)
  by_cases hil : i < s.length
  · have x1 := get_mk s hil
    have hb := (s[i]).toNat_lt
    by_cases hd : isDg s[i]
    · obtain ⟨d1, d2⟩ := hd
      by_cases h11 : i ≤ 11
      · simp (disch := omega) only [dm_t, wS, simprocAttr, IntKind.bits, x1, size_mk, Option.map_some]
        refine ⟨⟨i + 1, by simp, ?_, by omega, by omega, ?_⟩, by simp [m1]; omega⟩
        · rw [show s.take (i + 1) = s.take i ++ [s[i]] by simp, num_snoc]; congr 1; omega
        · intro c hc
          rw [show s.take (i + 1) = s.take i ++ [s[i]] by simp] at hc
          rcases List.mem_append.1 hc with hc | hc
          · exact hall c hc
          · simp only [List.mem_cons, List.not_mem_nil, or_false] at hc
            subst hc; exact ⟨d1, d2⟩
      · simp (disch := omega) only [dm_t, wS, simprocAttr, IntKind.bits, x1, size_mk, Option.map_some]
        refine ⟨-1, rfl, ⟨by omega, by omega⟩, fun n hn hs => ?_⟩
        have := dec_len10 hn
        rw [← hs] at this; omega
    · have hno : ∀ n : Nat, n ≤ 2147483647 → s = dec n → (-1 : Int) = n := fun n hn hs => absurd (dec_dg (n := n) (c := s[i]) (by rw [← hs]; exact List.getElem_mem hil)) hd
      by_cases d1 : s[i].toNat < 48
      · simp (disch := omega) only [dm_t, wS, simprocAttr, IntKind.bits, x1, size_mk, Option.map_some]
        exact ⟨-1, rfl, ⟨by omega, by omega⟩, hno⟩
      · have d2 : 57 < s[i].toNat := by unfold isDg at hd; omega
        simp (disch := omega) only [dm_t, wS, simprocAttr, IntKind.bits, x1, size_mk, Option.map_some]
        exact ⟨-1, rfl, ⟨by omega, by omega⟩, hno⟩
  · obtain rfl : i = s.length := by omega
    rw [List.take_length] at hlt' ⊢
    simp (disch := omega) only [dm_t, wS, simprocAttr, IntKind.bits, size_mk]
    refine ⟨_, rfl, ⟨by omega, by omega⟩, fun n hn hs => ?_⟩
    rw [hs, num_dec]
end Go.Proofs.YtooimdgoibdhlaaDoor.sc
namespace Go.Proofs.YtooimdgoibdhlaaDoor.sc
open Go Go.Proofs.YtooimdgoibdhlaaDoor
set_option linter.unusedVariables false
set_option linter.unusedSimpArgs false
theorem wrapU8 (x : Int) : IntKind.u8.wrap x = x % 256 := by
  simp only [IntKind.wrap, IntKind.bits]
  rfl
theorem mod_byte (x : Int) : x % 256 = ((UInt8.ofNat (x % 256).toNat).toNat : Int) := by
  have h1 := Int.emod_nonneg x (by decide : (256 : Int) ≠ 0)
  have h2 := Int.emod_lt_of_pos x (by decide : (0 : Int) < 256)
  simp only [UInt8.toNat_ofNat', Nat.reducePow]
  omega
def dgI (c : UInt8) : Int := if hd c < 16 then (hd c : Int) else -1
def pairB (c d : UInt8) : UInt8 := UInt8.ofNat ((16 * dgI c + dgI d) % 256).toNat
theorem pair_ok {c d : UInt8} (hc : hd c < 16) (hd' : hd d < 16) : (pairB c d).toNat = 16 * hd c + hd d := by
  unfold pairB dgI
  rw [if_pos hc, if_pos hd']
  simp only [UInt8.toNat_ofNat', Nat.reducePow]
  omega
theorem dgI_bd (c : UInt8) : -1 ≤ dgI c ∧ dgI c ≤ 15 := by
  unfold dgI; split <;> omega
theorem digit_ok' (h : H) (c : UInt8) : Ok Tryd.prog 69 #[.int .u8 (c.toNat : Int)] h fun v h' => v = .int .i64 (dgI c) ∧ h = h' := digit_ok h c
theorem bytes_ok (h : H) (s : List UInt8) (hl : s.length ≤ 1048576) : Ok Tryd.prog 44 #[sv s] h fun v h' => (∃ l, OwB (fun y => h y = none) h' 5 v l ∧ l.length = s.length / 2 ∧ ∀ m, s = hexs m → l = m) ∧ Ext h h' := by
  refine c44_ok (args := [_]) (by simp) ?_
  simp (disch := omega) only [dm_t, wS, simprocAttr, IntKind.bits]
  refine vc_loop2 (fun vb vi h' => ∃ (j : Nat) (l : List UInt8), vi = .int .i64 ((2 * j : Nat) : Int) ∧ 2 * j ≤ s.length ∧ l.length = j ∧ OwB (fun y => h y = none) h' 5 vb l ∧ Ext h h' ∧ ∀ (t : Nat) (ht : t < l.length) c d, s[2 * t]? = some c → s[2 * t + 1]? = some d → hd c < 16 → hd d < 16 → l[t].toNat = 16 * hd c + hd d) (fun _ vi _ => s.length + 2 - m1 vi) ?_ ?_
  · simp (disch := omega) only [dm_t, wS, simprocAttr, IntKind.bits]
    exact ⟨0, [], by simp, by omega, rfl, OwK.nil, Ext.refl _, fun t ht => by simp at ht⟩
  rintro vb _ g ⟨j, l, rfl, hj, hlen, ho, e, hall⟩
  by_cases hlt : 2 * j + 1 < s.length
  · have x1 := get_mk s (i := 2 * j) (by omega)
    have x2 := get_mk s hlt
    have c1 : ((2 * j : Nat) : Int) + 1 = ((2 * j + 1 : Nat) : Int) := by omega
    simp (disch := omega) only [dm_t, wS, simprocAttr, IntKind.bits, size_mk, x1, x2, c1, Option.map_some]
    obtain ⟨u1, u2⟩ := dgI_bd (s[2 * j]'(by omega))
    obtain ⟨u3, u4⟩ := dgI_bd s[2 * j + 1]
    refine (digit_ok' g (s[2 * j]'(by omega))).k ?_
    rintro _ _ ⟨rfl, rfl⟩
    simp (disch := omega) only [dm_t, wS, simprocAttr, IntKind.bits, size_mk, x1, x2, c1, Option.map_some]
    refine (digit_ok' g s[2 * j + 1]).k ?_
    rintro _ _ ⟨rfl, rfl⟩
    simp (disch := omega) only [dm_t, wS, simprocAttr, IntKind.bits, size_mk, x1, x2, c1, Option.map_some]
    refine pushB (pairB (s[2 * j]'(by omega)) s[2 * j + 1]) ho (fun y hy => e.bk hy) ?_ (by omega) ?_
    · rw [wrapU8]; exact mod_byte _
    intro _ v h3 _ ho3 hf3
    simp (disch := omega) only [dm_t, wS, simprocAttr, IntKind.bits]
    refine ⟨⟨j + 1, l ++ [pairB (s[2 * j]'(by omega)) s[2 * j + 1]], by congr 1 <;> omega, by omega, by simp [hlen], ho3, e.step hf3, ?_⟩, by simp [m1] <;> omega⟩
    intro t ht c d hc hc2 h1 h2
    by_cases htl : t < l.length
    · rw [List.getElem_append_left htl]
      exact hall t htl c d hc hc2 h1 h2
    · have htj : t = j := by simp only [List.length_append, List.length_cons, List.length_nil] at ht; omega
      subst htj
      have hc' : s[2 * t]'(by omega) = c := Option.some.inj ((List.getElem?_eq_getElem (by omega)).symm.trans hc)
      have hd' : s[2 * t + 1] = d := Option.some.inj ((List.getElem?_eq_getElem (by omega)).symm.trans hc2)
      rw [List.getElem_append_right (by omega)]
      have e0 : t - l.length = 0 := by omega
      simp only [e0, List.getElem_cons_zero]
      have := pair_ok (c := s[2 * t]'(by omega)) (d := s[2 * t + 1]) (by rw [hc']; exact h1) (by rw [hd']; exact h2)
      rw [this, hc', hd']
  · simp (disch := omega) only [dm_t, wS, simprocAttr, IntKind.bits, size_mk]
    refine ⟨⟨l, ho, by omega, fun m hm => ?_⟩, e⟩
    exact of_hexs (l := m) (m := l) (by rw [← hm]; omega) (fun t ht c d hc hd h1 h2 => hall t ht c d (by rw [hm]; exact hc) (by rw [hm]; exact hd) h1 h2)
theorem words_ok (h : H) (s : List UInt8) (hl : s.length ≤ 1048576) : Ok Tryd.prog 42 #[sv s] h fun v h' => O1 (fun y => h y = none) h' 9 v ((wds s).map sv) ∧ Ext h h' := by
  refine c42_ok (args := [_]) (by simp) ?_
  simp (disch := omega) only [dm_t, wS, simprocAttr, IntKind.bits]
  refine vc_loop3 (fun vl vf vi h' => ∃ (i f : Nat) (ws : List (List UInt8)), vi = .int .i64 (i : Int) ∧ vf = .int .i64 (f : Int) ∧ ws.length ≤ i ∧ O1 (fun y => h y = none) h' 9 vl (ws.map sv) ∧ Ext h h' ∧
      ((i ≤ s.length ∧ f ≤ i ∧ wds s = ws ++ wds (s.drop f) ∧ noB ((s.drop f).take (i - f))) ∨ (i = s.length + 1 ∧ ws = wds s))) (fun _ _ vi _ => s.length + 1 - m1 vi) ?_ ?_
  · simp (disch := omega) only [dm_t, wS, simprocAttr, IntKind.bits]
    exact ⟨0, 0, [], by simp, by simp, by simp, OwK.nil, Ext.refl _, .inl ⟨by omega, by omega, by simp, fun c hc => by simp at hc⟩⟩
  rintro vl _ _ g ⟨i, f, ws, rfl, rfl, hwl, ho, e, hi⟩
  by_cases hend : i ≤ s.length
  case neg =>
    obtain ⟨h1, h2⟩ : i = s.length + 1 ∧ ws = wds s := by
      rcases hi with hi | hi
      · exact absurd hi.1 hend
      · exact hi
    subst h2
    simp (disch := omega) only [dm_t, wS, simprocAttr, IntKind.bits, size_mk]
    exact ⟨ho, e⟩
  obtain ⟨-, hf, hw, hno⟩ : i ≤ s.length ∧ f ≤ i ∧ wds s = ws ++ wds (s.drop f) ∧ noB ((s.drop f).take (i - f)) := by
    rcases hi with hi | hi
    · exact hi
    · omega
  have key : ∀ (w : List UInt8), wds (s.drop f) = w :: (if i = s.length then [] else wds (s.drop (i + 1))) → w = (s.take i).drop f → 
      ∀ (v : Value) (h3 : H), O1 (fun y => h y = none) h3 9 v (ws.map sv ++ [sv w]) → Ext h h3 → (∃ (i' f' : Nat) (ws' : List (List UInt8)), Value.int .i64 ((i : Int) + 1) = .int .i64 (i' : Int) ∧ Value.int .i64 ((i : Int) + 1) = .int .i64 (f' : Int) ∧ ws'.length ≤ i' ∧ O1 (fun y => h y = none) h3 9 v (ws'.map sv) ∧ Ext h h3 ∧
      ((i' ≤ s.length ∧ f' ≤ i' ∧ wds s = ws' ++ wds (s.drop f') ∧ noB ((s.drop f').take (i' - f'))) ∨ (i' = s.length + 1 ∧ ws' = wds s))) := by
    intro w h1 h2 v h3 ho3 e3
    refine ⟨i + 1, i + 1, ws ++ [w], by simp, by simp, by simp; omega, by simpa using ho3, e3, ?_⟩
    by_cases hil : i = s.length
    · rw [if_pos hil] at h1
      exact .inr ⟨by omega, by rw [hw, h1]⟩
    · rw [if_neg hil] at h1
      exact .inl ⟨by omega, by omega, by rw [hw, h1]; simp, fun c hc => by simp at hc⟩
  by_cases hil : i = s.length
  · have h1 : wds (s.drop f) = [(s.take i).drop f] := by
      rw [hil, List.take_length]
      refine wds_word _ ?_
      rw [hil, List.take_of_length_le (by simp)] at hno
      exact hno
    have k := key _ (by rw [if_pos hil, h1]) rfl
    subst hil
    simp (disch := omega) only [dm_t, wS, simprocAttr, IntKind.bits, size_mk, ext_mk]
    refine push1 ho (fun y hy => e.bk hy) rfl (by simp; omega) (by simp; omega) ?_
    intro _ v h3 _ ho3 hf3
    simp (disch := omega) only [dm_t, wS, simprocAttr, IntKind.bits]
    exact ⟨k v h3 ho3 (e.step hf3), by simp [m1] <;> omega⟩
  · have hlt : i < s.length := by omega
    have x1 := get_mk s hlt
    have hb := (s[i]).toNat_lt
    by_cases h32 : s[i].toNat = 32
    · have hsp : s.drop f = (s.take i).drop f ++ 32 :: s.drop (i + 1) := by
        have h2 : s = s.take i ++ s.drop i := (List.take_append_drop i s).symm
        have h3 : s.drop i = s[i] :: s.drop (i + 1) := List.drop_eq_getElem_cons hlt
        have h4 : s[i] = 32 := UInt8.toNat_inj.1 h32
        rw [h4] at h3
        rw [← h3]
        conv => lhs; rw [h2]
        rw [List.drop_append_of_le_length (by simp; omega)]
      have hd : (s.drop f).take (i - f) = (s.take i).drop f := by rw [List.drop_take]
      have h1 : wds (s.drop f) = (s.take i).drop f :: wds (s.drop (i + 1)) := by
        rw [hsp]
        exact wds_blank _ _ (hd ▸ hno)
      have k := key _ (by rw [if_neg hil, h1]) rfl
      simp (disch := omega) only [dm_t, wS, simprocAttr, IntKind.bits, size_mk, ext_mk, x1, h32, Option.map_some]
      refine push1 ho (fun y hy => e.bk hy) rfl (by simp; omega) (by simp; omega) ?_
      intro _ v h3 _ ho3 hf3
      simp (disch := omega) only [dm_t, wS, simprocAttr, IntKind.bits]
      exact ⟨k v h3 ho3 (e.step hf3), by simp [m1] <;> omega⟩
    · simp (disch := omega) only [dm_t, wS, simprocAttr, IntKind.bits, size_mk, ext_mk, x1, Option.map_some]
      refine ⟨⟨i + 1, f, ws, by simp, rfl, by omega, ho, e, .inl ⟨by omega, by omega, hw, ?_⟩⟩, by simp [m1] <;> omega⟩
      intro c hc
      rw [show i + 1 - f = (i - f) + 1 by omega, List.take_succ_eq_append_getElem (by simp; omega)] at hc
      rcases List.mem_append.1 hc with hc | hc
      · exact hno c hc
      · simp only [List.mem_cons, List.not_mem_nil, or_false, List.getElem_drop] at hc
        subst hc
        have : f + (i - f) = i := by omega
        simp only [this]
        exact h32
end Go.Proofs.YtooimdgoibdhlaaDoor.sc
