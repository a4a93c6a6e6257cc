/-
  The document's bytes of digits, its words of a line.
-/
import Derived.Test.YtooimdgoibdhlaaDoorPe
namespace Go.Proofs.YtooimdgoibdhlaaDoor.sc
open Go Go.Proofs.YtooimdgoibdhlaaDoor
set_option linter.unusedVariables false
set_option linter.unusedSimpArgs false
theorem wrapU8 (x : Int) : IntKind.u8.wrap x = x % 256 := by
  simp only [IntKind.wrap, IntKind.bits]
  rfl
theorem mod_byte (x : Int) : x % 256 = ((UInt8.ofNat (x % 256).toNat).toNat : Int) := by
  have h1 := Int.emod_nonneg x (by decide : (256 : Int) ≠ 0)
  have h2 := Int.emod_lt_of_pos x (by decide : (0 : Int) < 256)
  simp only [UInt8.toNat_ofNat', Nat.reducePow]
  omega
def dgI (c : UInt8) : Int := if hd c < 16 then (hd c : Int) else -1
def pairB (c d : UInt8) : UInt8 := UInt8.ofNat ((16 * dgI c + dgI d) % 256).toNat
theorem pair_ok {c d : UInt8} (hc : hd c < 16) (hd' : hd d < 16) : (pairB c d).toNat = 16 * hd c + hd d := by
  unfold pairB dgI
  rw [if_pos hc, if_pos hd']
  simp only [UInt8.toNat_ofNat', Nat.reducePow]
  omega
theorem dgI_bd (c : UInt8) : -1 ≤ dgI c ∧ dgI c ≤ 15 := by
  unfold dgI; split <;> omega
theorem digit_ok' (h : H) (c : UInt8) : Ok Tryd.prog 69 #[.int .u8 (c.toNat : Int)] h fun v h' => v = .int .i64 (dgI c) ∧ h = h' := digit_ok h c
theorem bytes_ok (h : H) (s : List UInt8) (hl : s.length ≤ 1048576) : Ok Tryd.prog 44 #[sv s] h fun v h' => (∃ l, OwB (fun y => h y = none) h' 5 v l ∧ l.length = s.length / 2 ∧ ∀ m, s = hexs m → l = m) ∧ Ext h h' := by
  refine c44_ok (args := [_]) (by simp) ?_
  simp (disch := omega) only [dm_t, wS, simprocAttr, IntKind.bits]
  refine vc_loop2 (fun vb vi h' => ∃ (j : Nat) (l : List UInt8), vi = .int .i64 ((2 * j : Nat) : Int) ∧ 2 * j ≤ s.length ∧ l.length = j ∧ OwB (fun y => h y = none) h' 5 vb l ∧ Ext h h' ∧ ∀ (t : Nat) (ht : t < l.length) c d, s[2 * t]? = some c → s[2 * t + 1]? = some d → hd c < 16 → hd d < 16 → l[t].toNat = 16 * hd c + hd d) (fun _ vi _ => s.length + 2 - m1 vi) ?_ ?_
  · simp (disch := omega) only [dm_t, wS, simprocAttr, IntKind.bits]
    exact ⟨0, [], by simp, by omega, rfl, OwK.nil, Ext.refl _, fun t ht => by simp at ht⟩
  rintro vb _ g ⟨j, l, rfl, hj, hlen, ho, e, hall⟩
  by_cases hlt : 2 * j + 1 < s.length
  · have x1 := get_mk s (i := 2 * j) (by omega)
    have x2 := get_mk s hlt
    have c1 : ((2 * j : Nat) : Int) + 1 = ((2 * j + 1 : Nat) : Int) := by omega
    simp (disch := omega) only [dm_t, wS, simprocAttr, IntKind.bits, size_mk, x1, x2, c1, Option.map_some]
    obtain ⟨u1, u2⟩ := dgI_bd (s[2 * j]'(by omega))
    obtain ⟨u3, u4⟩ := dgI_bd s[2 * j + 1]
    refine (digit_ok' g (s[2 * j]'(by omega))).k ?_
    rintro _ _ ⟨rfl, rfl⟩
    simp (disch := omega) only [dm_t, wS, simprocAttr, IntKind.bits, size_mk, x1, x2, c1, Option.map_some]
    refine (digit_ok' g s[2 * j + 1]).k ?_
    rintro _ _ ⟨rfl, rfl⟩
    simp (disch := omega) only [dm_t, wS, simprocAttr, IntKind.bits, size_mk, x1, x2, c1, Option.map_some]
    refine pushB (pairB (s[2 * j]'(by omega)) s[2 * j + 1]) ho (fun y hy => e.bk hy) ?_ (by omega) ?_
    · rw [wrapU8]; exact mod_byte _
    intro _ v h3 _ ho3 hf3
    simp (disch := omega) only [dm_t, wS, simprocAttr, IntKind.bits]
    refine ⟨⟨j + 1, l ++ [pairB (s[2 * j]'(by omega)) s[2 * j + 1]], by congr 1 <;> omega, by omega, by simp [hlen], ho3, e.step hf3, ?_⟩, by simp [m1] <;> omega⟩
    intro t ht c d hc hc2 h1 h2
    by_cases htl : t < l.length
    · rw [List.getElem_append_left htl]
      exact hall t htl c d hc hc2 h1 h2
    · have htj : t = j := by simp only [List.length_append, List.length_cons, List.length_nil] at ht; omega
      subst htj
      have hc' : s[2 * t]'(by omega) = c := Option.some.inj ((List.getElem?_eq_getElem (by omega)).symm.trans hc)
      have hd' : s[2 * t + 1] = d := Option.some.inj ((List.getElem?_eq_getElem (by omega)).symm.trans hc2)
      rw [List.getElem_append_right (by omega)]
      have e0 : t - l.length = 0 := by omega
      simp only [e0, List.getElem_cons_zero]
      have := pair_ok (c := s[2 * t]'(by omega)) (d := s[2 * t + 1]) (by rw [hc']; exact h1) (by rw [hd']; exact h2)
      rw [this, hc', hd']
  · simp (disch := omega) only [dm_t, wS, simprocAttr, IntKind.bits, size_mk]
    refine ⟨⟨l, ho, by omega, fun m hm => ?_⟩, e⟩
    exact of_hexs (l := m) (m := l) (by rw [← hm]; omega) (fun t ht c d hc hd h1 h2 => hall t ht c d (by rw [hm]; exact hc) (by rw [hm]; exact hd) h1 h2)
theorem words_ok (h : H) (s : List UInt8) (hl : s.length ≤ 1048576) : Ok Tryd.prog 42 #[sv s] h fun v h' => O1 (fun y => h y = none) h' 9 v ((wds s).map sv) ∧ Ext h h' := by
  refine c42_ok (args := [_]) (by simp) ?_
  simp (disch := omega) only [dm_t, wS, simprocAttr, IntKind.bits]
  refine vc_loop3 (fun vl vf vi h' => ∃ (i f : Nat) (ws : List (List UInt8)), vi = .int .i64 (i : Int) ∧ vf = .int .i64 (f : Int) ∧ ws.length ≤ i ∧ O1 (fun y => h y = none) h' 9 vl (ws.map sv) ∧ Ext h h' ∧
      ((i ≤ s.length ∧ f ≤ i ∧ wds s = ws ++ wds (s.drop f) ∧ noB ((s.drop f).take (i - f))) ∨ (i = s.length + 1 ∧ ws = wds s))) (fun _ _ vi _ => s.length + 1 - m1 vi) ?_ ?_
  · simp (disch := omega) only [dm_t, wS, simprocAttr, IntKind.bits]
    exact ⟨0, 0, [], by simp, by simp, by simp, OwK.nil, Ext.refl _, .inl ⟨by omega, by omega, by simp, fun c hc => by simp at hc⟩⟩
  rintro vl _ _ g ⟨i, f, ws, rfl, rfl, hwl, ho, e, hi⟩
  by_cases hend : i ≤ s.length
  case neg =>
    obtain ⟨h1, h2⟩ : i = s.length + 1 ∧ ws = wds s := by
      rcases hi with hi | hi
      · exact absurd hi.1 hend
      · exact hi
    subst h2
    simp (disch := omega) only [dm_t, wS, simprocAttr, IntKind.bits, size_mk]
    exact ⟨ho, e⟩
  obtain ⟨-, hf, hw, hno⟩ : i ≤ s.length ∧ f ≤ i ∧ wds s = ws ++ wds (s.drop f) ∧ noB ((s.drop f).take (i - f)) := by
    rcases hi with hi | hi
    · exact hi
    · omega
  have key : ∀ (w : List UInt8), wds (s.drop f) = w :: (if i = s.length then [] else wds (s.drop (i + 1))) → w = (s.take i).drop f → 
      ∀ (v : Value) (h3 : H), O1 (fun y => h y = none) h3 9 v (ws.map sv ++ [sv w]) → Ext h h3 → (∃ (i' f' : Nat) (ws' : List (List UInt8)), Value.int .i64 ((i : Int) + 1) = .int .i64 (i' : Int) ∧ Value.int .i64 ((i : Int) + 1) = .int .i64 (f' : Int) ∧ ws'.length ≤ i' ∧ O1 (fun y => h y = none) h3 9 v (ws'.map sv) ∧ Ext h h3 ∧
      ((i' ≤ s.length ∧ f' ≤ i' ∧ wds s = ws' ++ wds (s.drop f') ∧ noB ((s.drop f').take (i' - f'))) ∨ (i' = s.length + 1 ∧ ws' = wds s))) := by
    intro w h1 h2 v h3 ho3 e3
    refine ⟨i + 1, i + 1, ws ++ [w], by simp, by simp, by simp; omega, by simpa using ho3, e3, ?_⟩
    by_cases hil : i = s.length
    · rw [if_pos hil] at h1
      exact .inr ⟨by omega, by rw [hw, h1]⟩
    · rw [if_neg hil] at h1
      exact .inl ⟨by omega, by omega, by rw [hw, h1]; simp, fun c hc => by simp at hc⟩
  by_cases hil : i = s.length
  · have h1 : wds (s.drop f) = [(s.take i).drop f] := by
      rw [hil, List.take_length]
      refine wds_word _ ?_
      rw [hil, List.take_of_length_le (by simp)] at hno
      exact hno
    have k := key _ (by rw [if_pos hil, h1]) rfl
    subst hil
    simp (disch := omega) only [dm_t, wS, simprocAttr, IntKind.bits, size_mk, ext_mk]
    refine push1 ho (fun y hy => e.bk hy) rfl (by simp; omega) (by simp; omega) ?_
    intro _ v h3 _ ho3 hf3
    simp (disch := omega) only [dm_t, wS, simprocAttr, IntKind.bits]
    exact ⟨k v h3 ho3 (e.step hf3), by simp [m1] <;> omega⟩
  · have hlt : i < s.length := by omega
    have x1 := get_mk s hlt
    have hb := (s[i]).toNat_lt
    by_cases h32 : s[i].toNat = 32
    · have hsp : s.drop f = (s.take i).drop f ++ 32 :: s.drop (i + 1) := by
        have h2 : s = s.take i ++ s.drop i := (List.take_append_drop i s).symm
        have h3 : s.drop i = s[i] :: s.drop (i + 1) := List.drop_eq_getElem_cons hlt
        have h4 : s[i] = 32 := UInt8.toNat_inj.1 h32
        rw [h4] at h3
        rw [← h3]
        conv => lhs; rw [h2]
        rw [List.drop_append_of_le_length (by simp; omega)]
      have hd : (s.drop f).take (i - f) = (s.take i).drop f := by rw [List.drop_take]
      have h1 : wds (s.drop f) = (s.take i).drop f :: wds (s.drop (i + 1)) := by
        rw [hsp]
        exact wds_blank _ _ (hd ▸ hno)
      have k := key _ (by rw [if_neg hil, h1]) rfl
      simp (disch := omega) only [dm_t, wS, simprocAttr, IntKind.bits, size_mk, ext_mk, x1, h32, Option.map_some]
      refine push1 ho (fun y hy => e.bk hy) rfl (by simp; omega) (by simp; omega) ?_
      intro _ v h3 _ ho3 hf3
      simp (disch := omega) only [dm_t, wS, simprocAttr, IntKind.bits]
      exact ⟨k v h3 ho3 (e.step hf3), by simp [m1] <;> omega⟩
    · simp (disch := omega) only [dm_t, wS, simprocAttr, IntKind.bits, size_mk, ext_mk, x1, Option.map_some]
      refine ⟨⟨i + 1, f, ws, by simp, rfl, by omega, ho, e, .inl ⟨by omega, by omega, hw, ?_⟩⟩, by simp [m1] <;> omega⟩
      intro c hc
      rw [show i + 1 - f = (i - f) + 1 by omega, List.take_succ_eq_append_getElem (by simp; omega)] at hc
      rcases List.mem_append.1 hc with hc | hc
      · exact hno c hc
      · simp only [List.mem_cons, List.not_mem_nil, or_false, List.getElem_drop] at hc
        subst hc
        have : f + (i - f) = i := by omega
        simp only [this]
        exact h32
end Go.Proofs.YtooimdgoibdhlaaDoor.sc
