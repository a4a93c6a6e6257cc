/-
  history: Back, plain: operations in any order, and their events. (No program in sight.)
-/
import Derived.Test.YtmolhemoiplpfaaOa
namespace Go.Proofs.Ytmolhemoiplpfaa.hi
open Go.Proofs.Ytmolhemoiplpfaa
set_option linter.unusedVariables false
set_option linter.unusedSimpArgs false
/-- Operations, in any order, of the events l. -/
structure TI (ts : List opT.D) (l : List evT.D) : Prop where
  call : ∀ (i : Nat) (o : opT.D), ts[i]? = some o → ∃ k : Nat, ob o = k ∧ l[k]? = some (evCa o)
  ret : ∀ (i : Nat) (o : opT.D), ts[i]? = some o → (oe o = -1 ∧ o.2.2.1 = yNil) ∨ ∃ k : Nat, oe o = k ∧ ob o < k ∧ l[k]? = some (evRe o)
  cov : ∀ k, k < l.length → ∃ (i : Nat) (o : opT.D), ts[i]? = some o ∧ (ob o = k ∨ oe o = k)
  dst : ∀ (i j : Nat) (o p : opT.D), ts[i]? = some o → ts[j]? = some p → i ≠ j → ob o ≠ ob p ∧ (oe o = -1 ∨ oe o ≠ oe p)
  cnt : (ts.map cw).sum = l.length
theorem rev_at {α : Type} {l : List α} {i : Nat} {o : α} (h : l.reverse[i]? = some o) : i < l.length ∧ l[l.length - 1 - i]? = some o := by
  have hi := lt_of h
  rw [List.length_reverse] at hi
  rw [List.getElem?_reverse hi] at h
  exact ⟨hi, h⟩
theorem rev_of {α : Type} {l : List α} {i : Nat} {o : α} (h : l[i]? = some o) : l.reverse[l.length - 1 - i]? = some o := by
  have hi := lt_of h
  rw [List.getElem?_reverse (by omega), show l.length - 1 - (l.length - 1 - i) = i by omega]
  exact h
theorem OI.ti {s : Hs} (I : OI s) : TI s.ops.reverse s.evs := by
  refine ⟨fun i o h => I.call _ o (rev_at h).2, fun i o h => I.ret _ o (rev_at h).2, fun k hk => ?_, fun i j o p h1 h2 hij => ?_, ?_⟩
  · obtain ⟨i, o, h1, h2⟩ := I.cov k hk
    exact ⟨_, o, rev_of h1, h2⟩
  · obtain ⟨hi, g1⟩ := rev_at h1
    obtain ⟨hj, g2⟩ := rev_at h2
    refine ⟨?_, I.ends _ _ o p g1 g2 (by omega)⟩
    rcases Nat.lt_or_gt_of_ne (show s.ops.length - 1 - i ≠ s.ops.length - 1 - j by omega) with h | h
    · have := I.up _ _ o p g1 g2 h; omega
    · have := I.up _ _ p o g2 g1 h; omega
  · rw [List.map_reverse, List.sum_reverse, I.cnt]
def evZ : evT.D := ((0 : Int), false, cNil, yNil)
/-- The events whose places are marked. -/
def msk (l : List evT.D) (fl : List Bool) : List evT.D := List.zipWith (fun e b => if b then e else evZ) l fl
theorem msk_len {l : List evT.D} {fl : List Bool} (h : fl.length = l.length) : (msk l fl).length = l.length := by simp [msk, h]
theorem msk_set {l : List evT.D} {fl : List Bool} {k : Nat} {e : evT.D} (h : fl.length = l.length) (hk : l[k]? = some e) : (msk l fl).set k e = msk l (fl.set k true) := by
  have hkl := lt_of hk
  apply List.ext_getElem?
  intro i
  rw [List.getElem?_set, msk, msk, List.getElem?_zipWith, List.getElem?_zipWith, List.getElem?_set]
  by_cases hik : k = i
  · subst hik
    rw [if_pos rfl, if_pos rfl, if_pos (by simp [h]; exact hkl), if_pos (by omega), hk]
    simp
  · rw [if_neg hik, if_neg hik]
theorem msk_all {l : List evT.D} {fl : List Bool} (h : fl.length = l.length) (hf : ∀ k, k < l.length → fl.getD k false = true) : msk l fl = l := by
  apply List.ext_getElem?
  intro i
  rw [msk, List.getElem?_zipWith]
  by_cases hi : i < l.length
  · have h1 := hf i hi
    rw [List.getD_eq_getElem?_getD, List.getElem?_eq_getElem (by omega)] at h1
    rw [List.getElem?_eq_getElem hi, List.getElem?_eq_getElem (by omega)]
    have h2 : fl[i]'(by omega) = true := h1
    simp [h2]
  · rw [List.getElem?_eq_none (by omega)]
theorem msk_0 (l : List evT.D) : msk l (List.replicate l.length false) = List.replicate l.length evZ := by
  apply List.ext_getElem?
  intro i
  rw [msk, List.getElem?_zipWith, List.getElem?_replicate, List.getElem?_replicate]
  by_cases hi : i < l.length
  · rw [List.getElem?_eq_getElem hi, if_pos hi, if_pos hi]; rfl
  · rw [List.getElem?_eq_none (by omega), if_neg hi, if_neg hi]
/-- The places that the first i operations mark. -/
def Mk (ts : List opT.D) (i : Nat) (fl : List Bool) : Prop := ∀ k, fl.getD k false = true ↔ ∃ (j : Nat) (o : opT.D), j < i ∧ ts[j]? = some o ∧ (ob o = k ∨ oe o = k)
section
variable {ts : List opT.D} {l : List evT.D} {fl : List Bool} {i : Nat} {o : opT.D}
theorem TI.apart (T : TI ts l) {j : Nat} {p : opT.D} (h1 : ts[i]? = some o) (h2 : ts[j]? = some p) : oe p ≠ ob o := by
  intro h
  obtain ⟨k, k1, k2⟩ := T.call i o h1
  rcases T.ret j p h2 with ⟨h3, _⟩ | ⟨k', h3, _, h5⟩
  · omega
  · have : k = k' := by omega
    subst this
    rw [k2] at h5
    have := congrArg (fun e : evT.D => e.2.1) (Option.some.inj h5)
    simp [evCa, evRe] at this
theorem Mk.free (M : Mk ts i fl) (T : TI ts l) (h : ts[i]? = some o) {k : Nat} (hk : ob o = k) : fl.getD k false = false := by
  cases hb : fl.getD k false with
  | false => rfl
  | true =>
    obtain ⟨j, p, h1, h2, h3⟩ := (M k).1 hb
    rcases h3 with h3 | h3
    · exact absurd (h3.trans hk.symm) (T.dst j i p o h2 h (by omega)).1
    · exact absurd (h3.trans hk.symm) (T.apart h h2)
theorem Mk.free2 (M : Mk ts i fl) (T : TI ts l) (h : ts[i]? = some o) {k : Nat} (hk : oe o = k) : fl.getD k false = false := by
  cases hb : fl.getD k false with
  | false => rfl
  | true =>
    obtain ⟨j, p, h1, h2, h3⟩ := (M k).1 hb
    rcases h3 with h3 | h3
    · exact absurd (hk.trans h3.symm) (T.apart h2 h)
    · rcases (T.dst j i p o h2 h (by omega)).2 with h4 | h4
      · omega
      · exact absurd (h3.trans hk.symm) h4
theorem Mk.one (M : Mk ts i fl) (h : ts[i]? = some o) (hl : ∀ k : Nat, ob o = k → k < fl.length) (he : oe o = -1) {k : Nat} (hk : ob o = k) : Mk ts (i + 1) (fl.set k true) := by
  intro m
  rw [getD_set true (hl k hk)]
  by_cases hm : m = k
  · rw [if_pos hm]
    exact ⟨fun _ => ⟨i, o, by omega, h, .inl (by omega)⟩, fun _ => rfl⟩
  · rw [if_neg hm, M m]
    constructor
    · rintro ⟨j, p, h1, h2, h3⟩
      exact ⟨j, p, by omega, h2, h3⟩
    · rintro ⟨j, p, h1, h2, h3⟩
      by_cases hj : j = i
      · subst hj
        rw [h] at h2
        obtain rfl := Option.some.inj h2
        rcases h3 with h3 | h3 <;> omega
      · exact ⟨j, p, by omega, h2, h3⟩
theorem Mk.two (M : Mk ts i fl) (h : ts[i]? = some o) {k k' : Nat} (hk : ob o = k) (hk' : oe o = k') (hl : k < fl.length) (hl' : k' < fl.length) : Mk ts (i + 1) ((fl.set k true).set k' true) := by
  intro m
  rw [getD_set true (by rw [List.length_set]; exact hl'), getD_set true hl]
  by_cases hm' : m = k'
  · rw [if_pos hm']
    exact ⟨fun _ => ⟨i, o, by omega, h, .inr (by omega)⟩, fun _ => rfl⟩
  rw [if_neg hm']
  by_cases hm : m = k
  · rw [if_pos hm]
    exact ⟨fun _ => ⟨i, o, by omega, h, .inl (by omega)⟩, fun _ => rfl⟩
  · rw [if_neg hm, M m]
    constructor
    · rintro ⟨j, p, h1, h2, h3⟩
      exact ⟨j, p, by omega, h2, h3⟩
    · rintro ⟨j, p, h1, h2, h3⟩
      by_cases hj : j = i
      · subst hj
        rw [h] at h2
        obtain rfl := Option.some.inj h2
        rcases h3 with h3 | h3 <;> omega
      · exact ⟨j, p, by omega, h2, h3⟩
theorem Mk.zero (ts : List opT.D) (n : Nat) : Mk ts 0 (List.replicate n false) := by
  intro k
  constructor
  · intro h
    rw [List.getD_eq_getElem?_getD, List.getElem?_replicate] at h
    split at h <;> cases h
  · rintro ⟨j, p, h1, _⟩; omega
theorem Mk.all (M : Mk ts ts.length fl) (T : TI ts l) : ∀ k, k < l.length → fl.getD k false = true := by
  intro k hk
  obtain ⟨i, o, h1, h2⟩ := T.cov k hk
  exact (M k).2 ⟨i, o, lt_of h1, h1, h2⟩
end
end Go.Proofs.Ytmolhemoiplpfaa.hi
