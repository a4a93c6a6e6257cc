/-
  history: other numbers for the clients; beginnings. (No program in sight.)
-/
import Derived.Test.YtmolhemoiplpfaaHa
namespace Go.Proofs.Ytmolhemoiplpfaa.hi
open Go.Proofs.Ytmolhemoiplpfaa
set_option linter.unusedVariables false
set_option linter.unusedSimpArgs false
theorem fit_lim {x : evT.D} (h : evT.fit x) : limE x := by
  obtain ⟨_, _, ⟨_, _, ⟨h1, h2⟩, _⟩, _, _, ⟨h3, h4⟩⟩ := h
  have e : rc.by = 56 := rfl
  have e1 : Ty.byte.by = 1 := rfl
  rw [e] at h1 h3
  refine ⟨⟨by omega, fun y hy => ?_⟩, ⟨by omega, fun y hy => ?_⟩⟩
  · obtain ⟨_, ⟨k1, _⟩, ⟨k2, _⟩⟩ := h2 y hy
    rw [e1] at k1 k2
    exact ⟨by omega, by omega⟩
  · obtain ⟨_, ⟨k1, _⟩, ⟨k2, _⟩⟩ := h4 y hy
    rw [e1] at k1 k2
    exact ⟨by omega, by omega⟩
/-! ### A beginning of a right history is one -/
theorem ofG_take {s : Hs} {l : List evT.D} {n : Nat} (k : Nat) (h : (ofG s l n).2.2 = 0) : (ofG s (l.take k) n).2.2 = 0 := by
  induction l generalizing s n k with
  | nil => simp [ofG]
  | cons x t ih =>
    cases k with
    | zero => simp [ofG]
    | succ k =>
      rw [ofG] at h
      rw [List.take_succ_cons, ofG]
      by_cases hT : turnE s x = 0
      · rw [if_pos hT] at h ⊢
        exact ih k h
      · rw [if_neg hT] at h
        exact absurd h hT
theorem ofG_opl {s : Hs} {l : List evT.D} {n : Nat} : (ofG s l n).1.ops.length ≤ s.ops.length + l.length := by
  induction l generalizing s n with
  | nil => simp [ofG]
  | cons x t ih =>
    rw [ofG]
    split
    · have := ih (s := putS s x) (n := n + 1)
      have h2 : (putS s x).ops.length ≤ s.ops.length + 1 := opsS_le s x
      simp only [List.length_cons]; omega
    · simp only [List.length_cons]; omega
/-! ### Clients turned -/
def tn (c : Int) (n : Nat) : Int := (c + n) % 64
def ren (n : Nat) (x : evT.D) : evT.D := (tn x.1 n, x.2)
def renO (n : Nat) (x : opT.D) : opT.D := (tn x.1 n, x.2)
abbrev inC (c : Int) : Prop := 0 ≤ c ∧ c < 64
theorem tn_eq {a c : Int} (n : Nat) (ha : inC a) (hc : inC c) : tn a n = tn c n ↔ a = c := by unfold tn; omega
theorem tn_nat {c : Int} (i n : Nat) (h : c = i) : tn c n = (((i + n) % 64 : Nat) : Int) := by unfold tn; omega
theorem inC_nat {c : Int} {i : Nat} (h : c = i) (hi : i < 64) : inC c := by unfold inC; omega
structure Turned (n : Nat) (s s' : Hs) : Prop where
  evs : s'.evs.length = s.evs.length
  l1 : s.opn.length = 64
  l2 : s'.opn.length = 64
  opn : ∀ i, i < 64 → s'.opn.getD ((i + n) % 64) false = s.opn.getD i false
  ops : s'.ops = s.ops.map (renO n)
  cl : ∀ o ∈ s.ops, inC o.1
theorem lastIx_ren {n : Nat} {c : Int} (hc : inC c) : ∀ {l : List opT.D}, (∀ o ∈ l, inC o.1) → lastIx (tn c n) (l.map (renO n)) = lastIx c l
  | [], _ => rfl
  | o :: t, h => by
    have ih := lastIx_ren (n := n) hc (l := t) fun o ho => h o (by simp [ho])
    have ho := h o (by simp)
    rw [List.map_cons, lastIx, lastIx, ih]
    cases lastIx c t with
    | some j => rfl
    | none =>
      simp only []
      have : (@Eq Int (renO n o).1 (tn c n)) ↔ (@Eq Int o.1 c) := tn_eq n ho hc
      by_cases hh : @Eq Int o.1 c
      · rw [if_pos hh, if_pos (this.2 hh)]
      · rw [if_neg hh, if_neg fun h => hh (this.1 h)]
theorem Turned.step {n : Nat} {s s' : Hs} {x : evT.D} (t : Turned n s s') (hT : turnE s x = 0) : turnE s' (ren n x) = 0 ∧ Turned n (putS s x) (putS s' (ren n x)) := by
  obtain ⟨hb, ⟨i, hi, hi64, hop⟩, hlen⟩ := turn0 hT
  have hrx : @Eq Int (ren n x).1 (((i + n) % 64 : Nat) : Int) := tn_nat i n hi
  have h64 : (i + n) % 64 < 64 := by omega
  have htn : Int.toNat (ren n x).1 = (i + n) % 64 := by rw [hrx, Int.toNat_natCast]
  constructor
  · have hb' : ¬ badE (ren n x) := by
      rintro (h | h | h | h)
      · have h : @LT.lt Int _ (ren n x).1 0 := h
        omega
      · have h : @LE.le Int _ 64 (ren n x).1 := h
        omega
      · exact hb (.inr (.inr (.inl h)))
      · exact hb (.inr (.inr (.inr h)))
    rw [turnE, if_neg hb', if_neg (by rw [t.evs]; omega), if_neg]
    rw [htn, t.opn i hi64]
    intro h; exact h hop
  · have hti : Int.toNat x.1 = i := by rw [hi, Int.toNat_natCast]
    refine ⟨by simp [putS, t.evs], by simp [putS, t.l1], by simp [putS, t.l2], ?_, ?_, ?_⟩
    · intro j hj
      show (s'.opn.set (Int.toNat (ren n x).1) (!x.2.1)).getD _ _ = (s.opn.set (Int.toNat x.1) (!x.2.1)).getD _ _
      rw [htn, hti]
      have h1 := t.opn j hj
      simp only [List.getD_eq_getElem?_getD, List.getElem?_set] at h1 ⊢
      by_cases hij : i = j
      · subst hij
        rw [if_pos rfl, if_pos rfl, if_pos (by rw [t.l2]; exact h64), if_pos (by rw [t.l1]; exact hi64)]
      · rw [if_neg (by omega), if_neg hij]
        exact h1
    · show opsS s' (ren n x) = (opsS s x).map (renO n)
      have hxc : inC x.1 := inC_nat hi hi64
      unfold opsS
      by_cases hr : x.2.1 = false
      · rw [if_pos hr, if_pos (show (ren n x).2.1 = false from hr), t.ops, t.evs, List.map_append]
        rfl
      · rw [if_neg hr, if_neg (show ¬ (ren n x).2.1 = false from hr), t.ops]
        have := lastIx_ren (n := n) hxc t.cl
        rw [show (ren n x).1 = tn x.1 n from rfl, this]
        cases lastIx x.1 s.ops with
        | none => rfl
        | some k =>
          simp only [List.getElem?_map]
          cases s.ops[k]? with
          | none => rfl
          | some o =>
            simp only [Option.map_some, List.map_set, t.evs]
            rfl
    · intro o ho
      have hxc : inC x.1 := inC_nat hi hi64
      have ho : o ∈ opsS s x := ho
      unfold opsS at ho
      split at ho
      · rcases List.mem_append.1 ho with ho | ho
        · exact t.cl o ho
        · simp only [List.mem_singleton] at ho
          subst ho
          exact hxc
      · split at ho
        · split at ho
          · rename_i o' ho'
            rcases List.mem_or_eq_of_mem_set ho with ho | rfl
            · exact t.cl o ho
            · exact t.cl o' (List.mem_of_getElem? ho')
          · exact t.cl o ho
        · exact t.cl o ho
theorem Turned.all {n : Nat} {l : List evT.D} {s s' : Hs} {m : Nat} (t : Turned n s s') (h : (ofG s l m).2.2 = 0) : (ofG s' (l.map (ren n)) m).2.2 = 0 ∧ Turned n (ofG s l m).1 (ofG s' (l.map (ren n)) m).1 := by
  induction l generalizing s s' m with
  | nil => exact ⟨rfl, t⟩
  | cons x r ih =>
    rw [ofG] at h ⊢
    by_cases hT : turnE s x = 0
    · obtain ⟨h1, h2⟩ := t.step hT
      rw [if_pos hT] at h ⊢
      rw [List.map_cons, ofG, if_pos h1]
      exact ih h2 h
    · rw [if_neg hT] at h
      exact absurd h hT
theorem turned0 (n : Nat) : Turned n Hs.new Hs.new :=
  ⟨rfl, by simp [Hs.new], by simp [Hs.new], fun i hi => by
    have h : ∀ k, k < 64 → Hs.new.opn.getD k false = false := fun k hk => by
      show (List.replicate 64 false).getD k false = false
      rw [List.getD_eq_getElem?_getD, List.getElem?_replicate, if_pos hk]; rfl
    rw [h i hi, h _ (by omega)], rfl, by simp [Hs.new]⟩
/-- Clients' numbers of a right history. -/
theorem ofG_cl {s : Hs} {l : List evT.D} {n : Nat} (h : (ofG s l n).2.2 = 0) : ∀ x ∈ l, inC x.1 := by
  induction l generalizing s n with
  | nil => simp
  | cons x r ih =>
    rw [ofG] at h
    by_cases hT : turnE s x = 0
    · rw [if_pos hT] at h
      obtain ⟨_, ⟨i, hi, hi64, _⟩, _⟩ := turn0 hT
      intro y hy
      rcases List.mem_cons.1 hy with rfl | hy
      · exact inC_nat hi hi64
      · exact ih h y hy
    · rw [if_neg hT] at h
      exact absurd h hT
end Go.Proofs.Ytmolhemoiplpfaa.hi
