/-
  Numbers and bytes as digits, lines at their blanks: plain.
-/
import Derived.Test.YtooimdgoibdhlaaDoorK15
namespace Go.Proofs.YtooimdgoibdhlaaDoor.sc
open Go

/-! ### Numbers -/
/-- A digit. -/
def dg (n : Nat) : UInt8 := UInt8.ofNat (48 + n)
def dec (n : Nat) : List UInt8 := if n < 10 then [dg n] else dec (n / 10) ++ [dg (n % 10)]
termination_by n
decreasing_by omega
theorem dec_small {n : Nat} (h : n < 10) : dec n = [dg n] := by rw [dec, if_pos h]
theorem dec_big {n : Nat} (h : 10 ≤ n) : dec n = dec (n / 10) ++ [dg (n % 10)] := by rw [dec, if_neg (by omega)]
theorem dg_nat {n : Nat} (h : n < 10) : (dg n).toNat = 48 + n := by
  unfold dg; simp only [UInt8.toNat_ofNat', Nat.reducePow]; omega
def isDg (c : UInt8) : Prop := 48 ≤ c.toNat ∧ c.toNat ≤ 57
instance (c : UInt8) : Decidable (isDg c) := by unfold isDg; infer_instance
def num (l : List UInt8) : Nat := l.foldl (fun n c => 10 * n + (c.toNat - 48)) 0
theorem num_snoc (l : List UInt8) (c : UInt8) : num (l ++ [c]) = 10 * num l + (c.toNat - 48) := by simp [num]
theorem num_nil : num [] = 0 := rfl
theorem dec_spec (n : Nat) : num (dec n) = n ∧ (∀ c ∈ dec n, isDg c) ∧ dec n ≠ [] := by
  induction n using Nat.strongRecOn with
  | _ n ih =>
    by_cases h : n < 10
    · rw [dec_small h]
      refine ⟨?_, ?_, by simp⟩
      · have := dg_nat h
        simp only [num, List.foldl_cons, List.foldl_nil]; omega
      · intro c hc
        simp only [List.mem_cons, List.not_mem_nil, or_false] at hc
        subst hc
        have := dg_nat h
        exact ⟨by omega, by omega⟩
    · rw [dec_big (by omega)]
      obtain ⟨h1, h2, h3⟩ := ih (n / 10) (by omega)
      have hd := dg_nat (n := n % 10) (by omega)
      refine ⟨?_, ?_, by simp⟩
      · rw [num_snoc, h1, hd]; omega
      · intro c hc
        rcases List.mem_append.1 hc with hc | hc
        · exact h2 c hc
        · simp only [List.mem_cons, List.not_mem_nil, or_false] at hc
          subst hc
          exact ⟨by omega, by omega⟩
theorem num_dec (n : Nat) : num (dec n) = n := (dec_spec n).1
theorem dec_dg {n : Nat} {c : UInt8} (h : c ∈ dec n) : isDg c := (dec_spec n).2.1 c h
theorem dec_ne (n : Nat) : dec n ≠ [] := (dec_spec n).2.2
theorem dec_inj {m n : Nat} (h : dec m = dec n) : m = n := by rw [← num_dec m, h, num_dec]
theorem dec_len : ∀ (k n : Nat), 0 < k → n < 10 ^ k → (dec n).length ≤ k
  | 0, _, h, _ => by omega
  | k + 1, n, _, hn => by
    by_cases h : n < 10
    · rw [dec_small h]; simp
    · rw [dec_big (by omega), List.length_append]
      have hk : 0 < k := by
        rcases Nat.eq_zero_or_pos k with rfl | hk
        · simp at hn; omega
        · exact hk
      have := dec_len k (n / 10) hk (by rw [Nat.pow_succ] at hn; omega)
      simp only [List.length_cons, List.length_nil]; omega
theorem dec_len10 {n : Nat} (h : n ≤ 2147483647) : (dec n).length ≤ 10 := dec_len 10 n (by omega) (by omega)
theorem dec_pos (n : Nat) : 0 < (dec n).length := List.length_pos_iff.2 (dec_ne n)
theorem num_lt (l : List UInt8) (h : ∀ c ∈ l, isDg c) : num l < 10 ^ l.length := by
  have key : ∀ (n : Nat) (l : List UInt8), l.length = n → (∀ c ∈ l, isDg c) → num l < 10 ^ n := by
    intro n
    induction n with
    | zero => intro l hl _; obtain rfl := List.length_eq_zero_iff.1 hl; simp [num]
    | succ n ih =>
      intro l hl h
      rcases List.eq_nil_or_concat l with rfl | ⟨l', c, rfl⟩
      · simp at hl
      · rw [List.concat_eq_append] at hl h ⊢
        rw [num_snoc]
        have h1 := ih l' (by simp at hl; exact hl) fun x hx => h x (by simp [hx])
        have h2 := h c (by simp)
        unfold isDg at h2
        rw [Nat.pow_succ]; omega
  exact key _ l rfl h

/-! ### Bytes of the base 16 -/
def hx (n : Nat) : UInt8 := if n < 10 then UInt8.ofNat (48 + n) else UInt8.ofNat (87 + n)
def hexs : List UInt8 → List UInt8
  | [] => []
  | b :: r => hx (b.toNat / 16) :: hx (b.toNat % 16) :: hexs r
/-- A digit's number: 16 and more: none. -/
def hd (c : UInt8) : Nat := if 48 ≤ c.toNat ∧ c.toNat ≤ 57 then c.toNat - 48 else if 97 ≤ c.toNat ∧ c.toNat ≤ 102 then c.toNat - 87 else 16
theorem hx_nat {n : Nat} (h : n < 16) : (hx n).toNat = if n < 10 then 48 + n else 87 + n := by
  unfold hx; split <;> simp only [UInt8.toNat_ofNat', Nat.reducePow] <;> omega
theorem hd_hx {n : Nat} (h : n < 16) : hd (hx n) = n := by
  unfold hd; rw [hx_nat h]
  by_cases h1 : n < 10
  · rw [if_pos h1, if_pos (by omega)]; omega
  · rw [if_neg h1, if_neg (by omega), if_pos (by omega)]; omega
theorem hd_le (c : UInt8) : hd c ≤ 16 := by
  unfold hd; repeat' split
  all_goals omega
theorem hexs_len : ∀ l, (hexs l).length = 2 * l.length
  | [] => rfl
  | b :: r => by simp only [hexs, List.length_cons, hexs_len r]; omega
theorem hexs_get : ∀ (l : List UInt8) (i : Nat) (h : i < l.length), (hexs l)[2 * i]? = some (hx (l[i].toNat / 16)) ∧ (hexs l)[2 * i + 1]? = some (hx (l[i].toNat % 16))
  | [], i, h => by simp at h
  | b :: r, 0, h => by simp [hexs]
  | b :: r, i + 1, h => by
    have := hexs_get r i (by simpa using h)
    simp only [hexs, show 2 * (i + 1) = 2 * i + 1 + 1 by omega, List.getElem?_cons_succ, List.getElem_cons_succ]
    exact this
theorem hexs_append : ∀ (a b : List UInt8), hexs (a ++ b) = hexs a ++ hexs b
  | [], b => rfl
  | x :: a, b => by simp only [List.cons_append, hexs, hexs_append a b]
theorem hexs_mem {l : List UInt8} {c : UInt8} (h : c ∈ hexs l) : hd c < 16 ∧ c.toNat ≠ 32 ∧ c.toNat ≠ 45 ∧ c.toNat ≠ 10 := by
  have ok : ∀ n, n < 16 → hd (hx n) < 16 ∧ (hx n).toNat ≠ 32 ∧ (hx n).toNat ≠ 45 ∧ (hx n).toNat ≠ 10 := by
    intro n hn
    refine ⟨by rw [hd_hx hn]; exact hn, ?_⟩
    rw [hx_nat hn]
    split <;> omega
  induction l with
  | nil => simp [hexs] at h
  | cons b r ih =>
    simp only [hexs, List.mem_cons] at h
    have hb := b.toNat_lt
    rcases h with rfl | rfl | h
    · exact ok _ (by omega)
    · exact ok _ (by omega)
    · exact ih h
theorem hexs_ne {l : List UInt8} (h : l ≠ []) : hexs l ≠ [] := by
  cases l with
  | nil => exact absurd rfl h
  | cons b r => simp [hexs]
/-- What stands at two digits. -/
theorem of_hexs {l m : List UInt8} (hl : m.length = (hexs l).length / 2) (h : ∀ (i : Nat) (hi : i < m.length) c d, (hexs l)[2 * i]? = some c → (hexs l)[2 * i + 1]? = some d → hd c < 16 → hd d < 16 → m[i].toNat = 16 * hd c + hd d) : m = l := by
  rw [hexs_len] at hl
  have hl' : m.length = l.length := by omega
  refine List.ext_getElem hl' fun i h1 h2 => ?_
  obtain ⟨k1, k2⟩ := hexs_get l i h2
  have hb := (l[i]).toNat_lt
  have e1 : hd (hx (l[i].toNat / 16)) = l[i].toNat / 16 := hd_hx (by omega)
  have e2 : hd (hx (l[i].toNat % 16)) = l[i].toNat % 16 := hd_hx (by omega)
  have := h i h1 _ _ k1 k2 (by omega) (by omega)
  rw [e1, e2] at this
  apply UInt8.toNat_inj.1
  omega

/-! ### Words -/
def wds : List UInt8 → List (List UInt8)
  | [] => [[]]
  | c :: r => if c.toNat = 32 then [] :: wds r else
    match wds r with
    | w :: t => (c :: w) :: t
    | [] => [[c]]
def jn : List (List UInt8) → List UInt8
  | [] => []
  | [w] => w
  | w :: t => w ++ 32 :: jn t
theorem jn_cons (w : List UInt8) {t : List (List UInt8)} (h : t ≠ []) : jn (w :: t) = w ++ 32 :: jn t := by
  cases t with
  | nil => exact absurd rfl h
  | cons x r => rfl
theorem wds_ne : ∀ s, wds s ≠ []
  | [] => by simp [wds]
  | c :: r => by
    unfold wds
    split
    · simp
    · split <;> simp
def noB (w : List UInt8) : Prop := ∀ c ∈ w, c.toNat ≠ 32
theorem noB_dec (n : Nat) : noB (dec n) := fun c hc => by have := dec_dg hc; unfold isDg at this; omega
theorem noB_hex (l : List UInt8) : noB (hexs l) := fun _ hc => (hexs_mem hc).2.1
theorem wds_word : ∀ (w : List UInt8), noB w → wds w = [w]
  | [], _ => rfl
  | c :: r, h => by
    have ih := wds_word r fun x hx => h x (by simp [hx])
    have := h c (by simp)
    simp only [wds, ih, if_neg this]
theorem wds_blank : ∀ (w r : List UInt8), noB w → wds (w ++ 32 :: r) = w :: wds r
  | [], r, _ => by simp [wds]
  | c :: w, r, h => by
    have ih := wds_blank w r fun x hx => h x (by simp [hx])
    have := h c (by simp)
    simp only [List.cons_append, wds, ih, if_neg this]
theorem wds_jn : ∀ (ws : List (List UInt8)), ws ≠ [] → (∀ w ∈ ws, noB w) → wds (jn ws) = ws
  | [], h, _ => absurd rfl h
  | [w], _, h => wds_word w (h w (by simp))
  | w :: x :: t, _, h => by
    rw [jn_cons w (by simp), wds_blank _ _ (h w (by simp)), wds_jn (x :: t) (by simp) fun y hy => h y (by simp [hy])]
def cnt (c : Nat) (s : List UInt8) : Nat := s.countP fun x => x.toNat == c
theorem wds_len : ∀ s, (wds s).length = cnt 32 s + 1
  | [] => rfl
  | c :: r => by
    have ih := wds_len r
    have hn := wds_ne r
    unfold cnt at ih ⊢
    by_cases h : c.toNat = 32
    · rw [List.countP_cons_of_pos (by simp [h])]
      simp only [wds, if_pos h, List.length_cons, ih]
    · rw [List.countP_cons_of_neg (by simp [h])]
      simp only [wds, if_neg h]
      cases hw : wds r with
      | nil => exact absurd hw hn
      | cons w t => rw [hw] at ih; simpa using ih
end Go.Proofs.YtooimdgoibdhlaaDoor.sc
