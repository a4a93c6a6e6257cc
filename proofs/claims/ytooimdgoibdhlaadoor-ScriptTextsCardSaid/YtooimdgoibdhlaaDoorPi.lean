/-
  A step's line: plain. A line is one step's.
-/
import Derived.Test.YtooimdgoibdhlaaDoorPh
namespace Go.Proofs.YtooimdgoibdhlaaDoor.sc
open Go Go.Proofs.YtooimdgoibdhlaaDoor
set_option linter.unusedVariables false
set_option linter.unusedSimpArgs false
abbrev kSend : List UInt8 := [115, 101, 110, 100]
abbrev kPick : List UInt8 := [112, 105, 99, 107]
abbrev kFate : List UInt8 := [102, 97, 116, 101]
abbrev kStop : List UInt8 := [115, 116, 111, 112]
abbrev kOpen : List UInt8 := [111, 112, 101, 110]
abbrev kGood : List UInt8 := [103, 111, 111, 100]
abbrev kFail : List UInt8 := [102, 97, 105, 108]
abbrev kFull : List UInt8 := [102, 117, 108, 108]
def dz (n : Int) : List UInt8 := dec n.toNat
def wl (x : St) : List (List UInt8) :=
  if x.1 = 1 then [kSend, dz x.2.1, hexd x.2.2.1] else
  if x.1 = 2 then [kPick, dz x.2.2.2.1] else
  if x.1 = 3 then (if x.2.2.2.2.1.1 = 0 then [kFate, kGood] else [kFate, if x.2.2.2.2.1.1 = 1 then kFail else kFull, dz x.2.2.2.2.1.2]) else
  if x.1 = 4 then kStop :: x.2.2.2.2.2.map dz else [kOpen, dz x.2.1]
def ln (x : St) : List UInt8 := jn (wl x)
theorem noB_hexd (l : List UInt8) : noB (hexd l) := by
  unfold hexd; split
  · intro c hc; simp only [List.mem_cons, List.not_mem_nil, or_false] at hc; subst hc; decide
  · exact noB_hex l
theorem noB_k {w : List UInt8} (h : (w.all fun c => decide (c.toNat ≠ 32)) = true) : noB w := by
  intro c hc
  simpa using List.all_eq_true.1 h c hc
theorem noB_dz (n : Int) : noB (dz n) := noB_dec _
theorem wl_noB (x : St) : ∀ w ∈ wl x, noB w := by
  have hs := noB_k (w := kSend) (by decide); have hp := noB_k (w := kPick) (by decide); have hf := noB_k (w := kFate) (by decide); have hst := noB_k (w := kStop) (by decide)
  have ho := noB_k (w := kOpen) (by decide); have hg := noB_k (w := kGood) (by decide); have hfa := noB_k (w := kFail) (by decide); have hfu := noB_k (w := kFull) (by decide)
  intro w hw
  unfold wl at hw
  split at hw
  · simp only [List.mem_cons, List.not_mem_nil, or_false] at hw
    rcases hw with rfl | rfl | rfl
    · exact hs
    · exact noB_dz _
    · exact noB_hexd _
  split at hw
  · simp only [List.mem_cons, List.not_mem_nil, or_false] at hw
    rcases hw with rfl | rfl
    · exact hp
    · exact noB_dz _
  split at hw
  · split at hw
    · simp only [List.mem_cons, List.not_mem_nil, or_false] at hw
      rcases hw with rfl | rfl
      · exact hf
      · exact hg
    · simp only [List.mem_cons, List.not_mem_nil, or_false] at hw
      rcases hw with rfl | rfl | rfl
      · exact hf
      · split
        · exact hfa
        · exact hfu
      · exact noB_dz _
  split at hw
  · rcases List.mem_cons.1 hw with rfl | hw
    · exact hst
    · obtain ⟨n, _, rfl⟩ := List.mem_map.1 hw
      exact noB_dz _
  · simp only [List.mem_cons, List.not_mem_nil, or_false] at hw
    rcases hw with rfl | rfl
    · exact ho
    · exact noB_dz _
theorem wl_ne (x : St) : wl x ≠ [] := by
  unfold wl
  repeat' split
  all_goals simp
theorem wds_ln (x : St) : wds (ln x) = wl x := wds_jn (wl x) (wl_ne x) (wl_noB x)
theorem dz_inj {m n : Int} (hm : 0 ≤ m) (hn : 0 ≤ n) (h : dz m = dz n) : m = n := by
  have := dec_inj h; omega
theorem hexd_inj {l m : List UInt8} (h : hexd l = hexd m) : l = m := by
  have key : ∀ l : List UInt8, l ≠ [] → hexd l ≠ [45] := by
    intro l hl h1
    unfold hexd at h1
    rw [if_neg hl] at h1
    have := hexs_len l
    rw [h1] at this
    simp at this; omega
  by_cases hl : l = []
  · by_cases hm : m = []
    · rw [hl, hm]
    · subst hl
      exact absurd h.symm (key m hm)
  · by_cases hm : m = []
    · subst hm
      exact absurd h (key l hl)
    · unfold hexd at h
      rw [if_neg hl, if_neg hm] at h
      refine of_hexs (l := m) (m := l) (by rw [← h, hexs_len]; omega) fun i hi c d hc hd h1 h2 => ?_
      obtain ⟨k1, k2⟩ := hexs_get l i hi
      rw [h] at k1 k2
      rw [k1] at hc; rw [k2] at hd
      simp only [Option.some.injEq] at hc hd
      have hb := (l[i]).toNat_lt
      rw [← hc, ← hd, hd_hx (by omega), hd_hx (by omega)]
      omega
theorem map_dz_inj : ∀ {l m : List Int}, (∀ n ∈ l, 0 ≤ n) → (∀ n ∈ m, 0 ≤ n) → l.map dz = m.map dz → l = m
  | [], [], _, _, _ => rfl
  | [], _ :: _, _, _, h => by simp at h
  | _ :: _, [], _, _, h => by simp at h
  | a :: l, b :: m, h1, h2, h => by
    simp only [List.map_cons, List.cons.injEq] at h
    rw [dz_inj (h1 a (by simp)) (h2 b (by simp)) h.1, map_dz_inj (fun n hn => h1 n (by simp [hn])) (fun n hn => h2 n (by simp [hn])) h.2]
/-- What may be, taken apart. -/
structure May (x : St) : Prop where
  k1 : 1 ≤ x.1
  k5 : x.1 ≤ 5
  on : x = only x
  cl : 0 ≤ x.2.1 ∧ x.2.1 ≤ 63
  by' : x.2.2.1.length ≤ 1048576
  pk : 0 ≤ x.2.2.2.1 ∧ x.2.2.2.1 ≤ huge
  fk : 0 ≤ x.2.2.2.2.1.1 ∧ x.2.2.2.2.1.1 ≤ 2
  fp : 0 ≤ x.2.2.2.2.1.2 ∧ x.2.2.2.2.1.2 ≤ huge
  fg : x.2.2.2.2.1.1 = 0 → x.2.2.2.2.1.2 = 0
  pl : x.2.2.2.2.2.length ≤ 4096
  pa : ∀ n ∈ x.2.2.2.2.2, 0 ≤ n ∧ n ≤ huge
theorem may_iff (x : St) : mayS x = true ↔ May x := by
  simp only [mayS, inn, Bool.and_eq_true, Bool.or_eq_true, decide_eq_true_eq, List.all_eq_true]
  constructor
  · rintro ⟨h1, h2, h3, h4, h5, h6, h7, h8, h9, h10, h11⟩
    exact ⟨h1, h2, h3, h4, h5, h6, h7, h8, fun h => h9.resolve_left (fun h' => h' h), h10, h11⟩
  · rintro ⟨h1, h2, h3, h4, h5, h6, h7, h8, h9, h10, h11⟩
    refine ⟨h1, h2, h3, h4, h5, h6, h7, h8, ?_, h10, h11⟩
    by_cases h : x.2.2.2.2.1.1 = 0
    · exact .inr (h9 h)
    · exact .inl h
/-- The fields by the kind. -/
theorem May.other {x : St} (m : May x) : (¬ (x.1 = 1 ∨ x.1 = 5) → x.2.1 = 0) ∧ (¬ x.1 = 1 → x.2.2.1 = []) ∧ (¬ x.1 = 2 → x.2.2.2.1 = 0) ∧ (¬ x.1 = 3 → x.2.2.2.2.1 = (0, 0)) ∧ (¬ x.1 = 4 → x.2.2.2.2.2 = []) := by
  have h := m.on
  obtain ⟨x1, x2, x3, x4, x5, x6⟩ := x
  simp only [only, Prod.mk.injEq, true_and] at h
  obtain ⟨h2, h3, h4, h5, h6⟩ := h
  refine ⟨fun k => ?_, fun k => ?_, fun k => ?_, fun k => ?_, fun k => ?_⟩
  · rw [if_neg k] at h2; exact h2
  · rw [if_neg k] at h3; exact h3
  · rw [if_neg k] at h4; exact h4
  · rw [if_neg k] at h5; exact h5
  · rw [if_neg k] at h6; exact h6
theorem wl_kind {x : St} (m : May x) : (wl x).head? = some (if x.1 = 1 then kSend else if x.1 = 2 then kPick else if x.1 = 3 then kFate else if x.1 = 4 then kStop else kOpen) := by
  unfold wl
  repeat' split
  all_goals first | rfl | (exfalso; omega) | skip
/-- A line is one step's. -/
theorem ln_inj {x y : St} (mx : May x) (my : May y) (h : ln x = ln y) : x = y := by
  have hw : wl x = wl y := by rw [← wds_ln x, ← wds_ln y, h]
  have hk : x.1 = y.1 := by
    have h1 := wl_kind mx
    rw [hw, wl_kind my] at h1
    simp only [Option.some.injEq] at h1
    have a1 := mx.k1; have a5 := mx.k5; have b1 := my.k1; have b5 := my.k5
    have cx : x.1 = 1 ∨ x.1 = 2 ∨ x.1 = 3 ∨ x.1 = 4 ∨ x.1 = 5 := by omega
    have cy : y.1 = 1 ∨ y.1 = 2 ∨ y.1 = 3 ∨ y.1 = 4 ∨ y.1 = 5 := by omega
    rcases cx with e | e | e | e | e <;> rcases cy with e' | e' | e' | e' | e' <;> rw [e, e'] at h1 ⊢ <;> first | rfl | (exact absurd h1 (by decide))
  obtain ⟨ox1, ox2, ox3, ox4, ox5⟩ := mx.other
  obtain ⟨oy1, oy2, oy3, oy4, oy5⟩ := my.other
  have a1 := mx.k1; have a5 := mx.k5
  have cx : x.1 = 1 ∨ x.1 = 2 ∨ x.1 = 3 ∨ x.1 = 4 ∨ x.1 = 5 := by omega
  unfold wl at hw
  rw [← hk] at hw oy1 oy2 oy3 oy4 oy5
  rcases cx with e | e | e | e | e
  · simp only [e, if_true, List.cons.injEq, and_true, true_and] at hw
    exact st_eq hk (dz_inj mx.cl.1 my.cl.1 hw.1) (hexd_inj hw.2) (by rw [ox3 (by omega), oy3 (by omega)]) (by rw [ox4 (by omega), oy4 (by omega)]) (by rw [ox5 (by omega), oy5 (by omega)])
  · simp only [e, Int.reduceEq, if_true, if_false, List.cons.injEq, and_true, true_and] at hw
    exact st_eq hk (by rw [ox1 (by omega), oy1 (by omega)]) (by rw [ox2 (by omega), oy2 (by omega)]) (dz_inj mx.pk.1 my.pk.1 hw) (by rw [ox4 (by omega), oy4 (by omega)]) (by rw [ox5 (by omega), oy5 (by omega)])
  · simp only [e, Int.reduceEq, if_true, if_false] at hw
    have hf : x.2.2.2.2.1 = y.2.2.2.2.1 := by
      have f1 := mx.fk; have f2 := my.fk
      by_cases g1 : x.2.2.2.2.1.1 = 0
      · by_cases g2 : y.2.2.2.2.1.1 = 0
        · exact Prod.ext (g1.trans g2.symm) ((mx.fg g1).trans (my.fg g2).symm)
        · rw [if_pos g1, if_neg g2] at hw
          simp at hw
      · by_cases g2 : y.2.2.2.2.1.1 = 0
        · rw [if_neg g1, if_pos g2] at hw
          simp at hw
        · rw [if_neg g1, if_neg g2] at hw
          simp only [List.cons.injEq, and_true, true_and] at hw
          refine Prod.ext ?_ (dz_inj mx.fp.1 my.fp.1 hw.2)
          have h1 := hw.1
          by_cases q1 : x.2.2.2.2.1.1 = 1 <;> by_cases q2 : y.2.2.2.2.1.1 = 1
          · omega
          · rw [if_pos q1, if_neg q2] at h1; exact absurd h1 (by decide)
          · rw [if_neg q1, if_pos q2] at h1; exact absurd h1 (by decide)
          · omega
    exact st_eq hk (by rw [ox1 (by omega), oy1 (by omega)]) (by rw [ox2 (by omega), oy2 (by omega)]) (by rw [ox3 (by omega), oy3 (by omega)]) hf (by rw [ox5 (by omega), oy5 (by omega)])
  · simp only [e, Int.reduceEq, if_true, if_false, List.cons.injEq, and_true, true_and] at hw
    exact st_eq hk (by rw [ox1 (by omega), oy1 (by omega)]) (by rw [ox2 (by omega), oy2 (by omega)]) (by rw [ox3 (by omega), oy3 (by omega)]) (by rw [ox4 (by omega), oy4 (by omega)]) (map_dz_inj (fun n hn => (mx.pa n hn).1) (fun n hn => (my.pa n hn).1) hw)
  · simp only [e, Int.reduceEq, if_true, if_false, List.cons.injEq, and_true, true_and] at hw
    exact st_eq hk (dz_inj mx.cl.1 my.cl.1 hw) (by rw [ox2 (by omega), oy2 (by omega)]) (by rw [ox3 (by omega), oy3 (by omega)]) (by rw [ox4 (by omega), oy4 (by omega)]) (by rw [ox5 (by omega), oy5 (by omega)])
theorem dz_len {n : Int} (h : 0 ≤ n ∧ n ≤ huge) : (dz n).length ≤ 10 := dec_len10 (by have := h.2; simp only [huge] at this; omega)
theorem hexd_len {l : List UInt8} (h : l.length ≤ 1048576) : (hexd l).length ≤ 2097152 := by
  unfold hexd; split
  · simp
  · rw [hexs_len]; omega
theorem jn_len_le : ∀ (ws : List (List UInt8)) (k : Nat), (∀ w ∈ ws, w.length ≤ k) → (jn ws).length ≤ ws.length * (k + 1)
  | [], _, _ => by simp [jn]
  | [w], k, h => by have := h w (by simp); simp only [jn, List.length_cons, List.length_nil]; omega
  | w :: x :: t, k, h => by
    have h1 := h w (by simp)
    have h2 := jn_len_le (x :: t) k fun y hy => h y (by simp [hy])
    rw [jn_cons w (by simp), List.length_append, List.length_cons]
    have : (w :: x :: t).length = (x :: t).length + 1 := rfl
    rw [this, Nat.succ_mul]; omega
theorem ln_len {x : St} (m : May x) : (ln x).length ≤ 8600000 := by
  obtain ⟨a1, a5⟩ := And.intro m.k1 m.k5
  have h1 := dz_len (n := x.2.1) ⟨m.cl.1, by have := m.cl.2; simp only [huge]; omega⟩
  have h2 := hexd_len m.by'
  have h3 := dz_len m.pk
  have h4 := dz_len m.fp
  unfold ln wl
  split
  · refine Nat.le_trans (jn_len_le _ 2097152 ?_) (by simp)
    intro w hw
    simp only [List.mem_cons, List.not_mem_nil, or_false] at hw
    rcases hw with rfl | rfl | rfl
    · simp
    · omega
    · omega
  split
  · refine Nat.le_trans (jn_len_le _ 10 ?_) (by simp)
    intro w hw
    simp only [List.mem_cons, List.not_mem_nil, or_false] at hw
    rcases hw with rfl | rfl
    · simp
    · omega
  split
  · split
    · decide
    · refine Nat.le_trans (jn_len_le _ 10 ?_) (by simp)
      intro w hw
      simp only [List.mem_cons, List.not_mem_nil, or_false] at hw
      rcases hw with rfl | rfl | rfl
      · simp
      · split <;> simp
      · omega
  split
  · refine Nat.le_trans (jn_len_le _ 10 ?_) (by have := m.pl; simp only [List.length_cons, List.length_map]; omega)
    intro w hw
    rcases List.mem_cons.1 hw with rfl | hw
    · simp
    · obtain ⟨n, hn, rfl⟩ := List.mem_map.1 hw
      exact dz_len (m.pa n hn)
  · refine Nat.le_trans (jn_len_le _ 10 ?_) (by simp)
    intro w hw
    simp only [List.mem_cons, List.not_mem_nil, or_false] at hw
    rcases hw with rfl | rfl
    · simp
    · omega
end Go.Proofs.YtooimdgoibdhlaaDoor.sc
