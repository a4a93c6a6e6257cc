/-
  groups: the order of places; the comparison by which they are sorted.
-/
import Derived.Test.YthhofmjhnjkcfaaGb
namespace Go.Proofs.Ythhofmjhnjkcfaa.so
open Go.Proofs.Ythhofmjhnjkcfaa
set_option linter.unusedVariables false
set_option linter.unusedSimpArgs false
abbrev Ky := List UInt8 × Int
theorem s_irr (a : List UInt8) : ¬ a < a := List.lt_irrefl a
theorem s_tr {a b c : List UInt8} (h1 : a < b) (h2 : b < c) : a < c := List.lt_trans h1 h2
theorem s_asy {a b : List UInt8} (h1 : a < b) : ¬ b < a := fun h2 => s_irr a (s_tr h1 h2)
theorem s_tot (a b : List UInt8) : a < b ∨ a = b ∨ b < a := by
  by_cases h1 : a < b
  · exact .inl h1
  · by_cases h2 : b < a
    · exact .inr (.inr h2)
    · exact .inr (.inl (List.le_antisymm (List.not_lt.1 h2) (List.not_lt.1 h1)))
theorem bless : ∀ (x y : List UInt8), Op.bytesLess x y = decide (x < y)
  | [], [] => by simp [Op.bytesLess]
  | _ :: _, [] => by simp [Op.bytesLess]
  | [], _ :: _ => by simp [Op.bytesLess]
  | a :: x, b :: y => by
    rw [Op.bytesLess, bless x y]
    simp only [List.cons_lt_cons_iff]
    by_cases h1 : a < b <;> by_cases h2 : a = b <;> by_cases h3 : x < y <;> simp [h1, h2, h3]
def kLt (a b : Ky) : Prop := a.1 < b.1 ∨ (a.1 = b.1 ∧ a.2 < b.2)
instance (a b : Ky) : Decidable (kLt a b) := inferInstanceAs (Decidable (_ ∨ _))
theorem k_irr (a : Ky) : ¬ kLt a a := by
  rintro (h | ⟨_, h⟩)
  · exact s_irr _ h
  · omega
theorem k_tr {a b c : Ky} (h1 : kLt a b) (h2 : kLt b c) : kLt a c := by
  obtain ⟨a, m⟩ := a
  obtain ⟨b, n⟩ := b
  obtain ⟨c, o⟩ := c
  simp only [kLt] at *
  rcases h1 with h1 | ⟨rfl, h1⟩
  · rcases h2 with h2 | ⟨rfl, h2⟩
    · exact .inl (s_tr h1 h2)
    · exact .inl h1
  · rcases h2 with h2 | ⟨rfl, h2⟩
    · exact .inl h2
    · exact .inr ⟨rfl, by omega⟩
theorem k_asy {a b : Ky} (h : kLt a b) : ¬ kLt b a := fun h2 => k_irr a (k_tr h h2)
theorem k_tot (a b : Ky) : kLt a b ∨ a = b ∨ kLt b a := by
  obtain ⟨a, m⟩ := a
  obtain ⟨b, n⟩ := b
  simp only [kLt, Prod.mk.injEq]
  rcases s_tot a b with h | rfl | h
  · exact .inl (.inl h)
  · by_cases h1 : m < n
    · exact .inl (.inr ⟨rfl, h1⟩)
    · by_cases h2 : n < m
      · exact .inr (.inr (.inr ⟨rfl, h2⟩))
      · exact .inr (.inl ⟨rfl, by omega⟩)
  · exact .inr (.inr (.inl h))
theorem k_ntr {a b c : Ky} (h1 : ¬ kLt b a) (h2 : ¬ kLt c b) : ¬ kLt c a := by
  intro h
  rcases k_tot a b with h3 | rfl | h3
  · exact h2 (k_tr h h3)
  · exact h2 h
  · exact h1 h3
abbrev Row := List Value
/-- cells of a row -/
abbrev kR : Nat := 4
def rk : Row → Ky
  | .string s :: .int _ n :: _ => (s.data.toList, n)
  | _ => ([], 0)
def lt (r s : Row) : Prop := kLt (rk r) (rk s)
instance (r s : Row) : Decidable (lt r s) := inferInstanceAs (Decidable (kLt _ _))
theorem lt_asym {r s : Row} (h : lt r s) : ¬ lt s r := k_asy h
theorem lt_ntr {r s t : Row} (h1 : ¬ lt s r) (h2 : ¬ lt t s) : ¬ lt t r := k_ntr h1 h2
structure Good (r : Row) : Prop where
  len : r.length = kR
  cell : r.all isCell = true
  sh : ∃ (s : List UInt8) (n o t : Int), r = [.string ⟨s.toArray⟩, .int .i64 n, .int .i64 o, .int .i64 t]
theorem NaNS_ok (h : H) (s : List UInt8) : Ok Try.prog 85 #[.string ⟨s.toArray⟩] h fun v h' => v = .bool false ∧ h = h' := by
  refine c85_ok (args := [_]) (by simp) ?_
  simp (disch := omega) only [dm_t, wS, simprocAttr, IntKind.bits, toList_mk]
theorem NaNI_ok (h : H) (n : Int) : Ok Try.prog 86 #[.int .i64 n] h fun v h' => v = .bool false ∧ h = h' := by
  refine c86_ok (args := [_]) (by simp) ?_
  simp (disch := omega) only [dm_t, wS, simprocAttr, IntKind.bits]
theorem CmpI_ok (h : H) (m n : Int) : Ok Try.prog 76 #[.int .i64 m, .int .i64 n] h fun v h' => v = .int .i64 (if m < n then -1 else if n < m then 1 else 0) ∧ h = h' := by
  refine c76_ok (args := [_, _]) (by simp) ?_
  simp (disch := omega) only [dm_t, wS, simprocAttr, IntKind.bits]
  refine (NaNI_ok h m).k ?_
  rintro _ _ ⟨rfl, rfl⟩
  simp (disch := omega) only [dm_t, wS, simprocAttr, IntKind.bits]
  refine (NaNI_ok _ n).k ?_
  rintro _ _ ⟨rfl, rfl⟩
  by_cases h1 : m < n
  · simp (disch := omega) only [dm_t, wS, simprocAttr, IntKind.bits]
    rw [if_pos h1]
  · rw [if_neg h1]
    by_cases h2 : n < m
    · simp (disch := omega) only [dm_t, wS, simprocAttr, IntKind.bits]
      rw [if_pos h2]
    · simp (disch := omega) only [dm_t, wS, simprocAttr, IntKind.bits]
      rw [if_neg h2]
theorem b_lss (q : EqK) (a b : List UInt8) : binV .lss q (.string ⟨a.toArray⟩) (.string ⟨b.toArray⟩) = some (.bool (decide (a < b))) := by
  show some (Value.bool (Op.bytesLess _ _)) = _
  rw [toList_mk, toList_mk, bless]
theorem b_gtr (q : EqK) (a b : List UInt8) : binV .gtr q (.string ⟨a.toArray⟩) (.string ⟨b.toArray⟩) = some (.bool (decide (b < a))) := by
  show some (Value.bool (!(Op.bytesLess _ _ || decide _))) = _
  rw [toList_mk, toList_mk, bless]
  congr 2
  rcases s_tot a b with h | h | h
  · rw [decide_eq_true h, decide_eq_false (s_asy h)]; rfl
  · subst h; rw [decide_eq_true rfl, decide_eq_false (s_irr a)]; rfl
  · rw [decide_eq_false (s_asy h), decide_eq_false (show ¬ a = b from fun e => by subst e; exact s_irr _ h), decide_eq_true h]; rfl
theorem CmpS_ok (h : H) (a b : List UInt8) : Ok Try.prog 75 #[.string ⟨a.toArray⟩, .string ⟨b.toArray⟩] h fun v h' => v = .int .i64 (if a < b then -1 else if b < a then 1 else 0) ∧ h = h' := by
  refine c75_ok (args := [_, _]) (by simp) ?_
  simp (disch := omega) only [dm_t, wS, simprocAttr, IntKind.bits]
  refine (NaNS_ok h a).k ?_
  rintro _ _ ⟨rfl, rfl⟩
  simp (disch := omega) only [dm_t, wS, simprocAttr, IntKind.bits]
  refine (NaNS_ok _ b).k ?_
  rintro _ _ ⟨rfl, rfl⟩
  have r1 := b_lss .other a b
  have r2 := b_gtr .other a b
  by_cases h1 : a < b
  · rw [if_pos h1]
    rw [decide_eq_true h1] at r1
    simp (disch := omega) only [dm_t, wS, simprocAttr, IntKind.bits, r1]
  · rw [if_neg h1]
    rw [decide_eq_false h1] at r1
    by_cases h2 : b < a
    · rw [if_pos h2]
      rw [decide_eq_true h2] at r2
      simp (disch := omega) only [dm_t, wS, simprocAttr, IntKind.bits, r1, r2]
    · rw [if_neg h2]
      rw [decide_eq_false h2] at r2
      simp (disch := omega) only [dm_t, wS, simprocAttr, IntKind.bits, r1, r2]
theorem Or_ok {h : H} {a : Nat} {x y : Int} (q : h a = some (.cells #[.int .i64 x, .int .i64 y] 3)) : Ok Try.prog 74 #[.slice (some ⟨a, 0, none⟩) 2 2] h fun v h' => v = .int .i64 (if x ≠ 0 then x else y) ∧ h = h' := by
  refine c74_ok (args := [_]) (by simp) ?_
  have i0 : idxV1 1 (.slice (some ⟨a, 0, none⟩) 2 2) (.int .i64 0) = some (.pointer (some ⟨a, 0, none⟩)) := rfl
  have i1 : idxV1 1 (.slice (some ⟨a, 0, none⟩) 2 2) (.int .i64 1) = some (.pointer (some ⟨a, 1, none⟩)) := rfl
  have c0 : cellAt h ⟨a, 0, none⟩ = some (.int .i64 x) := by rw [cellAt_of q]; rfl
  have c1 : cellAt h ⟨a, 1, none⟩ = some (.int .i64 y) := by rw [cellAt_of q]; rfl
  simp (disch := omega) only [dm_t, wS, simprocAttr, IntKind.bits]
  refine vc_loop1 (fun vi G => G = h ∧ ∃ i : Nat, vi = .int .i64 (i : Int) ∧ i ≤ 2 ∧ (1 ≤ i → x = 0) ∧ (2 ≤ i → y = 0)) (fun vi _ => 2 - m1 vi) ?_ ?_
  · simp (disch := omega) only [dm_t, wS, simprocAttr, IntKind.bits]
    exact ⟨0, rfl, by omega, by omega, by omega⟩
  rintro _ _ ⟨rfl, i, rfl, hi, hx, hy⟩
  have hi3 : i = 0 ∨ i = 1 ∨ i = 2 := by omega
  rcases hi3 with rfl | rfl | rfl
  · have i0' : idxV1 1 (.slice (some ⟨a, 0, none⟩) 2 2) (.int .i64 ((0 : Nat) : Int)) = some (.pointer (some ⟨a, 0, none⟩)) := rfl
    by_cases h0 : x = 0
    · simp (disch := omega) only [dm_t, wS, simprocAttr, IntKind.bits, i0', c0]
      exact ⟨⟨1, rfl, by omega, fun _ => h0, by omega⟩, by simp [m1]⟩
    · simp (disch := omega) only [dm_t, wS, simprocAttr, IntKind.bits, i0', c0]
      rw [if_pos h0]
  · have i1' : idxV1 1 (.slice (some ⟨a, 0, none⟩) 2 2) (.int .i64 ((1 : Nat) : Int)) = some (.pointer (some ⟨a, 1, none⟩)) := rfl
    by_cases h0 : y = 0
    · simp (disch := omega) only [dm_t, wS, simprocAttr, IntKind.bits, i1', c1]
      exact ⟨⟨2, rfl, by omega, fun _ => hx (by omega), fun _ => h0⟩, by simp [m1]⟩
    · simp (disch := omega) only [dm_t, wS, simprocAttr, IntKind.bits, i1', c1]
      rw [if_neg (by simp [hx (by omega)])]
  · simp (disch := omega) only [dm_t, wS, simprocAttr, IntKind.bits]
    rw [if_neg (by simp [hx (by omega)]), hy (by omega)]
theorem less_ok {r s : Row} (h : H) (hr : Good r) (hs : Good s) : Ok Try.prog 73 #[.agg r.toArray, .agg s.toArray] h fun v h' => (∃ c : Int, v = .int .i64 c ∧ (c < 0 ↔ lt r s)) ∧ Ext h h' := by
  obtain ⟨r1, r2, a, m, o, t, rfl⟩ := hr
  obtain ⟨s1, s2, b, n, p, u, rfl⟩ := hs
  refine c73_ok (args := [_, _]) (by simp) ?_
  simp (disch := omega) only [dm_t, wS, simprocAttr, IntKind.bits]
  intro pa hpa pb hpb
  generalize hG : hupd h pa _ = g1 at hpb ⊢
  obtain ⟨e1, qa⟩ := new_ext hG hpa
  clear hG
  generalize hG : hupd g1 pb _ = g2
  obtain ⟨e2, qb⟩ := new_ext hG hpb
  clear hG
  have a0 : cellAt g2 ⟨pa, 0, none⟩ = some (.string ⟨a.toArray⟩) := by rw [cellAt_of (e2.at qa)]; rfl
  have a1 : cellAt g2 ⟨pa, 1, none⟩ = some (.int .i64 m) := by rw [cellAt_of (e2.at qa)]; rfl
  have b0 : cellAt g2 ⟨pb, 0, none⟩ = some (.string ⟨b.toArray⟩) := by rw [cellAt_of qb]; rfl
  have b1 : cellAt g2 ⟨pb, 1, none⟩ = some (.int .i64 n) := by rw [cellAt_of qb]; rfl
  simp (disch := omega) only [dm_t, wS, simprocAttr, IntKind.bits, a0, a1, b0, b1]
  refine (CmpS_ok g2 a b).k ?_
  rintro _ _ ⟨rfl, rfl⟩
  simp (disch := omega) only [dm_t, wS, simprocAttr, IntKind.bits, a0, a1, b0, b1]
  refine (CmpI_ok _ m n).k ?_
  rintro _ _ ⟨rfl, rfl⟩
  simp (disch := omega) only [dm_t, wS, simprocAttr, IntKind.bits, a0, a1, b0, b1]
  intro c hc
  generalize hG : hupd g2 c _ = g3
  obtain ⟨e3, qc⟩ := new_ext hG hc
  clear hG
  refine (Or_ok qc).k ?_
  rintro _ _ ⟨rfl, rfl⟩
  have a0' := cellAt_ext e3 a0
  have a1' := cellAt_ext e3 a1
  have b0' := cellAt_ext e3 b0
  have b1' := cellAt_ext e3 b1
  simp (disch := omega) only [dm_t, wS, simprocAttr, IntKind.bits, a0', a1', b0', b1']
  refine ⟨⟨_, rfl, ?_⟩, (e1.trans e2).trans e3⟩
  show _ ↔ kLt (a, m) (b, n)
  simp only [kLt]
  rcases s_tot a b with h1 | h1 | h1
  · rw [if_pos h1]
    simp [h1]
  · subst h1
    rw [if_neg (s_irr a), if_neg (s_irr a)]
    have := s_irr a
    by_cases h2 : m < n
    · simp [h2]
    · by_cases h3 : n < m
      · simp [h2, h3, this]
      · simp [h2, h3, this]
  · have h2 := s_asy h1
    have h3 : ¬ a = b := fun e => by subst e; exact s_irr _ h1
    rw [if_neg h2, if_pos h1]
    simp [h2, h3]
end Go.Proofs.Ythhofmjhnjkcfaa.so
