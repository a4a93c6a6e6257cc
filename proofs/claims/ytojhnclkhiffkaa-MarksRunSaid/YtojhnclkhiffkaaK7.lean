/-
  The check of a tree, and: the walk of a checked tree serves every order.
-/
import Derived.Test.YtojhnclkhiffkaaK6
namespace Go.Proofs.Ytojhnclkhiffkaa
set_option linter.unusedVariables false

def depsOf (ops : Array Oper) (i : Nat) : List Nat :=
  match ops[i]? with
  | some o => (o.after.toList.filter (Region.binds .any)).map (·.on)
  | none => []
def ancB (A : List (List Nat)) (x y : Nat) : Bool := (A.getD y []).contains x
def okA (ops : Array Oper) (A : List (List Nat)) : Bool :=
  (List.range ops.size).all fun i => (A.getD i []).all fun x => (depsOf ops i).contains x || (depsOf ops i).any fun d => decide (d < i) && ancB A x d
def apartB (ops : Array Oper) (x y : Nat) : Bool :=
  match ops[x]?, ops[y]? with
  | some ox, some oy => ox.apart ops oy
  | _, _ => false
def hds : HT → List Nat
  | .e i _ _ => [i]
  | .al i _ _ t => i :: hds t
  | _ => []
/-- An effect that comes next, with r behind it. -/
def okB (ops : Array Oper) (A : List (List Nat)) (E : List Nat) (i : Nat) (Z : List Nat) (r : HT) : Bool :=
  decide (i < ops.size) && (E.all fun x => ancB A x i || (apartB ops x i && Z.contains x)) && ((depsOf ops i).all fun d => decide (d < ops.size) && d != i && !r.all.contains d) && !r.all.contains i
/-- .. among the effects H, of all that is left, L. -/
def okC (A : List (List Nat)) (H L : List Nat) (i : Nat) (r : HT) : Bool :=
  H.contains i && L.contains i && (r.all.all fun y => L.contains y && (H.contains y || H.any fun x => ancB A x y)) && (L.all fun y => y == i || r.all.contains y) && decide (r.all.length + 1 = L.length)
def okT (ops : Array Oper) (A : List (List Nat)) : List Nat → Option (List Nat × List Nat) → HT → Bool
  | _, c, .done => c.isNone
  | E, c, .q i r => c.isNone && decide (i < ops.size) && (E.all fun x => ancB A x i || apartB ops x i) && ((depsOf ops i).all fun d => decide (d < ops.size) && d != i && !r.all.contains d) && !r.all.contains i && okT ops A (i :: E) none r
  | E, c, .e i Z r => okB ops A E i Z r && okC A (c.getD ([i], i :: r.all)).1 (c.getD ([i], i :: r.all)).2 i r && okT ops A E none r
  | E, c, .al i Z r t => okB ops A E i Z r && okC A (c.getD (i :: hds t, i :: r.all)).1 (c.getD (i :: hds t, i :: r.all)).2 i r && okT ops A E none r && okT ops A E (some (c.getD (i :: hds t, i :: r.all))) t

section
variable {ops : Array Oper} {A : List (List Nat)}

theorem apartI_of {x y : Nat} (h : apartB ops x y = true) : apartI ops x y := by
  intro ox oy hx hy
  unfold apartB at h
  rw [hx, hy] at h
  exact h

theorem okB_spec {E : List Nat} {i : Nat} {Z : List Nat} {r : HT} (h : okB ops A E i Z r = true) : i < ops.size ∧ (∀ x ∈ E, ancB A x i = true ∨ (apartI ops x i ∧ x ∈ Z)) ∧ (∀ d ∈ depsOf ops i, d < ops.size ∧ d ≠ i ∧ d ∉ r.all) ∧ i ∉ r.all := by
  simp only [okB, Bool.and_eq_true, decide_eq_true_eq, List.all_eq_true, Bool.or_eq_true, bne_iff_ne, Bool.not_eq_true', List.contains_eq_mem, decide_eq_false_iff_not] at h
  obtain ⟨⟨⟨h1, h2⟩, h3⟩, h4⟩ := h
  exact ⟨h1, fun x hx => (h2 x hx).imp id fun h => ⟨apartI_of h.1, h.2⟩, fun d hd => ⟨(h3 d hd).1.1, (h3 d hd).1.2, (h3 d hd).2⟩, h4⟩
theorem okC_spec {H L : List Nat} {i : Nat} {r : HT} (h : okC A H L i r = true) : i ∈ H ∧ i ∈ L ∧ (∀ y ∈ r.all, y ∈ L ∧ (y ∈ H ∨ ∃ x ∈ H, ancB A x y = true)) ∧ (∀ y ∈ L, y = i ∨ y ∈ r.all) ∧ r.all.length + 1 = L.length := by
  simp only [okC, Bool.and_eq_true, decide_eq_true_eq, List.all_eq_true, List.any_eq_true, Bool.or_eq_true, beq_iff_eq, List.contains_eq_mem] at h
  obtain ⟨⟨⟨⟨h1, h2⟩, h3⟩, h4⟩, h5⟩ := h
  exact ⟨h1, h2, h3, h4, h5⟩
theorem okB_weak {E E' : List Nat} {i : Nat} {Z : List Nat} {r : HT} (hs : ∀ x ∈ E', x ∈ E) (h : okB ops A E i Z r = true) : okB ops A E' i Z r = true := by
  simp only [okB, Bool.and_eq_true] at h ⊢
  obtain ⟨⟨⟨h1, h2⟩, h3⟩, h4⟩ := h
  refine ⟨⟨⟨h1, ?_⟩, h3⟩, h4⟩
  rw [List.all_eq_true] at h2 ⊢
  exact fun x hx => h2 x (hs x hx)
theorem okT_weak : ∀ (t : HT) {E E' : List Nat} {c : Option (List Nat × List Nat)}, (∀ x ∈ E', x ∈ E) → okT ops A E c t = true → okT ops A E' c t = true
  | .done, _, _, _, _, h => h
  | .q i r, E, E', c, hs, h => by
    simp only [okT, Bool.and_eq_true] at h ⊢
    obtain ⟨⟨⟨⟨⟨h0, h1⟩, h2⟩, h3⟩, h4⟩, h5⟩ := h
    refine ⟨⟨⟨⟨⟨h0, h1⟩, ?_⟩, h3⟩, h4⟩, okT_weak r (fun x hx => ?_) h5⟩
    · rw [List.all_eq_true] at h2 ⊢
      exact fun x hx => h2 x (hs x hx)
    · rcases List.mem_cons.1 hx with rfl | hx
      · exact List.mem_cons_self
      · exact List.mem_cons_of_mem _ (hs x hx)
  | .e i Z r, E, E', c, hs, h => by
    simp only [okT, Bool.and_eq_true] at h ⊢
    exact ⟨⟨okB_weak hs h.1.1, h.1.2⟩, okT_weak r hs h.2⟩
  | .al i Z r t, E, E', c, hs, h => by
    simp only [okT, Bool.and_eq_true] at h ⊢
    exact ⟨⟨⟨okB_weak hs h.1.1.1, h.1.1.2⟩, okT_weak r hs h.1.2⟩, okT_weak t hs h.2⟩

/-- What is known of an effect at the root. -/
theorem alt_get : ∀ (t : HT) {E : List Nat} {c : Option (List Nat × List Nat)} {i : Nat} {Z : List Nat} {r0 : HT}, okT ops A E c t = true → Hd i Z r0 t →
    okB ops A E i Z r0 = true ∧ okT ops A E none r0 = true ∧ okC A (c.getD (hds t, t.all)).1 (c.getD (hds t, t.all)).2 i r0 = true
  | .e j Zj rj, E, c, i, Z, r0, h, hn => by
    obtain ⟨rfl, rfl, rfl⟩ := hn
    simp only [okT, Bool.and_eq_true] at h
    exact ⟨h.1.1, h.2, h.1.2⟩
  | .al j Zj rj t, E, c, i, Z, r0, h, hn => by
    simp only [okT, Bool.and_eq_true] at h
    rcases hn with ⟨rfl, rfl, rfl⟩ | hn
    · exact ⟨h.1.1.1, h.1.2, h.1.1.2⟩
    · exact alt_get t h.2 hn
  | .done, _, _, _, _, _, _, hn => hn.elim
  | .q .., _, _, _, _, _, _, hn => hn.elim
theorem hds_mem : ∀ (t : HT) {i : Nat}, i ∈ hds t → ∃ Z r0, Hd i Z r0 t
  | .e j Zj rj, i, h => by
    have : i = j := by simpa [hds] using h
    exact ⟨Zj, rj, this, rfl, rfl⟩
  | .al j Zj rj t, i, h => by
    rcases List.mem_cons.1 h with h | h
    · exact ⟨Zj, rj, .inl ⟨h, rfl, rfl⟩⟩
    · obtain ⟨Z, r0, h⟩ := hds_mem t h
      exact ⟨Z, r0, .inr h⟩
  | .done, _, h => by cases h
  | .q .., _, h => by cases h

theorem pre_all : ∀ (t : HT) {x : Nat}, x ∈ t.pre → x ∈ t.all
  | .q i r, x, h => by
    rcases List.mem_cons.1 h with rfl | h
    · exact List.mem_cons_self
    · exact List.mem_cons_of_mem _ (pre_all r h)
  | .done, _, h => by cases h
  | .e .., _, h => by cases h
  | .al .., _, h => by cases h

theorem del_all : ∀ (t : HT) {E : List Nat} {i : Nat}, okT ops A E none t = true → i ∈ t.pre → (∀ y, y ∈ (t.del i).all ↔ y ∈ t.all ∧ y ≠ i) ∧ (t.del i).all.length + 1 = t.all.length
  | .q j r, E, i, h, hm => by
    simp only [okT, Bool.and_eq_true, Bool.not_eq_true', List.contains_eq_mem, decide_eq_false_iff_not] at h
    obtain ⟨⟨_, h4⟩, h5⟩ := h
    by_cases hji : j = i
    · subst hji
      refine ⟨fun y => ?_, by simp [HT.del, HT.all]⟩
      simp only [HT.del, if_true, HT.all, List.mem_cons]
      refine ⟨fun hy => ⟨.inr hy, fun e => h4 (e ▸ hy)⟩, fun ⟨hy, hn⟩ => hy.resolve_left hn⟩
    · have hmr : i ∈ r.pre := by
        rcases List.mem_cons.1 hm with h' | h'
        · exact absurd h'.symm hji
        · exact h'
      obtain ⟨h6, h7⟩ := del_all r h5 hmr
      simp only [HT.del, if_neg hji, HT.all, List.mem_cons, List.length_cons]
      refine ⟨fun y => ?_, by omega⟩
      rw [h6]
      refine ⟨fun hy => ?_, fun ⟨hy, hn⟩ => ?_⟩
      · rcases hy with rfl | hy
        · exact ⟨.inl rfl, hji⟩
        · exact ⟨.inr hy.1, hy.2⟩
      · rcases hy with rfl | hy
        · exact .inl rfl
        · exact .inr ⟨hy, hn⟩
  | .done, _, _, _, h => by cases h
  | .e .., _, _, _, h => by cases h
  | .al .., _, _, _, h => by cases h

theorem okT_del : ∀ (t : HT) {E : List Nat} {i : Nat}, okT ops A E none t = true → i ∈ t.pre → okT ops A E none (t.del i) = true
  | .q j r, E, i, h, hm => by
    have h0 := h
    simp only [okT, Bool.and_eq_true] at h
    obtain ⟨⟨⟨⟨⟨h0', h1⟩, h2⟩, h3⟩, h4⟩, h5⟩ := h
    by_cases hji : j = i
    · subst hji
      simp only [HT.del, if_true]
      exact okT_weak r (fun x hx => List.mem_cons_of_mem _ hx) h5
    · have hmr : i ∈ r.pre := by
        rcases List.mem_cons.1 hm with h' | h'
        · exact absurd h'.symm hji
        · exact h'
      have hd := (del_all r h5 hmr).1
      simp only [HT.del, if_neg hji, okT, Bool.and_eq_true]
      refine ⟨⟨⟨⟨⟨h0', h1⟩, h2⟩, ?_⟩, ?_⟩, okT_del r h5 hmr⟩
      · rw [List.all_eq_true] at h3 ⊢
        intro d hd'
        have := h3 d hd'
        simp only [Bool.and_eq_true, Bool.not_eq_true', List.contains_eq_mem, decide_eq_false_iff_not] at this ⊢
        exact ⟨this.1, fun hc => this.2 ((hd d).1 hc).1⟩
      · simp only [Bool.not_eq_true', List.contains_eq_mem, decide_eq_false_iff_not] at h4 ⊢
        exact fun hc => h4 ((hd j).1 hc).1
  | .done, _, _, _, h => by cases h
  | .e .., _, _, _, h => by cases h
  | .al .., _, _, _, h => by cases h

theorem root_all : ∀ (t : HT) {E : List Nat} {i : Nat} {Z : List Nat} {r0 : HT}, okT ops A E none t = true → Nxt i Z r0 t → i ∈ t.all
  | .q j r, E, i, Z, r0, h, hn => by
    simp only [okT, Bool.and_eq_true] at h
    exact List.mem_cons_of_mem _ (root_all r h.2 hn)
  | .done, _, _, _, _, _, hn => (show False from hn).elim
  | .e k Zk rk, E, i, Z, r0, h, hn => (okC_spec (alt_get _ h hn).2.2).2.1
  | .al k Zk rk t, E, i, Z, r0, h, hn => (okC_spec (alt_get _ h hn).2.2).2.1
theorem alt_all {t : HT} {E : List Nat} {i : Nat} {Z : List Nat} {r0 : HT} (h : okT ops A E none t = true) (hn : Hd i Z r0 t) : (∀ y, y ∈ r0.all ↔ y ∈ t.all ∧ y ≠ i) ∧ r0.all.length + 1 = t.all.length := by
  obtain ⟨h1, h2, h3⟩ := alt_get t h hn
  obtain ⟨_, _, _, b4⟩ := okB_spec h1
  obtain ⟨_, c2, c3, c4, c5⟩ := okC_spec h3
  exact ⟨fun y => ⟨fun hy => ⟨(c3 y hy).1, fun e => b4 (e ▸ hy)⟩, fun ⟨hy, hne⟩ => (c4 y hy).resolve_left hne⟩, c5⟩
theorem att_all : ∀ (t : HT) {E : List Nat} {i : Nat} {Z : List Nat} {r0 : HT}, okT ops A E none t = true → Nxt i Z r0 t → (∀ y, y ∈ (t.att r0).all ↔ y ∈ t.all ∧ y ≠ i) ∧ (t.att r0).all.length + 1 = t.all.length
  | .q j r, E, i, Z, r0, h, hn => by
    simp only [okT, Bool.and_eq_true, Bool.not_eq_true', List.contains_eq_mem, decide_eq_false_iff_not] at h
    obtain ⟨⟨_, h4⟩, h5⟩ := h
    obtain ⟨h6, h7⟩ := att_all r h5 (hn : Nxt i Z r0 r)
    have hji : j ≠ i := by
      rintro rfl
      exact h4 (root_all r h5 hn)
    simp only [HT.att, HT.all, List.mem_cons, List.length_cons]
    refine ⟨fun y => ?_, by omega⟩
    rw [h6]
    refine ⟨fun hy => ?_, fun ⟨hy, hn⟩ => ?_⟩
    · rcases hy with rfl | hy
      · exact ⟨.inl rfl, hji⟩
      · exact ⟨.inr hy.1, hy.2⟩
    · rcases hy with rfl | hy
      · exact .inl rfl
      · exact .inr ⟨hy, hn⟩
  | .done, E, i, Z, r0, h, hn => (show False from hn).elim
  | .e k Zk rk, E, i, Z, r0, h, hn => alt_all h hn
  | .al k Zk rk t, E, i, Z, r0, h, hn => alt_all h hn

theorem okT_att : ∀ (t : HT) {E : List Nat} {i : Nat} {Z : List Nat} {r0 : HT}, okT ops A E none t = true → Nxt i Z r0 t → okT ops A E none (t.att r0) = true
  | .q j r, E, i, Z, r0, h, hn => by
    simp only [okT, Bool.and_eq_true] at h
    obtain ⟨⟨⟨⟨⟨h0, h1⟩, h2⟩, h3⟩, h4⟩, h5⟩ := h
    have hd := (att_all r h5 (hn : Nxt i Z r0 r)).1
    simp only [HT.att, okT, Bool.and_eq_true]
    refine ⟨⟨⟨⟨⟨h0, h1⟩, h2⟩, ?_⟩, ?_⟩, okT_att r h5 hn⟩
    · rw [List.all_eq_true] at h3 ⊢
      intro d hd'
      have := h3 d hd'
      simp only [Bool.and_eq_true, Bool.not_eq_true', List.contains_eq_mem, decide_eq_false_iff_not] at this ⊢
      exact ⟨this.1, fun hc => this.2 ((hd d).1 hc).1⟩
    · simp only [Bool.not_eq_true', List.contains_eq_mem, decide_eq_false_iff_not] at h4 ⊢
      exact fun hc => h4 ((hd j).1 hc).1
  | .done, E, i, Z, r0, h, hn => (show False from hn).elim
  | .e k Zk rk, E, i, Z, r0, h, hn => (alt_get _ h hn).2.1
  | .al k Zk rk t, E, i, Z, r0, h, hn => (alt_get _ h hn).2.1

theorem okT_E : ∀ (t : HT) {E : List Nat} {i x : Nat}, okT ops A E none t = true → i ∈ t.pre → x ∈ E → ancB A x i = true ∨ apartI ops x i
  | .q j r, E, i, x, h, hm, hx => by
    simp only [okT, Bool.and_eq_true] at h
    obtain ⟨⟨⟨⟨⟨h0, h1⟩, h2⟩, h3⟩, h4⟩, h5⟩ := h
    rcases List.mem_cons.1 hm with rfl | hm
    · rw [List.all_eq_true] at h2
      have := h2 x hx
      simp only [Bool.or_eq_true] at this
      exact this.imp id apartI_of
    · exact okT_E r h5 hm (List.mem_cons_of_mem _ hx)
  | .done, _, _, _, _, h, _ => by cases h
  | .e .., _, _, _, _, h, _ => by cases h
  | .al .., _, _, _, _, h, _ => by cases h

theorem apB_of : ∀ (t : HT) {E : List Nat} {i : Nat}, okT ops A E none t = true → i ∈ t.pre → (∀ x ∈ t.all, ancB A x i = false) → apB ops i t
  | .q j r, E, i, h, hm, hn => by
    by_cases hji : j = i
    · exact .inl hji
    · have hmr : i ∈ r.pre := by
        rcases List.mem_cons.1 hm with h' | h'
        · exact absurd h'.symm hji
        · exact h'
      simp only [okT, Bool.and_eq_true] at h
      refine .inr ⟨?_, apB_of r h.2 hmr (fun x hx => hn x (List.mem_cons_of_mem _ hx))⟩
      rcases okT_E r h.2 hmr List.mem_cons_self with h' | h'
      · rw [hn j List.mem_cons_self] at h'; cases h'
      · exact h'
  | .done, _, _, _, h, _ => by cases h
  | .e .., _, _, _, h, _ => by cases h
  | .al .., _, _, _, h, _ => by cases h

theorem okT_EZ : ∀ (t : HT) {E : List Nat} {i x : Nat} {Z : List Nat} {r0 : HT}, okT ops A E none t = true → Nxt i Z r0 t → x ∈ E → ancB A x i = true ∨ (apartI ops x i ∧ x ∈ Z)
  | .q j r, E, i, x, Z, r0, h, hn, hx => by
    simp only [okT, Bool.and_eq_true] at h
    exact okT_EZ r h.2 hn (List.mem_cons_of_mem _ hx)
  | .done, E, i, x, Z, r0, h, hn, hx => (show False from hn).elim
  | .e k Zk rk, E, i, x, Z, r0, h, hn, hx => (okB_spec (alt_get _ h hn).1).2.1 x hx
  | .al k Zk rk t, E, i, x, Z, r0, h, hn, hx => (okB_spec (alt_get _ h hn).1).2.1 x hx

theorem preE_of : ∀ (t : HT) {E : List Nat} {i : Nat} {Z : List Nat} {r0 : HT}, okT ops A E none t = true → Nxt i Z r0 t → (∀ x ∈ t.all, ancB A x i = false) → preE ops i Z t
  | .q j r, E, i, Z, r0, h, hn, ha => by
    simp only [okT, Bool.and_eq_true] at h
    rcases okT_EZ r h.2 hn List.mem_cons_self with h' | ⟨h1, h2⟩
    · rw [ha j List.mem_cons_self] at h'; cases h'
    · exact ⟨h1, h2, preE_of r h.2 hn (fun x hx => ha x (List.mem_cons_of_mem _ hx))⟩
  | .done, _, _, _, _, _, _, _ => trivial
  | .e .., _, _, _, _, _, _, _ => trivial
  | .al .., _, _, _, _, _, _, _ => trivial

theorem alt_cases {t : HT} {E : List Nat} {i k : Nat} {Z : List Nat} {r0 : HT} (h : okT ops A E none t = true) (hk : Hd k Z r0 t) (hm : i ∈ t.all) (ha : ∀ x ∈ t.all, ancB A x i = false) : ∃ Z r0, Hd i Z r0 t := by
  obtain ⟨h1, h2, h3⟩ := alt_get t h hk
  obtain ⟨c1, c2, c3, c4, c5⟩ := okC_spec h3
  have hin : i ∈ hds t := by
    rcases c4 i hm with rfl | h'
    · exact c1
    · rcases (c3 i h').2 with h' | ⟨x, hx, hxa⟩
      · exact h'
      · obtain ⟨Z', r', hx'⟩ := hds_mem t hx
        have := (okC_spec (alt_get t h hx').2.2).2.1
        rw [ha x this] at hxa; cases hxa
  exact hds_mem t hin
/-- What is ready is a leading reader or a next effect. -/
theorem cases_of : ∀ (t : HT) {E : List Nat} {i : Nat}, okT ops A E none t = true → i ∈ t.all → (∀ x ∈ t.all, ancB A x i = false) → i ∈ t.pre ∨ ∃ Z r0, Nxt i Z r0 t
  | .q j r, E, i, h, hm, ha => by
    simp only [okT, Bool.and_eq_true] at h
    rcases List.mem_cons.1 hm with rfl | hm
    · exact .inl List.mem_cons_self
    · rcases cases_of r h.2 hm (fun x hx => ha x (List.mem_cons_of_mem _ hx)) with h' | ⟨Z, r0, h'⟩
      · exact .inl (List.mem_cons_of_mem _ h')
      · exact .inr ⟨Z, r0, h'⟩
  | .done, _, _, _, h, _ => by cases h
  | .e k Zk rk, E, i, h, hm, ha => .inr (alt_cases (t := .e k Zk rk) h ⟨rfl, rfl, rfl⟩ hm ha)
  | .al k Zk rk t, E, i, h, hm, ha => .inr (alt_cases (t := .al k Zk rk t) h (.inl ⟨rfl, rfl, rfl⟩) hm ha)
end
end Go.Proofs.Ytojhnclkhiffkaa
