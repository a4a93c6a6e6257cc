/-
  The check of a tree, and: the walk of a checked tree serves every order.
-/
import Derived.Test.YtcebmbnofejlhaaK6
namespace Go.Proofs.Ytcebmbnofejlhaa
set_option linter.unusedVariables false

def depsOf (ops : Array Oper) (i : Nat) : List Nat :=
  match ops[i]? with
  | some o => (o.after.toList.filter (Region.binds .any)).map (·.on)
  | none => []
def ancB (A : List (List Nat)) (x y : Nat) : Bool := (A.getD y []).contains x
def okA (ops : Array Oper) (A : List (List Nat)) : Bool :=
  (List.range ops.size).all fun i => (A.getD i []).all fun x => (depsOf ops i).contains x || (depsOf ops i).any fun d => decide (d < i) && ancB A x d
def apartB (ops : Array Oper) (x y : Nat) : Bool :=
  match ops[x]?, ops[y]? with
  | some ox, some oy => ox.apart ops oy
  | _, _ => false
def okT (ops : Array Oper) (A : List (List Nat)) (E : List Nat) : HT → Bool
  | .done => true
  | .q i r => decide (i < ops.size) && (E.all fun x => ancB A x i || apartB ops x i) && ((depsOf ops i).all fun d => decide (d < ops.size) && d != i && !r.all.contains d) && !r.all.contains i && okT ops A (i :: E) r
  | .e i Z r => decide (i < ops.size) && (E.all fun x => ancB A x i || (apartB ops x i && Z.contains x)) && ((depsOf ops i).all fun d => decide (d < ops.size) && d != i && !r.all.contains d) && !r.all.contains i &&
    (r.all.all fun y => ancB A i y) && okT ops A E r
  | .e2 i Z r i' Z' r' =>
    (decide (i < ops.size) && (E.all fun x => ancB A x i || (apartB ops x i && Z.contains x)) && ((depsOf ops i).all fun d => decide (d < ops.size) && d != i && !r.all.contains d) && !r.all.contains i &&
      (r.all.all fun y => y == i' || ancB A i y || ancB A i' y) && okT ops A E r) &&
    (decide (i' < ops.size) && (E.all fun x => ancB A x i' || (apartB ops x i' && Z'.contains x)) && ((depsOf ops i').all fun d => decide (d < ops.size) && d != i' && !r'.all.contains d) && !r'.all.contains i' &&
      (r'.all.all fun y => y == i || ancB A i y || ancB A i' y) && okT ops A E r') &&
    (r.all.contains i' && r'.all.contains i && (r.all.all fun y => y == i' || r'.all.contains y) && (r'.all.all fun y => y == i || r.all.contains y) && r.all.length == r'.all.length && i != i')

section
variable {P : Program} {ops : Array Oper} {Q : Exit → Act → World → Prop} {A : List (List Nat)}

theorem apartI_of {x y : Nat} (h : apartB ops x y = true) : apartI ops x y := by
  intro ox oy hx hy
  unfold apartB at h
  rw [hx, hy] at h
  exact h

theorem okT_weak : ∀ (t : HT) {E E' : List Nat}, (∀ x ∈ E', x ∈ E) → okT ops A E t = true → okT ops A E' t = true
  | .done, _, _, _, _ => rfl
  | .q i r, E, E', hs, h => by
    simp only [okT, Bool.and_eq_true] at h ⊢
    obtain ⟨⟨⟨⟨h1, h2⟩, h3⟩, h4⟩, h5⟩ := h
    refine ⟨⟨⟨⟨h1, ?_⟩, h3⟩, h4⟩, okT_weak r (fun x hx => ?_) h5⟩
    · rw [List.all_eq_true] at h2 ⊢
      exact fun x hx => h2 x (hs x hx)
    · rcases List.mem_cons.1 hx with rfl | hx
      · exact List.mem_cons_self
      · exact List.mem_cons_of_mem _ (hs x hx)
  | .e i Z r, E, E', hs, h => by
    simp only [okT, Bool.and_eq_true] at h ⊢
    obtain ⟨⟨⟨⟨⟨h1, h2⟩, h3⟩, h4⟩, h5⟩, h6⟩ := h
    refine ⟨⟨⟨⟨⟨h1, ?_⟩, h3⟩, h4⟩, h5⟩, okT_weak r hs h6⟩
    rw [List.all_eq_true] at h2 ⊢
    exact fun x hx => h2 x (hs x hx)
  | .e2 i Z r i' Z' r', E, E', hs, h => by
    simp only [okT, Bool.and_eq_true] at h ⊢
    obtain ⟨⟨⟨⟨⟨⟨⟨h1, h2⟩, h3⟩, h4⟩, h5⟩, h6⟩, ⟨⟨⟨⟨⟨k1, k2⟩, k3⟩, k4⟩, k5⟩, k6⟩⟩, h7⟩ := h
    refine ⟨⟨⟨⟨⟨⟨⟨h1, ?_⟩, h3⟩, h4⟩, h5⟩, okT_weak r hs h6⟩, ⟨⟨⟨⟨⟨k1, ?_⟩, k3⟩, k4⟩, k5⟩, okT_weak r' hs k6⟩⟩, h7⟩
    · rw [List.all_eq_true] at h2 ⊢
      exact fun x hx => h2 x (hs x hx)
    · rw [List.all_eq_true] at k2 ⊢
      exact fun x hx => k2 x (hs x hx)

theorem pre_all : ∀ (t : HT) {x : Nat}, x ∈ t.pre → x ∈ t.all
  | .q i r, x, h => by
    rcases List.mem_cons.1 h with rfl | h
    · exact List.mem_cons_self
    · exact List.mem_cons_of_mem _ (pre_all r h)
  | .done, _, h => by cases h
  | .e .., _, h => by cases h
  | .e2 .., _, h => by cases h

theorem del_all : ∀ (t : HT) {E : List Nat} {i : Nat}, okT ops A E t = true → i ∈ t.pre → (∀ y, y ∈ (t.del i).all ↔ y ∈ t.all ∧ y ≠ i) ∧ (t.del i).all.length + 1 = t.all.length
  | .q j r, E, i, h, hm => by
    simp only [okT, Bool.and_eq_true, Bool.not_eq_true', List.contains_eq_mem, decide_eq_false_iff_not] at h
    obtain ⟨⟨_, h4⟩, h5⟩ := h
    by_cases hji : j = i
    · subst hji
      refine ⟨fun y => ?_, by simp [HT.del, HT.all]⟩
      simp only [HT.del, if_true, HT.all, List.mem_cons]
      refine ⟨fun hy => ⟨.inr hy, fun e => h4 (e ▸ hy)⟩, fun ⟨hy, hn⟩ => hy.resolve_left hn⟩
    · have hmr : i ∈ r.pre := by
        rcases List.mem_cons.1 hm with h' | h'
        · exact absurd h'.symm hji
        · exact h'
      obtain ⟨h6, h7⟩ := del_all r h5 hmr
      simp only [HT.del, if_neg hji, HT.all, List.mem_cons, List.length_cons]
      refine ⟨fun y => ?_, by omega⟩
      rw [h6]
      refine ⟨fun hy => ?_, fun ⟨hy, hn⟩ => ?_⟩
      · rcases hy with rfl | hy
        · exact ⟨.inl rfl, hji⟩
        · exact ⟨.inr hy.1, hy.2⟩
      · rcases hy with rfl | hy
        · exact .inl rfl
        · exact .inr ⟨hy, hn⟩
  | .done, _, _, _, h => by cases h
  | .e .., _, _, _, h => by cases h
  | .e2 .., _, _, _, h => by cases h

theorem okT_del : ∀ (t : HT) {E : List Nat} {i : Nat}, okT ops A E t = true → i ∈ t.pre → okT ops A E (t.del i) = true
  | .q j r, E, i, h, hm => by
    have h0 := h
    simp only [okT, Bool.and_eq_true] at h
    obtain ⟨⟨⟨⟨h1, h2⟩, h3⟩, h4⟩, h5⟩ := h
    by_cases hji : j = i
    · subst hji
      simp only [HT.del, if_true]
      exact okT_weak r (fun x hx => List.mem_cons_of_mem _ hx) h5
    · have hmr : i ∈ r.pre := by
        rcases List.mem_cons.1 hm with h' | h'
        · exact absurd h'.symm hji
        · exact h'
      have hd := (del_all r h5 hmr).1
      simp only [HT.del, if_neg hji, okT, Bool.and_eq_true]
      refine ⟨⟨⟨⟨h1, h2⟩, ?_⟩, ?_⟩, okT_del r h5 hmr⟩
      · rw [List.all_eq_true] at h3 ⊢
        intro d hd'
        have := h3 d hd'
        simp only [Bool.and_eq_true, Bool.not_eq_true', List.contains_eq_mem, decide_eq_false_iff_not] at this ⊢
        exact ⟨this.1, fun hc => this.2 ((hd d).1 hc).1⟩
      · simp only [Bool.not_eq_true', List.contains_eq_mem, decide_eq_false_iff_not] at h4 ⊢
        exact fun hc => h4 ((hd j).1 hc).1
  | .done, _, _, _, h => by cases h
  | .e .., _, _, _, h => by cases h
  | .e2 .., _, _, _, h => by cases h

theorem att_all : ∀ (t : HT) {E : List Nat} {i : Nat} {Z : List Nat} {r0 : HT}, okT ops A E t = true → Nxt i Z r0 t → (∀ y, y ∈ (t.att r0).all ↔ y ∈ t.all ∧ y ≠ i) ∧ (t.att r0).all.length + 1 = t.all.length
  | .q j r, E, i, Z, r0, h, hn => by
    simp only [okT, Bool.and_eq_true, Bool.not_eq_true', List.contains_eq_mem, decide_eq_false_iff_not] at h
    obtain ⟨⟨_, h4⟩, h5⟩ := h
    obtain ⟨h6, h7⟩ := att_all r h5 (hn : Nxt i Z r0 r)
    have hji : j ≠ i := by
      rintro rfl
      refine h4 ?_
      -- 'i' is in the tree
      have : ∀ (t : HT) {E : List Nat}, okT ops A E t = true → Nxt j Z r0 t → j ∈ t.all := by
        intro t
        induction t with
        | done => intro E _ hn; rcases hn with hn | ⟨_, _, _, hn⟩ | ⟨_, _, _, hn⟩ <;> cases hn
        | q k r ih => intro E h hn; simp only [okT, Bool.and_eq_true] at h; exact List.mem_cons_of_mem _ (ih h.2 hn)
        | e k Zk rk _ =>
          intro E h hn
          rcases hn with hn | ⟨_, _, _, hn⟩ | ⟨_, _, _, hn⟩
          · simp only [HT.root, HT.e.injEq] at hn; rw [hn.1]; exact List.mem_cons_self
          · cases hn
          · cases hn
        | e2 k Zk rk k' Zk' rk' _ _ =>
          intro E h hn
          simp only [okT, Bool.and_eq_true, List.contains_eq_mem, decide_eq_true_eq] at h
          rcases hn with hn | ⟨_, _, _, hn⟩ | ⟨_, _, _, hn⟩
          · cases hn
          · simp only [HT.root, HT.e2.injEq] at hn; rw [hn.1]; exact List.mem_cons_self
          · simp only [HT.root, HT.e2.injEq] at hn
            obtain ⟨_, _, _, rfl, _⟩ := hn
            exact List.mem_cons_of_mem _ h.2.1.1.1.1.1
      exact this r h5 hn
    simp only [HT.att, HT.all, List.mem_cons, List.length_cons]
    refine ⟨fun y => ?_, by omega⟩
    rw [h6]
    refine ⟨fun hy => ?_, fun ⟨hy, hn⟩ => ?_⟩
    · rcases hy with rfl | hy
      · exact ⟨.inl rfl, hji⟩
      · exact ⟨.inr hy.1, hy.2⟩
    · rcases hy with rfl | hy
      · exact .inl rfl
      · exact .inr ⟨hy, hn⟩
  | .done, E, i, Z, r0, h, hn => by rcases hn with hn | ⟨_, _, _, hn⟩ | ⟨_, _, _, hn⟩ <;> cases hn
  | .e k Zk rk, E, i, Z, r0, h, hn => by
    rcases hn with hn | ⟨_, _, _, hn⟩ | ⟨_, _, _, hn⟩
    · simp only [HT.root, HT.e.injEq] at hn
      obtain ⟨rfl, rfl, rfl⟩ := hn
      simp only [okT, Bool.and_eq_true, Bool.not_eq_true', List.contains_eq_mem, decide_eq_false_iff_not] at h
      obtain ⟨⟨⟨_, h4⟩, _⟩, _⟩ := h
      refine ⟨fun y => ?_, by simp [HT.att, HT.all]⟩
      simp only [HT.att, HT.all, List.mem_cons]
      exact ⟨fun hy => ⟨.inr hy, fun e => h4 (e ▸ hy)⟩, fun ⟨hy, hn⟩ => hy.resolve_left hn⟩
    · cases hn
    · cases hn
  | .e2 k Zk rk k' Zk' rk', E, i, Z, r0, h, hn => by
    simp only [okT, Bool.and_eq_true, Bool.not_eq_true', List.contains_eq_mem, decide_eq_false_iff_not, decide_eq_true_eq, List.all_eq_true, Bool.or_eq_true, beq_iff_eq, bne_iff_ne] at h
    obtain ⟨⟨⟨⟨⟨_, h4⟩, _⟩, _⟩, ⟨⟨⟨_, k4⟩, _⟩, _⟩⟩, ⟨⟨⟨⟨⟨m1, m2⟩, m3⟩, m4⟩, m5⟩, m6⟩⟩ := h
    rcases hn with hn | ⟨_, _, _, hn⟩ | ⟨_, _, _, hn⟩
    · cases hn
    · simp only [HT.root, HT.e2.injEq] at hn
      obtain ⟨rfl, rfl, rfl, _⟩ := hn
      refine ⟨fun y => ?_, by simp [HT.att, HT.all]⟩
      simp only [HT.att, HT.all, List.mem_cons]
      exact ⟨fun hy => ⟨.inr hy, fun e => h4 (e ▸ hy)⟩, fun ⟨hy, hn⟩ => hy.resolve_left hn⟩
    · simp only [HT.root, HT.e2.injEq] at hn
      obtain ⟨_, _, _, rfl, rfl, rfl⟩ := hn
      refine ⟨fun y => ?_, by simp [HT.att, HT.all, m5]⟩
      simp only [HT.att, HT.all, List.mem_cons]
      constructor
      · intro hy
        refine ⟨?_, fun e => k4 (e ▸ hy)⟩
        rcases m4 y hy with h' | h'
        · exact .inl h'
        · exact .inr h'
      · rintro ⟨hy, hne⟩
        rcases hy with rfl | hy
        · exact m2
        · rcases m3 y hy with h' | h'
          · exact absurd h' hne
          · exact h'

theorem okT_att : ∀ (t : HT) {E : List Nat} {i : Nat} {Z : List Nat} {r0 : HT}, okT ops A E t = true → Nxt i Z r0 t → okT ops A E (t.att r0) = true
  | .q j r, E, i, Z, r0, h, hn => by
    simp only [okT, Bool.and_eq_true] at h
    obtain ⟨⟨⟨⟨h1, h2⟩, h3⟩, h4⟩, h5⟩ := h
    have hd := (att_all r h5 (hn : Nxt i Z r0 r)).1
    simp only [HT.att, okT, Bool.and_eq_true]
    refine ⟨⟨⟨⟨h1, h2⟩, ?_⟩, ?_⟩, okT_att r h5 hn⟩
    · rw [List.all_eq_true] at h3 ⊢
      intro d hd'
      have := h3 d hd'
      simp only [Bool.and_eq_true, Bool.not_eq_true', List.contains_eq_mem, decide_eq_false_iff_not] at this ⊢
      exact ⟨this.1, fun hc => this.2 ((hd d).1 hc).1⟩
    · simp only [Bool.not_eq_true', List.contains_eq_mem, decide_eq_false_iff_not] at h4 ⊢
      exact fun hc => h4 ((hd j).1 hc).1
  | .done, E, i, Z, r0, h, hn => by rcases hn with hn | ⟨_, _, _, hn⟩ | ⟨_, _, _, hn⟩ <;> cases hn
  | .e k Zk rk, E, i, Z, r0, h, hn => by
    rcases hn with hn | ⟨_, _, _, hn⟩ | ⟨_, _, _, hn⟩
    · simp only [HT.root, HT.e.injEq] at hn
      obtain ⟨rfl, rfl, rfl⟩ := hn
      simp only [okT, Bool.and_eq_true] at h
      exact h.2
    · cases hn
    · cases hn
  | .e2 k Zk rk k' Zk' rk', E, i, Z, r0, h, hn => by
    simp only [okT, Bool.and_eq_true] at h
    rcases hn with hn | ⟨_, _, _, hn⟩ | ⟨_, _, _, hn⟩
    · cases hn
    · simp only [HT.root, HT.e2.injEq] at hn
      obtain ⟨rfl, rfl, rfl, _⟩ := hn
      exact h.1.1.2
    · simp only [HT.root, HT.e2.injEq] at hn
      obtain ⟨_, _, _, rfl, rfl, rfl⟩ := hn
      exact h.1.2.2

theorem okT_E : ∀ (t : HT) {E : List Nat} {i x : Nat}, okT ops A E t = true → i ∈ t.pre → x ∈ E → ancB A x i = true ∨ apartI ops x i
  | .q j r, E, i, x, h, hm, hx => by
    simp only [okT, Bool.and_eq_true] at h
    obtain ⟨⟨⟨⟨h1, h2⟩, h3⟩, h4⟩, h5⟩ := h
    rcases List.mem_cons.1 hm with rfl | hm
    · rw [List.all_eq_true] at h2
      have := h2 x hx
      simp only [Bool.or_eq_true] at this
      exact this.imp id apartI_of
    · exact okT_E r h5 hm (List.mem_cons_of_mem _ hx)
  | .done, _, _, _, _, h, _ => by cases h
  | .e .., _, _, _, _, h, _ => by cases h
  | .e2 .., _, _, _, _, h, _ => by cases h

theorem apB_of : ∀ (t : HT) {E : List Nat} {i : Nat}, okT ops A E t = true → i ∈ t.pre → (∀ x ∈ t.all, ancB A x i = false) → apB ops i t
  | .q j r, E, i, h, hm, hn => by
    by_cases hji : j = i
    · exact .inl hji
    · have hmr : i ∈ r.pre := by
        rcases List.mem_cons.1 hm with h' | h'
        · exact absurd h'.symm hji
        · exact h'
      simp only [okT, Bool.and_eq_true] at h
      refine .inr ⟨?_, apB_of r h.2 hmr (fun x hx => hn x (List.mem_cons_of_mem _ hx))⟩
      rcases okT_E r h.2 hmr List.mem_cons_self with h' | h'
      · rw [hn j List.mem_cons_self] at h'; cases h'
      · exact h'
  | .done, _, _, _, h, _ => by cases h
  | .e .., _, _, _, h, _ => by cases h
  | .e2 .., _, _, _, h, _ => by cases h

theorem okT_EZ : ∀ (t : HT) {E : List Nat} {i x : Nat} {Z : List Nat} {r0 : HT}, okT ops A E t = true → Nxt i Z r0 t → x ∈ E → ancB A x i = true ∨ (apartI ops x i ∧ x ∈ Z)
  | .q j r, E, i, x, Z, r0, h, hn, hx => by
    simp only [okT, Bool.and_eq_true] at h
    exact okT_EZ r h.2 hn (List.mem_cons_of_mem _ hx)
  | .done, E, i, x, Z, r0, h, hn, hx => by rcases hn with hn | ⟨_, _, _, hn⟩ | ⟨_, _, _, hn⟩ <;> cases hn
  | .e k Zk rk, E, i, x, Z, r0, h, hn, hx => by
    rcases hn with hn | ⟨_, _, _, hn⟩ | ⟨_, _, _, hn⟩
    · simp only [HT.root, HT.e.injEq] at hn
      obtain ⟨rfl, rfl, rfl⟩ := hn
      simp only [okT, Bool.and_eq_true, List.all_eq_true, Bool.or_eq_true, List.contains_eq_mem, decide_eq_true_eq] at h
      exact (h.1.1.1.1.2 x hx).imp id fun h => ⟨apartI_of h.1, h.2⟩
    · cases hn
    · cases hn
  | .e2 k Zk rk k' Zk' rk', E, i, x, Z, r0, h, hn, hx => by
    simp only [okT, Bool.and_eq_true, List.all_eq_true, Bool.or_eq_true, List.contains_eq_mem, decide_eq_true_eq] at h
    rcases hn with hn | ⟨_, _, _, hn⟩ | ⟨_, _, _, hn⟩
    · cases hn
    · simp only [HT.root, HT.e2.injEq] at hn
      obtain ⟨rfl, rfl, rfl, _⟩ := hn
      exact (h.1.1.1.1.1.1.2 x hx).imp id fun h => ⟨apartI_of h.1, h.2⟩
    · simp only [HT.root, HT.e2.injEq] at hn
      obtain ⟨_, _, _, rfl, rfl, rfl⟩ := hn
      exact (h.1.2.1.1.1.1.2 x hx).imp id fun h => ⟨apartI_of h.1, h.2⟩

theorem preE_of : ∀ (t : HT) {E : List Nat} {i : Nat} {Z : List Nat} {r0 : HT}, okT ops A E t = true → Nxt i Z r0 t → (∀ x ∈ t.all, ancB A x i = false) → preE ops i Z t
  | .q j r, E, i, Z, r0, h, hn, ha => by
    simp only [okT, Bool.and_eq_true] at h
    rcases okT_EZ r h.2 hn List.mem_cons_self with h' | ⟨h1, h2⟩
    · rw [ha j List.mem_cons_self] at h'; cases h'
    · exact ⟨h1, h2, preE_of r h.2 hn (fun x hx => ha x (List.mem_cons_of_mem _ hx))⟩
  | .done, _, _, _, _, _, _, _ => trivial
  | .e .., _, _, _, _, _, _, _ => trivial
  | .e2 .., _, _, _, _, _, _, _ => trivial

/-- What is ready is a leading reader or a next effect. -/
theorem cases_of : ∀ (t : HT) {E : List Nat} {i : Nat}, okT ops A E t = true → i ∈ t.all → (∀ x ∈ t.all, ancB A x i = false) → i ∈ t.pre ∨ ∃ Z r0, Nxt i Z r0 t
  | .q j r, E, i, h, hm, ha => by
    simp only [okT, Bool.and_eq_true] at h
    rcases List.mem_cons.1 hm with rfl | hm
    · exact .inl List.mem_cons_self
    · rcases cases_of r h.2 hm (fun x hx => ha x (List.mem_cons_of_mem _ hx)) with h' | ⟨Z, r0, h'⟩
      · exact .inl (List.mem_cons_of_mem _ h')
      · exact .inr ⟨Z, r0, h'⟩
  | .done, _, _, _, h, _ => by cases h
  | .e k Zk rk, E, i, h, hm, ha => by
    rcases List.mem_cons.1 hm with rfl | hm
    · exact .inr ⟨Zk, rk, .inl rfl⟩
    · simp only [okT, Bool.and_eq_true, List.all_eq_true] at h
      have := h.1.2 i hm
      rw [ha k List.mem_cons_self] at this
      cases this
  | .e2 k Zk rk k' Zk' rk', E, i, h, hm, ha => by
    rcases List.mem_cons.1 hm with rfl | hm
    · exact .inr ⟨Zk, rk, .inr (.inl ⟨_, _, _, rfl⟩)⟩
    · simp only [okT, Bool.and_eq_true, List.all_eq_true, Bool.or_eq_true, beq_iff_eq, List.contains_eq_mem, decide_eq_true_eq] at h
      rcases h.1.1.1.2 i hm with (rfl | h') | h'
      · exact .inr ⟨Zk', rk', .inr (.inr ⟨_, _, _, rfl⟩)⟩
      · rw [ha k List.mem_cons_self] at h'; cases h'
      · rw [ha k' (List.mem_cons_of_mem _ h.2.1.1.1.1.1)] at h'; cases h'
end
end Go.Proofs.Ytcebmbnofejlhaa
