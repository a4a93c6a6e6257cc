/-
  Functions whose body is a scope with labels that are jumped to forwards: each label's rest is lowered by itself.
-/
import Derived.Test.YtooimdgoibdhlaaDoorK9
import Derived.Scope
namespace Go.Proofs.YtooimdgoibdhlaaDoor
open Go

/-! ### The program's side -/
/-- As Q; by a goto to one of the labels: on with its rest, from which only later ones may be jumped to. -/
def jW (P : Program) : List (Nat × Code) → (Exit → Act → World → Prop) → Exit → Act → World → Prop
  | [], Q => Exit.noGoto Q
  | (l, r) :: T, Q => fun x a w => match x with
    | .goto l' => if l' = l then r.wp P (jW P T Q) a w else jW P T Q (.goto l') a w
    | x => Q x a w
theorem jW_other {P : Program} : ∀ (T : List (Nat × Code)) {Q : Exit → Act → World → Prop} {x : Exit} {a : Act} {w : World}, (∀ l, x ≠ .goto l) → jW P T Q x a w → Q x a w
  | [], Q, x, a, w, hx, h => by cases x <;> first | exact h | exact (hx _ rfl).elim
  | (l, r) :: T, Q, x, a, w, hx, h => by cases x <;> first | exact h | exact (hx _ rfl).elim
theorem jW_goto {P : Program} : ∀ (T : List (Nat × Code)) {Q : Exit → Act → World → Prop} {l : Nat} {a : Act} {w : World}, jW P T Q (.goto l) a w → ∃ r T', (l, r) ∈ T ∧ T'.length < T.length ∧ (∀ p ∈ T', p ∈ T) ∧ r.wp P (jW P T' Q) a w
  | [], Q, l, a, w, h => h.elim
  | (l', r) :: T, Q, l, a, w, h => by
    simp only [jW] at h
    split at h
    · rename_i hl; subst hl
      exact ⟨r, T, by simp, by simp, fun p hp => by simp [hp], h⟩
    · obtain ⟨r', T', h1, h2, h3, h4⟩ := jW_goto T h
      exact ⟨r', T', by simp [h1], by simp; omega, fun p hp => by simp [h3 p hp], h4⟩
theorem wp_scope_fwd {P : Program} {c : Code} (T : List (Nat × Code)) (hT : ∀ p ∈ T, findLabel c p.1 = some p.2) {Q : Exit → Act → World → Prop} {a : Act} {w : World}
    (first : c.wp P (jW P T Q) a w) : (Code.scope c).wp P Q a w := by
  intro b k cs
  have key : ∀ (n : Nat) (T : List (Nat × Code)), T.length = n → (∀ p ∈ T, findLabel c p.1 = some p.2) → ∀ (d : Code) (a : Act) (w : World), d.wp P (jW P T Q) a w →
      ∃ e a' w', Q e a' w' ∧ Arrives P (lone (b.at a (.code d :: .inScope c :: k)) cs w) b k cs e a' w' := by
    intro n
    induction n using Nat.strongRecOn with
    | _ n ih =>
      intro T hn hT d a w hd
      obtain ⟨e, a₁, w₁, hq, harr⟩ := hd b (.inScope c :: k) cs
      cases e with
      | normal => exact ⟨.normal, a₁, w₁, jW_other T (by simp) hq, Steps.trans harr (.one step_inScope)⟩
      | exit id => exact ⟨.exit id, a₁, w₁, jW_other T (by simp) hq, fun k' hk => harr k' (by simp [exitTo, hk])⟩
      | goto l =>
        obtain ⟨r, T', h1, h2, h3, h4⟩ := jW_goto T hq
        have hg : gotoIn l (.inScope c :: k) = some (.code r :: .inScope c :: k) := by simp [gotoIn, hT _ h1]
        obtain ⟨e₂, a₂, w₂, hq₂, harr₂⟩ := ih _ (by omega) T' rfl (fun p hp => hT p (h3 p hp)) r a₁ w₁ h4
        exact ⟨e₂, a₂, w₂, hq₂, .of_steps (harr _ hg) harr₂⟩
      | ret => exact ⟨_, a₁, w₁, jW_other T (by simp) hq, harr⟩
      | panic ch => exact ⟨_, a₁, w₁, jW_other T (by simp) hq, harr⟩
      | outgrown => exact ⟨_, a₁, w₁, jW_other T (by simp) hq, harr⟩
  obtain ⟨e, a₁, w₁, hq, harr⟩ := key _ T rfl hT c a w first
  cases e with
  | normal => exact ⟨.normal, a₁, w₁, hq, .head step_scope harr⟩
  | exit id => exact ⟨.exit id, a₁, w₁, hq, fun k' hk => .head step_scope (harr k' hk)⟩
  | goto l => exact ⟨.goto l, a₁, w₁, hq, fun k' hk => .head step_scope (harr k' hk)⟩
  | ret => exact ⟨_, a₁, w₁, hq, .of_steps (.one step_scope) harr⟩
  | panic ch => exact ⟨_, a₁, w₁, hq, .of_steps (.one step_scope) harr⟩
  | outgrown => exact ⟨_, a₁, w₁, hq, .of_steps (.one step_scope) harr⟩

/-! ### The lowered side -/
section
variable {P : Program}
def jQ (P : Program) : List (Nat × List Nat × LC) → Post → Post
  | [], Q => noGQ Q
  | (l, K, r) :: T, Q => fun x e h => match x with
    | .goto l' => if l' = l then vc P r (jQ P T Q) (e.keep K) h else jQ P T Q (.goto l') e h
    | x => Q x e h
/-- Behind what stands ahead of the scope. -/
def sJ (P : Program) (L : List Nat) (c : LC) (T : List (Nat × List Nat × LC)) (Q : Post) : Post := fun x e h =>
  match x with
  | .normal => vc P c (jQ P T Q) (e.keep L) h
  | x => noGQ Q x e h
/-- What stands ahead of the scope, the scope's code, its labels' hints. -/
def lowJ (P : Program) (n : NN) (p a : Hint) (T : List (Nat × List Nat × Hint)) : Code → Option (LC × LC × List (Nat × List Nat × LC))
  | .seq y (.scope x) => some (lowC P n p y, lowC P n a x, T.map fun p => (p.1, p.2.1, match findLabel x p.1 with | some r => lowC P n p.2.2 r | none => .bad))
  | _ => none
theorem jQ_sound {w0 : World} {mb : MB} (hm : mb.fl = false) {n : NN} (hb : mb.n ≤ w0.heap.size ∧ mb.lo ≤ n.lo) (x : Code) : ∀ (T : List (Nat × List Nat × Hint)) (Q : Post) (e : Exit) (a : Act) (w : World),
    Lift w0 mb n (jQ P (T.map fun p => (p.1, p.2.1, match findLabel x p.1 with | some r => lowC P n p.2.2 r | none => .bad)) Q) e a w → jW P (T.filterMap fun p => (findLabel x p.1).map fun r => (p.1, r)) (Lift w0 mb n Q) e a w
  | [], Q, e, a, w, h => by
    obtain ⟨k1, k2, k3, e', k4, k6, k5⟩ := h
    cases e <;> first | exact k5.elim | exact ⟨k1, k2, k3, e', k4, k6, k5⟩
  | (l, K, ht) :: T, Q, e, a, w, h => by
    obtain ⟨k1, k2, k3, e', k4, k6, k5⟩ := h
    have ih := jQ_sound hm hb x T Q
    simp only [List.filterMap_cons, List.map_cons] at k5 ⊢
    cases hf : findLabel x l with
    | none =>
      simp only [hf, Option.map_none] at k5 ⊢
      cases e with
      | goto l' =>
        simp only [jQ] at k5
        split at k5
        · simp only [vc] at k5
        · exact ih _ _ _ ⟨k1, k2, k3, e', k4, k6, k5⟩
      | _ =>
        refine ih _ _ _ ⟨k1, k2, k3, e', k4, k6, ?_⟩
        cases T <;> exact k5
    | some r =>
      simp only [hf, Option.map_some] at k5 ⊢
      cases e with
      | goto l' =>
        simp only [jQ] at k5
        simp only [jW]
        split at k5
        · rename_i hl
          rw [if_pos hl]
          refine wpIn_wide.1 (wpIn_mono (vc_sound r Fence.wide 0 (.inl rfl) (.inl ⟨rfl, hm⟩) ht _ (e'.keep K) _ a w ⟨k1, hb, k2, k3, ?_, rfl⟩ k5) ?_)
          · exact fun t v hg => k4 t v (keep_get e' K t v hg)
          · exact fun e a w h => ih e a w h
        · rename_i hl
          rw [if_neg hl]
          exact ih _ _ _ ⟨k1, k2, k3, e', k4, (fun c h => by cases h), k5⟩
      | _ => exact ⟨k1, k2, k3, e', k4, k6, k5⟩

theorem callsJ_of {f : FuncId} {fn : Func} {c : Code} {n : Nat} {res : List Rv} {hp ha : Hint} {hs : List (Nat × List Nat × Hint)} {lp lc : LC} {T : List (Nat × List Nat × LC)} {L : List Nat} (hf : P.funcs[f]? = some fn) (hb : fn.body = some c) (hn : fn.ntmps = n) (hr : fn.results = (res.map Rv.var).toArray) (hok : res.all (Rv.ok P) = true)
    (hl : lowJ P ⟨0, n⟩ hp ha hs c = some (lp, lc, T)) {args : List Value} (hag : args.length ≤ n) {h : H} {R : Ending → H → Prop} (hv : vc P lp (sJ P L lc T (retC res R)) (argEnv args 0) h) : CallsE P f args.toArray h R := by
  unfold lowJ at hl
  split at hl
  · rename_i y x
    simp only [Option.some.injEq, Prod.mk.injEq] at hl
    obtain ⟨rfl, rfl, rfl⟩ := hl
    have hv' : vc P (lowC P ⟨0, n⟩ hp y) (sJ P L (lowC P ⟨0, n⟩ ha x) (hs.map fun p => (p.1, p.2.1, match findLabel x p.1 with | some r => lowC P ⟨0, n⟩ p.2.2 r | none => .bad)) (retC res R)) (argEnv args 0) h := hv
    intro w hw
    refine callsIn_wide.1 (callsIn_of_wp_marks (n := 0) hf hb trivial ?_)
    have hat : At w ⟨w.heap.size, [], 0, #[], false⟩ ⟨0, n⟩ (argEnv args 0) h { tmps := args.toArray ++ Array.replicate (fn.ntmps - args.toArray.size) undef, defers := [] } w := by
      refine ⟨Kin.refl w, ⟨Nat.le_refl _, Nat.zero_le _⟩, Marks.none _ _ rfl, ?_, ?_, hw⟩
      · simp [hn]; omega
      · intro t v hg
        obtain ⟨_, h2⟩ := argEnv_get args 0 t v hg
        simp only [Nat.sub_zero] at h2
        have hlt : t < args.length := (List.getElem?_eq_some_iff.1 h2).1
        show (args.toArray ++ Array.replicate (fn.ntmps - args.toArray.size) undef)[t]? = some v
        rw [Array.getElem?_append_left (by simpa using hlt)]
        simpa using h2
    refine wpIn_mono (Q := Lift w ⟨w.heap.size, [], 0, #[], false⟩ ⟨0, n⟩ (retC res R)) ?_ (fun x a w' hl => ret_post hr hok hl)
    refine wpIn_seq (wpIn_mono (vc_sound y Fence.wide 0 (.inl rfl) (.inl ⟨rfl, rfl⟩) hp _ _ _ _ _ hat hv') ?_)
    rintro ex a' w' ⟨k1, k2, k3, e', k4, k6, k5⟩
    cases ex with
    | normal =>
      have hat' : At w ⟨w.heap.size, [], 0, #[], false⟩ ⟨0, n⟩ (e'.keep L) (Go.Proofs.YtooimdgoibdhlaaDoor.hp w') a' w' := ⟨k1, ⟨Nat.le_refl _, Nat.zero_le _⟩, k2, k3, fun t v hg => k4 t v (keep_get e' L t v hg), rfl⟩
      refine wpIn_wide.2 (wp_scope_fwd (hs.filterMap fun p => (findLabel x p.1).map fun r => (p.1, r)) ?_ (Q := Lift w ⟨w.heap.size, [], 0, #[], false⟩ ⟨0, n⟩ (retC res R)) (wpIn_wide.1 (wpIn_mono (vc_sound x Fence.wide 0 (.inl rfl) (.inl ⟨rfl, rfl⟩) ha _ _ _ _ _ hat' k5) (jQ_sound rfl ⟨Nat.le_refl _, Nat.zero_le _⟩ x hs _))))
      intro p hp
      obtain ⟨q, hq, hq2⟩ := List.mem_filterMap.1 hp
      cases hfl : findLabel x q.1 with
      | none => rw [hfl] at hq2; cases hq2
      | some r => rw [hfl] at hq2; simp only [Option.map_some, Option.some.injEq] at hq2; subst hq2; exact hfl
    | goto l => exact k5.elim
    | _ => exact ⟨k1, k2, k3, e', k4, k6, k5⟩
  · cases hl
theorem okJ_of {f : FuncId} {fn : Func} {c : Code} {n : Nat} {res : List Rv} {hp ha : Hint} {hs : List (Nat × List Nat × Hint)} {lp lc : LC} {T : List (Nat × List Nat × LC)} {L : List Nat} (hf : P.funcs[f]? = some fn) (hb : fn.body = some c) (hn : fn.ntmps = n) (hr : fn.results = (res.map Rv.var).toArray) (hok : res.all (Rv.ok P) = true)
    (hl : lowJ P ⟨0, n⟩ hp ha hs c = some (lp, lc, T)) {args : List Value} (hag : args.length ≤ n) {h : H} {R : Value → H → Prop} (hv : vc P lp (sJ P L lc T (retC res (okR R))) (argEnv args 0) h) : Ok P f args.toArray h R :=
  callsJ_of hf hb hn hr hok hl hag hv

/-! ### Rules -/
variable {Q : Post} {e : Env} {h : H}
theorem vc_goto (l : Nat) : vc P (.goto l) Q e h = Q (.goto l) e h := rfl
theorem sJ_normal (L : List Nat) (c : LC) (T : List (Nat × List Nat × LC)) : sJ P L c T Q .normal e h = vc P c (jQ P T Q) (e.keep L) h := rfl
theorem sJ_panic (L : List Nat) (c : LC) (T : List (Nat × List Nat × LC)) (p : List PanicEntry) : sJ P L c T Q (.panic p) e h = Q (.panic p) e h := rfl
theorem seqQ_goto (L : List Nat) (b : LC) (i : Nat) : seqQ P L b Q (.goto i) e h = Q (.goto i) e h := rfl
theorem blockQ_goto (id i : Nat) : blockQ id Q (.goto i) e h = Q (.goto i) e h := rfl
theorem jQ_goto (l : Nat) (K : List Nat) (r : LC) (T : List (Nat × List Nat × LC)) (i : Nat) : jQ P ((l, K, r) :: T) Q (.goto i) e h = if i = l then vc P r (jQ P T Q) (e.keep K) h else jQ P T Q (.goto i) e h := rfl
theorem jQ_normal (T : List (Nat × List Nat × LC)) : jQ P T Q .normal e h = Q .normal e h := by cases T <;> rfl
theorem jQ_ret (T : List (Nat × List Nat × LC)) : jQ P T Q .ret e h = Q .ret e h := by cases T <;> rfl
theorem jQ_panic (T : List (Nat × List Nat × LC)) (c : List PanicEntry) : jQ P T Q (.panic c) e h = Q (.panic c) e h := by cases T <;> rfl
theorem jQ_exit (T : List (Nat × List Nat × LC)) (i : Nat) : jQ P T Q (.exit i) e h = Q (.exit i) e h := by cases T <;> rfl
end
end Go.Proofs.YtooimdgoibdhlaaDoor
