/-
  What goroutines know of a trace, for the places that they hold, as it grows: by own steps, by steps at shared places, by a go statement, by the join.
-/
import Derived.Test.YtojhnclkhiffkaaU2
namespace Go.Proofs.Ytojhnclkhiffkaa
open Go.Conc
open Go.ConcN (PermW RelBy fork_knows Deaf_absent Deaf_still norel_of)
open Go.ConcR (rd wr mk stA smA g_of_ofEvents)
set_option linter.unusedVariables false

structure TP (t : Trace) (k : Nat) (h : H) : Prop where
  own : ∀ l, OwnL h l → Perm t k l
  rd : ∀ l, RdL h l → PermW t k l
structure TrI (t : Trace) (n j : Nat) : Prop where
  nr : ∀ said, ¬ Race said t
  gs : ∀ (i : Nat) (op : MemOp), t[i]? = some op → op.g ≤ j
  fresh : ∀ i x, touchAt t i = some x → LocLt n x.loc
/-- Every plain touch of these places is known; what is said of them the starter says. -/
def ShK (S : Loc → Prop) (t : Trace) (k : Nat) : Prop := ∀ i a, touchAt t i = some a → S a.loc → a.kind = .plain → Knows t k i
def ShSaid (S : Loc → Prop) (t : Trace) : Prop := ∀ (i : Nat) (op : MemOp) (a : Touch), t[i]? = some op → op.act.touch? = some a → S a.loc → a.kind = .said → op.g = 0
/-- The cells of a block. -/
def InB (b : Nat) (l : Loc) : Prop := ∃ a : Addr, l = .cell a ∧ a.block = b
theorem LocLt.le {n m : Nat} (h : n ≤ m) {l : Loc} (hl : LocLt n l) : LocLt m l := by
  cases l <;> first | exact Nat.lt_of_lt_of_le hl h | trivial
theorem TP.fra {t : Trace} {k j : Nat} {h h1 : H} {w w1 : World} {es : Array Event} (p : TP t k h) (T : TrI t w.heap.size j) (f : Fra h w h1 w1 es) : TP t k h1 := by
  refine ⟨fun l hl => ?_, fun l hl => ?_⟩
  · rcases f.ownL hl with h0 | h0
    · exact p.own l h0
    · intro i a ha e
      exact absurd (e ▸ T.fresh i a ha) h0
  · rcases f.rdL hl with h0 | h0
    · exact p.rd l h0
    · intro i a ha e
      exact absurd (e ▸ T.fresh i a ha) h0
theorem TP.sub {t : Trace} {k : Nat} {h h' : H} (p : TP t k h) (ho : ∀ l, OwnL h' l → OwnL h l) (hr : ∀ l, RdL h' l → RdL h l ∨ OwnL h l) : TP t k h' :=
  ⟨fun l hl => p.own l (ho l hl), fun l hl => (hr l hl).elim (p.rd l) fun x => .of (p.own l x)⟩

/-- Operations of one goroutine, each within what it holds, or none. -/
def WiOp (k : Nat) (h : H) (op : MemOp) : Prop := op.g = k ∧ ∀ x, op.act.touch? = some x → OwnL h x.loc ∨ (RdL h x.loc ∧ x.write = false)
theorem wi_of {k : Nat} {h : H} {es : Array Event} (he : ∀ e ∈ es, EvO h e) (fn : FuncId) (pos : String) : ∀ op ∈ MemOp.ofEvents k fn pos es, WiOp k h op := by
  intro op hop
  rw [ofEvents_eq] at hop
  obtain ⟨e, hm, rfl⟩ := Array.mem_map.1 hop
  exact ⟨rfl, fun x hx => (he e hm).touch hx⟩
section
variable {t u : Trace} {k j n n' : Nat} {h : H}
theorem TrI.own (T : TrI t n j) (p : TP t k h) (hl : ∀ l, OwnL h l ∨ RdL h l → LocLt n' l) (hn : n ≤ n') (hk : k ≤ j) (hu : ∀ op ∈ u, WiOp k h op) : TrI (t ++ u) n' j := by
  refine ⟨fun said => noRace_append (T.nr said) (fun op hop => (hu op hop).1) fun i a ha op hop b hb hc => ?_, fun i op hi => ?_, fun i x hx => ?_⟩
  · rcases (hu op hop).2 b hb with ho | ⟨hr, hw⟩
    · exact p.own _ ho i a ha hc.1
    · exact p.rd _ hr i a ha hc.1 (hc.2.2.1.resolve_right (by simp [hw]))
  · rcases getElem?_append_cases hi with ⟨_, hi'⟩ | ⟨_, hiu⟩
    · exact T.gs i op hi'
    · rw [(hu op hiu).1]; exact hk
  · obtain ⟨op, hop, hox⟩ := touch_of hx
    rcases getElem?_append_cases hop with ⟨_, hi'⟩ | ⟨_, hiu⟩
    · exact (T.fresh i x (by rw [touchAt_of hi']; exact hox)).le hn
    · exact hl _ (((hu op hiu).2 x hox).imp id And.left)
theorem TP.app (p : TP t k h) (hu : ∀ op ∈ u, op.g = k) : TP (t ++ u) k h :=
  ⟨fun l hl => (p.own l hl).app fun op hop _ _ _ => hu op hop, fun l hl => (p.rd l hl).app fun op hop _ _ _ _ => hu op hop⟩
theorem TP.other {k' : Nat} {hk : H} (p : TP t k' hk) (a : Ap h hk) (hu : ∀ op ∈ u, WiOp k h op) : TP (t ++ u) k' hk := by
  refine ⟨fun l hl => (p.own l hl).app fun op hop b hb e => ?_, fun l hl => (p.rd l hl).app fun op hop b hb e hw => ?_⟩
  · exfalso
    obtain ⟨h1, h2⟩ := a.symm.own hl
    rcases (hu op hop).2 b hb with ho | ⟨hr, _⟩
    · exact h1 (e ▸ ho)
    · exact h2 (e ▸ hr)
  · exfalso
    rcases (hu op hop).2 b hb with ho | ⟨hr, hw'⟩
    · exact (a.own ho).2 (e ▸ hl)
    · rw [hw'] at hw; cases hw
theorem ShK.own {S : Loc → Prop} {k' : Nat} (s : ShK S t k') (hS : ∀ l, S l → ¬ OwnL h l ∧ ¬ RdL h l) (hu : ∀ op ∈ u, WiOp k h op) : ShK S (t ++ u) k' := by
  intro i a ha hs hp
  obtain ⟨op, hop, hox⟩ := touch_of ha
  rcases getElem?_append_cases hop with ⟨_, hi'⟩ | ⟨_, hiu⟩
  · exact (s i a (by rw [touchAt_of hi']; exact hox) hs hp).app u
  · exfalso
    rcases (hu op hiu).2 a hox with ho | ⟨hr, _⟩
    · exact (hS _ hs).1 ho
    · exact (hS _ hs).2 hr
theorem ShSaid.own {S : Loc → Prop} (s : ShSaid S t) (hS : ∀ l, S l → ¬ OwnL h l ∧ ¬ RdL h l) (hu : ∀ op ∈ u, WiOp k h op) : ShSaid S (t ++ u) := by
  intro i op a hop hox hs hp
  rcases getElem?_append_cases hop with ⟨_, hi'⟩ | ⟨_, hiu⟩
  · exact s i op a hi' hox hs hp
  · exfalso
    rcases (hu op hiu).2 a hox with ho | ⟨hr, _⟩
    · exact (hS _ hs).1 ho
    · exact (hS _ hs).2 hr

/-- Operations of one goroutine at shared places: none plain; what is said the starter says. -/
def ShOp (S : Loc → Prop) (k : Nat) (op : MemOp) : Prop := op.g = k ∧ ∀ x, op.act.touch? = some x → S x.loc ∧ x.kind ≠ .plain ∧ (x.kind = .said → k = 0)
variable {S : Loc → Prop}
theorem TrI.sh (T : TrI t n j) (s : ShK S t k) (sd : ShSaid S t) (hl : ∀ l, S l → LocLt n l) (hk : k ≤ j) (hu : ∀ op ∈ u, ShOp S k op) : TrI (t ++ u) n j := by
  refine ⟨fun said => noRace_append (T.nr said) (fun op hop => (hu op hop).1) fun i a ha op hop b hb hc => ?_, fun i op hi => ?_, fun i x hx => ?_⟩
  · obtain ⟨hs, hnp, hsd⟩ := (hu op hop).2 b hb
    have hs' : S a.loc := by rw [hc.1]; exact hs
    rcases hc.2.2.2 with hp | hp | ⟨_, h1, h2⟩
    · exact s i a ha hs' hp
    · exact absurd hp hnp
    · obtain ⟨x, hx, hxa⟩ := touch_of ha
      have h0 := sd i x a hx hxa hs' h1
      have := knows_own hx
      rw [h0] at this
      rwa [hsd h2]
  · rcases getElem?_append_cases hi with ⟨_, hi'⟩ | ⟨_, hiu⟩
    · exact T.gs i op hi'
    · rw [(hu op hiu).1]; exact hk
  · obtain ⟨op, hop, hox⟩ := touch_of hx
    rcases getElem?_append_cases hop with ⟨_, hi'⟩ | ⟨_, hiu⟩
    · exact T.fresh i x (by rw [touchAt_of hi']; exact hox)
    · exact hl _ ((hu op hiu).2 x hox).1
theorem TP.sh {k' : Nat} {hk : H} (p : TP t k' hk) (hS : ∀ l, S l → ¬ OwnL hk l ∧ ¬ RdL hk l) (hu : ∀ op ∈ u, ShOp S k op) : TP (t ++ u) k' hk :=
  ⟨fun l hl => (p.own l hl).app fun op hop b hb e => absurd hl (hS l (e ▸ ((hu op hop).2 b hb).1)).1, fun l hl => (p.rd l hl).app fun op hop b hb e _ => absurd hl (hS l (e ▸ ((hu op hop).2 b hb).1)).2⟩
theorem ShK.sh {k' : Nat} (s : ShK S t k') (hu : ∀ op ∈ u, ShOp S k op) : ShK S (t ++ u) k' := by
  intro i a ha hs hp
  obtain ⟨op, hop, hox⟩ := touch_of ha
  rcases getElem?_append_cases hop with ⟨_, hi'⟩ | ⟨_, hiu⟩
  · exact (s i a (by rw [touchAt_of hi']; exact hox) hs hp).app u
  · exact absurd hp ((hu op hiu).2 a hox).2.1
theorem ShSaid.sh (s : ShSaid S t) (hu : ∀ op ∈ u, ShOp S k op) : ShSaid S (t ++ u) := by
  intro i op a hop hox hs hp
  rcases getElem?_append_cases hop with ⟨_, hi'⟩ | ⟨_, hiu⟩
  · exact s i op a hi' hox hs hp
  · rw [(hu op hiu).1]; exact ((hu op hiu).2 a hox).2.2 hp

/-! ### A go statement -/
variable {x y : MemOp}
theorem fork_old (hx : x.act.touch? = none) (hy : y.act.touch? = none) {i : Nat} {a : Touch} (ha : touchAt (t ++ #[x, y]) i = some a) : touchAt t i = some a := by
  obtain ⟨z, hz, hza⟩ := touch_of ha
  rcases getElem?_append_cases hz with ⟨_, hz'⟩ | ⟨_, hzu⟩
  · rw [touchAt_of hz']; exact hza
  · simp only [List.mem_toArray, List.mem_cons, List.not_mem_nil, or_false] at hzu
    rcases hzu with rfl | rfl
    · rw [hx] at hza; cases hza
    · rw [hy] at hza; cases hza
theorem TrI.fork (T : TrI t n j) (hx : x.g = 0 ∧ x.act = .go (j + 1)) (hy : y.g = j + 1 ∧ y.act = .start) : TrI (t ++ #[x, y]) n (j + 1) := by
  have tx : x.act.touch? = none := by rw [hx.2]; rfl
  have ty : y.act.touch? = none := by rw [hy.2]; rfl
  refine ⟨fun said => ?_, fun i op hi => ?_, fun i a ha => T.fresh i a (fork_old tx ty ha)⟩
  · have e : t ++ #[x, y] = (t ++ #[x]) ++ #[y] := by apply Array.ext'; simp
    rw [e]
    refine noRace_append (g := j + 1) (noRace_append (g := 0) (T.nr said) (fun op hop => by simp at hop; rw [hop]; exact hx.1) (fun i a _ op hop b hb _ => ?_)) (fun op hop => by simp at hop; rw [hop]; exact hy.1) (fun i a _ op hop b hb _ => ?_)
    · simp at hop; subst hop; rw [tx] at hb; cases hb
    · simp at hop; subst hop; rw [ty] at hb; cases hb
  · rcases getElem?_append_cases hi with ⟨_, hi'⟩ | ⟨_, hiu⟩
    · exact Nat.le_succ_of_le (T.gs i op hi')
    · simp only [List.mem_toArray, List.mem_cons, List.not_mem_nil, or_false] at hiu
      rcases hiu with rfl | rfl
      · rw [hx.1]; exact Nat.zero_le _
      · rw [hy.1]; exact Nat.le_refl _
theorem TP.fork (p : TP t 0 h) (T : TrI t n j) (hx : x.g = 0 ∧ x.act = .go (j + 1)) (hy : y.g = j + 1 ∧ y.act = .start) (h0 : Deaf t 0 = 0) : TP (t ++ #[x, y]) (j + 1) h := by
  have tx : x.act.touch? = none := by rw [hx.2]; rfl
  have ty : y.act.touch? = none := by rw [hy.2]; rfl
  have hk : Deaf t (j + 1) = 0 := Deaf_absent fun i op hi e => by have := T.gs i op hi; omega
  exact ⟨fun l hl i a ha e => fork_knows hx hy h0 hk (p.own l hl i a (fork_old tx ty ha) e), fun l hl i a ha e hw => fork_knows hx hy h0 hk (p.rd l hl i a (fork_old tx ty ha) e hw)⟩
theorem TP.forkOld {k' : Nat} {hk : H} (p : TP t k' hk) (hx : x.act.touch? = none) (hy : y.act.touch? = none) : TP (t ++ #[x, y]) k' hk :=
  ⟨fun l hl i a ha e => (p.own l hl i a (fork_old hx hy ha) e).app _, fun l hl i a ha e hw => (p.rd l hl i a (fork_old hx hy ha) e hw).app _⟩
theorem ShK.fork (s : ShK S t 0) (T : TrI t n j) (hx : x.g = 0 ∧ x.act = .go (j + 1)) (hy : y.g = j + 1 ∧ y.act = .start) (h0 : Deaf t 0 = 0) : ShK S (t ++ #[x, y]) (j + 1) := by
  have tx : x.act.touch? = none := by rw [hx.2]; rfl
  have ty : y.act.touch? = none := by rw [hy.2]; rfl
  have hk : Deaf t (j + 1) = 0 := Deaf_absent fun i op hi e => by have := T.gs i op hi; omega
  exact fun i a ha hs hp => fork_knows hx hy h0 hk (s i a (fork_old tx ty ha) hs hp)
theorem ShK.forkOld {k' : Nat} (s : ShK S t k') (hx : x.act.touch? = none) (hy : y.act.touch? = none) : ShK S (t ++ #[x, y]) k' :=
  fun i a ha hs hp => (s i a (fork_old hx hy ha) hs hp).app _
theorem ShSaid.fork (s : ShSaid S t) (hx : x.act.touch? = none) (hy : y.act.touch? = none) : ShSaid S (t ++ #[x, y]) := by
  intro i op a hop hox hs hp
  rcases getElem?_append_cases hop with ⟨_, hi'⟩ | ⟨_, hiu⟩
  · exact s i op a hi' hox hs hp
  · simp only [List.mem_toArray, List.mem_cons, List.not_mem_nil, or_false] at hiu
    rcases hiu with rfl | rfl
    · rw [hx] at hox; cases hox
    · rw [hy] at hox; cases hox
end

/-! ### A load that notices the last store -/
theorem notices {t : Trace} {a : Addr} {p : Nat} {y : MemOp} (h : LastWrite t a p) (hp : t.heard p) (hd : Deaf t y.g = 0) (hy : y.act = .access ⟨.cell a, false, true⟩) : HappensBefore (t ++ #[y]) p t.size := by
  have hlast : (t ++ #[y])[t.size]? = some y := by rw [Array.getElem?_append_right (Nat.le_refl _)]; simp
  have hlt := lt_of_act? h.1
  exact .single (.inr ⟨.atomic (a := a) hlt (by rw [act?_old hlt]; exact h.1) (by rw [act?_of hlast, hy]) (fun k sync h1 h2 => by rw [act?_old h2]; exact h.2 k sync h1), (heard_old hlt).2 hp, ⟨y.g, by rw [Trace.g?, hlast, Option.map_some], by rw [deaf_old (Nat.le_refl _)]; exact hd⟩⟩)
/-- All that was written to these blocks lies ahead of the last store to the shared cell. -/
def PubT (B : Nat → Prop) (t : Trace) (m : Addr) : Prop := ∀ i a ad, touchAt t i = some a → a.loc = .cell ad → B ad.block → a.write = true → ∃ p, LastWrite t m p ∧ t.heard p ∧ Before t i p
theorem PubT.app {B : Nat → Prop} {t u : Trace} {m : Addr} (q : PubT B t m) (hu : ∀ op ∈ u, ∀ x, op.act.touch? = some x → x.write = true → ∀ ad, x.loc = .cell ad → ad ≠ m ∧ ¬ B ad.block) : PubT B (t ++ u) m := by
  intro i a ad ha hl hb hw
  obtain ⟨op, hop, hox⟩ := touch_of ha
  rcases getElem?_append_cases hop with ⟨_, hi'⟩ | ⟨_, hiu⟩
  · obtain ⟨p, h1, h2, h3⟩ := q i a ad (by rw [touchAt_of hi']; exact hox) hl hb hw
    refine ⟨p, h1.app fun op hop sync e => ?_, (heard_old (lt_of_act? h1.1)).2 h2, h3.app u⟩
    have := hu op hop ⟨.cell m, true, if sync then .atomic else .plain⟩ (by rw [e]; rfl) rfl m rfl
    exact this.1 rfl
  · exact absurd hb (hu op hiu a hox hw ad hl).2

/-! ### The release, the join -/
/-- Goroutine k has said its release at r; behind it, it touches the group's cells alone. -/
structure Rel (Wg : Nat) (t : Trace) (k r : Nat) : Prop where
  rel : RelBy (stA Wg) t k r
  only : ∀ i x, r < i → t.g? i = some k → touchAt t i = some x → InB Wg x.loc
theorem Rel.app {Wg k r : Nat} {t u : Trace} (R : Rel Wg t k r) (h : RelBy (stA Wg) (t ++ u) k r) (hu : ∀ op ∈ u, op.g = k → ∀ x, op.act.touch? = some x → InB Wg x.loc) : Rel Wg (t ++ u) k r := by
  refine ⟨h, fun i x hi hg hx => ?_⟩
  obtain ⟨op, hop, hox⟩ := touch_of hx
  rcases getElem?_append_cases hop with ⟨hlt, hi'⟩ | ⟨_, hiu⟩
  · exact R.only i x hi (by rw [← g?_old (u := u) hlt]; exact hg) (by rw [touchAt_of hi']; exact hox)
  · refine hu op hiu ?_ x hox
    simp only [Trace.g?, hop, Option.map_some, Option.some.injEq] at hg
    exact hg
/-- Behind the join the starter knows all but what was done at the group's cells. -/
theorem join_knows {Wg j n : Nat} {t : Trace} {y : MemOp} (T : TrI t n j) (hr : ∀ k, 1 ≤ k → k ≤ j → ∃ r, Rel Wg t k r) (hn : NoRelease (stA Wg) t) (hd : Deaf t 0 = 0) (hy : y.g = 0 ∧ y.act = .mark (.acquire (stA Wg))) {l : Loc} (hl : ¬ InB Wg l) : Perm (t ++ #[y]) 0 l := by
  intro i a ha e
  obtain ⟨op, hop, hox⟩ := touch_of ha
  have hlast : (t ++ #[y])[t.size]? = some y := by rw [Array.getElem?_append_right (Nat.le_refl _)]; simp
  rcases getElem?_append_cases hop with ⟨hlt, hi'⟩ | ⟨_, hiu⟩
  · by_cases h0 : op.g = 0
    · have := knows_own hop
      rwa [h0] at this
    · obtain ⟨r, R⟩ := hr op.g (by omega) (T.gs i op hi')
      have hle : i ≤ r := Nat.le_of_not_lt fun hri => hl (e ▸ R.only i a hri (by simp [Trace.g?, hi']) (by rw [touchAt_of hi']; exact hox))
      have hrt := lt_of_act? R.rel.act
      have edge : HappensBefore (t ++ #[y]) r t.size := .single (.inr ⟨.marked hrt (.inr (by rw [act?_old hrt]; exact R.rel.act)) (by rw [act?_of hlast, hy.2]) (fun k _ h2 => by rw [act?_old h2]; exact hn k), (heard_old hrt).2 R.rel.heard, ⟨0, by rw [Trace.g?, hlast, Option.map_some, hy.1], by rw [deaf_old (Nat.le_refl _)]; exact hd⟩⟩)
      refine ⟨t.size, y, hlast, hy.1, .inr ?_⟩
      rcases Nat.lt_or_ge i r with hir | hge
      · exact .trans (.single (.inl ⟨hir, op.g, by rw [Trace.g?, hop, Option.map_some], by rw [g?_old hrt]; exact R.rel.g⟩)) edge
      · obtain rfl : i = r := by omega
        exact edge
  · simp at hiu
    subst hiu
    rw [hy.2] at hox; simp [MemAct.touch?] at hox
end Go.Proofs.Ytojhnclkhiffkaa
