/-
  history: what stands in a right history's operations. (No program in sight.)
-/
import Derived.Test.YtmolhemoiplpfaaHd
import Derived.Test.YtmolhemoiplpfaaKE
namespace Go.Proofs.Ytmolhemoiplpfaa.hi
open Go.Proofs.Ytmolhemoiplpfaa
set_option linter.unusedVariables false
set_option linter.unusedSimpArgs false
def oc (o : opT.D) : Int := o.1
def ob (o : opT.D) : Int := o.2.2.2.1
def oe (o : opT.D) : Int := o.2.2.2.2
def cNil : callT.D := ((0 : Int), (0 : Int), ([] : List rc.D), (0 : Int), (0 : Int))
def yNil : replyT.D := ((0 : Int), (0 : Int), ([] : List rc.D))
def evCa (o : opT.D) : evT.D := (o.1, false, o.2.1, yNil)
def evRe (o : opT.D) : evT.D := (o.1, true, cNil, o.2.2.1)
theorem emptyC_eq {c : callT.D} (h : emptyC c = true) : c = cNil := by
  obtain ⟨a, b, l, d, e⟩ := c
  simp only [emptyC, Bool.and_eq_true, decide_eq_true_eq] at h
  obtain ⟨rfl, rfl, h3, rfl, rfl⟩ := h
  obtain rfl := List.length_eq_zero_iff.1 h3
  rfl
theorem unsaidR_eq {r : replyT.D} (h : unsaidR r = true) : r = yNil := by
  obtain ⟨a, b, l⟩ := r
  simp only [unsaidR, Bool.and_eq_true, decide_eq_true_eq] at h
  obtain ⟨rfl, rfl, h3⟩ := h
  obtain rfl := List.length_eq_zero_iff.1 h3
  rfl
theorem lastIx_spec {c : Int} : ∀ {l : List opT.D} {i : Nat}, lastIx c l = some i → ∃ o, l[i]? = some o ∧ oc o = c ∧ ∀ j p, l[j]? = some p → i < j → oc p ≠ c
  | [], i, h => by cases h
  | o :: t, i, h => by
    rw [lastIx] at h
    cases ht : lastIx c t with
    | some j =>
      rw [ht] at h
      simp only [Option.some.injEq] at h
      subst h
      obtain ⟨p, h1, h2, h3⟩ := lastIx_spec ht
      refine ⟨p, by simpa using h1, h2, fun j' q hq hj => ?_⟩
      cases j' with
      | zero => omega
      | succ j' => exact h3 j' q (by simpa using hq) (by omega)
    | none =>
      rw [ht] at h
      simp only at h
      split at h
      · simp only [Option.some.injEq] at h
        subst h
        refine ⟨o, rfl, by assumption, fun j' q hq hj => ?_⟩
        cases j' with
        | zero => omega
        | succ j' =>
          intro hc
          have : ∀ {l : List opT.D}, lastIx c l = none → ∀ p ∈ l, oc p ≠ c := by
            intro l
            induction l with
            | nil => intro _ p hp; cases hp
            | cons a r ih =>
              intro h p hp
              rw [lastIx] at h
              cases hr : lastIx c r with
              | some k => rw [hr] at h; cases h
              | none =>
                rw [hr] at h
                simp only at h
                split at h
                · cases h
                · rcases List.mem_cons.1 hp with rfl | hp
                  · assumption
                  · exact ih hr p hp
          exact this ht q (List.mem_of_getElem? (by simpa using hq)) hc
      · cases h
theorem lastIx_of {c : Int} {l : List opT.D} {i : Nat} {o : opT.D} (h1 : l[i]? = some o) (h2 : oc o = c) (h3 : ∀ j p, l[j]? = some p → i < j → oc p ≠ c) : lastIx c l = some i := by
  obtain ⟨hi, hio⟩ := List.getElem?_eq_some_iff.1 h1
  exact lastIx_some hi (by rw [hio]; exact h2) fun j hj hij => h3 j _ (List.getElem?_eq_getElem hj) hij
def cw (o : opT.D) : Nat := if oe o = -1 then 1 else 2
/-- How operations go with their events. -/
structure OI (s : Hs) : Prop where
  len : s.opn.length = 64
  call : ∀ (i : Nat) (o : opT.D), s.ops[i]? = some o → ∃ k : Nat, ob o = k ∧ s.evs[k]? = some (evCa o)
  ret : ∀ (i : Nat) (o : opT.D), s.ops[i]? = some o → (oe o = -1 ∧ o.2.2.1 = yNil) ∨ ∃ k : Nat, oe o = k ∧ ob o < k ∧ s.evs[k]? = some (evRe o)
  cov : ∀ k, k < s.evs.length → ∃ (i : Nat) (o : opT.D), s.ops[i]? = some o ∧ (ob o = k ∨ oe o = k)
  up : ∀ (i j : Nat) (o p : opT.D), s.ops[i]? = some o → s.ops[j]? = some p → i < j → ob o < ob p
  ends : ∀ (i j : Nat) (o p : opT.D), s.ops[i]? = some o → s.ops[j]? = some p → i ≠ j → oe o = -1 ∨ oe o ≠ oe p
  sq : ∀ (i j : Nat) (o p : opT.D), s.ops[i]? = some o → s.ops[j]? = some p → i < j → oc o = oc p → 0 ≤ oe o ∧ oe o < ob p
  op : ∀ (i : Nat) (o : opT.D), s.ops[i]? = some o → oe o = -1 → s.opn.getD (Int.toNat (oc o)) false = true
  last : ∀ c : Nat, c < 64 → s.opn.getD c false = true → ∃ (i : Nat) (o : opT.D), lastIx (c : Int) s.ops = some i ∧ s.ops[i]? = some o ∧ oe o = -1
  cl : ∀ (i : Nat) (o : opT.D), s.ops[i]? = some o → 0 ≤ oc o ∧ oc o < 64
  cnt : (s.ops.map cw).sum = s.evs.length
theorem oi0 : OI Hs.new := by
  have hn : ∀ (i : Nat) (o : opT.D), Hs.new.ops[i]? = some o → False := fun i o h => by simp [Hs.new] at h
  refine ⟨by simp [Hs.new], fun i o h => (hn i o h).elim, fun i o h => (hn i o h).elim, fun k h => by simp [Hs.new] at h, fun i j o p h => (hn i o h).elim, fun i j o p h => (hn i o h).elim, fun i j o p h => (hn i o h).elim, fun i o h => (hn i o h).elim, fun c hc h => ?_, fun i o h => (hn i o h).elim, by simp [Hs.new]⟩
  exfalso
  have : Hs.new.opn.getD c false = false := by
    show (List.replicate 64 false).getD c false = false
    rw [List.getD_eq_getElem?_getD, List.getElem?_replicate, if_pos hc]; rfl
  rw [this] at h; cases h
theorem app_cases {α : Type} {l : List α} {a o : α} {i : Nat} (h : (l ++ [a])[i]? = some o) : (l[i]? = some o ∧ i < l.length) ∨ (i = l.length ∧ o = a) := by
  by_cases hi : i < l.length
  · rw [List.getElem?_append_left hi] at h; exact .inl ⟨h, hi⟩
  · rw [List.getElem?_append_right (by omega)] at h
    cases hk : i - l.length with
    | zero => rw [hk] at h; simp at h; exact .inr ⟨by omega, h.symm⟩
    | succ k => rw [hk] at h; simp at h
theorem app_lt {α : Type} {l : List α} {a e : α} {i : Nat} (h : l[i]? = some e) : (l ++ [a])[i]? = some e := by
  obtain ⟨hi, _⟩ := List.getElem?_eq_some_iff.1 h
  rw [List.getElem?_append_left hi]; exact h
theorem lt_of {α : Type} {l : List α} {e : α} {i : Nat} (h : l[i]? = some e) : i < l.length := (List.getElem?_eq_some_iff.1 h).1
theorem set_cases {α : Type} {l : List α} {a o : α} {i j : Nat} (h : (l.set i a)[j]? = some o) : (j = i ∧ o = a) ∨ (j ≠ i ∧ l[j]? = some o) := by
  rw [List.getElem?_set] at h
  by_cases hij : i = j
  · subst hij
    rw [if_pos rfl] at h
    split at h
    · exact .inl ⟨rfl, (Option.some.inj h).symm⟩
    · cases h
  · rw [if_neg hij] at h; exact .inr ⟨fun e => hij e.symm, h⟩
theorem getD_set {l : List Bool} {i j : Nat} (b : Bool) (hi : i < l.length) : (l.set i b).getD j false = if j = i then b else l.getD j false := by
  simp only [List.getD_eq_getElem?_getD, List.getElem?_set]
  by_cases h : j = i
  · subst h; simp [hi]
  · simp [h, Ne.symm h]
theorem OI.stepC {s : Hs} {x : evT.D} (I : OI s) {c : Nat} (hc : @Eq Int x.1 (c : Int)) (hc64 : c < 64) (hr : x.2.1 = false) (ho : s.opn.getD c false = false) (hu : unsaidR x.2.2.2 = true) : OI (putS s x) := by
  have hops : (putS s x).ops = s.ops ++ [opN x s.evs.length] := by show opsS s x = _; rw [opsS, if_pos hr]
  have hevs : (putS s x).evs = s.evs ++ [x] := rfl
  have hopn : (putS s x).opn = s.opn.set c true := by
    show s.opn.set (Int.toNat x.1) (!x.2.1) = _
    rw [hr, hc]; rfl
  have hoc : oc (opN x s.evs.length) = c := hc
  have hob : ob (opN x s.evs.length) = s.evs.length := rfl
  have hoe : oe (opN x s.evs.length) = -1 := rfl
  have hx : x = evCa (opN x s.evs.length) := by
    obtain ⟨a, b, d, e⟩ := x
    have := unsaidR_eq hu
    simp only at hr this
    subst hr this
    rfl
  have hg : ∀ j, (s.opn.set c true).getD j false = if j = c then true else s.opn.getD j false := fun j => getD_set true (by rw [I.len]; exact hc64)
  have old : ∀ (i : Nat) (o : opT.D), s.ops[i]? = some o → ob o < s.evs.length ∧ oe o < s.evs.length ∧ 0 ≤ ob o := by
    intro i o h
    obtain ⟨k, h1, h2⟩ := I.call i o h
    have := lt_of h2
    rcases I.ret i o h with ⟨h3, _⟩ | ⟨k', h3, h4, h5⟩
    · omega
    · have := lt_of h5; omega
  -- no open operation of this client
  have noop : ∀ (i : Nat) (o : opT.D), s.ops[i]? = some o → oc o = c → 0 ≤ oe o := by
    intro i o h h1
    rcases I.ret i o h with ⟨h3, _⟩ | ⟨k', h3, _⟩
    · have := I.op i o h h3
      rw [h1, Int.toNat_natCast, ho] at this; cases this
    · omega
  refine ⟨?_, ?_, ?_, ?_, ?_, ?_, ?_, ?_, ?_, ?_, ?_⟩
  · rw [hopn, List.length_set]; exact I.len
  · intro i o h
    rw [hops] at h; rw [hevs]
    rcases app_cases h with ⟨h, _⟩ | ⟨_, rfl⟩
    · obtain ⟨k, h1, h2⟩ := I.call i o h
      exact ⟨k, h1, app_lt h2⟩
    · exact ⟨s.evs.length, hob, by rw [List.getElem?_append_right (Nat.le_refl _), Nat.sub_self, List.getElem?_cons_zero, ← hx]⟩
  · intro i o h
    rw [hops] at h; rw [hevs]
    rcases app_cases h with ⟨h, _⟩ | ⟨_, rfl⟩
    · rcases I.ret i o h with h1 | ⟨k, h1, h2, h3⟩
      · exact .inl h1
      · exact .inr ⟨k, h1, h2, app_lt h3⟩
    · exact .inl ⟨hoe, rfl⟩
  · intro k hk
    rw [hevs, List.length_append] at hk
    rw [hops]
    by_cases h : k < s.evs.length
    · obtain ⟨i, o, h1, h2⟩ := I.cov k h
      exact ⟨i, o, app_lt h1, h2⟩
    · have : k = s.evs.length := by simp at hk; omega
      exact ⟨s.ops.length, _, by rw [List.getElem?_append_right (Nat.le_refl _), Nat.sub_self, List.getElem?_cons_zero], .inl (by rw [hob, this])⟩
  · intro i j o p h1 h2 hij
    rw [hops] at h1 h2
    rcases app_cases h1 with ⟨h1, hi⟩ | ⟨hi, rfl⟩
    · rcases app_cases h2 with ⟨h2, _⟩ | ⟨_, rfl⟩
      · exact I.up i j o p h1 h2 hij
      · rw [hob]; exact (old i o h1).1
    · rcases app_cases h2 with ⟨h2, hj⟩ | ⟨hj, rfl⟩ <;> omega
  · intro i j o p h1 h2 hij
    rw [hops] at h1 h2
    rcases app_cases h1 with ⟨h1, hi⟩ | ⟨hi, rfl⟩
    · rcases app_cases h2 with ⟨h2, _⟩ | ⟨_, rfl⟩
      · exact I.ends i j o p h1 h2 hij
      · rcases I.ret i o h1 with ⟨h3, _⟩ | ⟨k, h3, _⟩
        · exact .inl h3
        · exact .inr (by rw [hoe]; omega)
    · exact .inl hoe
  · intro i j o p h1 h2 hij hcc
    rw [hops] at h1 h2
    rcases app_cases h1 with ⟨h1, hi⟩ | ⟨hi, rfl⟩
    · rcases app_cases h2 with ⟨h2, _⟩ | ⟨_, rfl⟩
      · exact I.sq i j o p h1 h2 hij hcc
      · rw [hob]; exact ⟨noop i o h1 (by rw [hcc, hoc]), (old i o h1).2.1⟩
    · rcases app_cases h2 with ⟨h2, hj⟩ | ⟨hj, rfl⟩ <;> omega
  · intro i o h1 h2
    rw [hops] at h1
    rw [hopn, hg]
    rcases app_cases h1 with ⟨h1, hi⟩ | ⟨hi, rfl⟩
    · split
      · rfl
      · exact I.op i o h1 h2
    · rw [hoc, Int.toNat_natCast, if_pos rfl]
  · intro d hd h1
    rw [hopn, hg] at h1
    rw [hops]
    by_cases hdc : d = c
    · subst hdc
      refine ⟨s.ops.length, _, lastIx_of (o := opN x s.evs.length) (by rw [List.getElem?_append_right (Nat.le_refl _), Nat.sub_self, List.getElem?_cons_zero]) hoc (fun j p hj hlt => ?_), by rw [List.getElem?_append_right (Nat.le_refl _), Nat.sub_self, List.getElem?_cons_zero], hoe⟩
      rcases app_cases hj with ⟨_, h⟩ | ⟨h, _⟩ <;> omega
    · rw [if_neg hdc] at h1
      obtain ⟨i, o, k1, k2, k3⟩ := I.last d hd h1
      obtain ⟨o', m1, m2, m3⟩ := lastIx_spec k1
      rw [k2] at m1
      obtain rfl := Option.some.inj m1
      refine ⟨i, o, lastIx_of (app_lt k2) m2 (fun j p hj hlt => ?_), app_lt k2, k3⟩
      rcases app_cases hj with ⟨h, _⟩ | ⟨_, rfl⟩
      · exact m3 j p h hlt
      · rw [hoc]; omega
  · intro i o h1
    rw [hops] at h1
    rcases app_cases h1 with ⟨h1, hi⟩ | ⟨hi, rfl⟩
    · exact I.cl i o h1
    · rw [hoc]; omega
  · rw [hops, hevs, List.map_append, List.sum_append, I.cnt, List.length_append]
    have : cw (opN x s.evs.length) = 1 := by rw [cw, if_pos hoe]
    simp [this]
theorem sum_set {l : List opT.D} {i : Nat} {o w : opT.D} (h : l[i]? = some o) : ((l.set i w).map cw).sum + cw o = (l.map cw).sum + cw w := by
  induction l generalizing i with
  | nil => simp at h
  | cons a t ih =>
    cases i with
    | zero =>
      simp only [List.getElem?_cons_zero, Option.some.injEq] at h
      subst h
      simp only [List.set_cons_zero, List.map_cons, List.sum_cons]; omega
    | succ i =>
      have := ih (i := i) (by simpa using h)
      simp only [List.set_cons_succ, List.map_cons, List.sum_cons]; omega
theorem set_at {α : Type} {l : List α} {a o : α} {i j : Nat} (h : l[j]? = some o) (hne : j ≠ i) : (l.set i a)[j]? = some o := by
  rw [List.getElem?_set, if_neg fun e => hne e.symm]; exact h
theorem set_here {α : Type} {l : List α} {a o : α} {i : Nat} (h : l[i]? = some o) : (l.set i a)[i]? = some a := by
  rw [List.getElem?_set, if_pos rfl, if_pos (lt_of h)]
theorem OI.stepR {s : Hs} {x : evT.D} (I : OI s) {c : Nat} (hc : @Eq Int x.1 (c : Int)) (hc64 : c < 64) (hr : x.2.1 = true) (ho : s.opn.getD c false = true) (hu : emptyC x.2.2.1 = true) : OI (putS s x) := by
  obtain ⟨i0, o0, k1, k2, k3⟩ := I.last c hc64 ho
  obtain ⟨o', m1, m2, m3⟩ := lastIx_spec k1
  rw [k2] at m1
  obtain rfl := Option.some.inj m1
  have hops : (putS s x).ops = s.ops.set i0 (clo x s.evs.length o0) := by
    show opsS s x = _
    have : lastIx x.1 s.ops = some i0 := by rw [hc]; exact k1
    rw [opsS, if_neg (by rw [hr]; simp), this]
    simp only [k2]
  have hevs : (putS s x).evs = s.evs ++ [x] := rfl
  have hopn : (putS s x).opn = s.opn.set c false := by
    show s.opn.set (Int.toNat x.1) (!x.2.1) = _
    rw [hr, hc]; rfl
  have hoc : oc (clo x s.evs.length o0) = c := m2
  have hob : ob (clo x s.evs.length o0) = ob o0 := rfl
  have hoe : oe (clo x s.evs.length o0) = s.evs.length := rfl
  have hca : evCa (clo x s.evs.length o0) = evCa o0 := rfl
  have hcw : cw (clo x s.evs.length o0) = 2 := by rw [cw, if_neg (by rw [hoe]; omega)]
  have hcw0 : cw o0 = 1 := by rw [cw, if_pos k3]
  have hx : x = evRe (clo x s.evs.length o0) := by
    obtain ⟨a, b, d, e⟩ := x
    have hd := emptyC_eq hu
    have hm : @Eq Int o0.1 c := m2
    simp only at hr hd hc
    subst hr hd
    show (a, true, cNil, e) = (o0.1, true, cNil, e)
    rw [hm, ← hc]
  generalize hw : clo x s.evs.length o0 = w at *
  have hg : ∀ j, (s.opn.set c false).getD j false = if j = c then false else s.opn.getD j false := fun j => getD_set false (by rw [I.len]; exact hc64)
  have old : ∀ (i : Nat) (o : opT.D), s.ops[i]? = some o → ob o < s.evs.length ∧ oe o < s.evs.length ∧ 0 ≤ ob o := by
    intro i o h
    obtain ⟨k, h1, h2⟩ := I.call i o h
    have := lt_of h2
    rcases I.ret i o h with ⟨h3, _⟩ | ⟨k', h3, h4, h5⟩
    · omega
    · have := lt_of h5; omega
  refine ⟨?_, ?_, ?_, ?_, ?_, ?_, ?_, ?_, ?_, ?_, ?_⟩
  · rw [hopn, List.length_set]; exact I.len
  · intro i o h
    rw [hops] at h; rw [hevs]
    rcases set_cases h with ⟨_, rfl⟩ | ⟨_, h⟩
    · obtain ⟨k, h1, h2⟩ := I.call i0 o0 k2
      exact ⟨k, by rw [hob]; exact h1, by rw [hca]; exact app_lt h2⟩
    · obtain ⟨k, h1, h2⟩ := I.call i o h
      exact ⟨k, h1, app_lt h2⟩
  · intro i o h
    rw [hops] at h; rw [hevs]
    rcases set_cases h with ⟨_, rfl⟩ | ⟨_, h⟩
    · exact .inr ⟨s.evs.length, hoe, by rw [hob]; exact (old i0 o0 k2).1, by rw [List.getElem?_append_right (Nat.le_refl _), Nat.sub_self, List.getElem?_cons_zero, ← hx]⟩
    · rcases I.ret i o h with h1 | ⟨k, h1, h2, h3⟩
      · exact .inl h1
      · exact .inr ⟨k, h1, h2, app_lt h3⟩
  · intro k hk
    rw [hevs, List.length_append] at hk
    rw [hops]
    by_cases h : k < s.evs.length
    · obtain ⟨i, o, h1, h2⟩ := I.cov k h
      by_cases hi : i = i0
      · subst hi
        rw [k2] at h1
        obtain rfl := Option.some.inj h1
        refine ⟨i, w, set_here k2, .inl ?_⟩
        rw [hob]
        rcases h2 with h2 | h2
        · exact h2
        · rw [k3] at h2; omega
      · exact ⟨i, o, set_at h1 hi, h2⟩
    · have : k = s.evs.length := by simp at hk; omega
      exact ⟨i0, w, set_here k2, .inr (by rw [hoe, this])⟩
  · intro i j o p h1 h2 hij
    rw [hops] at h1 h2
    rcases set_cases h1 with ⟨rfl, rfl⟩ | ⟨hi, q1⟩
    · rcases set_cases h2 with ⟨rfl, _⟩ | ⟨_, q2⟩
      · omega
      · rw [hob]; exact I.up _ j o0 p k2 q2 hij
    · rcases set_cases h2 with ⟨rfl, rfl⟩ | ⟨_, q2⟩
      · rw [hob]; exact I.up i _ o o0 q1 k2 hij
      · exact I.up i j o p q1 q2 hij
  · intro i j o p h1 h2 hij
    rw [hops] at h1 h2
    rcases set_cases h1 with ⟨rfl, rfl⟩ | ⟨hi, q1⟩
    · rcases set_cases h2 with ⟨rfl, _⟩ | ⟨_, q2⟩
      · omega
      · have := (old j p q2).2.1
        exact .inr (by rw [hoe]; omega)
    · rcases set_cases h2 with ⟨rfl, rfl⟩ | ⟨_, q2⟩
      · have := (old i o q1).2.1
        exact .inr (by rw [hoe]; omega)
      · exact I.ends i j o p q1 q2 hij
  · intro i j o p h1 h2 hij hcc
    rw [hops] at h1 h2
    rcases set_cases h1 with ⟨rfl, rfl⟩ | ⟨hi, q1⟩
    · rcases set_cases h2 with ⟨rfl, _⟩ | ⟨_, q2⟩
      · omega
      · exact absurd (hcc.symm.trans hoc) (m3 j p q2 hij)
    · rcases set_cases h2 with ⟨rfl, rfl⟩ | ⟨_, q2⟩
      · rw [hob]; exact I.sq i _ o o0 q1 k2 hij (by rw [hcc, hoc]; exact m2.symm)
      · exact I.sq i j o p q1 q2 hij hcc
  · intro i o h1 h2
    rw [hops] at h1
    rw [hopn, hg]
    rcases set_cases h1 with ⟨rfl, rfl⟩ | ⟨hi, q1⟩
    · rw [hoe] at h2; omega
    · have hop := I.op i o q1 h2
      have hcl := I.cl i o q1
      by_cases hoc' : oc o = c
      · exfalso
        rcases Nat.lt_or_gt_of_ne hi with h | h
        · have := (I.sq i i0 o o0 q1 k2 h (hoc'.trans m2.symm)).1
          omega
        · exact m3 i o q1 h hoc'
      · rw [if_neg (by omega)]; exact hop
  · intro d hd h1
    rw [hopn, hg] at h1
    rw [hops]
    by_cases hdc : d = c
    · rw [if_pos hdc] at h1; cases h1
    · rw [if_neg hdc] at h1
      obtain ⟨i, o, q1, q2, q3⟩ := I.last d hd h1
      obtain ⟨o', n1, n2, n3⟩ := lastIx_spec q1
      rw [q2] at n1
      obtain rfl := Option.some.inj n1
      have hne : i ≠ i0 := by
        rintro rfl
        rw [k2] at q2
        obtain rfl := Option.some.inj q2
        rw [m2] at n2; omega
      refine ⟨i, o, lastIx_of (set_at q2 hne) n2 (fun j p hj hlt => ?_), set_at q2 hne, q3⟩
      rcases set_cases hj with ⟨_, rfl⟩ | ⟨_, h⟩
      · rw [hoc]; omega
      · exact n3 j p h hlt
  · intro i o h1
    rw [hops] at h1
    rcases set_cases h1 with ⟨rfl, rfl⟩ | ⟨hi, q1⟩
    · rw [hoc]; omega
    · exact I.cl i o q1
  · rw [hops, hevs, List.length_append]
    have h1 := sum_set (w := w) k2
    have h2 := I.cnt
    simp only [List.length_cons, List.length_nil]
    omega
theorem OI.step {s : Hs} {x : evT.D} (I : OI s) (h : turnE s x = 0) : OI (putS s x) := by
  obtain ⟨hb, ⟨c, hc, hc64, ho⟩, _⟩ := turn0 h
  cases hr : x.2.1 with
  | false =>
    rw [hr] at ho
    refine I.stepC hc hc64 hr ho ?_
    cases hu : unsaidR x.2.2.2 with
    | true => rfl
    | false => exact absurd (.inr (.inr (.inr ⟨hr, hu⟩))) hb
  | true =>
    rw [hr] at ho
    refine I.stepR hc hc64 hr ho ?_
    cases hu : emptyC x.2.2.1 with
    | true => rfl
    | false => exact absurd (.inr (.inr (.inl ⟨hr, hu⟩))) hb
theorem OI.all {l : List evT.D} {s : Hs} {n : Nat} (I : OI s) (h : (ofG s l n).2.2 = 0) : OI (ofG s l n).1 := by
  induction l generalizing s n with
  | nil => exact I
  | cons x t ih =>
    rw [ofG] at h ⊢
    by_cases hT : turnE s x = 0
    · rw [if_pos hT] at h ⊢
      exact ih (I.step hT) h
    · rw [if_neg hT] at h
      exact absurd h hT
end Go.Proofs.Ytmolhemoiplpfaa.hi
namespace Go.Proofs.Ytmolhemoiplpfaa.hi
open Go.Proofs.Ytmolhemoiplpfaa
set_option linter.unusedVariables false
set_option linter.unusedSimpArgs false
def ahead (x y : opT.D) : Bool := decide (0 ≤ oe x ∧ oe x < ob y)
theorem Ahead_ok {S T : Nat → Prop} {h : H} {cs ds : List Value} {x y : opT.D} (hx : Rep S opT h cs x) (hy : Rep T opT h ds y) :
    Ok Try.prog 18 #[.agg cs.toArray, .agg ds.toArray] h fun v h' => v = .bool (ahead x y) ∧ Ext h h' := by
  obtain ⟨r, q, rfl, _⟩ := rep_op.1 hx
  obtain ⟨r2, q2, rfl, _⟩ := rep_op.1 hy
  refine c18_ok (args := [_, _]) (by simp) ?_
  simp (disch := omega) only [dm_t, wS, simprocAttr, IntKind.bits]
  intro pa hpa pb hpb
  generalize hG : hupd h pa _ = g1 at hpb ⊢
  obtain ⟨e1, qa⟩ := new_ext hG hpa
  clear hG
  generalize hG : hupd g1 pb _ = g2
  obtain ⟨e2, qb⟩ := new_ext hG hpb
  clear hG
  have ca : cellAt g2 ⟨pa, 10, none⟩ = some (.int .i64 (oe x)) := by rw [cellAt_of (e2.at qa)]; rfl
  have cb : cellAt g2 ⟨pb, 9, none⟩ = some (.int .i64 (ob y)) := by rw [cellAt_of qb]; rfl
  unfold ahead
  by_cases h1 : 0 ≤ oe x
  · by_cases h2 : oe x < ob y
    · simp (disch := omega) only [dm_t, wS, simprocAttr, IntKind.bits, ca, cb]
      exact e1.trans e2
    · simp (disch := omega) only [dm_t, wS, simprocAttr, IntKind.bits, ca, cb]
      exact e1.trans e2
  · simp (disch := omega) only [dm_t, wS, simprocAttr, IntKind.bits, ca, cb]
    exact e1.trans e2
/-- What put writes into: three variables, two lists. -/
structure BX (h0 g : H) (pn pf po : Nat) (vf vo : Value) (fl : List Bool) (os : List evT.D) : Prop where
  n : g pn = some (.cells #[.int .i64 (os.length : Int)] 3)
  f : g pf = some (.cells #[vf] 72)
  o : g po = some (.cells #[vo] 31)
  fs : O1 (fun y => h0 y = none) g 4 vf (fl.map Value.bool)
  outs : OwL (fun y => isAt vf y) evT (fun y => h0 y = none) g 41 vo os
  len : fl.length = os.length
  E : Ext h0 g
theorem bput_ok {h0 g : H} {pn pf po at' : Nat} {vf vo : Value} {fl : List Bool} {os : List evT.D} {S : Nat → Prop} {cs : List Value} {x : evT.D} (B : BX h0 g pn pf po vf vo fl os) (hat : at' < os.length) (hl : os.length ≤ 65536) (hfl : fl.getD at' false = false)
    (hx : Rep S evT g cs x) (h1 : limL x.2.2.1.2.2.1) (h2 : limL x.2.2.2.2.2) :
    Ok Try.prog 32 #[.int .i64 (at' : Int), .agg cs.toArray, .pointer (some ⟨pn, 0, none⟩), .pointer (some ⟨pf, 0, none⟩), .pointer (some ⟨po, 0, none⟩)] g fun v g' => v = .bool true ∧ BX h0 g' pn pf po vf vo (fl.set at' true) (os.set at' x) ∧ Fr (fun y => isAt vf y ∨ isAt vo y) g g' := by
  have hlen := B.len
  have hcs := Rep.cells hx
  have hcl := Rep.len hx
  refine c32_ok (args := [_, _, _, _, _]) (by simp) ?_
  simp (disch := omega) only [dm_t, wS, simprocAttr, IntKind.bits]
  intro eb heb
  generalize hG : hupd g eb _ = g1
  obtain ⟨e1, q1⟩ := new_ext hG heb
  clear hG
  have fs1 := B.fs.ext e1
  have os1 := B.outs.ext e1
  obtain ⟨fb, fo, fi, ft⟩ := S1.load fs1.s0 (i := at') (by simp; omega) .i64
  have hfb : (fl.map Value.bool)[at']'(by simp; omega) = .bool false := by
    rw [List.getElem_map]
    rw [List.getD_eq_getElem?_getD, List.getElem?_eq_getElem (by omega)] at hfl
    exact congrArg _ hfl
  rw [hfb] at ft
  have cn : ∀ G, Ext g1 G → cellAt G ⟨pn, 0, none⟩ = some (.int .i64 (os.length : Int)) := fun G e => by rw [cellAt_of (e.at (e1.at B.n))]; rfl
  have cf : ∀ G, Ext g1 G → cellAt G ⟨pf, 0, none⟩ = some vf := fun G e => by rw [cellAt_of (e.at (e1.at B.f))]; rfl
  have co : ∀ G, Ext g1 G → cellAt G ⟨po, 0, none⟩ = some vo := fun G e => by rw [cellAt_of (e.at (e1.at B.o))]; rfl
  have ce : ∀ G, Ext g1 G → cellsAt G ⟨eb, 0, none⟩ 10 = some cs.toArray := fun G e => cellsAt_all (e.at q1) 10 hcl
  have er := Ext.refl g1
  simp (disch := omega) only [dm_t, wS, simprocAttr, IntKind.bits, cn _ er, cf _ er, co _ er, ce _ er, fi, ft]
  refine (event_ok (hx.ext e1) h1 h2).k ?_
  rintro _ g2 ⟨cs', rfl, r2, e2⟩
  have fs2 := fs1.ext e2
  have os2 := os1.ext e2
  have hc2 := Rep.cells r2
  have hl2 : cs'.length = 10 := Rep.len r2
  obtain ⟨b2, o2, ds, i2, a2, O2, t2, rr2, st2⟩ := os2.set (i := at') hat .i64 10 rfl
  obtain ⟨b3, o3, i3, a3, t3, st3⟩ := O1.put fs2 (i := at') (by simp; omega) .i64
  simp (disch := omega) only [dm_t, wS, simprocAttr, IntKind.bits, cn _ e2, cf _ e2, co _ e2, ce _ e2, i2, i3]
  obtain ⟨rows2, ow2⟩ := os2.k
  have E2 := e1.trans e2
  have qn2 := E2.at B.n
  have qf2 := E2.at B.f
  have qo2 := E2.at B.o
  have qe2 := e2.at q1
  have npn : pn ≠ b2 := fun h => os2.tyno qn2 (by decide) (h ▸ a2)
  have npf : pf ≠ b2 := fun h => os2.tyno qf2 (by decide) (h ▸ a2)
  have npo : po ≠ b2 := fun h => os2.tyno qo2 (by decide) (h ▸ a2)
  refine ⟨hl2, st2 0 cs' x _ (by omega) hc2 ?_ ?_⟩
  · rw [hl2, List.take_zero, List.nil_append, List.drop_of_length_le (by have : ds.length = 10 := Rep.len rr2; omega), List.append_nil]
    exact r2.mono fun y o hy h => h.elim (fun h => os1.there h) fun h => OwK.there fs1 h
  intro g3 os3 f3
  have fs3 : O1 (fun y => h0 y = none) g3 4 vf (fl.map Value.bool) := OwK.fr fs2 f3 fun y hy _ h => by
    rw [hy] at h
    exact OwK.unlike fs2 ow2 (by decide) h a2
  have cf3 : cellAt g3 ⟨pf, 0, none⟩ = some vf := by rw [cellAt_of (f3 _ _ qf2 npf)]; rfl
  have co3 : cellAt g3 ⟨po, 0, none⟩ = some vo := by rw [cellAt_of (f3 _ _ qo2 npo)]; rfl
  simp (disch := omega) only [dm_t, wS, simprocAttr, IntKind.bits, cf3, co3, i2, i3]
  obtain ⟨b4, o4, i4, a4, t4, st4⟩ := O1.put fs3 (i := at') (by simp; omega) .i64
  rw [i3] at i4
  simp only [Option.some.injEq, Value.pointer.injEq, Addr.mk.injEq, and_true] at i4
  obtain ⟨rfl, rfl⟩ := i4
  refine st4 (.bool true) _ rfl ?_
  intro g4 fs4 f4
  have E3 : Ext h0 g3 := Ext.step' (B.E.trans E2) f3 fun y hy => by rw [hy]; exact O2
  have E4 : Ext h0 g4 := Ext.step' E3 f4 fun y hy => by rw [hy]; exact OwK.own fs3 a4
  have mpn : pn ≠ b3 := fun h => OwK.tyno fs2 qn2 (by decide) (h ▸ a3)
  have mpf : pf ≠ b3 := fun h => OwK.tyno fs2 qf2 (by decide) (h ▸ a3)
  have mpo : po ≠ b3 := fun h => OwK.tyno fs2 qo2 (by decide) (h ▸ a3)
  have qf4 := f4 _ _ (f3 _ _ qf2 npf) mpf
  have qo4 := f4 _ _ (f3 _ _ qo2 npo) mpo
  have qn4 := f4 _ _ (f3 _ _ qn2 npn) mpn
  simp (disch := omega) only [dm_t, wS, simprocAttr, IntKind.bits]
  refine ⟨⟨by rw [List.length_set]; exact qn4, qf4, qo4, by rw [List.map_set]; exact fs4, ?_, by simp [hlen], E4⟩, ((E2.mono fun y h => h.elim).trans (f3.mono fun y hy => by rw [hy]; exact .inr a2)).trans (f4.mono fun y hy => by rw [hy]; exact .inl a3)⟩
  obtain ⟨rows3, ow3⟩ := os3.k
  exact os3.fr f4 (fun y hy => by rw [hy]; exact a3) fun y hy _ h => by
    rw [hy] at h
    exact OwK.unlike fs3 ow3 (by decide) a4 h
end Go.Proofs.Ytmolhemoiplpfaa.hi
