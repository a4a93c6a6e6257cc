/-
  Slices as lists of values: read, owned, grown.
-/
import Derived.Test.YtojhnclkhiffkaaQ3
import Derived.WalkKit
import Derived.ProofKit
import Derived.OpenShut
import Derived.JoinedCond
import Derived.Carry
import Derived.SliceStrings
import Derived.Laws.Externs
import Derived.LaidEql
import GoSem.Extern.Atomic
import Derived.Laws.LoneSync
import Derived.Conc.EntryLaws
/-
  Slices as lists of values: read, owned, grown.
-/
namespace Go.Proofs.Ytojhnclkhiffkaa
set_option linter.unusedVariables false

/-- What was there is there, but for the blocks of S. -/
def Fr (S : Nat → Prop) (h h' : H) : Prop := ∀ x o, h x = some o → ¬ S x → h' x = some o
abbrev Ext (h h' : H) : Prop := Fr (fun _ => False) h h'
theorem Fr.refl (S : Nat → Prop) (h : H) : Fr S h h := fun _ _ h _ => h
theorem Fr.trans {S : Nat → Prop} {a b c : H} (h : Fr S a b) (k : Fr S b c) : Fr S a c := fun x o hx hs => k x o (h x o hx hs) hs
theorem Fr.mono {S T : Nat → Prop} {a b : H} (h : Fr S a b) (hst : ∀ x, S x → T x) : Fr T a b := fun x o hx hs => h x o hx fun h => hs (hst x h)
theorem storeH_same {h : H} {b : Nat} {c : Array Value} {E : TypeId} (o : Nat) (v : Value) (K : H → Prop) : storeH (hupd h b (.cells c E)) ⟨b, o, none⟩ [v] K = (o < c.size ∧ isCell v = true ∧ K (hupd h b (.cells (c.setIfInBounds o v) E))) := by
  rw [storeH_0 (hupd_same _ _ _), hupd_hupd]
theorem Ext.at {h h' : H} (e : Ext h h') {x : Nat} {o : Obj} (hx : h x = some o) : h' x = some o := e x o hx id
theorem Ext.new {h : H} {b : Nat} (hb : h b = none) (o : Obj) : Ext h (hupd h b o) := by
  intro x o' hx _
  rw [hupd_ne]
  · exact hx
  · rintro rfl; rw [hb] at hx; cases hx
theorem Fr.new {S : Nat → Prop} {h : H} {b : Nat} (hb : h b = none) (o : Obj) : Fr S h (hupd h b o) := (Ext.new hb o).mono fun _ h => h.elim
theorem Fr.upd {S : Nat → Prop} {h : H} {b : Nat} (hb : S b) (o : Obj) : Fr S h (hupd h b o) := by
  intro x o' hx hs
  rw [hupd_ne]
  · exact hx
  · rintro rfl; exact hs hb
theorem ne_of {h : H} {x b : Nat} {o : Obj} (hx : h x = some o) (hb : h b = none) : x ≠ b := by
  rintro rfl; rw [hb] at hx; cases hx

/-- A slice that reads as a list (elements of one cell). -/
def Sl (h : H) (v : Value) (xs : List Value) : Prop :=
  (∃ a, v = .slice a 0 0 ∧ xs = []) ∨
  ∃ b o cp c E fr, v = .slice (some ⟨b, o, none⟩) xs.length cp ∧ h b = some (.cells c E fr) ∧ o + cp ≤ c.size ∧ xs.length ≤ cp ∧ ∀ i (hi : i < xs.length), c[o + i]? = some xs[i]
/-- An element, by its place. -/
theorem Sl.load {h : H} {v : Value} {xs : List Value} (s : Sl h v xs) {k : Nat} (hk : k < xs.length) (kk : IntKind) : ∃ p, idxV1 1 v (.int kk (k : Int)) = some (.pointer (some p)) ∧ cellAt h p = some xs[k] := by
  rcases s with ⟨a, rfl, rfl⟩ | ⟨b, o, cp, c, E, fr, rfl, h2, h3, h4, h5⟩
  · simp at hk
  · refine ⟨⟨b, o + k, none⟩, ?_, ?_⟩
    · rw [idx_s, chk_pos (by omega)]
      simp
    · rw [cellAt_of h2, h5 k hk]
theorem Sl.len {h : H} {v : Value} {xs : List Value} (s : Sl h v xs) : ∃ a c, v = .slice a xs.length c := by
  rcases s with ⟨a, rfl, rfl⟩ | ⟨b, o, cp, c, E, fr, rfl, _⟩
  · exact ⟨_, _, rfl⟩
  · exact ⟨_, _, rfl⟩
theorem Sl.ext {h h' : H} {v : Value} {xs : List Value} (s : Sl h v xs) (e : Ext h h') : Sl h' v xs := by
  rcases s with s | ⟨b, o, cp, c, E, fr, h1, h2, h3⟩
  · exact .inl s
  · exact .inr ⟨b, o, cp, c, E, fr, h1, e.at h2, h3⟩
/-- .. whose block is none of S. -/
def SlF (S : Nat → Prop) (h : H) (v : Value) (xs : List Value) : Prop :=
  (∃ a, v = .slice a 0 0 ∧ xs = []) ∨
  ∃ b o cp c E fr, v = .slice (some ⟨b, o, none⟩) xs.length cp ∧ h b = some (.cells c E fr) ∧ o + cp ≤ c.size ∧ xs.length ≤ cp ∧ (∀ i (hi : i < xs.length), c[o + i]? = some xs[i]) ∧ ¬ S b
theorem SlF.sl {S : Nat → Prop} {h : H} {v : Value} {xs : List Value} (s : SlF S h v xs) : Sl h v xs := by
  rcases s with s | ⟨b, o, cp, c, E, fr, h1, h2, h3, h4, h5, h6⟩
  · exact .inl s
  · exact .inr ⟨b, o, cp, c, E, fr, h1, h2, h3, h4, h5⟩
theorem SlF.fr {S : Nat → Prop} {h h' : H} {v : Value} {xs : List Value} (s : SlF S h v xs) (e : Fr S h h') : SlF S h' v xs := by
  rcases s with s | ⟨b, o, cp, c, E, fr, h1, h2, h3, h4, h5, h6⟩
  · exact .inl s
  · exact .inr ⟨b, o, cp, c, E, fr, h1, e _ _ h2 h6, h3, h4, h5, h6⟩
theorem SlF.cut {S : Nat → Prop} {h : H} {a : Option Addr} {n c : Nat} {xs : List Value} (s : SlF S h (.slice a n c) xs) {lo hi : Int} {l u : Nat} (hl : lo = l) (hu : hi = u) (h2 : l ≤ u) (h3 : u ≤ n) :
    ∃ v, slcV 1 a n c false lo hi c = some v ∧ SlF S h v ((xs.drop l).take (u - l)) := by
  subst hl hu
  rcases s with ⟨a', s1, rfl⟩ | ⟨b, o, cp, cc, E, fr, s1, s2, s3, s4, s5, s6⟩
  · simp only [Value.slice.injEq] at s1
    obtain ⟨rfl, rfl, rfl⟩ := s1
    have : u = 0 := by omega
    have : l = 0 := by omega
    subst_vars
    exact ⟨_, rfl, .inl ⟨_, rfl, by simp⟩⟩
  · simp only [Value.slice.injEq] at s1
    obtain ⟨rfl, rfl, rfl⟩ := s1
    rw [slcV_eq, chk_pos (by omega)]
    by_cases hc : (c : Int) = l
    · refine ⟨_, rfl, .inr ⟨b, o, 0, cc, E, fr, ?_, s2, by omega, ?_, ?_, s6⟩⟩
      · rw [if_pos hc]
        simp only [Value.slice.injEq, true_and, List.length_take, List.length_drop]
        omega
      · simp; omega
      · intro i hi; simp at hi; omega
    · refine ⟨_, rfl, .inr ⟨b, o + l, c - l, cc, E, fr, ?_, s2, by omega, ?_, ?_, s6⟩⟩
      · rw [if_neg hc]
        simp only [Value.slice.injEq, Option.map_some, Option.some.injEq, Addr.add, List.length_take, List.length_drop]
        refine ⟨by simp, ?_, ?_⟩ <;> simp <;> omega
      · simp; omega
      · intro i hi
        simp at hi
        rw [Nat.add_assoc, s5 (l + i) (by omega)]
        simp
theorem Fr.own {S : Nat → Prop} {h h' : H} (f : Fr S h h') (hs : ∀ y, S y → h y = none) : Ext h h' :=
  fun x o hx _ => f x o hx fun hS => by rw [hs x hS] at hx; cases hx
/-- A slice of the call's own: not in h0, at its block's head. -/
def Own (h0 h : H) (E : TypeId) (v : Value) (xs : List Value) : Prop :=
  (v = .slice none 0 0 ∧ xs = []) ∨
  ∃ b cp c, v = .slice (some ⟨b, 0, none⟩) xs.length cp ∧ h b = some (.cells c E) ∧ c.size = cp ∧ xs.length ≤ cp ∧ (∀ i (hi : i < xs.length), c[i]? = some xs[i]) ∧ h0 b = none
theorem Own.sl {h0 h : H} {E : TypeId} {v : Value} {xs : List Value} (s : Own h0 h E v xs) : Sl h v xs := by
  rcases s with ⟨rfl, rfl⟩ | ⟨b, cp, c, h1, h2, h3, h4, h5, h6⟩
  · exact .inl ⟨_, rfl, rfl⟩
  · exact .inr ⟨b, 0, cp, c, E, (0, 0), h1, h2, by omega, h4, fun i hi => by rw [Nat.zero_add]; exact h5 i hi⟩
theorem Own.slF {h0 h : H} {E : TypeId} {v : Value} {xs : List Value} (s : Own h0 h E v xs) : SlF (fun x => h0 x ≠ none) h v xs := by
  rcases s with ⟨rfl, rfl⟩ | ⟨b, cp, c, h1, h2, h3, h4, h5, h6⟩
  · exact .inl ⟨_, rfl, rfl⟩
  · exact .inr ⟨b, 0, cp, c, E, (0, 0), h1, h2, by omega, h4, fun i hi => by rw [Nat.zero_add]; exact h5 i hi, fun hn => hn h6⟩
/-- A fresh literal. -/
theorem SlF.lit {S : Nat → Prop} {h : H} {b n : Nat} {E : TypeId} {xs : List Value} (hn : xs.length = n) (hs : ¬ S b) : SlF S (hupd h b (.cells xs.toArray E)) (.slice (some ⟨b, 0, none⟩) n n) xs :=
  .inr ⟨b, 0, n, xs.toArray, E, (0, 0), by rw [hn], hupd_same _ _ _, by simp [hn], by omega, fun i hi => by simp [hi], hs⟩
/-- Is block x this slice's? -/
def isAt (v : Value) (x : Nat) : Prop := ∃ o n c, v = .slice (some ⟨x, o, none⟩) n c
theorem Own.notAt {h0 h : H} {E : TypeId} {v : Value} {xs : List Value} (s : Own h0 h E v xs) {y : Nat} {o : Obj} (hy : h0 y = some o) : ¬ isAt v y := by
  rintro ⟨o', n, c, h⟩
  rcases s with ⟨h1, _⟩ | ⟨b, cp, c', h1, _, _, _, _, h6⟩
  · rw [h1] at h; simp at h
  · rw [h1] at h
    simp only [Value.slice.injEq, Option.some.injEq, Addr.mk.injEq] at h
    obtain ⟨⟨rfl, _⟩, _⟩ := h
    rw [h6] at hy; cases hy
/-- What was there is still there, as some object. -/
theorem Fr.back {S : Nat → Prop} {h h' : H} (f : Fr S h h') {y : Nat} (hy : h' y = none) (hs : ∀ y, S y → h' y ≠ none) : h y = none := by
  cases hc : h y with
  | none => rfl
  | some o =>
    by_cases hS : S y
    · exact absurd hy (hs y hS)
    · rw [f y o hc hS] at hy; cases hy
theorem Own.fr {h0 h h' : H} {E : TypeId} {v : Value} {xs : List Value} (s : Own h0 h E v xs) (e : ∀ x o, h x = some o → isAt v x → h' x = some o) : Own h0 h' E v xs := by
  rcases s with s | ⟨b, cp, c, h1, h2, h3⟩
  · exact .inl s
  · exact .inr ⟨b, cp, c, h1, e b _ h2 ⟨0, _, _, h1⟩, h3⟩
theorem Own.ext {h0 h h' : H} {E : TypeId} {v : Value} {xs : List Value} (s : Own h0 h E v xs) (e : Ext h h') : Own h0 h' E v xs := s.fr fun x o hx _ => e.at hx

theorem get_splice (l : List Value) : ∀ (c : Array Value) (o i : Nat), o + l.length ≤ c.size → (splice c o l)[i]? = if o ≤ i ∧ i < o + l.length then l[i - o]? else c[i]? := by
  induction l with
  | nil => intro c o i _; rw [if_neg (by simp only [List.length_nil]; omega)]; rfl
  | cons v r ih =>
    intro c o i hl
    simp only [List.length_cons] at hl
    rw [splice, ih _ _ _ (by simp; omega)]
    by_cases h1 : o + 1 ≤ i ∧ i < o + 1 + r.length
    · rw [if_pos h1, if_pos (by simp; omega)]
      rw [show i - o = (i - (o + 1)) + 1 by omega]
      simp
    · rw [if_neg h1]
      by_cases h2 : i = o
      · subst h2
        rw [if_pos (by simp)]
        have : i < c.size := by omega
        simp [this]
      · rw [if_neg (by simp; omega)]
        rw [Array.getElem?_setIfInBounds_ne (by omega)]

theorem srcCells_sl {h : H} {v : Value} {xs : List Value} (s : Sl h v xs) : srcLen v = some xs.length ∧ srcCells h 1 xs.length v = some xs.toArray := by
  rcases s with ⟨a, rfl, rfl⟩ | ⟨b, o, cp, c, E, fr, rfl, h2, h3, h4, h5⟩
  · exact ⟨rfl, by cases a <;> rfl⟩
  · refine ⟨rfl, ?_⟩
    show cellsAt h ⟨b, o, none⟩ (xs.length * 1) = _
    rw [Nat.mul_one, cellsAt_of h2 (by omega)]
    congr 1
    apply Array.ext'
    apply List.ext_getElem?
    intro i
    rw [Array.getElem?_toList, Array.getElem?_extract]
    by_cases hi : i < xs.length
    · rw [if_pos (by omega), h5 i hi]; simp [hi]
    · rw [if_neg (by omega)]; simp; omega

/-- append to a slice of the call's own. -/
theorem app_own {h0 h : H} {E : TypeId} {bytes : Nat} {z : Array Value} {s x : Value} {xs new : List Value} {V : Value → H → Prop} (hs : Own h0 h E s xs) (h00 : ∀ b, h b = none → h0 b = none)
    (hx : srcLen x = some new.length) (hc : srcCells h 1 new.length x = some new.toArray) (hcell : new.all isCell = true) (hz : z.size = 1) (hlen : 2 * ((xs.length + new.length) * bytes) ≤ 281474976710656) (hlen' : xs.length + new.length ≤ 9223372036854775807)
    (hk : ∀ v h', Own h0 h' E v (xs ++ new) → (∀ y o, h y = some o → ¬ isAt s y → h' y = some o) → (∀ y o, h0 y = some o → h y = some o → h' y = some o) → V v h') : appM E 1 bytes z s x h V := by
  have hnc : ∀ i (hi : i < new.length), new.toArray[i]? = some new[i] := by intro i hi; simp [hi]
  have grow : ∀ cap : Nat, cap < xs.length + new.length → ∀ old : Array Value, old = xs.toArray → ∀ c, xs.length + new.length ≤ c → ∀ b, h b = none →
      V (.slice (some ⟨b, 0, none⟩) (xs.length + new.length) c) (hupd h b (.cells (old ++ new.toArray ++ Builtin.zeroCells z (c - (xs.length + new.length))) E)) := by
    rintro cap hcap old rfl c hcl b hb
    refine hk _ _ (.inr ⟨b, c, xs.toArray ++ new.toArray ++ Builtin.zeroCells z (c - (xs.length + new.length)), by simp, hupd_same _ _ _, ?_, by simp; omega, ?_, h00 b hb⟩) (fun y o hy _ => by rw [hupd_ne _ _ (ne_of hy hb)]; exact hy) (fun y o _ hy => by rw [hupd_ne _ _ (ne_of hy hb)]; exact hy)
    · simp [Builtin.zeroCells, hz]; omega
    · intro i hi
      rw [Array.getElem?_append_left (by simpa using hi)]
      simp
  have hfit : ∀ cap, cap < xs.length + new.length → Builtin.nextslicecap (xs.length + new.length) cap * bytes ≤ 281474976710656 := by
    intro cap hcap
    have h1 := nextslicecap_le hcap
    have h2 : Builtin.nextslicecap (xs.length + new.length) cap * bytes ≤ (2 * (xs.length + new.length)) * bytes := Nat.mul_le_mul_right _ h1
    have h3 : (2 * (xs.length + new.length)) * bytes = 2 * ((xs.length + new.length) * bytes) := Nat.mul_assoc _ _ _
    omega
  rcases hs with ⟨rfl, rfl⟩ | ⟨b, cp, c, rfl, h2, h3, h4, h5, h6⟩
  · unfold appM
    simp only [hx]
    simp only [List.length_nil, Nat.zero_add] at *
    by_cases hn : new.length ≤ 0
    · rw [if_pos hn, hc]
      have : new = [] := by cases new <;> simp_all
      subst this
      exact hk _ _ (.inl ⟨rfl, rfl⟩) (fun _ _ h _ => h) (fun _ _ _ h => h)
    · rw [if_neg hn]
      refine ⟨⟨hlen', hfit 0 (by omega)⟩, ?_⟩
      rw [hc]
      simp only [srcCells]
      intro c hcl b hb
      exact grow 0 (by omega) #[] rfl c hcl b hb
  · have hold : srcCells h 1 xs.length (.slice (some ⟨b, 0, none⟩) xs.length cp) = some xs.toArray :=
      (srcCells_sl (h := h) (v := .slice (some ⟨b, 0, none⟩) xs.length cp) (xs := xs) (.inr ⟨b, 0, cp, c, E, (0, 0), rfl, h2, by omega, h4, fun i hi => by rw [Nat.zero_add]; exact h5 i hi⟩)).2
    unfold appM
    simp only [hx]
    by_cases hn : xs.length + new.length ≤ cp
    · rw [if_pos hn, hc]
      simp only []
      rw [Nat.mul_one, add_mk]
      refine storeH_in h2 (.inl (Nat.zero_le _)) (by simp; omega) hcell ?_
      refine hk _ _ (.inr ⟨b, cp, splice c (0 + xs.length) new, by simp, hupd_same _ _ _, by rw [size_splice]; exact h3, by simp; omega, ?_, h6⟩) (fun y o hy hne => ?_) (fun y o h0y hy => ?_)
      · intro i hi
        rw [get_splice _ _ _ _ (by omega)]
        by_cases hi' : i < xs.length
        · rw [if_neg (by omega), h5 i hi']; simp [hi']
        · rw [if_pos (by simp at hi; omega)]
          rw [List.getElem_append_right (by omega)]
          rw [show i - (0 + xs.length) = i - xs.length by omega]
          simp at hi
          rw [List.getElem?_eq_getElem (by omega)]
      · rw [hupd_ne]
        · exact hy
        · rintro rfl; exact hne ⟨0, _, _, rfl⟩
      · rw [hupd_ne]
        · exact hy
        · rintro rfl; rw [h6] at h0y; cases h0y
    · rw [if_neg hn]
      refine ⟨⟨hlen', hfit cp (by omega)⟩, ?_⟩
      rw [hold, hc]
      intro c' hcl b' hb
      exact grow cp (by omega) xs.toArray rfl c' hcl b' hb
theorem Own.older {h00 h0 h : H} {E : TypeId} {v : Value} {xs : List Value} (s : Own h0 h E v xs) (e : Ext h00 h0) : Own h00 h E v xs := by
  rcases s with s | ⟨b, cp, c, h1, h2, h3, h4, h5, h6⟩
  · exact .inl s
  · exact .inr ⟨b, cp, c, h1, h2, h3, h4, h5, e.back h6 (fun _ h => h.elim)⟩
theorem Fr.less {S T : Nat → Prop} {h h' : H} (f : Fr S h h') (hs : ∀ y, S y → T y ∨ h y = none) : Fr T h h' :=
  fun x o hx ht => f x o hx fun hS => by
    rcases hs x hS with h1 | h1
    · exact ht h1
    · rw [h1] at hx; cases hx
end Go.Proofs.Ytojhnclkhiffkaa

/-
  Slices whose elements have k cells; slices of the call's own, at any place of their block; bytes and texts.
-/
namespace Go.Proofs.Ytojhnclkhiffkaa
set_option linter.unusedVariables false
set_option linter.unusedSimpArgs false

/-! ### More rules of the walk -/
section
variable {Pg : Program} {P : Cx Pg} {e : Env} {h : H} {V : Value → H → Prop} {X : List PanicEntry → H → Prop}
def cvbsM (o : Option Value) (h : H) (K : Value → H → Prop) : Prop :=
  match o with
  | some (.slice none _ _) => K (.string .empty) h
  | some (.slice (some p) n _) => match cellsAt h p n with
    | some cs => (cs.toList.all isByte = true) ∧ K (.string (ofCells cs)) h
    | none => False
  | _ => False
@[congr] theorem cg_cvbsM {o o' : Option Value} (ho : o = o') {d : Prop} (hd : dm = d) : cvbsM o h V = cvbsM o' h V := by rw [ho]
def cvsbM (E : TypeId) (o : Option Value) (h : H) (K : Value → H → Prop) : Prop :=
  match o with
  | some (.string s) => ∀ c, s.size ≤ c → ∀ b, h b = none → K (.slice (some ⟨b, 0, none⟩) s.size c) (hupd h b (.cells (strCells s c) E (c, c + 1)))
  | _ => False
@[congr] theorem cg_cvsbM {E : TypeId} {o o' : Option Value} (ho : o = o') {d : Prop} (hd : dm = d) : cvsbM E o h V = cvsbM E o' h V := by rw [ho]
def slcaV1 (n size : Nat) (m3 : Bool) (m hi lo : Option Int) (v : Value) : Option Value :=
  match v with
  | .pointer (some a) => ob m fun m => ob hi fun h' => ob lo fun l' => slcV size (some a) n n m3 l' h' m
  | _ => none
theorem qV_slca (n k : Nat) (x : Operand) (lo hi mx : Option Operand) : qV (.slca n k x lo hi mx) e h = ob (ev e x) (slcaV1 n k mx.isSome (bnd e mx n) (bnd e hi n) (bnd e lo 0)) := by
  show ob (ev e x) _ = _
  congr 1
theorem slca1_s (n k : Nat) (m3 : Bool) (m hi lo : Option Int) (a : Addr) : slcaV1 n k m3 m hi lo (.pointer (some a)) = ob m fun m => ob hi fun h' => ob lo fun l' => slcV k (some a) n n m3 l' h' m := rfl
def idxvnV1 (n size : Nat) (v j : Value) : Option Value :=
  match v, j with
  | .agg cs, .int _ j => chk (0 ≤ j ∧ j < n) (.agg (cs.extract (j.toNat * size) (j.toNat * size + size)))
  | _, _ => none
theorem qV_idxvn (n k : Nat) (x i : Operand) : qV (.idxvn n k x i) e h = ob (ev e x) fun v => ob (ev e i) fun j => idxvnV1 n k v j := by
  show ob (ev e x) _ = _
  congr 1
theorem idxvn_s (n size : Nat) (cs : Array Value) (k : IntKind) (j : Int) : idxvnV1 n size (.agg cs) (.int k j) = chk (0 ≤ j ∧ j < n) (.agg (cs.extract (j.toNat * size) (j.toNat * size + size))) := rfl
theorem fdiv_pow (a : Int) (n : Nat) : a.fdiv (2 ^ n) = a / 2 ^ n := Int.fdiv_eq_ediv_of_nonneg _ (by exact Int.le_of_lt (Int.pow_pos (by decide)))
theorem chk_T {α : Type} (v : α) : chk True v = some v := if_pos trivial
theorem f_eql (q : EqK) (k : FloatKind) (a b : Nat) : binV .eql q (.float k a) (.float k b) = some (.bool (k.format.order a b == some .eq)) := by simp [binV]
theorem f_neq (q : EqK) (k : FloatKind) (a b : Nat) : binV .neq q (.float k a) (.float k b) = some (.bool (k.format.order a b != some .eq)) := by simp [binV]
theorem wY : type_of% (And.intro @f_eql (And.intro @f_neq (And.intro @chk_T (And.intro @qV_slca (And.intro @slca1_s (And.intro @qV_idxvn (And.intro @idxvn_s (@fdiv_pow)))))))) :=
  And.intro @f_eql (And.intro @f_neq (And.intro @chk_T (And.intro @qV_slca (And.intro @slca1_s (And.intro @qV_idxvn (And.intro @idxvn_s (@fdiv_pow)))))))
end

/-! ### Cells in a row -/
/-- The cells from o on are l. -/
def At' (c : Array Value) (o : Nat) (l : List Value) : Prop := ∀ m (hm : m < l.length), c[o + m]? = some l[m]
theorem At'.get {c : Array Value} {o : Nat} {l : List Value} (a : At' c o l) {m : Nat} (hm : m < l.length) : c[o + m]? = some l[m] := a m hm
theorem At'.le {c : Array Value} {o : Nat} {l : List Value} (a : At' c o l) (h0 : l ≠ []) : o + l.length ≤ c.size := by
  have hl : 0 < l.length := List.length_pos_iff.2 h0
  have := (Array.getElem?_eq_some_iff.1 (a (l.length - 1) (by omega))).1
  omega
theorem At'.sub {c : Array Value} {o : Nat} {l : List Value} (a : At' c o l) (i n : Nat) : At' c (o + i) ((l.drop i).take n) := by
  intro m hm
  simp at hm
  rw [Nat.add_assoc, a (i + m) (by omega)]
  simp
theorem At'.ext {c : Array Value} {o : Nat} {l : List Value} (a : At' c o l) (hl : o + l.length ≤ c.size) : c.extract o (o + l.length) = l.toArray := by
  apply Array.ext'
  apply List.ext_getElem?
  intro i
  rw [Array.getElem?_toList, Array.getElem?_extract]
  by_cases hi : i < l.length
  · rw [if_pos (by omega), a i hi]; simp [hi]
  · rw [if_neg (by omega)]; simp; omega
theorem At'.splice {c : Array Value} {o p : Nat} {l new : List Value} (a : At' c o l) (hl : p + new.length ≤ c.size) (h : o + l.length ≤ p ∨ p + new.length ≤ o) : At' (splice c p new) o l := by
  intro m hm
  rw [get_splice _ _ _ _ hl, if_neg (by omega)]
  exact a m hm
theorem at_splice {c : Array Value} {p : Nat} {new : List Value} (hl : p + new.length ≤ c.size) : At' (splice c p new) p new := by
  intro m hm
  rw [get_splice _ _ _ _ hl, if_pos (by omega), Nat.add_sub_cancel_left]
  simp [hm]
theorem At'.append {c : Array Value} {o : Nat} {l r : List Value} (a : At' c o l) (b : At' c (o + l.length) r) : At' c o (l ++ r) := by
  intro m hm
  simp at hm
  by_cases h : m < l.length
  · rw [a m h]; simp [h]
  · have := b (m - l.length) (by omega)
    rw [show o + l.length + (m - l.length) = o + m by omega] at this
    rw [this, List.getElem_append_right (by omega)]
theorem At'.split {c : Array Value} {o : Nat} {l r : List Value} (a : At' c o (l ++ r)) : At' c o l ∧ At' c (o + l.length) r := by
  refine ⟨fun m hm => ?_, fun m hm => ?_⟩
  · rw [a m (by simp; omega)]; simp [hm]
  · rw [show o + l.length + m = o + (l.length + m) by omega, a (l.length + m) (by simp; omega)]
    simp
theorem At'.off {c : Array Value} {o o' : Nat} {l : List Value} (a : At' c o l) (h : o = o') : At' c o' l := h ▸ a
theorem at_arr (l : List Value) (r : Array Value) : At' (l.toArray ++ r) 0 l := by
  intro m hm
  rw [Nat.zero_add, Array.getElem?_append_left (by simpa using hm)]
  simp

/-- Rows of k cells, one behind the other. -/
def flat : List (List Value) → List Value
  | [] => []
  | r :: t => r ++ flat t
theorem flat_nil : flat [] = [] := rfl
theorem flat_cons (r : List Value) (t : List (List Value)) : flat (r :: t) = r ++ flat t := rfl
theorem flat_append (a b : List (List Value)) : flat (a ++ b) = flat a ++ flat b := by
  induction a with
  | nil => rfl
  | cons r t ih => simp [flat, ih]
def one (xs : List Value) : List (List Value) := xs.map fun x => [x]
theorem flat_one (xs : List Value) : flat (one xs) = xs := by
  induction xs with
  | nil => rfl
  | cons x t ih => show [x] ++ flat (one t) = _; rw [ih]; rfl
theorem one_len (xs : List Value) : (one xs).length = xs.length := by simp [one]
theorem one_append (a b : List Value) : one (a ++ b) = one a ++ one b := by simp [one]
/-- Each row has k cells. -/
def Rect (k : Nat) (rows : List (List Value)) : Prop := ∀ r ∈ rows, r.length = k
theorem Rect.flat {k : Nat} {rows : List (List Value)} (r : Rect k rows) : (flat rows).length = rows.length * k := by
  induction rows with
  | nil => simp [Go.Proofs.Ytojhnclkhiffkaa.flat]
  | cons x t ih =>
    have := ih fun y hy => r y (by simp [hy])
    simp [Go.Proofs.Ytojhnclkhiffkaa.flat, this, r x (by simp), Nat.add_mul, Nat.add_comm]
theorem rect_one (xs : List Value) : Rect 1 (one xs) := by
  intro r hr
  obtain ⟨x, _, rfl⟩ := List.mem_map.1 hr; rfl
theorem Rect.append {k : Nat} {a b : List (List Value)} (h : Rect k a) (g : Rect k b) : Rect k (a ++ b) := fun r hr => (List.mem_append.1 hr).elim (h r) (g r)
theorem Rect.sub {k : Nat} {a b : List (List Value)} (h : Rect k a) (hs : ∀ r ∈ b, r ∈ a) : Rect k b := fun r hr => h r (hs r hr)
theorem flat_take {k : Nat} : ∀ {rows : List (List Value)} (r : Rect k rows) (n : Nat), flat (rows.take n) = (flat rows).take (n * k)
  | [], r, n => by simp [flat]
  | x :: t, r, 0 => by simp [flat]
  | x :: t, r, n + 1 => by
    have hx : x.length = k := r x (by simp)
    have ih := flat_take (rows := t) (fun y hy => r y (by simp [hy])) n
    simp only [List.take_succ_cons, flat, ih]
    rw [show (n + 1) * k = x.length + n * k by rw [hx, Nat.add_mul]; omega, List.take_length_add_append]
theorem flat_drop {k : Nat} : ∀ {rows : List (List Value)} (r : Rect k rows) (n : Nat), flat (rows.drop n) = (flat rows).drop (n * k)
  | [], r, n => by simp [flat]
  | x :: t, r, 0 => by simp [flat]
  | x :: t, r, n + 1 => by
    have hx : x.length = k := r x (by simp)
    have ih := flat_drop (rows := t) (fun y hy => r y (by simp [hy])) n
    simp only [List.drop_succ_cons, flat, ih]
    rw [show (n + 1) * k = x.length + n * k by rw [hx, Nat.add_mul]; omega, List.drop_length_add_append]
theorem flat_row {k : Nat} {rows : List (List Value)} (r : Rect k rows) {i : Nat} (hi : i < rows.length) : ((flat rows).drop (i * k)).take k = rows[i] := by
  have := flat_take (r.sub (b := rows.drop i) fun y hy => List.mem_of_mem_drop hy) 1
  rw [Nat.one_mul, flat_drop r] at this
  rw [← this, List.drop_eq_getElem_cons hi, List.take_succ_cons, List.take_zero, flat_cons, flat_nil, List.append_nil]

/-! ### Slices -/
/-- A slice that reads as rows of k cells, its block none of S. -/
def SlK (k : Nat) (S : Nat → Prop) (h : H) (v : Value) (rows : List (List Value)) : Prop :=
  Rect k rows ∧ ((∃ a, v = .slice a 0 0 ∧ rows = []) ∨
  ∃ b o cp c E fr, v = .slice (some ⟨b, o, none⟩) rows.length cp ∧ h b = some (.cells c E fr) ∧ o + cp * k ≤ c.size ∧ rows.length ≤ cp ∧ At' c o (flat rows) ∧ ¬ S b)
abbrev nos : Nat → Prop := fun _ => False
theorem SlK.rect {k : Nat} {S : Nat → Prop} {h : H} {v : Value} {rows : List (List Value)} (s : SlK k S h v rows) : Rect k rows := s.1
theorem SlK.len {k : Nat} {S : Nat → Prop} {h : H} {v : Value} {rows : List (List Value)} (s : SlK k S h v rows) : ∃ a c, v = .slice a rows.length c := by
  obtain ⟨_, ⟨a, rfl, rfl⟩ | ⟨b, o, cp, c, E, fr, rfl, _⟩⟩ := s
  · exact ⟨_, _, rfl⟩
  · exact ⟨_, _, rfl⟩
theorem SlK.fr {k : Nat} {S T : Nat → Prop} {h h' : H} {v : Value} {rows : List (List Value)} (s : SlK k S h v rows) (e : Fr T h h') (hst : ∀ x, T x → S x) : SlK k S h' v rows := by
  obtain ⟨hr, s | ⟨b, o, cp, c, E, fr, h1, h2, h3, h4, h5, h6⟩⟩ := s
  · exact ⟨hr, .inl s⟩
  · exact ⟨hr, .inr ⟨b, o, cp, c, E, fr, h1, e _ _ h2 fun h => h6 (hst _ h), h3, h4, h5, h6⟩⟩
theorem SlK.ext {k : Nat} {S : Nat → Prop} {h h' : H} {v : Value} {rows : List (List Value)} (s : SlK k S h v rows) (e : Ext h h') : SlK k S h' v rows := s.fr e fun _ h => h.elim
theorem SlK.mono {k : Nat} {S T : Nat → Prop} {h : H} {v : Value} {rows : List (List Value)} (s : SlK k S h v rows) (hst : ∀ x o, h x = some o → T x → S x) : SlK k T h v rows := by
  obtain ⟨hr, s | ⟨b, o, cp, c, E, fr, h1, h2, h3, h4, h5, h6⟩⟩ := s
  · exact ⟨hr, .inl s⟩
  · exact ⟨hr, .inr ⟨b, o, cp, c, E, fr, h1, h2, h3, h4, h5, fun h => h6 (hst _ _ h2 h)⟩⟩
theorem SlK.row {k : Nat} {S : Nat → Prop} {h : H} {v : Value} {rows : List (List Value)} (s : SlK k S h v rows) {i : Nat} (hi : i < rows.length) (kk : IntKind) :
    ∃ b o, idxV1 k v (.int kk (i : Int)) = some (.pointer (some ⟨b, o, none⟩)) ∧ (rows[i]).length = k ∧ (∀ j (hj : j < k), cellAt h ⟨b, o + j, none⟩ = (rows[i])[j]?) ∧ cellsAt h ⟨b, o, none⟩ k = some (rows[i]).toArray := by
  obtain ⟨hr, ⟨a, rfl, rfl⟩ | ⟨b, o, cp, c, E, fr, rfl, h2, h3, h4, h5, h6⟩⟩ := s
  · simp at hi
  · have hk : (rows[i]).length = k := hr _ (List.getElem_mem hi)
    have hfl := hr.flat
    have hmul : i * k + k ≤ rows.length * k := by rw [← Nat.succ_mul]; exact Nat.mul_le_mul_right _ hi
    have hcp : rows.length * k ≤ cp * k := Nat.mul_le_mul_right _ h4
    have hsub := h5.sub (i * k) k
    rw [flat_row hr hi] at hsub
    refine ⟨b, o + i * k, ?_, hk, ?_, ?_⟩
    · rw [idx_s, chk_pos (by omega)]
      simp
    · intro j hj
      rw [cellAt_of h2, hsub j (by omega)]
      simp [hk, hj]
    · rw [cellsAt_of h2 (by omega)]
      have := hsub.ext (by omega)
      rw [hk] at this
      rw [this]
theorem SlK.src {k : Nat} {S : Nat → Prop} {h : H} {v : Value} {rows : List (List Value)} (s : SlK k S h v rows) : srcLen v = some rows.length ∧ ∀ n, n ≤ rows.length → srcCells h k n v = some (flat (rows.take n)).toArray := by
  obtain ⟨hr, ⟨a, rfl, rfl⟩ | ⟨b, o, cp, c, E, fr, rfl, h2, h3, h4, h5, h6⟩⟩ := s
  · refine ⟨rfl, fun n hn => ?_⟩
    simp at hn; subst hn
    cases a with
    | none => rfl
    | some a => show cellsAt h a (0 * k) = _; rw [Nat.zero_mul]; rfl
  · refine ⟨rfl, fun n hn => ?_⟩
    have hfl := hr.flat
    have hmul : n * k ≤ rows.length * k := Nat.mul_le_mul_right _ hn
    have hcp : rows.length * k ≤ cp * k := Nat.mul_le_mul_right _ h4
    show cellsAt h ⟨b, o, none⟩ (n * k) = _
    rw [cellsAt_of h2 (by omega), flat_take hr]
    have := h5.sub 0 (n * k)
    rw [List.drop_zero] at this
    have h7 := this.ext (by rw [List.length_take, hfl, Nat.min_eq_left hmul]; omega)
    simp only [List.length_take, hfl, Nat.min_eq_left hmul, Nat.add_zero] at h7
    rw [h7]
/-- A slice of it. -/
theorem SlK.cut {k : Nat} {S : Nat → Prop} {h : H} {a : Option Addr} {n c : Nat} {rows : List (List Value)} (s : SlK k S h (.slice a n c) rows) {m3 : Bool} {lo hi mx : Int} {l u m : Nat} (hl : lo = l) (hu : hi = u) (hm : mx = m) (h2 : l ≤ u) (h3 : u ≤ n) (h4 : u ≤ m) (h5 : m ≤ c) (h6 : m3 = true ∨ m = c) :
    ∃ v, slcV k a n c m3 lo hi mx = some v ∧ SlK k S h v ((rows.drop l).take (u - l)) := by
  subst hl hu hm
  obtain ⟨hr, ⟨a', s1, rfl⟩ | ⟨b, o, cp, cc, E, fr, s1, s2, s3, s4, s5, s6⟩⟩ := s
  · simp only [Value.slice.injEq] at s1
    obtain ⟨rfl, rfl, rfl⟩ := s1
    have : u = 0 := by omega
    have : l = 0 := by omega
    have : m = 0 := by omega
    subst_vars
    exact ⟨_, chk_pos (by simp), fun r hr => by simp at hr, .inl ⟨_, rfl, by simp⟩⟩
  · simp only [Value.slice.injEq] at s1
    obtain ⟨rfl, rfl, rfl⟩ := s1
    have hr' : Rect k ((rows.drop l).take (u - l)) := hr.sub fun r hr => List.mem_of_mem_drop (List.mem_of_mem_take hr)
    have hlen : ((rows.drop l).take (u - l)).length = u - l := by simp; omega
    rw [slcV_eq, chk_pos ⟨by omega, by omega, by omega, by omega, h6.imp id (by omega)⟩]
    refine ⟨_, rfl, hr', ?_⟩
    by_cases hc : (m : Int) = l
    · refine .inr ⟨b, o, 0, cc, E, fr, ?_, s2, by omega, by omega, ?_, s6⟩
      · rw [if_pos hc, hlen]
        simp only [Value.slice.injEq, true_and]; omega
      · have : (rows.drop l).take (u - l) = [] := List.eq_nil_of_length_eq_zero (by omega)
        rw [this]; intro m hm; simp [flat] at hm
    · refine .inr ⟨b, o + l * k, m - l, cc, E, fr, ?_, s2, ?_, by omega, ?_, s6⟩
      · rw [if_neg hc, hlen]
        simp only [Value.slice.injEq, Option.map_some, Option.some.injEq, Addr.add, Int.toNat_natCast]
        refine ⟨by simp, ?_, ?_⟩ <;> simp <;> omega
      · have : l * k + (m - l) * k = m * k := by rw [← Nat.add_mul]; congr 1; omega
        have : m * k ≤ c * k := Nat.mul_le_mul_right _ (by omega)
        omega
      · rw [flat_take (hr.sub fun r hr => List.mem_of_mem_drop hr), flat_drop hr]
        exact s5.sub (l * k) _

/-- A slice whose block is of O, that may be grown and written. -/
def OwK (k : Nat) (O : Nat → Prop) (h : H) (E : TypeId) (v : Value) (rows : List (List Value)) : Prop :=
  Rect k rows ∧ ((v = .slice none 0 0 ∧ rows = []) ∨
  ∃ b o cp c fr, v = .slice (some ⟨b, o, none⟩) rows.length cp ∧ h b = some (.cells c E fr) ∧ o + cp * k ≤ c.size ∧ rows.length ≤ cp ∧ At' c o (flat rows) ∧ O b ∧ (fr.2 = 0 ∨ c.size ≤ fr.1 ∨ o + cp * k ≤ fr.1))
theorem OwK.sl {k : Nat} {O S : Nat → Prop} {h : H} {E : TypeId} {v : Value} {rows : List (List Value)} (s : OwK k O h E v rows) (hs : ∀ x, O x → ¬ S x) : SlK k S h v rows := by
  obtain ⟨hr, ⟨rfl, rfl⟩ | ⟨b, o, cp, c, fr, h1, h2, h3, h4, h5, h6, h7⟩⟩ := s
  · exact ⟨hr, .inl ⟨_, rfl, rfl⟩⟩
  · exact ⟨hr, .inr ⟨b, o, cp, c, E, fr, h1, h2, h3, h4, h5, hs _ h6⟩⟩
theorem OwK.s0 {k : Nat} {O : Nat → Prop} {h : H} {E : TypeId} {v : Value} {rows : List (List Value)} (s : OwK k O h E v rows) : SlK k nos h v rows := s.sl fun _ _ h => h
theorem OwK.mono {k : Nat} {O O' : Nat → Prop} {h : H} {E : TypeId} {v : Value} {rows : List (List Value)} (s : OwK k O h E v rows) (hs : ∀ x o, h x = some o → O x → O' x) : OwK k O' h E v rows := by
  obtain ⟨hr, ⟨rfl, rfl⟩ | ⟨b, o, cp, c, fr, h1, h2, h3, h4, h5, h6, h7⟩⟩ := s
  · exact ⟨hr, .inl ⟨rfl, rfl⟩⟩
  · exact ⟨hr, .inr ⟨b, o, cp, c, fr, h1, h2, h3, h4, h5, hs _ _ h2 h6, h7⟩⟩
theorem OwK.fr {k : Nat} {O T : Nat → Prop} {h h' : H} {E : TypeId} {v : Value} {rows : List (List Value)} (s : OwK k O h E v rows) (e : Fr T h h') (hst : ∀ x, T x → O x → ¬ isAt v x) : OwK k O h' E v rows := by
  obtain ⟨hr, ⟨rfl, rfl⟩ | ⟨b, o, cp, c, fr, h1, h2, h3, h4, h5, h6, h7⟩⟩ := s
  · exact ⟨hr, .inl ⟨rfl, rfl⟩⟩
  · exact ⟨hr, .inr ⟨b, o, cp, c, fr, h1, e _ _ h2 fun h => hst _ h h6 ⟨_, _, _, h1⟩, h3, h4, h5, h6, h7⟩⟩
theorem OwK.ext {k : Nat} {O : Nat → Prop} {h h' : H} {E : TypeId} {v : Value} {rows : List (List Value)} (s : OwK k O h E v rows) (e : Ext h h') : OwK k O h' E v rows := s.fr e fun _ h => h.elim
theorem OwK.nil {k : Nat} {O : Nat → Prop} {h : H} {E : TypeId} : OwK k O h E (.slice none 0 0) [] := ⟨fun r hr => by simp at hr, .inl ⟨rfl, rfl⟩⟩
/-- A fresh literal, or what was made. -/
theorem OwK.lit {k : Nat} {O : Nat → Prop} {h : H} {b n cp : Nat} {c : Array Value} {E : TypeId} {rows : List (List Value)} {fr : Nat × Nat} (hr : Rect k rows) (hn : rows.length = n) (hc : cp * k ≤ c.size) (hl : n ≤ cp) (hx : At' c 0 (flat rows)) (ho : O b) (hf : fr.2 = 0 ∨ c.size ≤ fr.1 ∨ cp * k ≤ fr.1) :
    OwK k O (hupd h b (.cells c E fr)) E (.slice (some ⟨b, 0, none⟩) n cp) rows :=
  ⟨hr, .inr ⟨b, 0, cp, c, fr, by rw [hn], hupd_same _ _ _, by omega, by omega, hx, ho, by omega⟩⟩
theorem OwK.cut {k : Nat} {O : Nat → Prop} {h : H} {E : TypeId} {a : Option Addr} {n c : Nat} {rows : List (List Value)} (s : OwK k O h E (.slice a n c) rows) {m3 : Bool} {lo hi mx : Int} {l u m : Nat} (hl : lo = l) (hu : hi = u) (hm : mx = m) (h2 : l ≤ u) (h3 : u ≤ n) (h4 : u ≤ m) (h5 : m ≤ c) (h6 : m3 = true ∨ m = c) :
    ∃ v, slcV k a n c m3 lo hi mx = some v ∧ OwK k O h E v ((rows.drop l).take (u - l)) ∧ ∀ x, isAt v x → isAt (.slice a n c) x := by
  subst hl hu hm
  obtain ⟨hr, ⟨s1, rfl⟩ | ⟨b, o, cp, cc, fr, s1, s2, s3, s4, s5, s6, s7⟩⟩ := s
  · simp only [Value.slice.injEq] at s1
    obtain ⟨rfl, rfl, rfl⟩ := s1
    have : u = 0 := by omega
    have : l = 0 := by omega
    have : m = 0 := by omega
    subst_vars
    exact ⟨.slice none 0 0, by rw [slcV_eq, chk_pos (by simp)]; rfl, ⟨fun r hr => by simp at hr, .inl ⟨rfl, by simp⟩⟩, fun x h => h⟩
  · simp only [Value.slice.injEq] at s1
    obtain ⟨rfl, rfl, rfl⟩ := s1
    have hr' : Rect k ((rows.drop l).take (u - l)) := hr.sub fun r hr => List.mem_of_mem_drop (List.mem_of_mem_take hr)
    have hlen : ((rows.drop l).take (u - l)).length = u - l := by simp; omega
    rw [slcV_eq, chk_pos ⟨by omega, by omega, by omega, by omega, h6.imp id (by omega)⟩]
    refine ⟨_, rfl, ⟨hr', ?_⟩, ?_⟩
    · by_cases hc : (m : Int) = l
      · refine .inr ⟨b, o, 0, cc, fr, ?_, s2, by omega, by omega, ?_, s6, by omega⟩
        · rw [if_pos hc, hlen]
          simp only [Value.slice.injEq, true_and]; omega
        · have : (rows.drop l).take (u - l) = [] := List.eq_nil_of_length_eq_zero (by omega)
          rw [this]; intro m hm; simp [flat] at hm
      · have e1 : l * k + (m - l) * k = m * k := by rw [← Nat.add_mul]; congr 1; omega
        have e2 : m * k ≤ c * k := Nat.mul_le_mul_right _ (by omega)
        refine .inr ⟨b, o + l * k, m - l, cc, fr, ?_, s2, by omega, by omega, ?_, s6, by omega⟩
        · rw [if_neg hc, hlen]
          simp only [Value.slice.injEq, Option.map_some, Option.some.injEq, Addr.add, Int.toNat_natCast]
          refine ⟨by simp, ?_, ?_⟩ <;> simp <;> omega
        · rw [flat_take (hr.sub fun r hr => List.mem_of_mem_drop hr), flat_drop hr]
          exact s5.sub (l * k) _
    · rintro x ⟨o', n', c', hx⟩
      by_cases hc : (m : Int) = l
      · rw [if_pos hc] at hx
        simp only [Value.slice.injEq, Option.some.injEq, Addr.mk.injEq] at hx
        obtain ⟨⟨rfl, _, _⟩, _⟩ := hx
        exact ⟨_, _, _, rfl⟩
      · rw [if_neg hc] at hx
        simp only [Value.slice.injEq, Option.map_some, Option.some.injEq, add_mk, Addr.mk.injEq] at hx
        obtain ⟨⟨rfl, _, _⟩, _⟩ := hx
        exact ⟨_, _, _, rfl⟩

/-- append. -/
theorem app_ow {k : Nat} {O : Nat → Prop} {h : H} {E : TypeId} {bytes : Nat} {z : Array Value} {s x : Value} {rows new : List (List Value)} {V : Value → H → Prop} (hs : OwK k O h E s rows) (hO : ∀ b, h b = none → O b)
    (hnr : Rect k new) (hx : srcLen x = some new.length) (hc : srcCells h k new.length x = some (flat new).toArray) (hcell : (flat new).all isCell = true) (hz : z.size = k) (hlen : 2 * ((rows.length + new.length) * bytes) ≤ 281474976710656) (hlen' : rows.length + new.length ≤ 9223372036854775807)
    (hk : ∀ v h', OwK k O h' E v (rows ++ new) → Fr (fun y => O y ∧ isAt s y) h h' → (∀ y, isAt v y → isAt s y ∨ h y = none) → V v h') : appM E k bytes z s x h V := by
  have hr := hs.1
  have hnl := hnr.flat
  have hrl := hr.flat
  have hrn : Rect k (rows ++ new) := hr.append hnr
  have grow : ∀ cap : Nat, cap < rows.length + new.length → ∀ c, rows.length + new.length ≤ c → ∀ b, h b = none →
      V (.slice (some ⟨b, 0, none⟩) (rows.length + new.length) c) (hupd h b (.cells ((flat rows).toArray ++ (flat new).toArray ++ Builtin.zeroCells z (c - (rows.length + new.length))) E)) := by
    intro cap hcap c hcl b hb
    refine hk _ _ ⟨hrn, .inr ⟨b, 0, c, _, (0, 0), by simp, hupd_same _ _ _, ?_, by simp; omega, ?_, hO b hb, .inl rfl⟩⟩ ((Ext.new hb _).mono fun _ h => h.elim) (by rintro y ⟨_, _, _, he⟩; simp only [Value.slice.injEq, Option.some.injEq, Addr.mk.injEq] at he; obtain ⟨⟨rfl, _⟩, _⟩ := he; exact .inr hb)
    · have : (rows.length + new.length) * k + (c - (rows.length + new.length)) * k = c * k := by rw [← Nat.add_mul]; congr 1; omega
      have e2 : (rows.length + new.length) * k = rows.length * k + new.length * k := Nat.add_mul _ _ _
      simp [Builtin.zeroCells, hz, hrl, hnl]; omega
    · rw [flat_append, show (flat rows).toArray ++ (flat new).toArray = (flat rows ++ flat new).toArray by simp]
      exact at_arr _ _
  have hfit : ∀ cap, cap < rows.length + new.length → Builtin.nextslicecap (rows.length + new.length) cap * bytes ≤ 281474976710656 := by
    intro cap hcap
    have h1 := nextslicecap_le hcap
    have h2 : Builtin.nextslicecap (rows.length + new.length) cap * bytes ≤ (2 * (rows.length + new.length)) * bytes := Nat.mul_le_mul_right _ h1
    have h3 : (2 * (rows.length + new.length)) * bytes = 2 * ((rows.length + new.length) * bytes) := Nat.mul_assoc _ _ _
    omega
  have hold : srcCells h k rows.length s = some (flat rows).toArray := by
    have := (hs.s0.src).2 rows.length (Nat.le_refl _)
    rwa [List.take_length] at this
  obtain ⟨_, ⟨rfl, rfl⟩ | ⟨b, o, cp, c, fr, rfl, h2, h3, h4, h5, h6, h7⟩⟩ := hs
  · unfold appM
    simp only [hx]
    simp only [List.length_nil, Nat.zero_add] at *
    by_cases hn : new.length ≤ 0
    · rw [if_pos hn, hc]
      have : new = [] := by cases new <;> simp_all
      subst this
      exact hk _ _ ⟨hr, .inl ⟨rfl, rfl⟩⟩ (Fr.refl _ _) (fun y h => .inl h)
    · rw [if_neg hn]
      refine ⟨⟨hlen', hfit 0 (by omega)⟩, ?_⟩
      rw [hc, hold]
      intro c hcl b hb
      exact grow 0 (by omega) c hcl b hb
  · unfold appM
    simp only [hx]
    by_cases hn : rows.length + new.length ≤ cp
    · have hm1 : (rows.length + new.length) * k = rows.length * k + new.length * k := Nat.add_mul _ _ _
      have hm2 : (rows.length + new.length) * k ≤ cp * k := Nat.mul_le_mul_right _ hn
      rw [if_pos hn, hc]
      simp only []
      rw [add_mk]
      have hle : o + rows.length * k + (flat new).length ≤ c.size := by omega
      refine storeH_in h2 (by omega) (by simpa using hle) (by simpa using hcell) ?_
      refine hk _ _ ⟨hrn, .inr ⟨b, o, cp, _, fr, by simp, hupd_same _ _ _, by rw [size_splice]; exact h3, by simp; omega, ?_, h6, by rw [size_splice]; exact h7⟩⟩ (fun y ob hy hne => ?_) (by rintro y ⟨_, _, _, he⟩; simp only [Value.slice.injEq, Option.some.injEq, Addr.mk.injEq] at he; obtain ⟨⟨rfl, _⟩, _⟩ := he; exact .inl ⟨_, _, _, rfl⟩)
      · rw [flat_append]
        refine At'.append (h5.splice hle (.inl (by omega))) ?_
        rw [hrl]
        exact at_splice hle
      · rw [hupd_ne]
        · exact hy
        · rintro rfl; exact hne ⟨h6, _, _, _, rfl⟩
    · rw [if_neg hn]
      refine ⟨⟨hlen', hfit cp (by omega)⟩, ?_⟩
      rw [hold, hc]
      intro c' hcl b' hb
      exact grow cp (by omega) c' hcl b' hb

/-- An element (or part of one) of an own slice, written. -/
theorem OwK.put {k : Nat} {O : Nat → Prop} {h : H} {E : TypeId} {v : Value} {rows : List (List Value)} (s : OwK k O h E v rows) {i : Nat} (hi : i < rows.length) (kk : IntKind) :
    ∃ b o, idxV1 k v (.int kk (i : Int)) = some (.pointer (some ⟨b, o, none⟩)) ∧ O b ∧ isAt v b ∧ ∀ (j : Nat) (new : List Value) (K : H → Prop), j + new.length ≤ k → new.all isCell = true →
      (∀ h', OwK k O h' E v (rows.set i ((rows[i]).take j ++ new ++ (rows[i]).drop (j + new.length))) → Fr (fun y => y = b) h h' → K h') → storeH h ⟨b, o + j, none⟩ new K := by
  obtain ⟨hr, ⟨rfl, rfl⟩ | ⟨b, o, cp, c, fr, rfl, h2, h3, h4, h5, h6, h7⟩⟩ := s
  · simp at hi
  · have hki : (rows[i]).length = k := hr _ (List.getElem_mem hi)
    have hfl := hr.flat
    have hmul : i * k + k ≤ rows.length * k := by rw [← Nat.succ_mul]; exact Nat.mul_le_mul_right _ hi
    have hcp : rows.length * k ≤ cp * k := Nat.mul_le_mul_right _ h4
    refine ⟨b, o + i * k, ?_, h6, ⟨_, _, _, rfl⟩, ?_⟩
    · rw [idx_s, chk_pos (by omega)]
      simp
    · intro j new K hj hc hK
      have hle : o + i * k + j + new.length ≤ c.size := by omega
      refine storeH_in h2 (by omega) hle hc (hK _ ⟨?_, .inr ⟨b, o, cp, _, fr, by simp, hupd_same _ _ _, by rw [size_splice]; exact h3, by simp; omega, ?_, h6, by rw [size_splice]; exact h7⟩⟩ (Fr.upd (S := fun y => y = b) rfl _))
      · intro r hr'
        rcases List.mem_or_eq_of_mem_set hr' with hm | rfl
        · exact hr r hm
        · simp [hki]; omega
      · have e1 : rows = rows.take i ++ rows[i] :: rows.drop (i + 1) := by simp
        have e2 : rows.set i ((rows[i]).take j ++ new ++ (rows[i]).drop (j + new.length)) = rows.take i ++ ((rows[i]).take j ++ new ++ (rows[i]).drop (j + new.length)) :: rows.drop (i + 1) := by
          rw [List.set_eq_take_append_cons_drop, if_pos hi]
        have hti : (flat (rows.take i)).length = i * k := by
          rw [(hr.sub fun r hr => List.mem_of_mem_take hr).flat, List.length_take, Nat.min_eq_left (by omega)]
        have h5' : At' c o (flat (rows.take i) ++ (rows[i] ++ flat (rows.drop (i + 1)))) := by
          rw [← flat_cons, ← flat_append, ← e1]; exact h5
        obtain ⟨a1, a2⟩ := h5'.split
        obtain ⟨a3, a4⟩ := a2.split
        rw [hti] at a3 a4
        rw [hki] at a4
        rw [e2, flat_append, flat_cons]
        simp only [List.append_assoc]
        have r1 := a3.sub 0 j
        have r3 := a3.sub (j + new.length) k
        rw [List.drop_zero] at r1
        rw [List.take_of_length_le (by simp [hki])] at r3
        have l1 : ((rows[i]).take j).length = j := by rw [List.length_take]; omega
        have l3 : ((rows[i]).drop (j + new.length)).length = k - (j + new.length) := by simp [hki]
        refine (a1.splice hle (.inl (by omega))).append ?_
        rw [hti]
        refine ((r1.splice hle (.inl (by omega))).off (by omega)).append ?_
        rw [l1]
        refine (at_splice hle).append ?_
        refine ((r3.splice hle (.inr (by omega))).off (by omega)).append ?_
        rw [l3]
        exact (a4.splice hle (.inr (by omega))).off (by omega)
end Go.Proofs.Ytojhnclkhiffkaa

/-
  From a walk over heaps to a given statement: arguments opened as lists, the answer read.
-/
namespace Go.Proofs.Ytojhnclkhiffkaa
open Go.ChangeShapes Go.WideShapes Go.ChangeAt Go.RowKit
set_option linter.unusedVariables false

theorem cellAt_hp (w : World) (p : Addr) : cellAt (hp w) p = w.cell? p := by
  unfold cellAt World.cell?
  cases hb : w.heap[p.block]? with
  | none => simp [hp, hb]
  | some o => cases o <;> simp [hp, hb]
theorem trodAll_stays {H : Type} {enc : TypeId × Value → H} {P : Program} (hl : laidOutB P = true) {W W' : World} {sp : Nat → Bool} :
    ∀ {ts : List TypeId} {vs : List Value} {ds : List (DataW H)} {ps : List MemPlace}, (ts.all fun t => P.readableRec t && decide (t < P.types.size)) = true →
      DataW.TrodAll enc P W 0 (fun _ => true) true ts vs ds ps → (∀ x ∈ ps, W.sameAt W' x) → (∀ x ∈ ps, sp x.block = true) → DataW.TrodAll enc P W' 0 sp true ts vs ds ps
  | [], [], [], ps, _, h, _, _ => h
  | t :: ts, v :: vs, d :: ds, ps, ht, h, h1, h2 => by
    obtain ⟨p, q, hp, hq, rfl⟩ := h
    simp only [List.all_cons, Bool.and_eq_true, decide_eq_true_eq] at ht
    exact ⟨p, q, WideElems.Trod_stays hl ht.1.1 ht.1.2 hp (fun x hx => h1 x (by simp [hx])) (fun x hx => h2 x (by simp [hx])),
      trodAll_stays hl (by simpa using ht.2) hq (fun x hx => h1 x (by simp [hx])) (fun x hx => h2 x (by simp [hx])), rfl⟩
  | [], _ :: _, _, _, _, h, _, _ => h.elim
  | [], [], _ :: _, _, _, h, _, _ => h.elim
  | _ :: _, [], _, _, _, h, _, _ => h.elim
  | _ :: _, _ :: _, [], _, _, h, _, _ => h.elim

/-- A law that answers true, reads only, names no variable. -/
theorem law_post {H : Type} {enc : TypeId × Value → H} {P : Program} {f : Func} {s : ChangeSpec} {apart fresh handsOn again : Bool} {W W' : World} {args : Array Value} {ds gs : List (DataW H)} {before : List MemPlace} {tb : TypeId}
    (hl : laidOutB P = true) (hts : (f.params.toList.all fun t => P.readableRec t && decide (t < P.types.size)) = true) (hr : f.resultTypes = #[tb]) (hb : P.underlying tb = some .bool) (hv : s.vars = [])
    (hW : DataW.Whole enc P f.params.toList s.vars apart W args.toList ds gs before)
    (h1 : (s.fn H (ds ++ gs)).results = [.lit (.bool true)]) (h2 : (s.fn H (ds ++ gs)).args = ds) (h3 : (s.fn H (ds ++ gs)).vars = [])
    (hbel : Below W.heap.size W W') : s.post enc P f apart fresh handsOn again W args (.bool true) W' := by
  have hW0 := hW
  have hlt : ∀ p ∈ before, p.block < W.heap.size := hW.lt
  obtain ⟨p, q, hA, hV, rfl, hz, hn⟩ := hW
  rw [hv] at hV
  obtain ⟨rfl, rfl⟩ := trodVars_none hV
  rw [List.append_nil] at hlt hW0 hz hn
  have hsame : ∀ x ∈ p, W.sameAt W' x := fun x hx => hbel.same (hlt x hx)
  have hargs : ∀ sp : Nat → Bool, (∀ x ∈ p, sp x.block = true) → DataW.TrodAll enc P W' 0 sp true f.params.toList args.toList (s.fn H (ds ++ [])).args p := by
    intro sp hs
    rw [h2]
    exact trodAll_stays hl hts hA hsame hs
  have hres : ∀ (b : Nat) (sp : Nat → Bool) (hd : Bool), DataW.TrodAll enc P W' b sp hd f.resultTypes.toList ((Value.bool true).resultList f.resultTypes.size) (s.fn H (ds ++ [])).results [] := by
    intro b sp hd
    rw [h1, hr]
    exact trodAll_cons_mk (shut_bool hb _) trodAll_mk0
  have hvars : ∀ sp : Nat → Bool, DataW.TrodVars enc P W' sp s.vars (s.fn H (ds ++ [])).vars [] := by
    intro sp; rw [hv, h3]; rfl
  have hok := ok_one (P := P) (W' := W') (f := f) (v := .bool true) hr rfl (okWide_bool_mk hb true)
  refine ⟨ds, [], p, [], p, [], hW0, hres _ _ _, hargs _ (fun x hx => by simpa using hlt x hx), hvars _, World.keptBut_mono (fun x hx => ⟨hx, .inr (.inl hx)⟩) (hbel.frame _), fun _ => ?_⟩
  refine ⟨hok, _, _, ([] ++ p) ++ [], ⟨[] ++ p, [], trodAll_append (hargs _ (fun _ _ => rfl)) (hres _ _ _), hvars _, rfl, ?_, ?_⟩, ?_⟩
  · intro b off hx
    rw [hbel.frozen (by exact hlt _ (by simpa using hx))]
    exact hz b off (by simpa using hx)
  · intro ha; simpa using hn ha
  · intro x hx _; simpa using hx

section
variable {H : Type} {enc : TypeId × Value → H} {P : Program} {W : World} {base : Nat}
end
end Go.Proofs.Ytojhnclkhiffkaa

/-
  Calls of functions without a body: numbers and pointers that are read and written at once; conversions of pointers.
-/
namespace Go.Proofs.Ytojhnclkhiffkaa
set_option linter.unusedVariables false

theorem xc_of {Pg : Program} {P : Cx Pg} {f : FuncId} {fn : Func} {e : Array Value → Sem Value} {args : Array Value} {h : H} {K : Value → H → Prop} (hf : P.prog.funcs[f]? = some fn) (hname : (fn.name == "runtime.NumGoroutine") = false) (hb : fn.body.isNone = true) (hn : Extern.findNext fn = none) (he : Extern.find fn = some e)
    (hr : ∀ w, Hol h w → ∃ v w' h' evs, (e args).run Pg w = .ok v w' ∧ (∀ es, (e args).events Pg w es = es ++ evs) ∧ (∀ es, (∀ x ∈ es, x ∈ evs ∨ ∃ g, x.loc = .mark (.extern g)) → Fra h w h' w' es) ∧ K v h') : xcM P f args h K := by
  refine does_of fun w hh => ?_
  obtain ⟨v, w', h', evs, h1, h2, h3, h4⟩ := hr w hh
  have hf' : Pg.funcs[f]? = some fn := hf
  refine ⟨v, w', h', .inl ?_, h3 _ fun x hx => ?_, h4⟩
  · show (callFunc f args).run Pg w = _
    rw [run_callFunc_extern hf' hname hb hn he, h1]; rfl
  · have hx' : x ∈ (callFunc f args).events Pg w #[] := hx
    rw [Go.Conc.events_callFunc_extern hf' hname hb hn he, h2] at hx'
    rcases Array.mem_append.1 hx' with h | h
    · simp at h; subst h; exact .inr ⟨f, rfl⟩
    · exact .inl h

/-- A block of cells that may be written. -/
def Blk (w : World) (b : Nat) (c : Array Value) (E : TypeId) : Prop := w.heap[b]? = some (.cells c E (0, 0))
section
variable {P : Program} {w : World} {b o : Nat} {c : Array Value} {E : TypeId}
theorem Blk.cell (hb : Blk w b c E) (o : Nat) : w.cell? ⟨b, o, none⟩ = c[o]? := by
  unfold World.cell?
  simp only []
  rw [hb]; rfl
theorem Blk.frozen (hb : Blk w b c E) (o : Nat) : w.frozen? ⟨b, o, none⟩ = false := by
  unfold World.frozen?
  simp only []
  rw [hb]
  simp
theorem Blk.shape (hb : Blk w b c E) : w.shape? b = some (E, c.size) := by unfold World.shape?; rw [hb]
theorem Blk.set (hb : Blk w b c E) (o : Nat) (v : Value) : Wst w (w.setCell ⟨b, o, none⟩ v) b (.cells (c.setIfInBounds o v) E (0, 0)) := by
  refine ⟨rfl, rfl, rfl, by simp [World.setCell], ?_, fun x hx => ?_⟩
  · unfold World.setCell
    rw [Array.getElem?_modify, if_pos rfl, hb]
    simp
  · unfold World.setCell
    rw [Array.getElem?_modify, if_neg (fun h => hx h.symm)]
theorem run_store1 (hb : Blk w b c E) (ho : o < c.size) {v : Value} (hv : isCell v = true) (m : Mode) :
    (store ⟨b, o, none⟩ v m).run P w = .ok () (w.setCell ⟨b, o, none⟩ v) ∧ ∀ es, (store ⟨b, o, none⟩ v m).events P w es = es.push ⟨.cell ⟨b, o, none⟩, true, m == .atomic⟩ := by
  obtain ⟨h1, h2⟩ := isCell_one hv
  have hcell : w.cell? ⟨b, o, none⟩ = some c[o] := by rw [hb.cell]; simp [ho]
  refine ⟨?_, fun es => ?_⟩
  · rw [run_store P w _ v _ h1, hcell]
    simp [hb.frozen]
  · rw [events_store P w es _ v _ h1, hcell]
    simp [hb.frozen]
theorem run_aload {k : IntKind} {n : Int} (hb : Blk w b c E) (hc : c[o]? = some (.int k n)) : (Extern.Atomic.loadT (.int k) #[.pointer (some ⟨b, o, none⟩)]).run P w = .ok (.int k n) w ∧ ∀ es, (Extern.Atomic.loadT (.int k) #[.pointer (some ⟨b, o, none⟩)]).events P w es = es ++ #[⟨.cell ⟨b, o, none⟩, false, true⟩] := by
  have hcell : w.cell? ⟨b, o, none⟩ = some (.int k n) := (hb.cell o).trans hc
  refine ⟨?_, fun es => ?_⟩
  · show Sem.run P (asAddr (.pointer (some ⟨b, o, none⟩)) >>= fun a => Extern.Atomic.read (.int k) a) w = _
    simp [Extern.Atomic.read, asAddr, hcell]
  · show Sem.events P (asAddr (.pointer (some ⟨b, o, none⟩)) >>= fun a => Extern.Atomic.read (.int k) a) w es = _
    simp [Extern.Atomic.read, asAddr, hcell]
theorem run_aloadp {p : Option Addr} (hb : Blk w b c E) (hc : c[o]? = some (.pointer p)) : (Extern.Atomic.loadT .ptr #[.pointer (some ⟨b, o, none⟩)]).run P w = .ok (.pointer p) w ∧ ∀ es, (Extern.Atomic.loadT .ptr #[.pointer (some ⟨b, o, none⟩)]).events P w es = es ++ #[⟨.cell ⟨b, o, none⟩, false, true⟩] := by
  have hcell : w.cell? ⟨b, o, none⟩ = some (.pointer p) := (hb.cell o).trans hc
  refine ⟨?_, fun es => ?_⟩
  · show Sem.run P (asAddr (.pointer (some ⟨b, o, none⟩)) >>= fun a => Extern.Atomic.read .ptr a) w = _
    simp [Extern.Atomic.read, asAddr, hcell]
  · show Sem.events P (asAddr (.pointer (some ⟨b, o, none⟩)) >>= fun a => Extern.Atomic.read .ptr a) w es = _
    simp [Extern.Atomic.read, asAddr, hcell]
theorem run_astore (hb : Blk w b c E) (ho : o < c.size) {v : Value} (hv : isCell v = true) : (Extern.Atomic.storeT #[.pointer (some ⟨b, o, none⟩), v]).run P w = .ok (.tuple #[]) (w.setCell ⟨b, o, none⟩ v) ∧ ∀ es, (Extern.Atomic.storeT #[.pointer (some ⟨b, o, none⟩), v]).events P w es = es ++ #[⟨.cell ⟨b, o, none⟩, true, true⟩] := by
  obtain ⟨h1, h2⟩ := run_store1 (P := P) hb ho hv .atomic
  refine ⟨?_, fun es => ?_⟩
  · show Sem.run P (asAddr (.pointer (some ⟨b, o, none⟩)) >>= fun a => store a v .atomic >>= fun _ => pure Extern.Atomic.none_) w = _
    simp [asAddr, h1, Extern.Atomic.none_]
  · show Sem.events P (asAddr (.pointer (some ⟨b, o, none⟩)) >>= fun a => store a v .atomic >>= fun _ => pure Extern.Atomic.none_) w es = _
    simp [asAddr, h1, h2, Extern.Atomic.none_]
theorem run_notouch (hb : Blk w b c E) : (Extern.Atomic.touchesFrozen ⟨b, o, none⟩).run P w = .ok false w ∧ ∀ es, (Extern.Atomic.touchesFrozen ⟨b, o, none⟩).events P w es = es := by
  have hsh : (w.shape? b).isSome = true := by rw [hb.shape]; rfl
  exact ⟨by simp [Extern.Atomic.touchesFrozen, viewAt, hsh, hb.frozen], fun es => by simp [Extern.Atomic.touchesFrozen, viewAt, hsh]⟩
theorem run_acas_hit {k : IntKind} {n y : Int} (hb : Blk w b c E) (hc : c[o]? = some (.int k n)) :
    (Extern.Atomic.casT (.int k) #[.pointer (some ⟨b, o, none⟩), .int k n, .int k y]).run P w = .ok (.bool true) (w.setCell ⟨b, o, none⟩ (.int k y)) ∧
    ∀ es, (Extern.Atomic.casT (.int k) #[.pointer (some ⟨b, o, none⟩), .int k n, .int k y]).events P w es = es ++ #[⟨.cell ⟨b, o, none⟩, false, true⟩, ⟨.cell ⟨b, o, none⟩, true, true⟩] := by
  have hcell : w.cell? ⟨b, o, none⟩ = some (.int k n) := (hb.cell o).trans hc
  have ho : o < c.size := (Array.getElem?_eq_some_iff.1 hc).1
  obtain ⟨h1, h2⟩ := run_store1 (P := P) hb ho (v := .int k y) rfl .atomic
  obtain ⟨t1, t2⟩ := run_notouch (P := P) (o := o) hb
  refine ⟨?_, fun es => ?_⟩
  · show Sem.run P (asAddr (.pointer (some ⟨b, o, none⟩)) >>= _) w = _
    simp [asAddr, t1, Extern.Atomic.read, hcell]
    show Sem.run P (if n = n then (fun _ => Value.bool (n == n)) <$> store ⟨b, o, none⟩ (.int k y) .atomic else pure (.bool (n == n))) w = _
    simp [h1]
  · show Sem.events P (asAddr (.pointer (some ⟨b, o, none⟩)) >>= _) w es = _
    simp [asAddr, t1, t2, Extern.Atomic.read, hcell]
    show Sem.events P (if n = n then (fun _ => Value.bool (n == n)) <$> store ⟨b, o, none⟩ (.int k y) .atomic else pure (.bool (n == n))) w _ = _
    simp [h1, h2]
    exact Array.ext' (by simp)
theorem run_acas_miss {k : IntKind} {n x y : Int} (hb : Blk w b c E) (hc : c[o]? = some (.int k n)) (hx : n ≠ x) :
    (Extern.Atomic.casT (.int k) #[.pointer (some ⟨b, o, none⟩), .int k x, .int k y]).run P w = .ok (.bool false) w ∧
    ∀ es, (Extern.Atomic.casT (.int k) #[.pointer (some ⟨b, o, none⟩), .int k x, .int k y]).events P w es = es ++ #[⟨.cell ⟨b, o, none⟩, false, true⟩] := by
  have hcell : w.cell? ⟨b, o, none⟩ = some (.int k n) := (hb.cell o).trans hc
  obtain ⟨t1, t2⟩ := run_notouch (P := P) (o := o) hb
  refine ⟨?_, fun es => ?_⟩
  · show Sem.run P (asAddr (.pointer (some ⟨b, o, none⟩)) >>= _) w = _
    simp [asAddr, t1, Extern.Atomic.read, hcell]
    show Sem.run P (if n = x then (fun _ => Value.bool (n == x)) <$> store ⟨b, o, none⟩ (.int k y) .atomic else pure (.bool (n == x))) w = _
    simp [hx]
  · show Sem.events P (asAddr (.pointer (some ⟨b, o, none⟩)) >>= _) w es = _
    simp [asAddr, t1, t2, Extern.Atomic.read, hcell]
    show Sem.events P (if n = x then (fun _ => Value.bool (n == x)) <$> store ⟨b, o, none⟩ (.int k y) .atomic else pure (.bool (n == x))) w _ = _
    simp [hx]
/-- Two pointers, compared: the same, or of unlike blocks. -/
theorem run_acasp {p q y : Option Addr} {r : Bool} (hb : Blk w b c E) (hc : c[o]? = some (.pointer p)) (hs : (samePointer p q).run P w = .ok r w) (he : ∀ es, (samePointer p q).events P w es = es) :
    (Extern.Atomic.casT .ptr #[.pointer (some ⟨b, o, none⟩), .pointer q, .pointer y]).run P w = .ok (.bool r) (if r then w.setCell ⟨b, o, none⟩ (.pointer y) else w) ∧
    ∀ es, (Extern.Atomic.casT .ptr #[.pointer (some ⟨b, o, none⟩), .pointer q, .pointer y]).events P w es = es ++ (if r then #[⟨.cell ⟨b, o, none⟩, false, true⟩, ⟨.cell ⟨b, o, none⟩, true, true⟩] else #[⟨.cell ⟨b, o, none⟩, false, true⟩]) := by
  have hcell : w.cell? ⟨b, o, none⟩ = some (.pointer p) := (hb.cell o).trans hc
  have ho : o < c.size := (Array.getElem?_eq_some_iff.1 hc).1
  obtain ⟨h1, h2⟩ := run_store1 (P := P) hb ho (v := .pointer y) rfl .atomic
  obtain ⟨t1, t2⟩ := run_notouch (P := P) (o := o) hb
  refine ⟨?_, fun es => ?_⟩
  · show Sem.run P (asAddr (.pointer (some ⟨b, o, none⟩)) >>= _) w = _
    simp [asAddr, t1, Extern.Atomic.read, hcell]
    show Sem.run P (samePointer p q >>= fun eq => if eq = true then (fun _ => Value.bool eq) <$> store ⟨b, o, none⟩ (.pointer y) .atomic else pure (.bool eq)) w = _
    cases r <;> simp [h1, hs]
  · show Sem.events P (asAddr (.pointer (some ⟨b, o, none⟩)) >>= _) w es = _
    simp [asAddr, t1, t2, Extern.Atomic.read, hcell]
    show Sem.events P (samePointer p q >>= fun eq => if eq = true then (fun _ => Value.bool eq) <$> store ⟨b, o, none⟩ (.pointer y) .atomic else pure (.bool eq)) w _ = _
    cases r <;> simp [h1, h2, hs, he]
    exact Array.ext' (by simp)
theorem run_samep (p : Option Addr) : (samePointer p p).run P w = .ok true w ∧ ∀ es, (samePointer p p).events P w es = es := by
  cases p with
  | none => exact ⟨by simp [samePointer], fun es => by simp [samePointer]⟩
  | some a => exact ⟨run_sameAddr_same w a, fun es => by simp [samePointer, sameAddr]⟩
/-- Pointers into unlike blocks of cells are unlike. -/
theorem run_unlikep {b1 b2 o1 o2 : Nat} {c1 c2 : Array Value} {E1 E2 : TypeId} (h1 : Blk w b1 c1 E1) (h2 : Blk w b2 c2 E2) (hne : b1 ≠ b2) :
    (samePointer (some ⟨b1, o1, none⟩) (some ⟨b2, o2, none⟩)).run P w = .ok false w ∧ ∀ es, (samePointer (some ⟨b1, o1, none⟩) (some ⟨b2, o2, none⟩)).events P w es = es := by
  have f1 := h1.frozen; have f2 := h2.frozen; have s1 := h1.shape; have s2 := h2.shape
  have hn : (b1 == b2) = false := by simpa using hne
  refine ⟨?_, fun es => ?_⟩
  · simp [samePointer, sameAddr, hn, f1, f2, noView, viewAt, s1, s2, mayBeOne, stringish]
  · simp [samePointer, sameAddr, hn, f1, f2, noView, viewAt, s1, s2, mayBeOne, stringish]
theorem run_nonep (a : Addr) : (samePointer none (some a)).run P w = .ok false w ∧ ∀ es, (samePointer none (some a)).events P w es = es := ⟨by simp [samePointer], fun es => by simp [samePointer]⟩
theorem run_pnone (a : Addr) : (samePointer (some a) none).run P w = .ok false w ∧ ∀ es, (samePointer (some a) none).events P w es = es := ⟨by simp [samePointer], fun es => by simp [samePointer]⟩
end

/-! ### .. of one's own -/
section
variable {Pg : Program} {P : Cx Pg} {h : H} {K : Value → H → Prop} {b o : Nat} {c : Array Value} {E : TypeId} {w : World}
theorem Hol.blk (hh : Hol h w) (hb : h b = some (.cells c E)) : Blk w b c E := by
  have := hh _ _ hb
  simp only [HolO, oneOf_cells, noteOf_cells, if_neg (not_isRo0 c)] at this
  exact this
theorem ev_own {v : Value} {hb : h b = some (.cells c E)} {x : Event} (hx : x.loc = .cell ⟨b, o, none⟩ ∨ ∃ g, x.loc = .mark (.extern g)) {c' : Array Value} {h' : H} (hb' : h' b = some (.cells c' E)) : EvO h' x := by
  rcases hx with hx | ⟨g, hx⟩
  · exact EvO_cells hb' hx rfl (not_isRo0 c')
  · simp only [EvO, hx]; exact .inr ⟨g, rfl⟩
theorem own_still (hh : Hol h w) (hb : h b = some (.cells c E)) {evs : Array Event} (he : ∀ x ∈ evs, x.loc = .cell ⟨b, o, none⟩) : ∀ es, (∀ x ∈ es, x ∈ evs ∨ ∃ g, x.loc = .mark (.extern g)) → Fra h w h w es :=
  fun es hs => Fra.still hh rfl rfl rfl rfl fun x hx => ev_own (v := undef) (hb := hb) (o := o) ((hs x hx).imp (he x) id) hb
theorem own_set (hh : Hol h w) (hb : h b = some (.cells c E)) {v : Value} {evs : Array Event} (he : ∀ x ∈ evs, x.loc = .cell ⟨b, o, none⟩) : ∀ es, (∀ x ∈ es, x ∈ evs ∨ ∃ g, x.loc = .mark (.extern g)) → Fra h w (hupd h b (.cells (c.setIfInBounds o v) E)) (w.setCell ⟨b, o, none⟩ v) es :=
  fun es hs => Fra.set hh hb ((hh.blk hb).set o v) (HolO_new _ _) (chO_cells (not_isRo0 c) (by simp)) (by simp only [kpO, oneOf_cells]; exact fun h => absurd h (not_isRo0 c)) fun x hx => ev_own (v := undef) (hb := hb) (o := o) ((hs x hx).imp (he x) id) (hupd_same _ _ _)
end

/-- A conversion that the walk has no rule for. -/
def cvM {Pg : Program} (P : Cx Pg) (s t : TypeId) (x : Option Value) (h : H) (V : Value → H → Prop) : Prop :=
  match x with
  | some v => ∀ w, Hol h w → ∃ v', (convert s t v).run Pg w = .ok v' w ∧ (convert s t v).events Pg w #[] = #[] ∧ V v' h
  | none => False
theorem raw_cv {Pg : Program} {P : Cx Pg} {e : Env} {h : H} {V : Value → H → Prop} {X : List PanicEntry → H → Prop} {d : Option Nat} {s t ty : TypeId} {x : Operand} (hm : cvM P s t (ev e x) h V) : lM P (.raw ⟨d, .convert s t x, ty, "", #[], none⟩) e h V X := by
  intro a ha
  unfold cvM at hm
  split at hm
  · rename_i v hv
    refine does_of fun w hh => ?_
    obtain ⟨v', h1, h2, h3⟩ := hm w hh
    refine ⟨v', w, h, .inl ?_, Fra.still hh rfl rfl rfl rfl (nov ?_), h3⟩
    · simp [execOp, ev_sound ha hv, h1]
    · simp [execOp, ev_sound ha hv, h2]
  · exact hm.elim
section
variable {Pg : Program} {P : Cx Pg} {s t u : TypeId} {h : H} {V : Value → H → Prop}
theorem cv_nil_to (hs : P.prog.underlying s = some (.pointer u)) (ht : P.prog.underlying t = some .unsafePointer) (hV : V (.pointer none) h) : cvM P s t (some (.pointer none)) h V := by
  intro w hw
  have hs' : Pg.underlying s = _ := hs
  have ht' : Pg.underlying t = _ := ht
  exact ⟨_, by simp [convert, Conv.unsafePointer, run_underlying hs', run_underlying ht'], by simp [convert, Conv.unsafePointer, run_underlying hs', run_underlying ht'], hV⟩
theorem cv_nil_from (hs : P.prog.underlying s = some .unsafePointer) (ht : P.prog.underlying t = some (.pointer u)) (hV : V (.pointer none) h) : cvM P s t (some (.pointer none)) h V := by
  intro w hw
  have hs' : Pg.underlying s = _ := hs
  have ht' : Pg.underlying t = _ := ht
  exact ⟨_, by simp [convert, Conv.unsafePointer, run_underlying hs', run_underlying ht'], by simp [convert, Conv.unsafePointer, run_underlying hs', run_underlying ht'], hV⟩
/-- What a pointer's block is in the world, whoever may write it. -/
theorem Hol.shape {w : World} (hh : Hol h w) {b : Nat} {c : Array Value} {E : TypeId} {fr : Nat × Nat} (hb : h b = some (.cells c E fr)) : w.shape? b = some (E, c.size) := by
  have := hh _ _ hb
  simp only [HolO, oneOf_cells, noteOf_cells] at this
  split at this
  · obtain ⟨fr', hx, _⟩ := this; unfold World.shape?; rw [hx]
  · unfold World.shape?; rw [this]
theorem cv_to (hs : P.prog.underlying s = some (.pointer u)) (ht : P.prog.underlying t = some .unsafePointer) (hu : (P.prog.info? u).map (fun i => decide (i.size = 0)) = some false)
    {b o : Nat} {v : Value} (hc : cellAt h ⟨b, o, none⟩ = some v) (hV : V (.pointer (some ⟨b, o, none⟩)) h) : cvM P s t (some (.pointer (some ⟨b, o, none⟩))) h V := by
  intro w hw
  have hs' : Pg.underlying s = _ := hs
  have ht' : Pg.underlying t = _ := ht
  have hcell := cell_of hw hc
  refine ⟨_, run_convert_to_unsafe hs ht hu hcell, ?_, hV⟩
  obtain ⟨e, n, hsh, hlt, hsp⟩ := World.shape?_of_cell? hcell
  obtain ⟨i, hi, hz0⟩ := Option.map_eq_some_iff.1 hu
  have hi' : Pg.info? u = some i := hi
  have hz : i.size ≠ 0 := by simpa using hz0
  have hge : ¬ (n ≤ o) := by simp only at hlt; omega
  simp only at hsh
  simp [convert, Conv.unsafePointer, Conv.seenAt, viewAt, cellsIn, sizeOf, typeInfo, run_underlying hs', run_underlying ht', hi', hz, hsh, hge, Result.andThen]
theorem cv_from (hs : P.prog.underlying s = some .unsafePointer) (ht : P.prog.underlying t = some (.pointer u)) {i : TypeInfo} (hi : P.prog.info? u = some i) (hz : i.size ≠ 0)
    {b o : Nat} {c : Array Value} {E : TypeId} {fr : Nat × Nat} (hb : h b = some (.cells c E fr)) (hl : liesAt P.prog P.prog.depth E (c.size / P.prog.cellsOf E) o u 1 = true) (hV : V (.pointer (some ⟨b, o, none⟩)) h) : cvM P s t (some (.pointer (some ⟨b, o, none⟩))) h V := by
  intro w hw
  have hs' : Pg.underlying s = _ := hs
  have ht' : Pg.underlying t = _ := ht
  have hi' : Pg.info? u = _ := hi
  have hl' : liesAt Pg Pg.depth E (c.size / Pg.cellsOf E) o u 1 = true := hl
  have hsh := hw.shape hb
  exact ⟨_, by simp [convert, Conv.unsafePointer, Conv.seenAt, viewAt, variablesAt, sizeOf, typeInfo, run_underlying hs', run_underlying ht', hi', hz, hsh, hl', Result.andThen], by simp [convert, Conv.unsafePointer, Conv.seenAt, viewAt, variablesAt, sizeOf, typeInfo, run_underlying hs', run_underlying ht', hi', hz, hsh, hl', Result.andThen], hV⟩
end
end Go.Proofs.Ytojhnclkhiffkaa

/-
  Bytes and texts; slices of one-cell elements; append of one element; data in memory by the shape of their type, and arguments opened.
-/
namespace Go.Proofs.Ytojhnclkhiffkaa
open Go.ChangeShapes Go.WideShapes Go.ChangeAt Go.RowKit
set_option linter.unusedVariables false
set_option linter.unusedSimpArgs false

/-! ### One-cell elements -/
abbrev S1 (S : Nat → Prop) (h : H) (v : Value) (xs : List Value) : Prop := SlK 1 S h v (one xs)
abbrev O1 (O : Nat → Prop) (h : H) (E : TypeId) (v : Value) (xs : List Value) : Prop := OwK 1 O h E v (one xs)
theorem S1.len {S : Nat → Prop} {h : H} {v : Value} {xs : List Value} (s : S1 S h v xs) : ∃ a c, v = .slice a xs.length c := by
  obtain ⟨a, c, he⟩ := SlK.len s; rw [one_len] at he; exact ⟨a, c, he⟩
theorem S1.load {S : Nat → Prop} {h : H} {v : Value} {xs : List Value} (s : S1 S h v xs) {i : Nat} (hi : i < xs.length) (kk : IntKind) : ∃ b o, idxV1 1 v (.int kk (i : Int)) = some (.pointer (some ⟨b, o, none⟩)) ∧ cellAt h ⟨b, o, none⟩ = some xs[i] := by
  obtain ⟨b, o, h1, h2, h3, h4⟩ := SlK.row s (i := i) (by rw [one_len]; exact hi) kk
  refine ⟨b, o, h1, ?_⟩
  have := h3 0 (by omega)
  simpa [one] using this
theorem S1.cut {S : Nat → Prop} {h : H} {a : Option Addr} {n c : Nat} {xs : List Value} (s : S1 S h (.slice a n c) xs) {m3 : Bool} {lo hi mx : Int} {l u m : Nat} (hl : lo = l) (hu : hi = u) (hm : mx = m) (h2 : l ≤ u) (h3 : u ≤ n) (h4 : u ≤ m) (h5 : m ≤ c) (h6 : m3 = true ∨ m = c) :
    ∃ v, slcV 1 a n c m3 lo hi mx = some v ∧ S1 S h v ((xs.drop l).take (u - l)) := by
  obtain ⟨v, h1, h2⟩ := SlK.cut s hl hu hm h2 h3 h4 h5 h6
  refine ⟨v, h1, ?_⟩
  simpa [one, S1, List.map_drop, List.map_take] using h2
theorem O1.cut {O : Nat → Prop} {h : H} {E : TypeId} {a : Option Addr} {n c : Nat} {xs : List Value} (s : O1 O h E (.slice a n c) xs) {m3 : Bool} {lo hi mx : Int} {l u m : Nat} (hl : lo = l) (hu : hi = u) (hm : mx = m) (h2 : l ≤ u) (h3 : u ≤ n) (h4 : u ≤ m) (h5 : m ≤ c) (h6 : m3 = true ∨ m = c) :
    ∃ v, slcV 1 a n c m3 lo hi mx = some v ∧ O1 O h E v ((xs.drop l).take (u - l)) ∧ ∀ x, isAt v x → isAt (.slice a n c) x := by
  obtain ⟨v, h1, h2, h3⟩ := OwK.cut s hl hu hm h2 h3 h4 h5 h6
  refine ⟨v, h1, ?_, h3⟩
  simpa [one, O1, List.map_drop, List.map_take] using h2
theorem SlK.to1 {S : Nat → Prop} {h : H} {v : Value} {xs : List Value} (s : S1 S h v xs) : Sl h v xs := by
  obtain ⟨hr, ⟨a, h1, h2⟩ | ⟨b, o, cp, c, E, fr, h1, h2, h3, h4, h5, h6⟩⟩ := s
  · refine .inl ⟨a, h1, ?_⟩
    cases xs <;> simp [one] at h2 ⊢
  · rw [flat_one] at h5
    rw [one_len] at h1 h4
    exact .inr ⟨b, o, cp, c, E, fr, h1, h2, by omega, h4, h5⟩
theorem Sl.to1 {h : H} {v : Value} {xs : List Value} (s : Sl h v xs) : S1 nos h v xs := by
  refine ⟨rect_one _, ?_⟩
  rcases s with ⟨a, h1, rfl⟩ | ⟨b, o, cp, c, E, fr, h1, h2, h3, h4, h5⟩
  · exact .inl ⟨a, h1, rfl⟩
  · exact .inr ⟨b, o, cp, c, E, fr, by rw [one_len]; exact h1, h2, by omega, by rw [one_len]; exact h4, by rw [flat_one]; exact h5, id⟩
theorem SlK.nos {k : Nat} {S : Nat → Prop} {h : H} {v : Value} {rows : List (List Value)} (s : SlK k S h v rows) : SlK k Go.Proofs.Ytojhnclkhiffkaa.nos h v rows := s.mono fun _ _ _ h => h.elim
/-- All its blocks are old. -/
theorem SlK.old {k : Nat} {S T : Nat → Prop} {h : H} {v : Value} {rows : List (List Value)} (s : SlK k S h v rows) (ht : ∀ x, T x → h x = none) : SlK k T h v rows := by
  obtain ⟨hr, s | ⟨b, o, cp, c, E, fr, h1, h2, h3, h4, h5, h6⟩⟩ := s
  · exact ⟨hr, .inl s⟩
  · exact ⟨hr, .inr ⟨b, o, cp, c, E, fr, h1, h2, h3, h4, h5, fun hx => by rw [ht b hx] at h2; cases h2⟩⟩
/-- append of one struct of k cells. -/
theorem pushk {k : Nat} {O : Nat → Prop} {h : H} {E : TypeId} {bytes : Nat} {z : Array Value} {s : Value} {row : List Value} {rows : List (List Value)} {V : Nat → Value → H → Prop} (hs : OwK k O h E s rows) (hO : ∀ b, h b = none → O b)
    (hrow : row.length = k) (hz : z.size = k) (hcell : row.all isCell = true) (hlen : 2 * ((rows.length + 1) * bytes) ≤ 281474976710656) (hlen' : rows.length + 1 ≤ 9223372036854775807)
    (hk : ∀ (b : Nat) s' h', h b = none → OwK k O h' E s' (rows ++ [row]) → Fr (fun y => O y ∧ isAt s y) h h' → (∀ y, isAt s' y → isAt s y ∨ h y = none) → V b s' h') :
    ∀ b, h b = none → appM E k bytes z s (.slice (some ⟨b, 0, none⟩) 1 1) (hupd h b (.cells row.toArray E)) (V b) := by
  intro b hb
  have hrect : Rect k [row] := fun r hr => by simp at hr; subst hr; exact hrow
  have hfl : flat [row] = row := by simp [flat]
  have hl : SlK k nos (hupd h b (.cells row.toArray E)) (.slice (some ⟨b, 0, none⟩) 1 1) [row] :=
    (OwK.lit (O := fun _ => True) hrect rfl (by simp [hrow]) (Nat.le_refl _) (by rw [hfl]; have := at_arr row #[]; simpa using this) trivial (.inl rfl)).s0
  obtain ⟨h1, h2⟩ := SlK.src hl
  have h3 := h2 1 (by simp)
  rw [List.take_of_length_le (by simp)] at h3
  refine app_ow (hs.ext (Ext.new hb _)) (fun y hy => hO y ?_) hrect h1 h3 (by rw [hfl]; exact hcell) hz hlen hlen' ?_
  · by_cases hyb : y = b
    · subst hyb; exact hb
    · rwa [hupd_ne _ _ hyb] at hy
  · intro s' h' ho hf hat
    refine hk b s' h' hb ho ((Fr.new hb _).trans hf) fun y hy => ?_
    rcases hat y hy with h1 | h1
    · exact .inl h1
    · by_cases hyb : y = b
      · subst hyb; exact .inr hb
      · rw [hupd_ne _ _ hyb] at h1; exact .inr h1
/-- What a call leaves of what was there before: its own slice may have changed. -/
theorem Ext.step {h0 h h' : H} {T : Nat → Prop} (e : Ext h0 h) (f : Fr (fun y => h0 y = none ∧ T y) h h') : Ext h0 h' := by
  intro x o hx _
  refine f x o (e.at hx) ?_
  rintro ⟨h1, _⟩
  rw [h1] at hx; cases hx
theorem Ext.step' {h0 h h' : H} {S : Nat → Prop} (e : Ext h0 h) (f : Fr S h h') (hs : ∀ x, S x → h0 x = none) : Ext h0 h' := by
  intro x o hx _
  refine f x o (e.at hx) ?_
  intro h1
  rw [hs x h1] at hx; cases hx
theorem Fr.step {S : Nat → Prop} {h0 h h' : H} {T : Nat → Prop} (f : Fr S h0 h) (g : Fr (fun y => h0 y = none ∧ T y) h h') : Fr S h0 h' := by
  intro x o hx hS
  refine g x o (f x o hx hS) ?_
  rintro ⟨h1, _⟩
  rw [h1] at hx; cases hx
theorem Ext.bk {h h' : H} (e : Ext h h') {y : Nat} (hy : h' y = none) : h y = none := e.back hy fun _ h => h.elim

/-- A measure for a slot that falls to -1. -/
def mp : Value → Nat
  | .int _ n => (n + 1).toNat
  | _ => 0

/-! ### Ranges over functions -/
/-! ### Bytes and texts -/
def bv (b : UInt8) : Value := .int .u8 (b.toNat : Int)
def bvs (l : List UInt8) : List Value := l.map bv
theorem bvs_len (l : List UInt8) : (bvs l).length = l.length := by simp [bvs]
theorem bvs_append (a b : List UInt8) : bvs (a ++ b) = bvs a ++ bvs b := by simp [bvs]
theorem bvs_take (a : List UInt8) (n : Nat) : bvs (a.take n) = (bvs a).take n := by simp [bvs, List.map_take]
theorem bvs_drop (a : List UInt8) (n : Nat) : bvs (a.drop n) = (bvs a).drop n := by simp [bvs, List.map_drop]
theorem bvs_get (a : List UInt8) (n : Nat) (h : n < (bvs a).length) : (bvs a)[n] = .int .u8 ((a[n]'(by simpa [bvs] using h)).toNat : Int) := by simp [bvs, bv]
abbrev By (S : Nat → Prop) (h : H) (v : Value) (l : List UInt8) : Prop := S1 S h v (bvs l)
abbrev OwB (O : Nat → Prop) (h : H) (E : TypeId) (v : Value) (l : List UInt8) : Prop := O1 O h E v (bvs l)
theorem By.nil {S : Nat → Prop} {h : H} : By S h (.slice none 0 0) [] := ⟨fun r hr => by simp [one, bvs] at hr, .inl ⟨_, rfl, rfl⟩⟩
theorem By.len {S : Nat → Prop} {h : H} {v : Value} {l : List UInt8} (s : By S h v l) : ∃ a c, v = .slice a l.length c := by
  obtain ⟨a, c, he⟩ := S1.len s; rw [bvs_len] at he; exact ⟨a, c, he⟩
theorem SlK.cap {k : Nat} {S : Nat → Prop} {h : H} {a : Option Addr} {n c : Nat} {rows : List (List Value)} (s : SlK k S h (.slice a n c) rows) : n = rows.length ∧ n ≤ c ∧ rows.length ≤ c := by
  obtain ⟨_, ⟨a', s1, rfl⟩ | ⟨b, o, cp, cc, E, fr, s1, s2, s3, s4, s5, s6⟩⟩ := s
  · simp only [Value.slice.injEq] at s1
    obtain ⟨_, rfl, rfl⟩ := s1
    simp
  · simp only [Value.slice.injEq] at s1
    obtain ⟨_, rfl, rfl⟩ := s1
    exact ⟨rfl, s4, s4⟩
theorem By.load {S : Nat → Prop} {h : H} {v : Value} {l : List UInt8} (s : By S h v l) {i : Nat} (hi : i < l.length) (kk : IntKind) : ∃ b o, idxV1 1 v (.int kk (i : Int)) = some (.pointer (some ⟨b, o, none⟩)) ∧ cellAt h ⟨b, o, none⟩ = some (.int .u8 (l[i].toNat : Int)) := by
  obtain ⟨b, o, h1, h2⟩ := S1.load s (i := i) (by rw [bvs_len]; exact hi) kk
  exact ⟨b, o, h1, by rw [h2, bvs_get]⟩
theorem By.cut {S : Nat → Prop} {h : H} {a : Option Addr} {n c : Nat} {xs : List UInt8} (s : By S h (.slice a n c) xs) {m3 : Bool} {lo hi mx : Int} {l u m : Nat} (hl : lo = l) (hu : hi = u) (hm : mx = m) (h2 : l ≤ u) (h3 : u ≤ n) (h4 : u ≤ m) (h5 : m ≤ c) (h6 : m3 = true ∨ m = c) :
    ∃ v, slcV 1 a n c m3 lo hi mx = some v ∧ By S h v ((xs.drop l).take (u - l)) := by
  obtain ⟨v, h1, h2⟩ := S1.cut s hl hu hm h2 h3 h4 h5 h6
  refine ⟨v, h1, ?_⟩
  rw [By, bvs_take, bvs_drop]; exact h2
theorem OwB.cut {O : Nat → Prop} {h : H} {E : TypeId} {a : Option Addr} {n c : Nat} {xs : List UInt8} (s : OwB O h E (.slice a n c) xs) {m3 : Bool} {lo hi mx : Int} {l u m : Nat} (hl : lo = l) (hu : hi = u) (hm : mx = m) (h2 : l ≤ u) (h3 : u ≤ n) (h4 : u ≤ m) (h5 : m ≤ c) (h6 : m3 = true ∨ m = c) :
    ∃ v, slcV 1 a n c m3 lo hi mx = some v ∧ OwB O h E v ((xs.drop l).take (u - l)) ∧ ∀ x, isAt v x → isAt (.slice a n c) x := by
  obtain ⟨v, h1, h2, h3⟩ := O1.cut s hl hu hm h2 h3 h4 h5 h6
  refine ⟨v, h1, ?_, h3⟩
  rw [OwB, bvs_take, bvs_drop]; exact h2
theorem bytes_of (s : ByteArray) : s = ⟨s.data.toList.toArray⟩ := by cases s; simp

/-! ### The same, told of what follows -/
section
variable {S O : Nat → Prop} {h : H} {E : TypeId} {v : Value} {K : Value → H → Prop} {kk : IntKind} {e : Int}
theorem S1.at {xs : List Value} (s : S1 S h v xs) (i : Nat) (he : e = i) (hi : i < xs.length) (hk : ∀ b o, cellAt h ⟨b, o, none⟩ = some xs[i] → K (.pointer (some ⟨b, o, none⟩)) h) : opt (idxV1 1 v (.int kk e)) h K := by
  subst he
  obtain ⟨b, o, h1, h2⟩ := s.load hi kk
  rw [h1]; exact hk b o h2
theorem By.at {l : List UInt8} (s : By S h v l) (i : Nat) (he : e = i) (hi : i < l.length) (hk : ∀ b o, cellAt h ⟨b, o, none⟩ = some (.int .u8 (l[i].toNat : Int)) → K (.pointer (some ⟨b, o, none⟩)) h) : opt (idxV1 1 v (.int kk e)) h K := by
  subst he
  obtain ⟨b, o, h1, h2⟩ := By.load s hi kk
  rw [h1]; exact hk b o h2
variable {a : Option Addr} {n c : Nat} {m3 : Bool} {lo hi mx : Int}
/-- One byte of an own slice is written. -/
theorem OwB.set {l : List UInt8} (s : OwB O h E v l) (i : Nat) (he : e = i) (hi : i < l.length) : ∃ b o, idxV1 1 v (.int kk e) = some (.pointer (some ⟨b, o, none⟩)) ∧ cellAt h ⟨b, o, none⟩ = some (.int .u8 (l[i].toNat : Int)) ∧ O b ∧ isAt v b ∧
    ∀ (x : UInt8) (n : Int) (Q : H → Prop), n = (x.toNat : Int) → (∀ h', OwB O h' E v (l.set i x) → Fr (fun y => y = b) h h' → Q h') → storeH h ⟨b, o, none⟩ [.int .u8 n] Q := by
  subst he
  obtain ⟨b, o, h1, h2, h3, h4⟩ := OwK.put s (i := i) (by rw [one_len, bvs_len]; exact hi) kk
  obtain ⟨b', o', g1, g2⟩ := By.load s.s0 hi kk
  rw [h1] at g1
  simp only [Option.some.injEq, Value.pointer.injEq, Addr.mk.injEq, and_true] at g1
  obtain ⟨rfl, rfl⟩ := g1
  refine ⟨b, o, h1, g2, h2, h3, ?_⟩
  rintro x n Q rfl hQ
  refine h4 0 [.int .u8 (x.toNat : Int)] Q (Nat.le_refl _) rfl ?_
  intro h' ho hf
  refine hQ h' ?_ hf
  have : (one (bvs l)).set i (((one (bvs l))[i]'(by rw [one_len, bvs_len]; exact hi)).take 0 ++ [.int .u8 (x.toNat : Int)] ++ ((one (bvs l))[i]'(by rw [one_len, bvs_len]; exact hi)).drop (0 + [Value.int .u8 (x.toNat : Int)].length)) = one (bvs (l.set i x)) := by
    simp [one, bvs, bv, List.map_set]
  rw [OwB, O1, ← this]; exact ho
end

/-! ### A slice and one more behind it -/
theorem SlK.pre {k : Nat} {S : Nat → Prop} {h : H} {a : Option Addr} {n c : Nat} {rows : List (List Value)} (s : SlK k S h (.slice a n c) rows) {m : Nat} (hm : m ≤ n) : SlK k S h (.slice a m c) (rows.take m) := by
  have hl := s.cap
  obtain ⟨hr, ⟨a', s1, rfl⟩ | ⟨b, o, cp, cc, E, fr, s1, s2, s3, s4, s5, s6⟩⟩ := s
  · simp only [Value.slice.injEq] at s1
    obtain ⟨rfl, rfl, rfl⟩ := s1
    obtain rfl : m = 0 := by omega
    exact ⟨fun r hr => by simp at hr, .inl ⟨_, rfl, by simp⟩⟩
  · simp only [Value.slice.injEq] at s1
    obtain ⟨rfl, _, rfl⟩ := s1
    refine ⟨hr.sub fun r hr => List.mem_of_mem_take hr, .inr ⟨b, o, c, cc, E, fr, ?_, s2, s3, ?_, ?_, s6⟩⟩
    · rw [List.length_take, Nat.min_eq_left (by omega)]
    · rw [List.length_take]; omega
    · rw [flat_take hr]
      have := s5.sub 0 (m * k)
      simpa using this
theorem OwK.pre {k : Nat} {O : Nat → Prop} {h : H} {E : TypeId} {a : Option Addr} {n c : Nat} {rows : List (List Value)} (s : OwK k O h E (.slice a n c) rows) {m : Nat} (hm : m ≤ n) (hn : n = rows.length) : OwK k O h E (.slice a m c) (rows.take m) := by
  obtain ⟨hr, ⟨s1, rfl⟩ | ⟨b, o, cp, cc, fr, s1, s2, s3, s4, s5, s6, s7⟩⟩ := s
  · simp only [Value.slice.injEq] at s1
    obtain ⟨rfl, rfl, rfl⟩ := s1
    obtain rfl : m = 0 := by omega
    exact ⟨fun r hr => by simp at hr, .inl ⟨rfl, by simp⟩⟩
  · simp only [Value.slice.injEq] at s1
    obtain ⟨rfl, _, rfl⟩ := s1
    refine ⟨hr.sub fun r hr => List.mem_of_mem_take hr, .inr ⟨b, o, c, cc, fr, ?_, s2, s3, ?_, ?_, s6, s7⟩⟩
    · rw [List.length_take, Nat.min_eq_left (by omega)]
    · rw [List.length_take]; omega
    · rw [flat_take hr]
      have := s5.sub 0 (m * k)
      simpa using this
/-- 's[:u]' -/
theorem slc_pre {h : H} {K : Value → H → Prop} {k : Nat} {a : Option Addr} {n c : Nat} {hi mx : Int} (u : Nat) (hu : hi = u) (hm : mx = c) (h1 : u ≤ c) (hk : K (.slice a u c) h) : opt (slcV k a n c false 0 hi mx) h K := by
  subst hu hm
  rw [slcV_eq, chk_pos ⟨by omega, by omega, by omega, by omega, .inr rfl⟩]
  have : (if (c : Int) = 0 then a else Option.map (fun x => x.add ((0 : Int).toNat * k)) a) = a := by
    split
    · rfl
    · cases a <;> simp [Addr.add]
  rw [this]
  rw [show (u : Int).toNat - (0 : Int).toNat = u by simp, show (c : Int).toNat - (0 : Int).toNat = c by simp]
  exact hk
theorem By.pre {S : Nat → Prop} {h : H} {a : Option Addr} {n c : Nat} {l : List UInt8} (s : By S h (.slice a n c) l) {m : Nat} (hm : m ≤ n) : By S h (.slice a m c) (l.take m) := by
  have := SlK.pre s hm
  rw [By, S1, bvs_take]
  simpa [one, List.map_take] using this
/-- Bytes, and one more behind them in the same memory. -/
def Lent (S : Nat → Prop) (h : H) (v : Value) (l : List UInt8) (x : UInt8) : Prop := ∃ a c, v = .slice a l.length c ∧ l.length + 1 ≤ c ∧ By S h (.slice a (l.length + 1) c) (l ++ [x])
theorem Lent.by {S : Nat → Prop} {h : H} {v : Value} {l : List UInt8} {x : UInt8} (s : Lent S h v l x) : By S h v l := by
  obtain ⟨a, c, rfl, h1, h2⟩ := s
  have := SlK.pre h2 (m := l.length) (by omega)
  have e : (one (bvs (l ++ [x]))).take l.length = one (bvs l) := by
    rw [bvs_append, one_append, List.take_append_of_le_length (by simp [one, bvs]), List.take_of_length_le (by simp [one, bvs])]
  rw [e] at this
  exact this
theorem Lent.fr {S T : Nat → Prop} {h h' : H} {v : Value} {l : List UInt8} {x : UInt8} (s : Lent S h v l x) (f : Fr T h h') (hs : ∀ y, T y → S y) : Lent S h' v l x := by
  obtain ⟨a, c, rfl, h1, h2⟩ := s
  exact ⟨a, c, rfl, h1, h2.fr f hs⟩
theorem Lent.ext {S : Nat → Prop} {h h' : H} {v : Value} {l : List UInt8} {x : UInt8} (s : Lent S h v l x) (e : Ext h h') : Lent S h' v l x := s.fr e fun _ h => h.elim
theorem Lent.mono {S T : Nat → Prop} {h : H} {v : Value} {l : List UInt8} {x : UInt8} (s : Lent S h v l x) (hs : ∀ x o, h x = some o → T x → S x) : Lent T h v l x := by
  obtain ⟨a, c, rfl, h1, h2⟩ := s
  exact ⟨a, c, rfl, h1, h2.mono hs⟩
/-- The same, in memory of the call's own. -/
def LentO (O : Nat → Prop) (h : H) (E : TypeId) (v : Value) (l : List UInt8) (x : UInt8) : Prop := ∃ a c, v = .slice a l.length c ∧ l.length + 1 ≤ c ∧ OwB O h E (.slice a (l.length + 1) c) (l ++ [x])
theorem LentO.ow {O : Nat → Prop} {h : H} {E : TypeId} {v : Value} {l : List UInt8} {x : UInt8} (s : LentO O h E v l x) : OwB O h E v l := by
  obtain ⟨a, c, rfl, h1, h2⟩ := s
  have := OwK.pre h2 (m := l.length) (by omega) (by simp [one, bvs])
  have e : (one (bvs (l ++ [x]))).take l.length = one (bvs l) := by
    rw [bvs_append, one_append, List.take_append_of_le_length (by simp [one, bvs]), List.take_of_length_le (by simp [one, bvs])]
  rw [e] at this
  exact this

/-! ### Data by the shape of their type -/
inductive Ty where
  | int (k : IntKind)
  | byte
  | bool
  | str
  | flt
  | sl (t : Ty)
  | pair (a b : Ty)
@[reducible] def Ty.D : Ty → Type
  | .int _ => Int
  | .byte => UInt8
  | .bool => Bool
  | .str => List UInt8
  | .flt => Nat
  | .sl t => List t.D
  | .pair a b => a.D × b.D
def Ty.sz : Ty → Nat
  | .pair a b => a.sz + b.sz
  | _ => 1
def Rep : (S : Nat → Prop) → (t : Ty) → H → List Value → t.D → Prop
  | _, .int k, _, cs, n => cs = [.int k n] ∧ k.min ≤ n ∧ n ≤ k.max
  | _, .byte, _, cs, b => cs = [bv b]
  | _, .bool, _, cs, b => cs = [.bool b]
  | _, .str, _, cs, s => cs = [.string ⟨s.toArray⟩] ∧ s.length ≤ 9223372036854775807
  | _, .flt, _, cs, f => cs = [.float .f64 f] ∧ f < 2 ^ 64
  | S, .sl t, h, cs, xs => ∃ v rows, cs = [v] ∧ SlK t.sz S h v rows ∧ rows.length = xs.length ∧ ∀ (i : Nat) r x, rows[i]? = some r → xs[i]? = some x → Rep S t h r x
  | S, .pair a b, h, cs, x => ∃ c d, cs = c ++ d ∧ Rep S a h c x.1 ∧ Rep S b h d x.2
theorem Rep.fr {t : Ty} {S T : Nat → Prop} : ∀ {h h' : H} {cs : List Value} {x : t.D}, Rep S t h cs x → Fr T h h' → (∀ x, T x → S x) → Rep S t h' cs x := by
  induction t with
  | int k => intro h h' cs x r e hs; exact r
  | byte => intro h h' cs x r e hs; exact r
  | bool => intro h h' cs x r e hs; exact r
  | str => intro h h' cs x r e hs; exact r
  | flt => intro h h' cs x r e hs; exact r
  | sl t ih =>
    intro h h' cs x r e hs
    obtain ⟨v, rows, h1, h2, h3, h4⟩ := r
    exact ⟨v, rows, h1, h2.fr e hs, h3, fun i r x hr hx => ih (h4 i r x hr hx) e hs⟩
  | pair a b iha ihb =>
    intro h h' cs x r e hs
    obtain ⟨c, d, h1, h2, h3⟩ := r
    exact ⟨c, d, h1, iha h2 e hs, ihb h3 e hs⟩
theorem Rep.ext {t : Ty} {S : Nat → Prop} {h h' : H} {cs : List Value} {x : t.D} (r : Rep S t h cs x) (e : Ext h h') : Rep S t h' cs x := r.fr e fun _ h => h.elim
theorem Rep.mono {t : Ty} {S T : Nat → Prop} : ∀ {h : H} {cs : List Value} {x : t.D}, Rep S t h cs x → (∀ x o, h x = some o → T x → S x) → Rep T t h cs x := by
  induction t with
  | int k => intro h cs x r hs; exact r
  | byte => intro h cs x r hs; exact r
  | bool => intro h cs x r hs; exact r
  | str => intro h cs x r hs; exact r
  | flt => intro h cs x r hs; exact r
  | sl t ih =>
    intro h cs x r hs
    obtain ⟨v, rows, h1, h2, h3, h4⟩ := r
    exact ⟨v, rows, h1, h2.mono hs, h3, fun i r x hr hx => ih (h4 i r x hr hx) hs⟩
  | pair a b iha ihb =>
    intro h cs x r hs
    obtain ⟨c, d, h1, h2, h3⟩ := r
    exact ⟨c, d, h1, iha h2 hs, ihb h3 hs⟩
theorem Rep.old {t : Ty} {S T : Nat → Prop} : ∀ {h : H} {cs : List Value} {x : t.D}, Rep S t h cs x → (∀ x, T x → h x = none) → Rep T t h cs x := by
  induction t with
  | int k => intro h cs x r hs; exact r
  | byte => intro h cs x r hs; exact r
  | bool => intro h cs x r hs; exact r
  | str => intro h cs x r hs; exact r
  | flt => intro h cs x r hs; exact r
  | sl t ih =>
    intro h cs x r hs
    obtain ⟨v, rows, h1, h2, h3, h4⟩ := r
    exact ⟨v, rows, h1, h2.old hs, h3, fun i r x hr hx => ih (h4 i r x hr hx) hs⟩
  | pair a b iha ihb =>
    intro h cs x r hs
    obtain ⟨c, d, h1, h2, h3⟩ := r
    exact ⟨c, d, h1, iha h2 hs, ihb h3 hs⟩
theorem Rep.len {t : Ty} {S : Nat → Prop} : ∀ {h : H} {cs : List Value} {x : t.D}, Rep S t h cs x → cs.length = t.sz := by
  induction t with
  | int k => intro h cs x r; rw [r.1]; rfl
  | byte => intro h cs x r; rw [show cs = _ from r]; rfl
  | bool => intro h cs x r; rw [show cs = _ from r]; rfl
  | str => intro h cs x r; rw [r.1]; rfl
  | flt => intro h cs x r; rw [r.1]; rfl
  | sl t ih => intro h cs x r; obtain ⟨v, rows, h1, _⟩ := r; rw [h1]; rfl
  | pair a b iha ihb =>
    intro h cs x r
    obtain ⟨c, d, h1, h2, h3⟩ := r
    rw [h1, List.length_append, iha h2, ihb h3]; rfl
theorem Rep.cells {t : Ty} {S : Nat → Prop} : ∀ {h : H} {cs : List Value} {x : t.D}, Rep S t h cs x → cs.all isCell = true := by
  induction t with
  | int k => intro h cs x r; rw [r.1]; rfl
  | byte => intro h cs x r; rw [show cs = _ from r]; rfl
  | bool => intro h cs x r; rw [show cs = _ from r]; rfl
  | str => intro h cs x r; rw [r.1]; rfl
  | flt => intro h cs x r; rw [r.1]; rfl
  | sl t ih =>
    intro h cs x r
    obtain ⟨v, rows, h1, h2, _⟩ := r
    obtain ⟨a, c, rfl⟩ := h2.len
    rw [h1]; rfl
  | pair a b iha ihb =>
    intro h cs x r
    obtain ⟨c, d, h1, h2, h3⟩ := r
    rw [h1, List.all_append, iha h2, ihb h3]; rfl

/-! Lists of data. -/
/-- A slice of data; all blocks none of S. -/
abbrev RepL (S : Nat → Prop) (t : Ty) (h : H) (v : Value) (xs : List t.D) : Prop := Rep S (.sl t) h [v] xs
theorem repL_iff {S : Nat → Prop} {t : Ty} {h : H} {v : Value} {xs : List t.D} : RepL S t h v xs ↔ ∃ rows, SlK t.sz S h v rows ∧ rows.length = xs.length ∧ ∀ (i : Nat) r x, rows[i]? = some r → xs[i]? = some x → Rep S t h r x := by
  constructor
  · rintro ⟨w, rows, h1, h2⟩
    simp only [List.cons.injEq, and_true] at h1
    subst h1
    exact ⟨rows, h2⟩
  · rintro ⟨rows, h2⟩
    exact ⟨v, rows, rfl, h2⟩
theorem RepL.len {S : Nat → Prop} {t : Ty} {h : H} {v : Value} {xs : List t.D} (r : RepL S t h v xs) : ∃ a c, v = .slice a xs.length c := by
  obtain ⟨rows, h1, h2, _⟩ := repL_iff.1 r
  obtain ⟨a, c, h3⟩ := h1.len
  exact ⟨a, c, by rw [h3, h2]⟩
theorem RepL.nil {S : Nat → Prop} {t : Ty} {h : H} : RepL S t h (.slice none 0 0) [] :=
  repL_iff.2 ⟨[], ⟨fun r hr => by simp at hr, .inl ⟨_, rfl, rfl⟩⟩, rfl, fun i r x hr => by simp at hr⟩
theorem RepL.load {S : Nat → Prop} {t : Ty} {h : H} {v : Value} {xs : List t.D} (r : RepL S t h v xs) {i : Nat} (hi : i < xs.length) (kk : IntKind) (k : Nat) (hk : t.sz = k) :
    ∃ b o cs, idxV1 k v (.int kk (i : Int)) = some (.pointer (some ⟨b, o, none⟩)) ∧ cellsAt h ⟨b, o, none⟩ k = some cs.toArray ∧ (∀ j (hj : j < k), cellAt h ⟨b, o + j, none⟩ = cs[j]?) ∧ Rep S t h cs xs[i] := by
  subst hk
  obtain ⟨rows, h1, h2, h3⟩ := repL_iff.1 r
  obtain ⟨b, o, g1, g2, g3, g4⟩ := h1.row (i := i) (by omega) kk
  exact ⟨b, o, _, g1, g4, g3, h3 i _ _ (by simp) (by simp [hi])⟩
theorem RepL.cut {S : Nat → Prop} {t : Ty} {h : H} {a : Option Addr} {n c : Nat} {xs : List t.D} (r : RepL S t h (.slice a n c) xs) (k : Nat) (hk : t.sz = k) {m3 : Bool} {lo hi mx : Int} {l u m : Nat} (hl : lo = l) (hu : hi = u) (hm : mx = m) (h2 : l ≤ u) (h3 : u ≤ n) (h4 : u ≤ m) (h5 : m ≤ c) (h6 : m3 = true ∨ m = c) :
    ∃ v, slcV k a n c m3 lo hi mx = some v ∧ RepL S t h v ((xs.drop l).take (u - l)) := by
  subst hk
  obtain ⟨rows, g1, g2, g3⟩ := repL_iff.1 r
  obtain ⟨v, s1, s2⟩ := g1.cut hl hu hm h2 h3 h4 h5 h6
  refine ⟨v, s1, repL_iff.2 ⟨_, s2, by simp [g2], ?_⟩⟩
  intro i r x hr hx
  rw [List.getElem?_take] at hr hx
  split at hr
  · rw [if_pos ‹_›] at hx
    rw [List.getElem?_drop] at hr hx
    exact g3 _ r x hr hx
  · cases hr
theorem RepL.at {S : Nat → Prop} {t : Ty} {h : H} {v : Value} {K : Value → H → Prop} {kk : IntKind} {e : Int} {xs : List t.D} {k : Nat} (r : RepL S t h v xs) (hk : t.sz = k) (i : Nat) (he : e = i) (hi : i < xs.length) (hK : ∀ b o cs, cellsAt h ⟨b, o, none⟩ k = some cs.toArray → (∀ j (hj : j < k), cellAt h ⟨b, o + j, none⟩ = cs[j]?) → Rep S t h cs xs[i] → K (.pointer (some ⟨b, o, none⟩)) h) : opt (idxV1 k v (.int kk e)) h K := by
  subst he
  obtain ⟨b, o, cs, h1, h2, h3, h4⟩ := r.load hi kk k hk
  rw [h1]; exact hK b o cs h2 h3 h4
/-- A list of data in a block of the call's own; its data elsewhere, and not in S. -/
def OwL (S : Nat → Prop) (t : Ty) (O : Nat → Prop) (h : H) (E : TypeId) (v : Value) (xs : List t.D) : Prop :=
  ∃ rows, OwK t.sz O h E v rows ∧ rows.length = xs.length ∧ ∀ (i : Nat) r x, rows[i]? = some r → xs[i]? = some x → Rep (fun y => isAt v y ∨ S y) t h r x
section
variable {S : Nat → Prop} {t : Ty} {O O' : Nat → Prop} {h h' : H} {E : TypeId} {v : Value} {xs : List t.D}
theorem OwL.nil : OwL S t O h E (.slice none 0 0) [] := ⟨[], OwK.nil, rfl, fun i r x hr => by simp at hr⟩
theorem OwL.len (s : OwL S t O h E v xs) : ∃ a c, v = .slice a xs.length c := by
  obtain ⟨rows, h1, h2, _⟩ := s
  obtain ⟨a, c, h3⟩ := h1.s0.len
  exact ⟨a, c, by rw [h3, h2]⟩
theorem OwL.fr {T : Nat → Prop} (s : OwL S t O h E v xs) (f : Fr T h h') (h1 : ∀ x, T x → S x) (h2 : ∀ x, T x → O x → ¬ isAt v x) : OwL S t O h' E v xs := by
  obtain ⟨rows, g1, g2, g3⟩ := s
  exact ⟨rows, g1.fr f h2, g2, fun i r x hr hx => (g3 i r x hr hx).fr f fun y hy => .inr (h1 y hy)⟩
theorem OwL.ext (s : OwL S t O h E v xs) (e : Ext h h') : OwL S t O h' E v xs := s.fr e (fun _ h => h.elim) fun _ h => h.elim
theorem OwL.mono (s : OwL S t O h E v xs) (hs : ∀ x o, h x = some o → O x → O' x) : OwL S t O' h E v xs := by
  obtain ⟨rows, h1, h2, h3⟩ := s
  exact ⟨rows, h1.mono hs, h2, h3⟩
/-- append of one datum, given as its cells. -/
theorem OwL.push {bytes : Nat} {z : Array Value} {row : List Value} {x : t.D} {V : Nat → Value → H → Prop} (k : Nat) (hk : t.sz = k) (hs : OwL S t O h E v xs) (hO : ∀ b, h b = none → O b) (hx : Rep (fun y => isAt v y ∨ S y) t h row x) (hz : z.size = k)
    (hlen : 2 * ((xs.length + 1) * bytes) ≤ 281474976710656) (hlen' : xs.length + 1 ≤ 9223372036854775807)
    (hV : ∀ (b : Nat) s' h', h b = none → OwL S t O h' E s' (xs ++ [x]) → Fr (fun y => O y ∧ isAt v y) h h' → V b s' h') :
    ∀ b, h b = none → appM E k bytes z v (.slice (some ⟨b, 0, none⟩) 1 1) (hupd h b (.cells row.toArray E)) (V b) := by
  subst hk
  obtain ⟨rows, h1, h2, h3⟩ := hs
  refine pushk h1 hO hx.len hz hx.cells (by rw [h2]; exact hlen) (by rw [h2]; exact hlen') ?_
  intro c s' h' hc ho hf hat
  have hrep : ∀ r y, Rep (fun y => isAt v y ∨ S y) t h r y → Rep (fun y => isAt s' y ∨ S y) t h' r y := by
    intro r y hr
    have h4 : Rep (fun z => isAt v z ∨ h z = none ∨ S z) t h r y := by
      refine (hr.mono (T := fun z => isAt v z ∨ h z = none ∨ S z) ?_)
      rintro z o hz (h1 | h1 | h1)
      · exact .inl h1
      · rw [h1] at hz; cases hz
      · exact .inr h1
    have h5 : Rep (fun z => isAt v z ∨ h z = none ∨ S z) t h' r y := h4.fr hf fun z hz => .inl hz.2
    exact h5.mono fun z o _ hz => hz.elim (fun h1 => (hat z h1).elim .inl fun h2 => .inr (.inl h2)) fun h1 => .inr (.inr h1)
  refine hV c s' h' hc ⟨_, ho, by simp [h2], ?_⟩ hf
  intro i r y hr hy
  by_cases hi : i < rows.length
  · rw [List.getElem?_append_left hi] at hr
    rw [List.getElem?_append_left (by omega)] at hy
    exact hrep _ _ (h3 i r y hr hy)
  · rw [List.getElem?_append_right (by omega)] at hr
    rw [List.getElem?_append_right (by omega)] at hy
    rw [h2] at hr
    generalize i - xs.length = j at hr hy
    cases j with
    | zero =>
      simp only [List.getElem?_cons_zero, Option.some.injEq] at hr hy
      subst hr hy
      exact hrep _ _ hx
    | succ j => simp at hr
end
/-- A struct, all of it. -/
theorem cellsAt_all {h : H} {b : Nat} {l : List Value} {E : TypeId} {fr : Nat × Nat} (hb : h b = some (.cells ⟨l⟩ E fr)) (n : Nat) (hn : l.length = n) : cellsAt h ⟨b, 0, none⟩ n = some ⟨l⟩ := by
  subst hn
  rw [cellsAt_of hb (by simp)]
  simp
theorem storeH_all {h : H} {b : Nat} {c : Array Value} {E : TypeId} {vs : List Value} {K : H → Prop} (hb : h b = some (.cells c E (0, 0))) (hl : vs.length = c.size) (hc : vs.all isCell = true) (hK : K (hupd h b (.cells vs.toArray E))) : storeH h ⟨b, 0, none⟩ vs K := by
  refine storeH_in hb (.inl (Nat.zero_le _)) (by omega) hc ?_
  have : splice c 0 vs = vs.toArray := by
    have h1 := at_splice (c := c) (p := 0) (new := vs) (by omega)
    apply Array.ext'
    apply List.ext_getElem?
    intro i
    rw [Array.getElem?_toList]
    by_cases hi : i < vs.length
    · have := h1 i hi
      rw [Nat.zero_add] at this
      rw [this]; simp [hi]
    · rw [Array.getElem?_eq_none (by rw [size_splice]; omega)]
      simp; omega
  rw [this]; exact hK
/-- What is fresh is not at what was there. -/
theorem OwK.apart {k : Nat} {h0 h : H} {E : TypeId} {v w : Value} {rows : List (List Value)} (s : OwK k (fun y => h0 y = none) h E v rows) (hw : ∀ y, isAt w y → h0 y ≠ none) : SlK k (isAt w) h v rows := s.sl fun x hx hy => hw x hy hx
theorem OwK.there {k : Nat} {O : Nat → Prop} {h : H} {E : TypeId} {v : Value} {rows : List (List Value)} (s : OwK k O h E v rows) {y : Nat} (hy : isAt v y) : h y ≠ none := by
  obtain ⟨_, ⟨rfl, _⟩ | ⟨b, o, cp, c, fr, rfl, h2, _⟩⟩ := s
  · obtain ⟨_, _, _, he⟩ := hy; simp at he
  · obtain ⟨_, _, _, he⟩ := hy
    simp only [Value.slice.injEq, Option.some.injEq, Addr.mk.injEq] at he
    obtain ⟨⟨rfl, _⟩, _⟩ := he
    rw [h2]; simp
theorem OwL.there {S : Nat → Prop} {t : Ty} {O : Nat → Prop} {h : H} {E : TypeId} {v : Value} {xs : List t.D} (s : OwL S t O h E v xs) {y : Nat} (hy : isAt v y) : h y ≠ none := by
  obtain ⟨rows, h1, _⟩ := s; exact h1.there hy

/-! ### Arguments opened -/
mutual
def tyB (P : Program) : Nat → TypeId → Ty → Bool
  | 0, _, _ => false
  | n + 1, t, ty => (P.cellsOf t == ty.sz) && (match P.underlying t, ty with
    | some (.int .u8), .byte => true
    | some (.int k), .int k' => decide (k = k')
    | some .bool, .bool => true
    | some .string, .str => true
    | some (.float .f64), .flt => true
    | some (.slice e), .sl ty => tyB P n e ty
    | some (.struct fs), ty => tyBs P n 0 fs.toList ty
    | _, _ => false)
def tyBs (P : Program) : Nat → Nat → List Field → Ty → Bool
  | 0, _, _, _ => false
  | n + 1, o, [f], ty => (f.offset == o) && (P.cellsOf f.type == ty.sz) && tyB P n f.type ty
  | n + 1, o, f :: r, .pair a b => (f.offset == o) && (P.cellsOf f.type == a.sz) && tyB P n f.type a && tyBs P n (o + a.sz) r b
  | _, _, _, _ => false
end
section
variable {H' : Type} {enc : TypeId × Value → H'} {P : Program} {W : World}
theorem add_add' (a : Addr) (m n : Nat) : (a.add m).add n = a.add (m + n) := by
  unfold Addr.add
  by_cases h : m = 0 <;> by_cases h' : n = 0 <;> simp [h, h', Nat.add_assoc]
theorem cellsOk {a : Addr} {n : Nat} {cs : List Value} (h : W.cells? 0 a n = some cs) : cs.length = n ∧ ∀ i (hi : i < cs.length), cellAt (hp W) (a.add i) = some cs[i] := by
  obtain ⟨_, h1, h2⟩ := World.cells?_some h
  exact ⟨h1, fun i hi => (cellAt_hp W (a.add i)).trans ((h2 i (by omega)).trans (by simp [hi]))⟩
/-- Rows that read one by one are a slice. -/
theorem slk_of {k : Nat} {a : Addr} {len cap : Nat} {rows : List (List Value)} (hk : 0 < k) (hl : len ≤ cap) (hx : rows.length = cap) (hr : Rect k rows) (hc : ∀ i (hi : i < rows.length) j (hj : j < (rows[i]).length), cellAt (hp W) (a.add (i * k + j)) = some (rows[i])[j]) :
    SlK k nos (hp W) (.slice (some a) len cap) (rows.take len) := by
  have hrt : Rect k (rows.take len) := hr.sub fun r hr => List.mem_of_mem_take hr
  have hlt : (rows.take len).length = len := by simp; omega
  by_cases h0 : cap = 0
  · subst h0
    obtain rfl : len = 0 := by omega
    exact ⟨hrt, .inl ⟨some a, rfl, by simp⟩⟩
  · have hfl := hr.flat
    have key : ∀ m (hm : m < (flat rows).length), cellAt (hp W) (a.add m) = some (flat rows)[m] := by
      intro m hm
      have hmk : m < rows.length * k := by omega
      have hi : m / k < rows.length := Nat.div_lt_of_lt_mul (by rw [Nat.mul_comm]; exact hmk)
      have hkr : (rows[m / k]).length = k := hr _ (List.getElem_mem hi)
      have hj : m % k < (rows[m / k]).length := by rw [hkr]; exact Nat.mod_lt _ hk
      have hjk : m % k < k := Nat.mod_lt _ hk
      have hm' : m / k * k + m % k = m := by rw [Nat.mul_comm]; exact Nat.div_add_mod m k
      have h1 := hc (m / k) hi (m % k) hj
      rw [hm'] at h1
      rw [h1]
      have h2 := flat_row hr hi
      have h3 : (rows[m / k])[m % k]? = (flat rows)[m]? := by
        rw [← h2, List.getElem?_take_of_lt hjk, List.getElem?_drop, hm']
      rw [List.getElem?_eq_getElem hj, List.getElem?_eq_getElem hm] at h3
      exact h3
    have hpos : 0 < (flat rows).length := by rw [hfl, hx]; exact Nat.mul_pos (by omega) hk
    have k0 := key 0 hpos
    rw [add_zero, cellAt_hp] at k0
    unfold World.cell? at k0
    split at k0
    · rename_i c E fr hb
      split at k0
      · cases k0
      · rename_i hs
        have hs' : a.spot = none := by simpa using hs
        obtain ⟨b, o, sp⟩ := a
        simp only at hs' hb
        subst hs'
        replace hb := hp_cells hb
        have each : At' c o (flat rows) := by
          intro i hi
          have := key i hi
          rw [add_mk, cellAt_of hb] at this
          exact this
        have hle := each.le (List.length_pos_iff.1 hpos)
        refine ⟨hrt, .inr ⟨b, o, cap, c, E, _, by rw [hlt], hb, by rw [hfl, hx] at hle; exact hle, by omega, ?_, id⟩⟩
        rw [flat_take hr]
        have := each.sub 0 (len * k)
        simpa using this
    · cases k0
theorem Ty.sz_pos : ∀ t : Ty, 0 < t.sz
  | .int _ | .byte | .bool | .str | .flt | .sl _ => Nat.one_pos
  | .pair a b => Nat.lt_of_lt_of_le a.sz_pos (Nat.le_add_right _ _)
theorem rep_cells {t : TypeId} {ty : Ty} {n : Nat} (h : tyB P n t ty = true) : P.cellsOf t = ty.sz := by
  cases n with
  | zero => simp [tyB] at h
  | succ n => simp only [tyB, Bool.and_eq_true, beq_iff_eq] at h; exact h.1
theorem trod_f64 {w : World} {base : Nat} {spare : Nat → Bool} {held : Bool} {fuel : Nat} {t : TypeId} {cs : List Value} {x : DataW H' × List MemPlace} (ht : P.underlying t = some (.float .f64)) (h : DataW.trod enc P w base spare held fuel t cs = some x) : ∃ b, cs = [.float .f64 b] ∧ b < 2 ^ 64 := by
  cases fuel with
  | zero => simp [DataW.trod] at h
  | succ m =>
    unfold DataW.trod at h
    rw [ht] at h
    split at h <;> simp_all
    obtain ⟨⟨hk, hw⟩, _⟩ := h
    rename_i k k' b heq _
    subst heq
    exact of_decide_eq_true hw
end
end Go.Proofs.Ytojhnclkhiffkaa

/-
  The end of a statement: arguments opened by their types, the form's reach handed on.
-/
namespace Go.Proofs.Ytojhnclkhiffkaa
open Go.ChangeShapes Go.WideShapes Go.ChangeAt Go.RowKit
set_option linter.unusedVariables false
section
variable {H' : Type} {enc : TypeId × Value → H'} {P : Program} {W : World} {base : Nat} {t : TypeId} {v : Value} {d : DataW H'} {p : List MemPlace}
end
end Go.Proofs.Ytojhnclkhiffkaa

