/-
  Slices as lists of values: read, owned, grown.
-/
import Derived.Test.YtojhnclkhiffkaaK10
namespace Go.Proofs.Ytojhnclkhiffkaa
set_option linter.unusedVariables false

/-- What was there is there, but for the blocks of S. -/
def Fr (S : Nat → Prop) (h h' : H) : Prop := ∀ x o, h x = some o → ¬ S x → h' x = some o
abbrev Ext (h h' : H) : Prop := Fr (fun _ => False) h h'
theorem Fr.refl (S : Nat → Prop) (h : H) : Fr S h h := fun _ _ h _ => h
theorem Fr.trans {S : Nat → Prop} {a b c : H} (h : Fr S a b) (k : Fr S b c) : Fr S a c := fun x o hx hs => k x o (h x o hx hs) hs
theorem Fr.mono {S T : Nat → Prop} {a b : H} (h : Fr S a b) (hst : ∀ x, S x → T x) : Fr T a b := fun x o hx hs => h x o hx fun h => hs (hst x h)
theorem storeH_same {h : H} {b : Nat} {c : Array Value} {E : TypeId} (o : Nat) (v : Value) (K : H → Prop) : storeH (hupd h b (.cells c E)) ⟨b, o, none⟩ [v] K = (o < c.size ∧ isCell v = true ∧ K (hupd h b (.cells (c.setIfInBounds o v) E))) := by
  rw [storeH_0 (hupd_same _ _ _), hupd_hupd]
theorem Ext.at {h h' : H} (e : Ext h h') {x : Nat} {o : Obj} (hx : h x = some o) : h' x = some o := e x o hx id
theorem Ext.new {h : H} {b : Nat} (hb : h b = none) (o : Obj) : Ext h (hupd h b o) := by
  intro x o' hx _
  rw [hupd_ne]
  · exact hx
  · rintro rfl; rw [hb] at hx; cases hx
theorem Fr.new {S : Nat → Prop} {h : H} {b : Nat} (hb : h b = none) (o : Obj) : Fr S h (hupd h b o) := (Ext.new hb o).mono fun _ h => h.elim
theorem Fr.upd {S : Nat → Prop} {h : H} {b : Nat} (hb : S b) (o : Obj) : Fr S h (hupd h b o) := by
  intro x o' hx hs
  rw [hupd_ne]
  · exact hx
  · rintro rfl; exact hs hb
theorem ne_of {h : H} {x b : Nat} {o : Obj} (hx : h x = some o) (hb : h b = none) : x ≠ b := by
  rintro rfl; rw [hb] at hx; cases hx

/-- A slice that reads as a list (elements of one cell). -/
def Sl (h : H) (v : Value) (xs : List Value) : Prop :=
  (∃ a, v = .slice a 0 0 ∧ xs = []) ∨
  ∃ b o cp c E fr, v = .slice (some ⟨b, o, none⟩) xs.length cp ∧ h b = some (.cells c E fr) ∧ o + cp ≤ c.size ∧ xs.length ≤ cp ∧ ∀ i (hi : i < xs.length), c[o + i]? = some xs[i]
/-- An element, by its place. -/
theorem Sl.load {h : H} {v : Value} {xs : List Value} (s : Sl h v xs) {k : Nat} (hk : k < xs.length) (kk : IntKind) : ∃ p, idxV1 1 v (.int kk (k : Int)) = some (.pointer (some p)) ∧ cellAt h p = some xs[k] := by
  rcases s with ⟨a, rfl, rfl⟩ | ⟨b, o, cp, c, E, fr, rfl, h2, h3, h4, h5⟩
  · simp at hk
  · refine ⟨⟨b, o + k, none⟩, ?_, ?_⟩
    · rw [idx_s, chk_pos (by omega)]
      simp
    · rw [cellAt_of h2, h5 k hk]
theorem Sl.load0 {h : H} {v x : Value} {xs : List Value} (s : Sl h v (x :: xs)) (kk : IntKind) : ∃ p, idxV1 1 v (.int kk 0) = some (.pointer (some p)) ∧ cellAt h p = some x :=
  s.load (k := 0) (by simp) kk
theorem Sl.len {h : H} {v : Value} {xs : List Value} (s : Sl h v xs) : ∃ a c, v = .slice a xs.length c := by
  rcases s with ⟨a, rfl, rfl⟩ | ⟨b, o, cp, c, E, fr, rfl, _⟩
  · exact ⟨_, _, rfl⟩
  · exact ⟨_, _, rfl⟩
theorem Sl.ext {h h' : H} {v : Value} {xs : List Value} (s : Sl h v xs) (e : Ext h h') : Sl h' v xs := by
  rcases s with s | ⟨b, o, cp, c, E, fr, h1, h2, h3⟩
  · exact .inl s
  · exact .inr ⟨b, o, cp, c, E, fr, h1, e.at h2, h3⟩
/-- .. whose block is none of S. -/
def SlF (S : Nat → Prop) (h : H) (v : Value) (xs : List Value) : Prop :=
  (∃ a, v = .slice a 0 0 ∧ xs = []) ∨
  ∃ b o cp c E fr, v = .slice (some ⟨b, o, none⟩) xs.length cp ∧ h b = some (.cells c E fr) ∧ o + cp ≤ c.size ∧ xs.length ≤ cp ∧ (∀ i (hi : i < xs.length), c[o + i]? = some xs[i]) ∧ ¬ S b
theorem SlF.sl {S : Nat → Prop} {h : H} {v : Value} {xs : List Value} (s : SlF S h v xs) : Sl h v xs := by
  rcases s with s | ⟨b, o, cp, c, E, fr, h1, h2, h3, h4, h5, h6⟩
  · exact .inl s
  · exact .inr ⟨b, o, cp, c, E, fr, h1, h2, h3, h4, h5⟩
theorem SlF.fr {S : Nat → Prop} {h h' : H} {v : Value} {xs : List Value} (s : SlF S h v xs) (e : Fr S h h') : SlF S h' v xs := by
  rcases s with s | ⟨b, o, cp, c, E, fr, h1, h2, h3, h4, h5, h6⟩
  · exact .inl s
  · exact .inr ⟨b, o, cp, c, E, fr, h1, e _ _ h2 h6, h3, h4, h5, h6⟩
theorem SlF.cut {S : Nat → Prop} {h : H} {a : Option Addr} {n c : Nat} {xs : List Value} (s : SlF S h (.slice a n c) xs) {lo hi : Int} {l u : Nat} (hl : lo = l) (hu : hi = u) (h2 : l ≤ u) (h3 : u ≤ n) :
    ∃ v, slcV 1 a n c false lo hi c = some v ∧ SlF S h v ((xs.drop l).take (u - l)) := by
  subst hl hu
  rcases s with ⟨a', s1, rfl⟩ | ⟨b, o, cp, cc, E, fr, s1, s2, s3, s4, s5, s6⟩
  · simp only [Value.slice.injEq] at s1
    obtain ⟨rfl, rfl, rfl⟩ := s1
    have : u = 0 := by omega
    have : l = 0 := by omega
    subst_vars
    exact ⟨_, rfl, .inl ⟨_, rfl, by simp⟩⟩
  · simp only [Value.slice.injEq] at s1
    obtain ⟨rfl, rfl, rfl⟩ := s1
    rw [slcV_eq, chk_pos (by omega)]
    by_cases hc : (c : Int) = l
    · refine ⟨_, rfl, .inr ⟨b, o, 0, cc, E, fr, ?_, s2, by omega, ?_, ?_, s6⟩⟩
      · rw [if_pos hc]
        simp only [Value.slice.injEq, true_and, List.length_take, List.length_drop]
        omega
      · simp; omega
      · intro i hi; simp at hi; omega
    · refine ⟨_, rfl, .inr ⟨b, o + l, c - l, cc, E, fr, ?_, s2, by omega, ?_, ?_, s6⟩⟩
      · rw [if_neg hc]
        simp only [Value.slice.injEq, Option.map_some, Option.some.injEq, Addr.add, List.length_take, List.length_drop]
        refine ⟨by simp, ?_, ?_⟩ <;> simp <;> omega
      · simp; omega
      · intro i hi
        simp at hi
        rw [Nat.add_assoc, s5 (l + i) (by omega)]
        simp
theorem Sl.toF {S : Nat → Prop} {h : H} {v : Value} {xs : List Value} (s : Sl h v xs) (hs : ∀ y, S y → h y = none) : SlF S h v xs := by
  rcases s with s | ⟨b, o, cp, c, E, fr, h1, h2, h3⟩
  · exact .inl s
  · exact .inr ⟨b, o, cp, c, E, fr, h1, h2, h3.1, h3.2.1, h3.2.2, fun hb => by rw [hs b hb] at h2; cases h2⟩
theorem Fr.own {S : Nat → Prop} {h h' : H} (f : Fr S h h') (hs : ∀ y, S y → h y = none) : Ext h h' :=
  fun x o hx _ => f x o hx fun hS => by rw [hs x hS] at hx; cases hx
/-- A slice of the call's own: not in h0, at its block's head. -/
def Own (h0 h : H) (E : TypeId) (v : Value) (xs : List Value) : Prop :=
  (v = .slice none 0 0 ∧ xs = []) ∨
  ∃ b cp c, v = .slice (some ⟨b, 0, none⟩) xs.length cp ∧ h b = some (.cells c E) ∧ c.size = cp ∧ xs.length ≤ cp ∧ (∀ i (hi : i < xs.length), c[i]? = some xs[i]) ∧ h0 b = none
theorem Own.sl {h0 h : H} {E : TypeId} {v : Value} {xs : List Value} (s : Own h0 h E v xs) : Sl h v xs := by
  rcases s with ⟨rfl, rfl⟩ | ⟨b, cp, c, h1, h2, h3, h4, h5, h6⟩
  · exact .inl ⟨_, rfl, rfl⟩
  · exact .inr ⟨b, 0, cp, c, E, (0, 0), h1, h2, by omega, h4, fun i hi => by rw [Nat.zero_add]; exact h5 i hi⟩
theorem Own.slF {h0 h : H} {E : TypeId} {v : Value} {xs : List Value} (s : Own h0 h E v xs) : SlF (fun x => h0 x ≠ none) h v xs := by
  rcases s with ⟨rfl, rfl⟩ | ⟨b, cp, c, h1, h2, h3, h4, h5, h6⟩
  · exact .inl ⟨_, rfl, rfl⟩
  · exact .inr ⟨b, 0, cp, c, E, (0, 0), h1, h2, by omega, h4, fun i hi => by rw [Nat.zero_add]; exact h5 i hi, fun hn => hn h6⟩
/-- A fresh literal. -/
theorem SlF.lit {S : Nat → Prop} {h : H} {b n : Nat} {E : TypeId} {xs : List Value} (hn : xs.length = n) (hs : ¬ S b) : SlF S (hupd h b (.cells xs.toArray E)) (.slice (some ⟨b, 0, none⟩) n n) xs :=
  .inr ⟨b, 0, n, xs.toArray, E, (0, 0), by rw [hn], hupd_same _ _ _, by simp [hn], by omega, fun i hi => by simp [hi], hs⟩
/-- Is block x this slice's? -/
def isAt (v : Value) (x : Nat) : Prop := ∃ o n c, v = .slice (some ⟨x, o, none⟩) n c
theorem Own.notAt {h0 h : H} {E : TypeId} {v : Value} {xs : List Value} (s : Own h0 h E v xs) {y : Nat} {o : Obj} (hy : h0 y = some o) : ¬ isAt v y := by
  rintro ⟨o', n, c, h⟩
  rcases s with ⟨h1, _⟩ | ⟨b, cp, c', h1, _, _, _, _, h6⟩
  · rw [h1] at h; simp at h
  · rw [h1] at h
    simp only [Value.slice.injEq, Option.some.injEq, Addr.mk.injEq] at h
    obtain ⟨⟨rfl, _⟩, _⟩ := h
    rw [h6] at hy; cases hy
/-- What was there is still there, as some object. -/
theorem Fr.back {S : Nat → Prop} {h h' : H} (f : Fr S h h') {y : Nat} (hy : h' y = none) (hs : ∀ y, S y → h' y ≠ none) : h y = none := by
  cases hc : h y with
  | none => rfl
  | some o =>
    by_cases hS : S y
    · exact absurd hy (hs y hS)
    · rw [f y o hc hS] at hy; cases hy
theorem Own.fr {h0 h h' : H} {E : TypeId} {v : Value} {xs : List Value} (s : Own h0 h E v xs) (e : ∀ x o, h x = some o → isAt v x → h' x = some o) : Own h0 h' E v xs := by
  rcases s with s | ⟨b, cp, c, h1, h2, h3⟩
  · exact .inl s
  · exact .inr ⟨b, cp, c, h1, e b _ h2 ⟨0, _, _, h1⟩, h3⟩
theorem Own.ext {h0 h h' : H} {E : TypeId} {v : Value} {xs : List Value} (s : Own h0 h E v xs) (e : Ext h h') : Own h0 h' E v xs := s.fr fun x o hx _ => e.at hx

theorem get_splice (l : List Value) : ∀ (c : Array Value) (o i : Nat), o + l.length ≤ c.size → (splice c o l)[i]? = if o ≤ i ∧ i < o + l.length then l[i - o]? else c[i]? := by
  induction l with
  | nil => intro c o i _; rw [if_neg (by simp only [List.length_nil]; omega)]; rfl
  | cons v r ih =>
    intro c o i hl
    simp only [List.length_cons] at hl
    rw [splice, ih _ _ _ (by simp; omega)]
    by_cases h1 : o + 1 ≤ i ∧ i < o + 1 + r.length
    · rw [if_pos h1, if_pos (by simp; omega)]
      rw [show i - o = (i - (o + 1)) + 1 by omega]
      simp
    · rw [if_neg h1]
      by_cases h2 : i = o
      · subst h2
        rw [if_pos (by simp)]
        have : i < c.size := by omega
        simp [this]
      · rw [if_neg (by simp; omega)]
        rw [Array.getElem?_setIfInBounds_ne (by omega)]

theorem srcCells_lit {h : H} {b n m : Nat} {c : Array Value} {E : TypeId} {fr : Nat × Nat} (hb : h b = some (.cells c E fr)) (hl : n ≤ c.size) : srcCells h 1 n (.slice (some ⟨b, 0, none⟩) n m) = some (c.extract 0 n) := by
  show cellsAt h ⟨b, 0, none⟩ (n * 1) = _
  rw [Nat.mul_one, cellsAt_of hb (by omega)]
  simp
theorem srcCells_sl {h : H} {v : Value} {xs : List Value} (s : Sl h v xs) : srcLen v = some xs.length ∧ srcCells h 1 xs.length v = some xs.toArray := by
  rcases s with ⟨a, rfl, rfl⟩ | ⟨b, o, cp, c, E, fr, rfl, h2, h3, h4, h5⟩
  · exact ⟨rfl, by cases a <;> rfl⟩
  · refine ⟨rfl, ?_⟩
    show cellsAt h ⟨b, o, none⟩ (xs.length * 1) = _
    rw [Nat.mul_one, cellsAt_of h2 (by omega)]
    congr 1
    apply Array.ext'
    apply List.ext_getElem?
    intro i
    rw [Array.getElem?_toList, Array.getElem?_extract]
    by_cases hi : i < xs.length
    · rw [if_pos (by omega), h5 i hi]; simp [hi]
    · rw [if_neg (by omega)]; simp; omega

/-- append to a slice of the call's own. -/
theorem app_own {h0 h : H} {E : TypeId} {bytes : Nat} {z : Array Value} {s x : Value} {xs new : List Value} {V : Value → H → Prop} (hs : Own h0 h E s xs) (h00 : ∀ b, h b = none → h0 b = none)
    (hx : srcLen x = some new.length) (hc : srcCells h 1 new.length x = some new.toArray) (hcell : new.all isCell = true) (hz : z.size = 1) (hlen : 2 * ((xs.length + new.length) * bytes) ≤ 281474976710656) (hlen' : xs.length + new.length ≤ 9223372036854775807)
    (hk : ∀ v h', Own h0 h' E v (xs ++ new) → (∀ y o, h y = some o → ¬ isAt s y → h' y = some o) → (∀ y o, h0 y = some o → h y = some o → h' y = some o) → V v h') : appM E 1 bytes z s x h V := by
  have hnc : ∀ i (hi : i < new.length), new.toArray[i]? = some new[i] := by intro i hi; simp [hi]
  have grow : ∀ cap : Nat, cap < xs.length + new.length → ∀ old : Array Value, old = xs.toArray → ∀ c, xs.length + new.length ≤ c → ∀ b, h b = none →
      V (.slice (some ⟨b, 0, none⟩) (xs.length + new.length) c) (hupd h b (.cells (old ++ new.toArray ++ Builtin.zeroCells z (c - (xs.length + new.length))) E)) := by
    rintro cap hcap old rfl c hcl b hb
    refine hk _ _ (.inr ⟨b, c, xs.toArray ++ new.toArray ++ Builtin.zeroCells z (c - (xs.length + new.length)), by simp, hupd_same _ _ _, ?_, by simp; omega, ?_, h00 b hb⟩) (fun y o hy _ => by rw [hupd_ne _ _ (ne_of hy hb)]; exact hy) (fun y o _ hy => by rw [hupd_ne _ _ (ne_of hy hb)]; exact hy)
    · simp [Builtin.zeroCells, hz]; omega
    · intro i hi
      rw [Array.getElem?_append_left (by simpa using hi)]
      simp
  have hfit : ∀ cap, cap < xs.length + new.length → Builtin.nextslicecap (xs.length + new.length) cap * bytes ≤ 281474976710656 := by
    intro cap hcap
    have h1 := nextslicecap_le hcap
    have h2 : Builtin.nextslicecap (xs.length + new.length) cap * bytes ≤ (2 * (xs.length + new.length)) * bytes := Nat.mul_le_mul_right _ h1
    have h3 : (2 * (xs.length + new.length)) * bytes = 2 * ((xs.length + new.length) * bytes) := Nat.mul_assoc _ _ _
    omega
  rcases hs with ⟨rfl, rfl⟩ | ⟨b, cp, c, rfl, h2, h3, h4, h5, h6⟩
  · unfold appM
    simp only [hx]
    simp only [List.length_nil, Nat.zero_add] at *
    by_cases hn : new.length ≤ 0
    · rw [if_pos hn, hc]
      have : new = [] := by cases new <;> simp_all
      subst this
      exact hk _ _ (.inl ⟨rfl, rfl⟩) (fun _ _ h _ => h) (fun _ _ _ h => h)
    · rw [if_neg hn]
      refine ⟨⟨hlen', hfit 0 (by omega)⟩, ?_⟩
      rw [hc]
      simp only [srcCells]
      intro c hcl b hb
      exact grow 0 (by omega) #[] rfl c hcl b hb
  · have hold : srcCells h 1 xs.length (.slice (some ⟨b, 0, none⟩) xs.length cp) = some xs.toArray :=
      (srcCells_sl (h := h) (v := .slice (some ⟨b, 0, none⟩) xs.length cp) (xs := xs) (.inr ⟨b, 0, cp, c, E, (0, 0), rfl, h2, by omega, h4, fun i hi => by rw [Nat.zero_add]; exact h5 i hi⟩)).2
    unfold appM
    simp only [hx]
    by_cases hn : xs.length + new.length ≤ cp
    · rw [if_pos hn, hc]
      simp only []
      rw [Nat.mul_one, add_mk]
      refine storeH_in h2 (.inl (Nat.zero_le _)) (by simp; omega) hcell ?_
      refine hk _ _ (.inr ⟨b, cp, splice c (0 + xs.length) new, by simp, hupd_same _ _ _, by rw [size_splice]; exact h3, by simp; omega, ?_, h6⟩) (fun y o hy hne => ?_) (fun y o h0y hy => ?_)
      · intro i hi
        rw [get_splice _ _ _ _ (by omega)]
        by_cases hi' : i < xs.length
        · rw [if_neg (by omega), h5 i hi']; simp [hi']
        · rw [if_pos (by simp at hi; omega)]
          rw [List.getElem_append_right (by omega)]
          rw [show i - (0 + xs.length) = i - xs.length by omega]
          simp at hi
          rw [List.getElem?_eq_getElem (by omega)]
      · rw [hupd_ne]
        · exact hy
        · rintro rfl; exact hne ⟨0, _, _, rfl⟩
      · rw [hupd_ne]
        · exact hy
        · rintro rfl; rw [h6] at h0y; cases h0y
    · rw [if_neg hn]
      refine ⟨⟨hlen', hfit cp (by omega)⟩, ?_⟩
      rw [hold, hc]
      intro c' hcl b' hb
      exact grow cp (by omega) xs.toArray rfl c' hcl b' hb
theorem cells_take {l : List Value} (h : l.all isCell = true) (n : Nat) : (l.take n).all isCell = true := by
  rw [List.all_eq_true] at *
  exact fun x hx => h x (List.mem_of_mem_take hx)
theorem cells_drop {l : List Value} (h : l.all isCell = true) (n : Nat) : (l.drop n).all isCell = true := by
  rw [List.all_eq_true] at *
  exact fun x hx => h x (List.mem_of_mem_drop hx)
theorem cells_strs (l : List ByteArray) : (l.map Value.string).all isCell = true := by
  rw [List.all_eq_true]; intro x hx
  obtain ⟨s, _, rfl⟩ := List.mem_map.1 hx; rfl
theorem cells_ints (k : IntKind) (l : List Int) : (l.map (Value.int k)).all isCell = true := by
  rw [List.all_eq_true]; intro x hx
  obtain ⟨s, _, rfl⟩ := List.mem_map.1 hx; rfl
theorem Own.older {h00 h0 h : H} {E : TypeId} {v : Value} {xs : List Value} (s : Own h0 h E v xs) (e : Ext h00 h0) : Own h00 h E v xs := by
  rcases s with s | ⟨b, cp, c, h1, h2, h3, h4, h5, h6⟩
  · exact .inl s
  · exact .inr ⟨b, cp, c, h1, h2, h3, h4, h5, e.back h6 (fun _ h => h.elim)⟩
theorem Fr.less {S T : Nat → Prop} {h h' : H} (f : Fr S h h') (hs : ∀ y, S y → T y ∨ h y = none) : Fr T h h' :=
  fun x o hx ht => f x o hx fun hS => by
    rcases hs x hS with h1 | h1
    · exact ht h1
    · rw [h1] at hx; cases hx
/-- An element, by its place, in whatever heap keeps the slice's block. -/
theorem SlF.loadF {S : Nat → Prop} {h : H} {v : Value} {xs : List Value} (s : SlF S h v xs) {k : Nat} (hk : k < xs.length) (kk : IntKind) : ∃ p, idxV1 1 v (.int kk (k : Int)) = some (.pointer (some p)) ∧ ∀ h', Fr S h h' → cellAt h' p = some xs[k] := by
  rcases s with ⟨a, rfl, rfl⟩ | ⟨b, o, cp, c, E, fr, rfl, h2, h3, h4, h5, h6⟩
  · simp at hk
  · refine ⟨⟨b, o + k, none⟩, ?_, fun h' f => ?_⟩
    · rw [idx_s, chk_pos (by omega)]
      simp
    · rw [cellAt_of (f _ _ h2 h6), h5 k hk]
end Go.Proofs.Ytojhnclkhiffkaa
