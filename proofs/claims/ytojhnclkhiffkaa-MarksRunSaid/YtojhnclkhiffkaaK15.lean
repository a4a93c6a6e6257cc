/-
  Bytes and texts; slices of one-cell elements; append of one element; data in memory by the shape of their type, and arguments opened.
-/
import Derived.Test.YtojhnclkhiffkaaK14
import Derived.Test.YtojhnclkhiffkaaK12
import Derived.Test.YtojhnclkhiffkaaK13
namespace Go.Proofs.Ytojhnclkhiffkaa
open Go.ChangeShapes Go.WideShapes Go.ChangeAt Go.RowKit
set_option linter.unusedVariables false
set_option linter.unusedSimpArgs false

/-! ### One-cell elements -/
abbrev S1 (S : Nat → Prop) (h : H) (v : Value) (xs : List Value) : Prop := SlK 1 S h v (one xs)
abbrev O1 (O : Nat → Prop) (h : H) (E : TypeId) (v : Value) (xs : List Value) : Prop := OwK 1 O h E v (one xs)
theorem S1.len {S : Nat → Prop} {h : H} {v : Value} {xs : List Value} (s : S1 S h v xs) : ∃ a c, v = .slice a xs.length c := by
  obtain ⟨a, c, he⟩ := SlK.len s; rw [one_len] at he; exact ⟨a, c, he⟩
theorem S1.load {S : Nat → Prop} {h : H} {v : Value} {xs : List Value} (s : S1 S h v xs) {i : Nat} (hi : i < xs.length) (kk : IntKind) : ∃ b o, idxV1 1 v (.int kk (i : Int)) = some (.pointer (some ⟨b, o, none⟩)) ∧ cellAt h ⟨b, o, none⟩ = some xs[i] := by
  obtain ⟨b, o, h1, h2, h3, h4⟩ := SlK.row s (i := i) (by rw [one_len]; exact hi) kk
  refine ⟨b, o, h1, ?_⟩
  have := h3 0 (by omega)
  simpa [one] using this
theorem S1.cut {S : Nat → Prop} {h : H} {a : Option Addr} {n c : Nat} {xs : List Value} (s : S1 S h (.slice a n c) xs) {m3 : Bool} {lo hi mx : Int} {l u m : Nat} (hl : lo = l) (hu : hi = u) (hm : mx = m) (h2 : l ≤ u) (h3 : u ≤ n) (h4 : u ≤ m) (h5 : m ≤ c) (h6 : m3 = true ∨ m = c) :
    ∃ v, slcV 1 a n c m3 lo hi mx = some v ∧ S1 S h v ((xs.drop l).take (u - l)) := by
  obtain ⟨v, h1, h2⟩ := SlK.cut s hl hu hm h2 h3 h4 h5 h6
  refine ⟨v, h1, ?_⟩
  simpa [one, S1, List.map_drop, List.map_take] using h2
theorem O1.cut {O : Nat → Prop} {h : H} {E : TypeId} {a : Option Addr} {n c : Nat} {xs : List Value} (s : O1 O h E (.slice a n c) xs) {m3 : Bool} {lo hi mx : Int} {l u m : Nat} (hl : lo = l) (hu : hi = u) (hm : mx = m) (h2 : l ≤ u) (h3 : u ≤ n) (h4 : u ≤ m) (h5 : m ≤ c) (h6 : m3 = true ∨ m = c) :
    ∃ v, slcV 1 a n c m3 lo hi mx = some v ∧ O1 O h E v ((xs.drop l).take (u - l)) ∧ ∀ x, isAt v x → isAt (.slice a n c) x := by
  obtain ⟨v, h1, h2, h3⟩ := OwK.cut s hl hu hm h2 h3 h4 h5 h6
  refine ⟨v, h1, ?_, h3⟩
  simpa [one, O1, List.map_drop, List.map_take] using h2
theorem SlK.to1 {S : Nat → Prop} {h : H} {v : Value} {xs : List Value} (s : S1 S h v xs) : Sl h v xs := by
  obtain ⟨hr, ⟨a, h1, h2⟩ | ⟨b, o, cp, c, E, fr, h1, h2, h3, h4, h5, h6⟩⟩ := s
  · refine .inl ⟨a, h1, ?_⟩
    cases xs <;> simp [one] at h2 ⊢
  · rw [flat_one] at h5
    rw [one_len] at h1 h4
    exact .inr ⟨b, o, cp, c, E, fr, h1, h2, by omega, h4, h5⟩
theorem Sl.to1 {h : H} {v : Value} {xs : List Value} (s : Sl h v xs) : S1 nos h v xs := by
  refine ⟨rect_one _, ?_⟩
  rcases s with ⟨a, h1, rfl⟩ | ⟨b, o, cp, c, E, fr, h1, h2, h3, h4, h5⟩
  · exact .inl ⟨a, h1, rfl⟩
  · exact .inr ⟨b, o, cp, c, E, fr, by rw [one_len]; exact h1, h2, by omega, by rw [one_len]; exact h4, by rw [flat_one]; exact h5, id⟩
theorem SlK.nos {k : Nat} {S : Nat → Prop} {h : H} {v : Value} {rows : List (List Value)} (s : SlK k S h v rows) : SlK k Go.Proofs.Ytojhnclkhiffkaa.nos h v rows := s.mono fun _ _ _ h => h.elim
/-- All its blocks are old. -/
theorem SlK.old {k : Nat} {S T : Nat → Prop} {h : H} {v : Value} {rows : List (List Value)} (s : SlK k S h v rows) (ht : ∀ x, T x → h x = none) : SlK k T h v rows := by
  obtain ⟨hr, s | ⟨b, o, cp, c, E, fr, h1, h2, h3, h4, h5, h6⟩⟩ := s
  · exact ⟨hr, .inl s⟩
  · exact ⟨hr, .inr ⟨b, o, cp, c, E, fr, h1, h2, h3, h4, h5, fun hx => by rw [ht b hx] at h2; cases h2⟩⟩
theorem slit1 {h : H} {b : Nat} {E : TypeId} (xs : List Value) {n : Nat} (hn : xs.length = n) : S1 nos (hupd h b (.cells xs.toArray E)) (.slice (some ⟨b, 0, none⟩) n n) xs :=
  (OwK.lit (O := fun _ => True) (rect_one xs) (by rw [one_len]; exact hn) (by simp [hn]) (Nat.le_refl _) (by rw [flat_one]; have := at_arr xs #[]; simpa using this) trivial (.inl rfl)).s0
theorem slitf {h : H} {b : Nat} {E : TypeId} {fr : Nat × Nat} (xs : List Value) {n : Nat} (hn : xs.length = n) : S1 nos (hupd h b (.cells xs.toArray E fr)) (.slice (some ⟨b, 0, none⟩) n n) xs :=
  ⟨rect_one xs, .inr ⟨b, 0, n, _, E, fr, by rw [one_len, hn], hupd_same _ _ _, by simp [hn], by rw [one_len, hn]; exact Nat.le_refl _, by rw [flat_one]; have := at_arr xs #[]; simpa using this, id⟩⟩
theorem olit1 {O : Nat → Prop} {h : H} {b : Nat} {E : TypeId} (xs : List Value) {n : Nat} (hn : xs.length = n) (ho : O b) : O1 O (hupd h b (.cells xs.toArray E)) E (.slice (some ⟨b, 0, none⟩) n n) xs :=
  OwK.lit (rect_one xs) (by rw [one_len]; exact hn) (by simp [hn]) (Nat.le_refl _) (by rw [flat_one]; have := at_arr xs #[]; simpa using this) ho (.inl rfl)
/-- 'make' of one-cell elements. -/
theorem omake1 {O : Nat → Prop} {h : H} {b : Nat} {E : TypeId} {z : Value} {n m : Nat} (hnm : n ≤ m) (ho : O b) : O1 O (hupd h b (.cells (Builtin.zeroCells #[z] m) E)) E (.slice (some ⟨b, 0, none⟩) n m) (List.replicate n z) := by
  refine OwK.lit (rect_one _) (by simp [one]) (by simp [Builtin.zeroCells]) hnm ?_ ho (.inl rfl)
  rw [flat_one]
  intro i hi
  have him : i < m := by rw [List.length_replicate] at hi; omega
  have : (Builtin.zeroCells #[z] m)[0 + i]? = some z := by
    simp [Builtin.zeroCells, him, Nat.mod_one]
  rw [this]; simp
theorem app1 {O : Nat → Prop} {h : H} {E : TypeId} {bytes : Nat} {z s x : Value} {xs new : List Value} {V : Value → H → Prop} (hs : O1 O h E s xs) (hO : ∀ b, h b = none → O b)
    {S : Nat → Prop} (hx : S1 S h x new) (hcell : new.all isCell = true) (hlen : 2 * ((xs.length + new.length) * bytes) ≤ 281474976710656) (hlen' : xs.length + new.length ≤ 9223372036854775807)
    (hk : ∀ v h', O1 O h' E v (xs ++ new) → Fr (fun y => O y ∧ isAt s y) h h' → V v h') : appM E 1 bytes #[z] s x h V := by
  obtain ⟨h1, h2⟩ := SlK.src hx
  have h3 := h2 _ (Nat.le_refl _)
  rw [List.take_length] at h3
  refine app_ow hs hO (rect_one new) h1 h3 (by rw [flat_one]; exact hcell) rfl (by simpa [one_len] using hlen) (by simpa [one_len] using hlen') ?_
  intro v h' ho hf _
  rw [← one_append] at ho
  exact hk v h' ho hf
/-- append of one element: the literal is made, then appended. -/
theorem push1 {O : Nat → Prop} {h : H} {E : TypeId} {bytes : Nat} {z s v : Value} {xs : List Value} {V : Nat → Value → H → Prop} (hs : O1 O h E s xs) (hO : ∀ b, h b = none → O b)
    (hcell : isCell v = true) (hlen : 2 * ((xs.length + 1) * bytes) ≤ 281474976710656) (hlen' : xs.length + 1 ≤ 9223372036854775807)
    (hk : ∀ (b : Nat) s' h', h b = none → O1 O h' E s' (xs ++ [v]) → Fr (fun y => O y ∧ isAt s y) h h' → V b s' h') :
    ∀ b, h b = none → appM E 1 bytes #[z] s (.slice (some ⟨b, 0, none⟩) 1 1) (hupd h b (.cells #[v] E)) (V b) := by
  intro b hb
  refine app1 (hs.ext (Ext.new hb _)) (fun y hy => hO y ?_) (slit1 [v] rfl) (by simp [hcell]) hlen hlen' ?_
  · by_cases hyb : y = b
    · subst hyb; exact hb
    · rwa [hupd_ne _ _ hyb] at hy
  · intro s' h' ho hf
    exact hk b s' h' hb ho ((Fr.new hb _).trans hf)
/-- append of one struct of k cells. -/
theorem pushk {k : Nat} {O : Nat → Prop} {h : H} {E : TypeId} {bytes : Nat} {z : Array Value} {s : Value} {row : List Value} {rows : List (List Value)} {V : Nat → Value → H → Prop} (hs : OwK k O h E s rows) (hO : ∀ b, h b = none → O b)
    (hrow : row.length = k) (hz : z.size = k) (hcell : row.all isCell = true) (hlen : 2 * ((rows.length + 1) * bytes) ≤ 281474976710656) (hlen' : rows.length + 1 ≤ 9223372036854775807)
    (hk : ∀ (b : Nat) s' h', h b = none → OwK k O h' E s' (rows ++ [row]) → Fr (fun y => O y ∧ isAt s y) h h' → (∀ y, isAt s' y → isAt s y ∨ h y = none) → V b s' h') :
    ∀ b, h b = none → appM E k bytes z s (.slice (some ⟨b, 0, none⟩) 1 1) (hupd h b (.cells row.toArray E)) (V b) := by
  intro b hb
  have hrect : Rect k [row] := fun r hr => by simp at hr; subst hr; exact hrow
  have hfl : flat [row] = row := by simp [flat]
  have hl : SlK k nos (hupd h b (.cells row.toArray E)) (.slice (some ⟨b, 0, none⟩) 1 1) [row] :=
    (OwK.lit (O := fun _ => True) hrect rfl (by simp [hrow]) (Nat.le_refl _) (by rw [hfl]; have := at_arr row #[]; simpa using this) trivial (.inl rfl)).s0
  obtain ⟨h1, h2⟩ := SlK.src hl
  have h3 := h2 1 (by simp)
  rw [List.take_of_length_le (by simp)] at h3
  refine app_ow (hs.ext (Ext.new hb _)) (fun y hy => hO y ?_) hrect h1 h3 (by rw [hfl]; exact hcell) hz hlen hlen' ?_
  · by_cases hyb : y = b
    · subst hyb; exact hb
    · rwa [hupd_ne _ _ hyb] at hy
  · intro s' h' ho hf hat
    refine hk b s' h' hb ho ((Fr.new hb _).trans hf) fun y hy => ?_
    rcases hat y hy with h1 | h1
    · exact .inl h1
    · by_cases hyb : y = b
      · subst hyb; exact .inr hb
      · rw [hupd_ne _ _ hyb] at h1; exact .inr h1
/-- What a call leaves of what was there before: its own slice may have changed. -/
theorem Ext.step {h0 h h' : H} {T : Nat → Prop} (e : Ext h0 h) (f : Fr (fun y => h0 y = none ∧ T y) h h') : Ext h0 h' := by
  intro x o hx _
  refine f x o (e.at hx) ?_
  rintro ⟨h1, _⟩
  rw [h1] at hx; cases hx
theorem Ext.step' {h0 h h' : H} {S : Nat → Prop} (e : Ext h0 h) (f : Fr S h h') (hs : ∀ x, S x → h0 x = none) : Ext h0 h' := by
  intro x o hx _
  refine f x o (e.at hx) ?_
  intro h1
  rw [hs x h1] at hx; cases hx
theorem Fr.step {S : Nat → Prop} {h0 h h' : H} {T : Nat → Prop} (f : Fr S h0 h) (g : Fr (fun y => h0 y = none ∧ T y) h h') : Fr S h0 h' := by
  intro x o hx hS
  refine g x o (f x o hx hS) ?_
  rintro ⟨h1, _⟩
  rw [h1] at hx; cases hx
theorem Ext.bk {h h' : H} (e : Ext h h') {y : Nat} (hy : h' y = none) : h y = none := e.back hy fun _ h => h.elim

/-- A measure for a slot that falls to -1. -/
def mp : Value → Nat
  | .int _ n => (n + 1).toNat
  | _ => 0

/-! ### Ranges over functions -/
theorem hdel_hupd {h : H} {L : Nat} {o : Obj} (hL : h L = none) : hdel (hupd h L o) L = h := by
  funext x
  unfold hdel hupd
  by_cases hx : x = L
  · subst hx; rw [if_pos rfl, hL]
  · rw [if_neg hx, if_neg hx]
theorem hdel_hupd_ne {h : H} {L b : Nat} {o : Obj} (hb : b ≠ L) : hdel (hupd h b o) L = hupd (hdel h L) b o := by
  funext x
  unfold hdel hupd
  by_cases hx : x = L
  · subst hx; simp [Ne.symm hb]
  · simp [hx]
theorem hdel_none (h : H) (L : Nat) : hdel h L L = none := by simp [hdel]
theorem hdel_put {h : H} {L : Nat} {o : Obj} (hL : h L = some o) : hupd (hdel h L) L o = h := by
  funext x
  unfold hdel hupd
  by_cases hx : x = L
  · subst hx; rw [if_pos rfl, hL]
  · simp [hx]
theorem hdel_ext {h h' : H} {L : Nat} (hL : h L = none) (e : Ext h h') : Ext h (hdel h' L) := by
  intro b o hb
  unfold hdel
  by_cases hx : b = L
  · subst hx; rw [hL] at hb; cases hb
  · have h2 := e.at hb
    simp [hx, h2]
def rY (I : H → Prop) (Ir : H → Prop) (Ie : Nat → H → Prop) (x : Exit) (h : H) : Prop :=
  match x with
  | .normal => I h
  | .ret => Ir h
  | .exit j => Ie j h
  | _ => False
theorem rY_normal (I Ir : H → Prop) (Ie : Nat → H → Prop) (h : H) : rY I Ir Ie .normal h = I h := rfl
theorem rY_ret (I Ir : H → Prop) (Ie : Nat → H → Prop) (h : H) : rY I Ir Ie .ret h = Ir h := rfl
theorem rY_exit (I Ir : H → Prop) (Ie : Nat → H → Prop) (j : Nat) (h : H) : rY I Ir Ie (.exit j) h = Ie j h := rfl
/-! ### Bytes and texts -/
def bv (b : UInt8) : Value := .int .u8 (b.toNat : Int)
def bvs (l : List UInt8) : List Value := l.map bv
theorem bvs_len (l : List UInt8) : (bvs l).length = l.length := by simp [bvs]
theorem bvs_append (a b : List UInt8) : bvs (a ++ b) = bvs a ++ bvs b := by simp [bvs]
theorem bvs_take (a : List UInt8) (n : Nat) : bvs (a.take n) = (bvs a).take n := by simp [bvs, List.map_take]
theorem bvs_drop (a : List UInt8) (n : Nat) : bvs (a.drop n) = (bvs a).drop n := by simp [bvs, List.map_drop]
theorem bvs_get (a : List UInt8) (n : Nat) (h : n < (bvs a).length) : (bvs a)[n] = .int .u8 ((a[n]'(by simpa [bvs] using h)).toNat : Int) := by simp [bvs, bv]
theorem bvs_cells (l : List UInt8) : (bvs l).all isCell = true := by
  rw [List.all_eq_true]; intro x hx
  obtain ⟨s, _, rfl⟩ := List.mem_map.1 hx; rfl
theorem bvs_inj {a b : List UInt8} (h : bvs a = bvs b) : a = b := by
  induction a generalizing b with
  | nil => cases b <;> simp [bvs] at h ⊢
  | cons x t ih =>
    cases b with
    | nil => simp [bvs] at h
    | cons y r =>
      simp only [bvs, List.map_cons, List.cons.injEq, bv, Value.int.injEq, true_and] at h
      rw [ih h.2, show x = y from UInt8.toNat_inj.1 (by omega)]
abbrev By (S : Nat → Prop) (h : H) (v : Value) (l : List UInt8) : Prop := S1 S h v (bvs l)
abbrev OwB (O : Nat → Prop) (h : H) (E : TypeId) (v : Value) (l : List UInt8) : Prop := O1 O h E v (bvs l)
theorem By.nil {S : Nat → Prop} {h : H} : By S h (.slice none 0 0) [] := ⟨fun r hr => by simp [one, bvs] at hr, .inl ⟨_, rfl, rfl⟩⟩
theorem By.len {S : Nat → Prop} {h : H} {v : Value} {l : List UInt8} (s : By S h v l) : ∃ a c, v = .slice a l.length c := by
  obtain ⟨a, c, he⟩ := S1.len s; rw [bvs_len] at he; exact ⟨a, c, he⟩
theorem SlK.cap {k : Nat} {S : Nat → Prop} {h : H} {a : Option Addr} {n c : Nat} {rows : List (List Value)} (s : SlK k S h (.slice a n c) rows) : n = rows.length ∧ n ≤ c ∧ rows.length ≤ c := by
  obtain ⟨_, ⟨a', s1, rfl⟩ | ⟨b, o, cp, cc, E, fr, s1, s2, s3, s4, s5, s6⟩⟩ := s
  · simp only [Value.slice.injEq] at s1
    obtain ⟨_, rfl, rfl⟩ := s1
    simp
  · simp only [Value.slice.injEq] at s1
    obtain ⟨_, rfl, rfl⟩ := s1
    exact ⟨rfl, s4, s4⟩
theorem By.load {S : Nat → Prop} {h : H} {v : Value} {l : List UInt8} (s : By S h v l) {i : Nat} (hi : i < l.length) (kk : IntKind) : ∃ b o, idxV1 1 v (.int kk (i : Int)) = some (.pointer (some ⟨b, o, none⟩)) ∧ cellAt h ⟨b, o, none⟩ = some (.int .u8 (l[i].toNat : Int)) := by
  obtain ⟨b, o, h1, h2⟩ := S1.load s (i := i) (by rw [bvs_len]; exact hi) kk
  exact ⟨b, o, h1, by rw [h2, bvs_get]⟩
theorem By.cut {S : Nat → Prop} {h : H} {a : Option Addr} {n c : Nat} {xs : List UInt8} (s : By S h (.slice a n c) xs) {m3 : Bool} {lo hi mx : Int} {l u m : Nat} (hl : lo = l) (hu : hi = u) (hm : mx = m) (h2 : l ≤ u) (h3 : u ≤ n) (h4 : u ≤ m) (h5 : m ≤ c) (h6 : m3 = true ∨ m = c) :
    ∃ v, slcV 1 a n c m3 lo hi mx = some v ∧ By S h v ((xs.drop l).take (u - l)) := by
  obtain ⟨v, h1, h2⟩ := S1.cut s hl hu hm h2 h3 h4 h5 h6
  refine ⟨v, h1, ?_⟩
  rw [By, bvs_take, bvs_drop]; exact h2
theorem OwB.cut {O : Nat → Prop} {h : H} {E : TypeId} {a : Option Addr} {n c : Nat} {xs : List UInt8} (s : OwB O h E (.slice a n c) xs) {m3 : Bool} {lo hi mx : Int} {l u m : Nat} (hl : lo = l) (hu : hi = u) (hm : mx = m) (h2 : l ≤ u) (h3 : u ≤ n) (h4 : u ≤ m) (h5 : m ≤ c) (h6 : m3 = true ∨ m = c) :
    ∃ v, slcV 1 a n c m3 lo hi mx = some v ∧ OwB O h E v ((xs.drop l).take (u - l)) ∧ ∀ x, isAt v x → isAt (.slice a n c) x := by
  obtain ⟨v, h1, h2, h3⟩ := O1.cut s hl hu hm h2 h3 h4 h5 h6
  refine ⟨v, h1, ?_, h3⟩
  rw [OwB, bvs_take, bvs_drop]; exact h2
/-- append of bytes. -/
theorem appB {O : Nat → Prop} {h : H} {E : TypeId} {z s x : Value} {xs new : List UInt8} {V : Value → H → Prop} (hs : OwB O h E s xs) (hO : ∀ b, h b = none → O b)
    {S : Nat → Prop} (hx : By S h x new) (hlen : xs.length + new.length ≤ 140737488355328)
    (hk : ∀ v h', OwB O h' E v (xs ++ new) → Fr (fun y => O y ∧ isAt s y) h h' → V v h') : appM E 1 1 #[z] s x h V := by
  refine app1 hs hO hx (bvs_cells _) (by rw [bvs_len, bvs_len]; omega) (by rw [bvs_len, bvs_len]; omega) ?_
  intro v h' ho hf
  rw [← bvs_append] at ho
  exact hk v h' ho hf
/-- append of one byte, as a number that fits. -/
theorem pushB {O : Nat → Prop} {h : H} {E : TypeId} {z s : Value} {n : Int} {xs : List UInt8} {V : Nat → Value → H → Prop} (b : UInt8) (hs : OwB O h E s xs) (hO : ∀ b, h b = none → O b) (hn : n = (b.toNat : Int))
    (hlen : xs.length + 1 ≤ 140737488355328)
    (hk : ∀ (y0 : Nat) v h', h y0 = none → OwB O h' E v (xs ++ [b]) → Fr (fun y => O y ∧ isAt s y) h h' → V y0 v h') :
    ∀ b, h b = none → appM E 1 1 #[z] s (.slice (some ⟨b, 0, none⟩) 1 1) (hupd h b (.cells #[.int .u8 n] E)) (V b) := by
  subst hn
  refine push1 hs hO rfl (by rw [bvs_len]; omega) (by rw [bvs_len]; omega) ?_
  intro c v h' hc ho hf
  refine hk c v h' hc ?_ hf
  rw [OwB, bvs_append]; exact ho

/-- 'make' of bytes. -/
theorem omakeB {O : Nat → Prop} {h : H} {b : Nat} {E : TypeId} {n m : Nat} (hnm : n ≤ m) (ho : O b) : OwB O (hupd h b (.cells (Builtin.zeroCells #[.int .u8 0] m) E)) E (.slice (some ⟨b, 0, none⟩) n m) (List.replicate n 0) := by
  have := omake1 (O := O) (h := h) (b := b) (E := E) (z := .int .u8 0) (n := n) (m := m) hnm ho
  simpa [bvs, bv, OwB] using this
/-- copy of one-cell elements. -/
theorem cpy1 {O : Nat → Prop} {h : H} {E : TypeId} {a : Option Addr} {n cap : Nat} {x : Value} {xs src : List Value} {V : Value → H → Prop} (hs : O1 O h E (.slice a n cap) xs) {S : Nat → Prop} (hx : S1 S h x src) (hcell : src.all isCell = true)
    (hk : ∀ h', O1 O h' E (.slice a n cap) (src.take n ++ xs.drop src.length) → Fr (fun y => O y ∧ isAt (.slice a n cap) y) h h' → V (.int .i64 (min src.length n : Nat)) h') : cpyM 1 a n x h V := by
  refine cpy_ow hs hx (by rw [flat_one]; exact hcell) ?_
  intro h' ho hf
  rw [one_len] at *
  refine hk h' ?_ hf
  have : one (src.take n ++ xs.drop src.length) = (one src).take n ++ (one xs).drop src.length := by simp [one, List.map_take, List.map_drop]
  rw [O1, this]; exact ho
/-- copy of bytes. -/
theorem cpyB {O : Nat → Prop} {h : H} {E : TypeId} {a : Option Addr} {n cap : Nat} {x : Value} {xs src : List UInt8} {V : Value → H → Prop} (hs : OwB O h E (.slice a n cap) xs) {S : Nat → Prop} (hx : By S h x src)
    (hk : ∀ h', OwB O h' E (.slice a n cap) (src.take n ++ xs.drop src.length) → Fr (fun y => O y ∧ isAt (.slice a n cap) y) h h' → V (.int .i64 (min src.length n : Nat)) h') : cpyM 1 a n x h V := by
  refine cpy1 hs hx (bvs_cells _) ?_
  intro h' ho hf
  rw [bvs_len] at *
  refine hk h' ?_ hf
  rw [OwB, bvs_append, bvs_take, bvs_drop]; exact ho
theorem toList_loop (bs : ByteArray) : ∀ (n i : Nat) (r : List UInt8), bs.size - i = n → ByteArray.toList.loop bs i r = r.reverse ++ bs.data.toList.drop i := by
  intro n
  induction n with
  | zero =>
    intro i r hn
    unfold ByteArray.toList.loop
    rw [if_neg (by omega), List.drop_eq_nil_of_le (by rw [Array.length_toList]; show bs.size ≤ i; omega), List.append_nil]
  | succ n ih =>
    intro i r hn
    have hi : i < bs.data.size := by show i < bs.size; omega
    unfold ByteArray.toList.loop
    rw [if_pos (by omega), ih (i + 1) _ (by omega), List.drop_eq_getElem_cons (i := i) (by rw [Array.length_toList]; exact hi)]
    have : bs.get! i = bs.data.toList[i]'(by rw [Array.length_toList]; exact hi) := by
      rw [Array.getElem_toList]
      show bs.data[i]! = _
      rw [getElem!_pos bs.data i hi]
    rw [this]; simp
theorem toList_mk (l : List UInt8) : (⟨l.toArray⟩ : ByteArray).toList = l := by
  unfold ByteArray.toList
  rw [toList_loop _ _ 0 [] rfl]; simp
theorem size_mk (l : List UInt8) : (⟨l.toArray⟩ : ByteArray).size = l.length := rfl
theorem mk_append (a b : List UInt8) : (⟨a.toArray⟩ : ByteArray) ++ ⟨b.toArray⟩ = ⟨(a ++ b).toArray⟩ := by
  apply ByteArray.ext; simp
theorem pushByte_bv (s : ByteArray) (b : UInt8) : pushByte s (bv b) = s.push b := by
  unfold pushByte bv
  simp
theorem ofCells_bvs (l : List UInt8) : ofCells (bvs l).toArray = ⟨l.toArray⟩ := by
  have : ∀ (l : List UInt8) (s : ByteArray), (bvs l).foldl pushByte s = ⟨s.data ++ l.toArray⟩ := by
    intro l
    induction l with
    | nil => intro s; simp [bvs]
    | cons b t ih =>
      intro s
      show (bvs t).foldl pushByte (pushByte s (bv b)) = _
      rw [ih, pushByte_bv]
      simp [ByteArray.push]
  unfold ofCells
  rw [this l]
  simp
theorem cvbs_of {S : Nat → Prop} {h : H} {v : Value} {l : List UInt8} {K : Value → H → Prop} (s : By S h v l) (hk : K (.string ⟨l.toArray⟩) h) : cvbsM (some v) h K := by
  have hb : (bvs l).all isByte = true := by
    rw [List.all_eq_true]; intro x hx
    obtain ⟨s, _, rfl⟩ := List.mem_map.1 hx; rfl
  obtain ⟨hr, ⟨a, rfl, h2⟩ | ⟨b, o, cp, c, E, fr, rfl, h2, h3, h4, h5, h6⟩⟩ := s
  · have hl : l = [] := by cases l <;> simp [one, bvs] at h2 ⊢
    subst hl
    cases a with
    | none => exact hk
    | some a => exact ⟨rfl, hk⟩
  · unfold cvbsM
    rw [flat_one] at h5
    rw [one_len, bvs_len] at *
    simp only []
    rw [cellsAt_of h2 (by omega)]
    have h7 := h5.ext (by rw [bvs_len]; omega)
    rw [bvs_len] at h7
    rw [h7]
    exact ⟨hb, by rw [ofCells_bvs]; exact hk⟩
theorem strCells_mk (l : List UInt8) (c : Nat) : strCells ⟨l.toArray⟩ c = (bvs l).toArray ++ Array.replicate (c - l.length) (Value.int .u8 0) := by
  unfold strCells
  congr 1
  simp [bvs, bv]
theorem cvsb_of {O : Nat → Prop} {h : H} {E : TypeId} (l : List UInt8) {K : Value → H → Prop} (hO : ∀ b, h b = none → O b) (hk : ∀ v h', OwB O h' E v l → Ext h h' → K v h') : cvsbM E (some (.string ⟨l.toArray⟩)) h K := by
  intro c hc b hb
  rw [size_mk] at hc
  refine hk _ _ ?_ (Ext.new hb _)
  refine OwK.lit (rect_one _) (by rw [one_len, bvs_len]; rfl) ?_ hc ?_ (hO b hb) (.inr (.inr (by simp)))
  · rw [strCells_mk]; simp [bvs]; omega
  · rw [strCells_mk, flat_one]; exact at_arr _ _
theorem bytes_of (s : ByteArray) : s = ⟨s.data.toList.toArray⟩ := by cases s; simp

/-! ### The same, told of what follows -/
section
variable {S O : Nat → Prop} {h : H} {E : TypeId} {v : Value} {K : Value → H → Prop} {kk : IntKind} {e : Int}
theorem S1.at {xs : List Value} (s : S1 S h v xs) (i : Nat) (he : e = i) (hi : i < xs.length) (hk : ∀ b o, cellAt h ⟨b, o, none⟩ = some xs[i] → K (.pointer (some ⟨b, o, none⟩)) h) : opt (idxV1 1 v (.int kk e)) h K := by
  subst he
  obtain ⟨b, o, h1, h2⟩ := s.load hi kk
  rw [h1]; exact hk b o h2
theorem By.at {l : List UInt8} (s : By S h v l) (i : Nat) (he : e = i) (hi : i < l.length) (hk : ∀ b o, cellAt h ⟨b, o, none⟩ = some (.int .u8 (l[i].toNat : Int)) → K (.pointer (some ⟨b, o, none⟩)) h) : opt (idxV1 1 v (.int kk e)) h K := by
  subst he
  obtain ⟨b, o, h1, h2⟩ := By.load s hi kk
  rw [h1]; exact hk b o h2
variable {a : Option Addr} {n c : Nat} {m3 : Bool} {lo hi mx : Int}
theorem S1.cutK {xs : List Value} (s : S1 S h (.slice a n c) xs) (l u m : Nat) (hl : lo = l) (hu : hi = u) (hm : mx = m) (h2 : l ≤ u ∧ u ≤ n ∧ u ≤ m ∧ m ≤ c) (h6 : m3 = true ∨ m = c) (hk : ∀ v, S1 S h v ((xs.drop l).take (u - l)) → K v h) : opt (slcV 1 a n c m3 lo hi mx) h K := by
  obtain ⟨v, h1, h2⟩ := s.cut hl hu hm h2.1 h2.2.1 h2.2.2.1 h2.2.2.2 h6
  rw [h1]; exact hk v h2
theorem By.cutK {xs : List UInt8} (s : By S h (.slice a n c) xs) (l u m : Nat) (hl : lo = l) (hu : hi = u) (hm : mx = m) (h2 : l ≤ u ∧ u ≤ n ∧ u ≤ m ∧ m ≤ c) (h6 : m3 = true ∨ m = c) (hk : ∀ v, By S h v ((xs.drop l).take (u - l)) → K v h) : opt (slcV 1 a n c m3 lo hi mx) h K := by
  obtain ⟨v, h1, h2⟩ := By.cut s hl hu hm h2.1 h2.2.1 h2.2.2.1 h2.2.2.2 h6
  rw [h1]; exact hk v h2
theorem OwB.cutK {xs : List UInt8} (s : OwB O h E (.slice a n c) xs) (l u m : Nat) (hl : lo = l) (hu : hi = u) (hm : mx = m) (h2 : l ≤ u ∧ u ≤ n ∧ u ≤ m ∧ m ≤ c) (h6 : m3 = true ∨ m = c) (hk : ∀ v, OwB O h E v ((xs.drop l).take (u - l)) → (∀ x, isAt v x → isAt (.slice a n c) x) → K v h) : opt (slcV 1 a n c m3 lo hi mx) h K := by
  obtain ⟨v, h1, h2, h3⟩ := OwB.cut s hl hu hm h2.1 h2.2.1 h2.2.2.1 h2.2.2.2 h6
  rw [h1]; exact hk v h2 h3
/-- One byte of an own slice is written. -/
theorem OwB.set {l : List UInt8} (s : OwB O h E v l) (i : Nat) (he : e = i) (hi : i < l.length) : ∃ b o, idxV1 1 v (.int kk e) = some (.pointer (some ⟨b, o, none⟩)) ∧ cellAt h ⟨b, o, none⟩ = some (.int .u8 (l[i].toNat : Int)) ∧ O b ∧ isAt v b ∧
    ∀ (x : UInt8) (n : Int) (Q : H → Prop), n = (x.toNat : Int) → (∀ h', OwB O h' E v (l.set i x) → Fr (fun y => y = b) h h' → Q h') → storeH h ⟨b, o, none⟩ [.int .u8 n] Q := by
  subst he
  obtain ⟨b, o, h1, h2, h3, h4⟩ := OwK.put s (i := i) (by rw [one_len, bvs_len]; exact hi) kk
  obtain ⟨b', o', g1, g2⟩ := By.load s.s0 hi kk
  rw [h1] at g1
  simp only [Option.some.injEq, Value.pointer.injEq, Addr.mk.injEq, and_true] at g1
  obtain ⟨rfl, rfl⟩ := g1
  refine ⟨b, o, h1, g2, h2, h3, ?_⟩
  rintro x n Q rfl hQ
  refine h4 0 [.int .u8 (x.toNat : Int)] Q (Nat.le_refl _) rfl ?_
  intro h' ho hf
  refine hQ h' ?_ hf
  have : (one (bvs l)).set i (((one (bvs l))[i]'(by rw [one_len, bvs_len]; exact hi)).take 0 ++ [.int .u8 (x.toNat : Int)] ++ ((one (bvs l))[i]'(by rw [one_len, bvs_len]; exact hi)).drop (0 + [Value.int .u8 (x.toNat : Int)].length)) = one (bvs (l.set i x)) := by
    simp [one, bvs, bv, List.map_set]
  rw [OwB, O1, ← this]; exact ho
end

/-! ### A slice and one more behind it -/
theorem SlK.pre {k : Nat} {S : Nat → Prop} {h : H} {a : Option Addr} {n c : Nat} {rows : List (List Value)} (s : SlK k S h (.slice a n c) rows) {m : Nat} (hm : m ≤ n) : SlK k S h (.slice a m c) (rows.take m) := by
  have hl := s.cap
  obtain ⟨hr, ⟨a', s1, rfl⟩ | ⟨b, o, cp, cc, E, fr, s1, s2, s3, s4, s5, s6⟩⟩ := s
  · simp only [Value.slice.injEq] at s1
    obtain ⟨rfl, rfl, rfl⟩ := s1
    obtain rfl : m = 0 := by omega
    exact ⟨fun r hr => by simp at hr, .inl ⟨_, rfl, by simp⟩⟩
  · simp only [Value.slice.injEq] at s1
    obtain ⟨rfl, _, rfl⟩ := s1
    refine ⟨hr.sub fun r hr => List.mem_of_mem_take hr, .inr ⟨b, o, c, cc, E, fr, ?_, s2, s3, ?_, ?_, s6⟩⟩
    · rw [List.length_take, Nat.min_eq_left (by omega)]
    · rw [List.length_take]; omega
    · rw [flat_take hr]
      have := s5.sub 0 (m * k)
      simpa using this
theorem OwK.pre {k : Nat} {O : Nat → Prop} {h : H} {E : TypeId} {a : Option Addr} {n c : Nat} {rows : List (List Value)} (s : OwK k O h E (.slice a n c) rows) {m : Nat} (hm : m ≤ n) (hn : n = rows.length) : OwK k O h E (.slice a m c) (rows.take m) := by
  obtain ⟨hr, ⟨s1, rfl⟩ | ⟨b, o, cp, cc, fr, s1, s2, s3, s4, s5, s6, s7⟩⟩ := s
  · simp only [Value.slice.injEq] at s1
    obtain ⟨rfl, rfl, rfl⟩ := s1
    obtain rfl : m = 0 := by omega
    exact ⟨fun r hr => by simp at hr, .inl ⟨rfl, by simp⟩⟩
  · simp only [Value.slice.injEq] at s1
    obtain ⟨rfl, _, rfl⟩ := s1
    refine ⟨hr.sub fun r hr => List.mem_of_mem_take hr, .inr ⟨b, o, c, cc, fr, ?_, s2, s3, ?_, ?_, s6, s7⟩⟩
    · rw [List.length_take, Nat.min_eq_left (by omega)]
    · rw [List.length_take]; omega
    · rw [flat_take hr]
      have := s5.sub 0 (m * k)
      simpa using this
/-- 's[:u]' -/
theorem slc_pre {h : H} {K : Value → H → Prop} {k : Nat} {a : Option Addr} {n c : Nat} {hi mx : Int} (u : Nat) (hu : hi = u) (hm : mx = c) (h1 : u ≤ c) (hk : K (.slice a u c) h) : opt (slcV k a n c false 0 hi mx) h K := by
  subst hu hm
  rw [slcV_eq, chk_pos ⟨by omega, by omega, by omega, by omega, .inr rfl⟩]
  have : (if (c : Int) = 0 then a else Option.map (fun x => x.add ((0 : Int).toNat * k)) a) = a := by
    split
    · rfl
    · cases a <;> simp [Addr.add]
  rw [this]
  rw [show (u : Int).toNat - (0 : Int).toNat = u by simp, show (c : Int).toNat - (0 : Int).toNat = c by simp]
  exact hk
theorem By.pre {S : Nat → Prop} {h : H} {a : Option Addr} {n c : Nat} {l : List UInt8} (s : By S h (.slice a n c) l) {m : Nat} (hm : m ≤ n) : By S h (.slice a m c) (l.take m) := by
  have := SlK.pre s hm
  rw [By, S1, bvs_take]
  simpa [one, List.map_take] using this
/-- Bytes, and one more behind them in the same memory. -/
def Lent (S : Nat → Prop) (h : H) (v : Value) (l : List UInt8) (x : UInt8) : Prop := ∃ a c, v = .slice a l.length c ∧ l.length + 1 ≤ c ∧ By S h (.slice a (l.length + 1) c) (l ++ [x])
theorem Lent.by {S : Nat → Prop} {h : H} {v : Value} {l : List UInt8} {x : UInt8} (s : Lent S h v l x) : By S h v l := by
  obtain ⟨a, c, rfl, h1, h2⟩ := s
  have := SlK.pre h2 (m := l.length) (by omega)
  have e : (one (bvs (l ++ [x]))).take l.length = one (bvs l) := by
    rw [bvs_append, one_append, List.take_append_of_le_length (by simp [one, bvs]), List.take_of_length_le (by simp [one, bvs])]
  rw [e] at this
  exact this
theorem Lent.fr {S T : Nat → Prop} {h h' : H} {v : Value} {l : List UInt8} {x : UInt8} (s : Lent S h v l x) (f : Fr T h h') (hs : ∀ y, T y → S y) : Lent S h' v l x := by
  obtain ⟨a, c, rfl, h1, h2⟩ := s
  exact ⟨a, c, rfl, h1, h2.fr f hs⟩
theorem Lent.ext {S : Nat → Prop} {h h' : H} {v : Value} {l : List UInt8} {x : UInt8} (s : Lent S h v l x) (e : Ext h h') : Lent S h' v l x := s.fr e fun _ h => h.elim
theorem Lent.mono {S T : Nat → Prop} {h : H} {v : Value} {l : List UInt8} {x : UInt8} (s : Lent S h v l x) (hs : ∀ x o, h x = some o → T x → S x) : Lent T h v l x := by
  obtain ⟨a, c, rfl, h1, h2⟩ := s
  exact ⟨a, c, rfl, h1, h2.mono hs⟩
/-- The same, in memory of the call's own. -/
def LentO (O : Nat → Prop) (h : H) (E : TypeId) (v : Value) (l : List UInt8) (x : UInt8) : Prop := ∃ a c, v = .slice a l.length c ∧ l.length + 1 ≤ c ∧ OwB O h E (.slice a (l.length + 1) c) (l ++ [x])
theorem LentO.lent {O S : Nat → Prop} {h : H} {E : TypeId} {v : Value} {l : List UInt8} {x : UInt8} (s : LentO O h E v l x) (hs : ∀ x, O x → ¬ S x) : Lent S h v l x := by
  obtain ⟨a, c, rfl, h1, h2⟩ := s
  exact ⟨a, c, rfl, h1, h2.sl hs⟩
theorem LentO.ow {O : Nat → Prop} {h : H} {E : TypeId} {v : Value} {l : List UInt8} {x : UInt8} (s : LentO O h E v l x) : OwB O h E v l := by
  obtain ⟨a, c, rfl, h1, h2⟩ := s
  have := OwK.pre h2 (m := l.length) (by omega) (by simp [one, bvs])
  have e : (one (bvs (l ++ [x]))).take l.length = one (bvs l) := by
    rw [bvs_append, one_append, List.take_append_of_le_length (by simp [one, bvs]), List.take_of_length_le (by simp [one, bvs])]
  rw [e] at this
  exact this

/-! ### Data by the shape of their type -/
inductive Ty where
  | int (k : IntKind)
  | byte
  | bool
  | str
  | flt
  | sl (t : Ty)
  | pair (a b : Ty)
@[reducible] def Ty.D : Ty → Type
  | .int _ => Int
  | .byte => UInt8
  | .bool => Bool
  | .str => List UInt8
  | .flt => Nat
  | .sl t => List t.D
  | .pair a b => a.D × b.D
def Ty.sz : Ty → Nat
  | .pair a b => a.sz + b.sz
  | _ => 1
def Rep : (S : Nat → Prop) → (t : Ty) → H → List Value → t.D → Prop
  | _, .int k, _, cs, n => cs = [.int k n] ∧ k.min ≤ n ∧ n ≤ k.max
  | _, .byte, _, cs, b => cs = [bv b]
  | _, .bool, _, cs, b => cs = [.bool b]
  | _, .str, _, cs, s => cs = [.string ⟨s.toArray⟩] ∧ s.length ≤ 9223372036854775807
  | _, .flt, _, cs, f => cs = [.float .f64 f] ∧ f < 2 ^ 64
  | S, .sl t, h, cs, xs => ∃ v rows, cs = [v] ∧ SlK t.sz S h v rows ∧ rows.length = xs.length ∧ ∀ (i : Nat) r x, rows[i]? = some r → xs[i]? = some x → Rep S t h r x
  | S, .pair a b, h, cs, x => ∃ c d, cs = c ++ d ∧ Rep S a h c x.1 ∧ Rep S b h d x.2
theorem Rep.fr {t : Ty} {S T : Nat → Prop} : ∀ {h h' : H} {cs : List Value} {x : t.D}, Rep S t h cs x → Fr T h h' → (∀ x, T x → S x) → Rep S t h' cs x := by
  induction t with
  | int k => intro h h' cs x r e hs; exact r
  | byte => intro h h' cs x r e hs; exact r
  | bool => intro h h' cs x r e hs; exact r
  | str => intro h h' cs x r e hs; exact r
  | flt => intro h h' cs x r e hs; exact r
  | sl t ih =>
    intro h h' cs x r e hs
    obtain ⟨v, rows, h1, h2, h3, h4⟩ := r
    exact ⟨v, rows, h1, h2.fr e hs, h3, fun i r x hr hx => ih (h4 i r x hr hx) e hs⟩
  | pair a b iha ihb =>
    intro h h' cs x r e hs
    obtain ⟨c, d, h1, h2, h3⟩ := r
    exact ⟨c, d, h1, iha h2 e hs, ihb h3 e hs⟩
theorem Rep.ext {t : Ty} {S : Nat → Prop} {h h' : H} {cs : List Value} {x : t.D} (r : Rep S t h cs x) (e : Ext h h') : Rep S t h' cs x := r.fr e fun _ h => h.elim
theorem Rep.mono {t : Ty} {S T : Nat → Prop} : ∀ {h : H} {cs : List Value} {x : t.D}, Rep S t h cs x → (∀ x o, h x = some o → T x → S x) → Rep T t h cs x := by
  induction t with
  | int k => intro h cs x r hs; exact r
  | byte => intro h cs x r hs; exact r
  | bool => intro h cs x r hs; exact r
  | str => intro h cs x r hs; exact r
  | flt => intro h cs x r hs; exact r
  | sl t ih =>
    intro h cs x r hs
    obtain ⟨v, rows, h1, h2, h3, h4⟩ := r
    exact ⟨v, rows, h1, h2.mono hs, h3, fun i r x hr hx => ih (h4 i r x hr hx) hs⟩
  | pair a b iha ihb =>
    intro h cs x r hs
    obtain ⟨c, d, h1, h2, h3⟩ := r
    exact ⟨c, d, h1, iha h2 hs, ihb h3 hs⟩
theorem Rep.old {t : Ty} {S T : Nat → Prop} : ∀ {h : H} {cs : List Value} {x : t.D}, Rep S t h cs x → (∀ x, T x → h x = none) → Rep T t h cs x := by
  induction t with
  | int k => intro h cs x r hs; exact r
  | byte => intro h cs x r hs; exact r
  | bool => intro h cs x r hs; exact r
  | str => intro h cs x r hs; exact r
  | flt => intro h cs x r hs; exact r
  | sl t ih =>
    intro h cs x r hs
    obtain ⟨v, rows, h1, h2, h3, h4⟩ := r
    exact ⟨v, rows, h1, h2.old hs, h3, fun i r x hr hx => ih (h4 i r x hr hx) hs⟩
  | pair a b iha ihb =>
    intro h cs x r hs
    obtain ⟨c, d, h1, h2, h3⟩ := r
    exact ⟨c, d, h1, iha h2 hs, ihb h3 hs⟩
theorem Rep.len {t : Ty} {S : Nat → Prop} : ∀ {h : H} {cs : List Value} {x : t.D}, Rep S t h cs x → cs.length = t.sz := by
  induction t with
  | int k => intro h cs x r; rw [r.1]; rfl
  | byte => intro h cs x r; rw [show cs = _ from r]; rfl
  | bool => intro h cs x r; rw [show cs = _ from r]; rfl
  | str => intro h cs x r; rw [r.1]; rfl
  | flt => intro h cs x r; rw [r.1]; rfl
  | sl t ih => intro h cs x r; obtain ⟨v, rows, h1, _⟩ := r; rw [h1]; rfl
  | pair a b iha ihb =>
    intro h cs x r
    obtain ⟨c, d, h1, h2, h3⟩ := r
    rw [h1, List.length_append, iha h2, ihb h3]; rfl
theorem Rep.cells {t : Ty} {S : Nat → Prop} : ∀ {h : H} {cs : List Value} {x : t.D}, Rep S t h cs x → cs.all isCell = true := by
  induction t with
  | int k => intro h cs x r; rw [r.1]; rfl
  | byte => intro h cs x r; rw [show cs = _ from r]; rfl
  | bool => intro h cs x r; rw [show cs = _ from r]; rfl
  | str => intro h cs x r; rw [r.1]; rfl
  | flt => intro h cs x r; rw [r.1]; rfl
  | sl t ih =>
    intro h cs x r
    obtain ⟨v, rows, h1, h2, _⟩ := r
    obtain ⟨a, c, rfl⟩ := h2.len
    rw [h1]; rfl
  | pair a b iha ihb =>
    intro h cs x r
    obtain ⟨c, d, h1, h2, h3⟩ := r
    rw [h1, List.all_append, iha h2, ihb h3]; rfl

/-! Lists of data. -/
/-- A slice of data; all blocks none of S. -/
abbrev RepL (S : Nat → Prop) (t : Ty) (h : H) (v : Value) (xs : List t.D) : Prop := Rep S (.sl t) h [v] xs
theorem repL_iff {S : Nat → Prop} {t : Ty} {h : H} {v : Value} {xs : List t.D} : RepL S t h v xs ↔ ∃ rows, SlK t.sz S h v rows ∧ rows.length = xs.length ∧ ∀ (i : Nat) r x, rows[i]? = some r → xs[i]? = some x → Rep S t h r x := by
  constructor
  · rintro ⟨w, rows, h1, h2⟩
    simp only [List.cons.injEq, and_true] at h1
    subst h1
    exact ⟨rows, h2⟩
  · rintro ⟨rows, h2⟩
    exact ⟨v, rows, rfl, h2⟩
theorem repB {S : Nat → Prop} {h : H} {v : Value} {l : List UInt8} : RepL S .byte h v l ↔ By S h v l := by
  rw [repL_iff]
  constructor
  · rintro ⟨rows, h1, h2, h3⟩
    have : rows = one (bvs l) := by
      apply List.ext_getElem?
      intro i
      by_cases hi : i < rows.length
      · have hil : i < l.length := by rw [← h2]; exact hi
        have := h3 i rows[i] l[i] (by simp [hi]) (by simp [hil])
        have h4 : rows[i] = [bv l[i]] := this
        simp [hi, h4, one, bvs, hil]
      · have hil : ¬ i < l.length := by rw [← h2]; exact hi
        simp [one, bvs]
        rw [List.getElem?_eq_none (by omega), List.getElem?_eq_none (by omega)]; rfl
    rw [this] at h1
    exact h1
  · intro h1
    refine ⟨_, h1, by simp [one, bvs], ?_⟩
    intro i r x hr hx
    simp only [one, bvs, List.map_map, List.getElem?_map, hx, Option.map_some, Option.some.injEq] at hr
    exact hr.symm
theorem RepL.len {S : Nat → Prop} {t : Ty} {h : H} {v : Value} {xs : List t.D} (r : RepL S t h v xs) : ∃ a c, v = .slice a xs.length c := by
  obtain ⟨rows, h1, h2, _⟩ := repL_iff.1 r
  obtain ⟨a, c, h3⟩ := h1.len
  exact ⟨a, c, by rw [h3, h2]⟩
theorem RepL.nil {S : Nat → Prop} {t : Ty} {h : H} : RepL S t h (.slice none 0 0) [] :=
  repL_iff.2 ⟨[], ⟨fun r hr => by simp at hr, .inl ⟨_, rfl, rfl⟩⟩, rfl, fun i r x hr => by simp at hr⟩
theorem RepL.load {S : Nat → Prop} {t : Ty} {h : H} {v : Value} {xs : List t.D} (r : RepL S t h v xs) {i : Nat} (hi : i < xs.length) (kk : IntKind) (k : Nat) (hk : t.sz = k) :
    ∃ b o cs, idxV1 k v (.int kk (i : Int)) = some (.pointer (some ⟨b, o, none⟩)) ∧ cellsAt h ⟨b, o, none⟩ k = some cs.toArray ∧ (∀ j (hj : j < k), cellAt h ⟨b, o + j, none⟩ = cs[j]?) ∧ Rep S t h cs xs[i] := by
  subst hk
  obtain ⟨rows, h1, h2, h3⟩ := repL_iff.1 r
  obtain ⟨b, o, g1, g2, g3, g4⟩ := h1.row (i := i) (by omega) kk
  exact ⟨b, o, _, g1, g4, g3, h3 i _ _ (by simp) (by simp [hi])⟩
/-- An element of one cell. -/
theorem RepL.load1 {S : Nat → Prop} {t : Ty} {h : H} {v : Value} {xs : List t.D} (r : RepL S t h v xs) {i : Nat} (hi : i < xs.length) (kk : IntKind) (hk : t.sz = 1) :
    ∃ b o w, idxV1 1 v (.int kk (i : Int)) = some (.pointer (some ⟨b, o, none⟩)) ∧ cellAt h ⟨b, o, none⟩ = some w ∧ Rep S t h [w] xs[i] := by
  obtain ⟨b, o, cs, h1, h2, h3, h4⟩ := r.load hi kk 1 hk
  have hl := h4.len
  rw [hk] at hl
  match cs, hl with
  | [w], _ => exact ⟨b, o, w, h1, by simpa using h3 0 (by omega), h4⟩
theorem RepL.cut {S : Nat → Prop} {t : Ty} {h : H} {a : Option Addr} {n c : Nat} {xs : List t.D} (r : RepL S t h (.slice a n c) xs) (k : Nat) (hk : t.sz = k) {m3 : Bool} {lo hi mx : Int} {l u m : Nat} (hl : lo = l) (hu : hi = u) (hm : mx = m) (h2 : l ≤ u) (h3 : u ≤ n) (h4 : u ≤ m) (h5 : m ≤ c) (h6 : m3 = true ∨ m = c) :
    ∃ v, slcV k a n c m3 lo hi mx = some v ∧ RepL S t h v ((xs.drop l).take (u - l)) := by
  subst hk
  obtain ⟨rows, g1, g2, g3⟩ := repL_iff.1 r
  obtain ⟨v, s1, s2⟩ := g1.cut hl hu hm h2 h3 h4 h5 h6
  refine ⟨v, s1, repL_iff.2 ⟨_, s2, by simp [g2], ?_⟩⟩
  intro i r x hr hx
  rw [List.getElem?_take] at hr hx
  split at hr
  · rw [if_pos ‹_›] at hx
    rw [List.getElem?_drop] at hr hx
    exact g3 _ r x hr hx
  · cases hr
theorem RepL.at {S : Nat → Prop} {t : Ty} {h : H} {v : Value} {K : Value → H → Prop} {kk : IntKind} {e : Int} {xs : List t.D} {k : Nat} (r : RepL S t h v xs) (hk : t.sz = k) (i : Nat) (he : e = i) (hi : i < xs.length) (hK : ∀ b o cs, cellsAt h ⟨b, o, none⟩ k = some cs.toArray → (∀ j (hj : j < k), cellAt h ⟨b, o + j, none⟩ = cs[j]?) → Rep S t h cs xs[i] → K (.pointer (some ⟨b, o, none⟩)) h) : opt (idxV1 k v (.int kk e)) h K := by
  subst he
  obtain ⟨b, o, cs, h1, h2, h3, h4⟩ := r.load hi kk k hk
  rw [h1]; exact hK b o cs h2 h3 h4
theorem RepL.at1 {S : Nat → Prop} {t : Ty} {h : H} {v : Value} {K : Value → H → Prop} {kk : IntKind} {e : Int} {xs : List t.D} (r : RepL S t h v xs) (hk : t.sz = 1) (i : Nat) (he : e = i) (hi : i < xs.length) (hK : ∀ b o w, cellAt h ⟨b, o, none⟩ = some w → Rep S t h [w] xs[i] → K (.pointer (some ⟨b, o, none⟩)) h) : opt (idxV1 1 v (.int kk e)) h K := by
  subst he
  obtain ⟨b, o, w, h1, h2, h3⟩ := r.load1 hi kk hk
  rw [h1]; exact hK b o w h2 h3
theorem RepL.cutK {S : Nat → Prop} {t : Ty} {h : H} {K : Value → H → Prop} {a : Option Addr} {n c k : Nat} {m3 : Bool} {lo hi mx : Int} {xs : List t.D} (r : RepL S t h (.slice a n c) xs) (hk : t.sz = k) (l u m : Nat) (hl : lo = l) (hu : hi = u) (hm : mx = m) (h2 : l ≤ u ∧ u ≤ n ∧ u ≤ m ∧ m ≤ c) (h6 : m3 = true ∨ m = c) (hK : ∀ v, RepL S t h v ((xs.drop l).take (u - l)) → K v h) : opt (slcV k a n c m3 lo hi mx) h K := by
  obtain ⟨v, h1, h2⟩ := r.cut k hk hl hu hm h2.1 h2.2.1 h2.2.2.1 h2.2.2.2 h6
  rw [h1]; exact hK v h2
/-- A list of data in a block of the call's own; its data elsewhere, and not in S. -/
def OwL (S : Nat → Prop) (t : Ty) (O : Nat → Prop) (h : H) (E : TypeId) (v : Value) (xs : List t.D) : Prop :=
  ∃ rows, OwK t.sz O h E v rows ∧ rows.length = xs.length ∧ ∀ (i : Nat) r x, rows[i]? = some r → xs[i]? = some x → Rep (fun y => isAt v y ∨ S y) t h r x
section
variable {S : Nat → Prop} {t : Ty} {O O' : Nat → Prop} {h h' : H} {E : TypeId} {v : Value} {xs : List t.D}
theorem OwL.nil : OwL S t O h E (.slice none 0 0) [] := ⟨[], OwK.nil, rfl, fun i r x hr => by simp at hr⟩
theorem OwL.len (s : OwL S t O h E v xs) : ∃ a c, v = .slice a xs.length c := by
  obtain ⟨rows, h1, h2, _⟩ := s
  obtain ⟨a, c, h3⟩ := h1.s0.len
  exact ⟨a, c, by rw [h3, h2]⟩
theorem OwL.rep (s : OwL S t O h E v xs) : RepL nos t h v xs := by
  obtain ⟨rows, h1, h2, h3⟩ := s
  exact repL_iff.2 ⟨rows, h1.s0, h2, fun i r x hr hx => (h3 i r x hr hx).mono fun _ _ _ h => h.elim⟩
theorem OwL.repS (s : OwL S t O h E v xs) (hO : ∀ x, O x → ¬ S x) : RepL S t h v xs := by
  obtain ⟨rows, h1, h2, h3⟩ := s
  exact repL_iff.2 ⟨rows, h1.sl hO, h2, fun i r x hr hx => (h3 i r x hr hx).mono fun _ _ _ h => .inr h⟩
theorem OwL.fr {T : Nat → Prop} (s : OwL S t O h E v xs) (f : Fr T h h') (h1 : ∀ x, T x → S x) (h2 : ∀ x, T x → O x → ¬ isAt v x) : OwL S t O h' E v xs := by
  obtain ⟨rows, g1, g2, g3⟩ := s
  exact ⟨rows, g1.fr f h2, g2, fun i r x hr hx => (g3 i r x hr hx).fr f fun y hy => .inr (h1 y hy)⟩
theorem OwL.ext (s : OwL S t O h E v xs) (e : Ext h h') : OwL S t O h' E v xs := s.fr e (fun _ h => h.elim) fun _ h => h.elim
theorem OwL.mono (s : OwL S t O h E v xs) (hs : ∀ x o, h x = some o → O x → O' x) : OwL S t O' h E v xs := by
  obtain ⟨rows, h1, h2, h3⟩ := s
  exact ⟨rows, h1.mono hs, h2, h3⟩
theorem OwL.mono0 (s : OwL S t O h E v xs) : OwL nos t O h E v xs := by
  obtain ⟨rows, h1, h2, h3⟩ := s
  exact ⟨rows, h1, h2, fun i r x hr hx => (h3 i r x hr hx).mono fun _ _ _ h => h.elim .inl fun h => h.elim⟩
/-- append of one datum, given as its cells. -/
theorem OwL.push {bytes : Nat} {z : Array Value} {row : List Value} {x : t.D} {V : Nat → Value → H → Prop} (k : Nat) (hk : t.sz = k) (hs : OwL S t O h E v xs) (hO : ∀ b, h b = none → O b) (hx : Rep (fun y => isAt v y ∨ S y) t h row x) (hz : z.size = k)
    (hlen : 2 * ((xs.length + 1) * bytes) ≤ 281474976710656) (hlen' : xs.length + 1 ≤ 9223372036854775807)
    (hV : ∀ (b : Nat) s' h', h b = none → OwL S t O h' E s' (xs ++ [x]) → Fr (fun y => O y ∧ isAt v y) h h' → V b s' h') :
    ∀ b, h b = none → appM E k bytes z v (.slice (some ⟨b, 0, none⟩) 1 1) (hupd h b (.cells row.toArray E)) (V b) := by
  subst hk
  obtain ⟨rows, h1, h2, h3⟩ := hs
  refine pushk h1 hO hx.len hz hx.cells (by rw [h2]; exact hlen) (by rw [h2]; exact hlen') ?_
  intro c s' h' hc ho hf hat
  have hrep : ∀ r y, Rep (fun y => isAt v y ∨ S y) t h r y → Rep (fun y => isAt s' y ∨ S y) t h' r y := by
    intro r y hr
    have h4 : Rep (fun z => isAt v z ∨ h z = none ∨ S z) t h r y := by
      refine (hr.mono (T := fun z => isAt v z ∨ h z = none ∨ S z) ?_)
      rintro z o hz (h1 | h1 | h1)
      · exact .inl h1
      · rw [h1] at hz; cases hz
      · exact .inr h1
    have h5 : Rep (fun z => isAt v z ∨ h z = none ∨ S z) t h' r y := h4.fr hf fun z hz => .inl hz.2
    exact h5.mono fun z o _ hz => hz.elim (fun h1 => (hat z h1).elim .inl fun h2 => .inr (.inl h2)) fun h1 => .inr (.inr h1)
  refine hV c s' h' hc ⟨_, ho, by simp [h2], ?_⟩ hf
  intro i r y hr hy
  by_cases hi : i < rows.length
  · rw [List.getElem?_append_left hi] at hr
    rw [List.getElem?_append_left (by omega)] at hy
    exact hrep _ _ (h3 i r y hr hy)
  · rw [List.getElem?_append_right (by omega)] at hr
    rw [List.getElem?_append_right (by omega)] at hy
    rw [h2] at hr
    generalize i - xs.length = j at hr hy
    cases j with
    | zero =>
      simp only [List.getElem?_cons_zero, Option.some.injEq] at hr hy
      subst hr hy
      exact hrep _ _ hx
    | succ j => simp at hr
end
/-- A struct, all of it. -/
theorem cellsAt_all {h : H} {b : Nat} {l : List Value} {E : TypeId} {fr : Nat × Nat} (hb : h b = some (.cells ⟨l⟩ E fr)) (n : Nat) (hn : l.length = n) : cellsAt h ⟨b, 0, none⟩ n = some ⟨l⟩ := by
  subst hn
  rw [cellsAt_of hb (by simp)]
  simp
theorem storeH_all {h : H} {b : Nat} {c : Array Value} {E : TypeId} {vs : List Value} {K : H → Prop} (hb : h b = some (.cells c E (0, 0))) (hl : vs.length = c.size) (hc : vs.all isCell = true) (hK : K (hupd h b (.cells vs.toArray E))) : storeH h ⟨b, 0, none⟩ vs K := by
  refine storeH_in hb (.inl (Nat.zero_le _)) (by omega) hc ?_
  have : splice c 0 vs = vs.toArray := by
    have h1 := at_splice (c := c) (p := 0) (new := vs) (by omega)
    apply Array.ext'
    apply List.ext_getElem?
    intro i
    rw [Array.getElem?_toList]
    by_cases hi : i < vs.length
    · have := h1 i hi
      rw [Nat.zero_add] at this
      rw [this]; simp [hi]
    · rw [Array.getElem?_eq_none (by rw [size_splice]; omega)]
      simp; omega
  rw [this]; exact hK
/-- What is fresh is not at what was there. -/
theorem OwK.apart {k : Nat} {h0 h : H} {E : TypeId} {v w : Value} {rows : List (List Value)} (s : OwK k (fun y => h0 y = none) h E v rows) (hw : ∀ y, isAt w y → h0 y ≠ none) : SlK k (isAt w) h v rows := s.sl fun x hx hy => hw x hy hx
theorem OwK.there {k : Nat} {O : Nat → Prop} {h : H} {E : TypeId} {v : Value} {rows : List (List Value)} (s : OwK k O h E v rows) {y : Nat} (hy : isAt v y) : h y ≠ none := by
  obtain ⟨_, ⟨rfl, _⟩ | ⟨b, o, cp, c, fr, rfl, h2, _⟩⟩ := s
  · obtain ⟨_, _, _, he⟩ := hy; simp at he
  · obtain ⟨_, _, _, he⟩ := hy
    simp only [Value.slice.injEq, Option.some.injEq, Addr.mk.injEq] at he
    obtain ⟨⟨rfl, _⟩, _⟩ := he
    rw [h2]; simp
theorem OwL.there {S : Nat → Prop} {t : Ty} {O : Nat → Prop} {h : H} {E : TypeId} {v : Value} {xs : List t.D} (s : OwL S t O h E v xs) {y : Nat} (hy : isAt v y) : h y ≠ none := by
  obtain ⟨rows, h1, _⟩ := s; exact h1.there hy

/-! ### Arguments opened -/
mutual
def tyB (P : Program) : Nat → TypeId → Ty → Bool
  | 0, _, _ => false
  | n + 1, t, ty => (P.cellsOf t == ty.sz) && (match P.underlying t, ty with
    | some (.int .u8), .byte => true
    | some (.int k), .int k' => decide (k = k')
    | some .bool, .bool => true
    | some .string, .str => true
    | some (.float .f64), .flt => true
    | some (.slice e), .sl ty => tyB P n e ty
    | some (.struct fs), ty => tyBs P n 0 fs.toList ty
    | _, _ => false)
def tyBs (P : Program) : Nat → Nat → List Field → Ty → Bool
  | 0, _, _, _ => false
  | n + 1, o, [f], ty => (f.offset == o) && (P.cellsOf f.type == ty.sz) && tyB P n f.type ty
  | n + 1, o, f :: r, .pair a b => (f.offset == o) && (P.cellsOf f.type == a.sz) && tyB P n f.type a && tyBs P n (o + a.sz) r b
  | _, _, _, _ => false
end
section
variable {H' : Type} {enc : TypeId × Value → H'} {P : Program} {W : World}
theorem add_add' (a : Addr) (m n : Nat) : (a.add m).add n = a.add (m + n) := by
  unfold Addr.add
  by_cases h : m = 0 <;> by_cases h' : n = 0 <;> simp [h, h', Nat.add_assoc]
theorem cellsOk {a : Addr} {n : Nat} {cs : List Value} (h : W.cells? 0 a n = some cs) : cs.length = n ∧ ∀ i (hi : i < cs.length), cellAt (hp W) (a.add i) = some cs[i] := by
  obtain ⟨_, h1, h2⟩ := World.cells?_some h
  exact ⟨h1, fun i hi => (cellAt_hp W (a.add i)).trans ((h2 i (by omega)).trans (by simp [hi]))⟩
/-- Rows that read one by one are a slice. -/
theorem slk_of {k : Nat} {a : Addr} {len cap : Nat} {rows : List (List Value)} (hk : 0 < k) (hl : len ≤ cap) (hx : rows.length = cap) (hr : Rect k rows) (hc : ∀ i (hi : i < rows.length) j (hj : j < (rows[i]).length), cellAt (hp W) (a.add (i * k + j)) = some (rows[i])[j]) :
    SlK k nos (hp W) (.slice (some a) len cap) (rows.take len) := by
  have hrt : Rect k (rows.take len) := hr.sub fun r hr => List.mem_of_mem_take hr
  have hlt : (rows.take len).length = len := by simp; omega
  by_cases h0 : cap = 0
  · subst h0
    obtain rfl : len = 0 := by omega
    exact ⟨hrt, .inl ⟨some a, rfl, by simp⟩⟩
  · have hfl := hr.flat
    have key : ∀ m (hm : m < (flat rows).length), cellAt (hp W) (a.add m) = some (flat rows)[m] := by
      intro m hm
      have hmk : m < rows.length * k := by omega
      have hi : m / k < rows.length := Nat.div_lt_of_lt_mul (by rw [Nat.mul_comm]; exact hmk)
      have hkr : (rows[m / k]).length = k := hr _ (List.getElem_mem hi)
      have hj : m % k < (rows[m / k]).length := by rw [hkr]; exact Nat.mod_lt _ hk
      have hjk : m % k < k := Nat.mod_lt _ hk
      have hm' : m / k * k + m % k = m := by rw [Nat.mul_comm]; exact Nat.div_add_mod m k
      have h1 := hc (m / k) hi (m % k) hj
      rw [hm'] at h1
      rw [h1]
      have h2 := flat_row hr hi
      have h3 : (rows[m / k])[m % k]? = (flat rows)[m]? := by
        rw [← h2, List.getElem?_take_of_lt hjk, List.getElem?_drop, hm']
      rw [List.getElem?_eq_getElem hj, List.getElem?_eq_getElem hm] at h3
      exact h3
    have hpos : 0 < (flat rows).length := by rw [hfl, hx]; exact Nat.mul_pos (by omega) hk
    have k0 := key 0 hpos
    rw [add_zero, cellAt_hp] at k0
    unfold World.cell? at k0
    split at k0
    · rename_i c E fr hb
      split at k0
      · cases k0
      · rename_i hs
        have hs' : a.spot = none := by simpa using hs
        obtain ⟨b, o, sp⟩ := a
        simp only at hs' hb
        subst hs'
        replace hb := hp_cells hb
        have each : At' c o (flat rows) := by
          intro i hi
          have := key i hi
          rw [add_mk, cellAt_of hb] at this
          exact this
        have hle := each.le (List.length_pos_iff.1 hpos)
        refine ⟨hrt, .inr ⟨b, o, cap, c, E, _, by rw [hlt], hb, by rw [hfl, hx] at hle; exact hle, by omega, ?_, id⟩⟩
        rw [flat_take hr]
        have := each.sub 0 (len * k)
        simpa using this
    · cases k0
theorem Ty.sz_pos : ∀ t : Ty, 0 < t.sz
  | .int _ | .byte | .bool | .str | .flt | .sl _ => Nat.one_pos
  | .pair a b => Nat.lt_of_lt_of_le a.sz_pos (Nat.le_add_right _ _)
theorem rep_cells {t : TypeId} {ty : Ty} {n : Nat} (h : tyB P n t ty = true) : P.cellsOf t = ty.sz := by
  cases n with
  | zero => simp [tyB] at h
  | succ n => simp only [tyB, Bool.and_eq_true, beq_iff_eq] at h; exact h.1
theorem min_u8 : IntKind.u8.min = 0 := rfl
theorem max_u8 : IntKind.u8.max = 255 := rfl
theorem trod_f64 {w : World} {base : Nat} {spare : Nat → Bool} {held : Bool} {fuel : Nat} {t : TypeId} {cs : List Value} {x : DataW H' × List MemPlace} (ht : P.underlying t = some (.float .f64)) (h : DataW.trod enc P w base spare held fuel t cs = some x) : ∃ b, cs = [.float .f64 b] ∧ b < 2 ^ 64 := by
  cases fuel with
  | zero => simp [DataW.trod] at h
  | succ m =>
    unfold DataW.trod at h
    rw [ht] at h
    split at h <;> simp_all
    obtain ⟨⟨hk, hw⟩, _⟩ := h
    rename_i k k' b heq _
    subst heq
    exact of_decide_eq_true hw
theorem rep_all : ∀ n : Nat,
    (∀ (t : TypeId) (ty : Ty), tyB P n t ty = true → ∀ (fuel : Nat) (cs : List Value) (x : DataW H' × List MemPlace), DataW.trod enc P W 0 (fun _ => true) true fuel t cs = some x → ∃ d : ty.D, Rep nos ty (hp W) cs d) ∧
    (∀ (o : Nat) (fs : List Field) (ty : Ty), tyBs P n o fs ty = true → ∀ (fuel : Nat) (cs : List Value), (∀ f ∈ fs, ∃ y, DataW.trod enc P W 0 (fun _ => true) true fuel f.type ((cs.drop f.offset).take (P.cellsOf f.type)) = some y) → ∃ d : ty.D, Rep nos ty (hp W) ((cs.drop o).take ty.sz) d) := by
  intro n
  induction n with
  | zero => exact ⟨fun t ty h => by simp [tyB] at h, fun o fs ty h => by simp [tyBs] at h⟩
  | succ n ih =>
    obtain ⟨ih1, ih2⟩ := ih
    refine ⟨?_, ?_⟩
    · intro t ty h fuel cs x hx
      have hcell := rep_cells h
      simp only [tyB, Bool.and_eq_true] at h
      obtain ⟨-, h⟩ := h
      split at h
      · rename_i hu
        obtain ⟨m, rfl, _, hw⟩ := DataW.trod_int hu hx
        have hw' : (decide ((0 : Int) ≤ m) && decide (m ≤ 255)) = true := hw
        simp only [Bool.and_eq_true, decide_eq_true_eq] at hw'
        refine ⟨UInt8.ofNat m.toNat, ?_⟩
        show [_] = [_]
        congr 1
        simp only [bv, Value.int.injEq, true_and, UInt8.toNat_ofNat']
        omega
      · rename_i hu
        obtain ⟨m, rfl, _, hw⟩ := DataW.trod_int hu hx
        have h := of_decide_eq_true h
        subst h
        simp only [Lit.wf, Bool.and_eq_true, decide_eq_true_eq] at hw
        exact ⟨m, rfl, hw.1, hw.2⟩
      · rename_i hu
        obtain ⟨b, rfl, _⟩ := DataW.trod_bool hu hx
        exact ⟨b, rfl⟩
      · rename_i hu
        obtain ⟨s, rfl, _, hs⟩ := DataW.trod_string hu hx
        refine ⟨s.data.toList, ?_, ?_⟩
        · rw [← bytes_of]
        · rw [Array.length_toList]; exact hs
      · rename_i hu
        obtain ⟨b, rfl, hw⟩ := trod_f64 hu hx
        exact ⟨b, rfl, hw⟩
      · rename_i e ty' hu
        rcases DataW.trod_slice hu hx with ⟨rfl, _⟩ | ⟨a, len, cap, elems, rest, m, _, rfl, _, hb, hl, hm, hlen, hel, hsp, _⟩
        · exact ⟨[], .slice none 0 0, [], rfl, ⟨fun r hr => by simp at hr, .inl ⟨_, rfl, rfl⟩⟩, rfl, fun i r x hr => by simp at hr⟩
        · have hce := rep_cells h
          obtain ⟨hrl, hr⟩ := hsp rfl
          have each : ∀ i, i < cap → ∃ row, W.cells? 0 (a.add (i * ty'.sz)) ty'.sz = some row ∧ ∃ d, Rep nos ty' (hp W) row d := by
            intro i hi
            have hb' : ∃ y, (W.cells? 0 (a.add (i * P.cellsOf e)) (P.cellsOf e)).bind (DataW.trod enc P W 0 (fun _ => true) true m e) = some y := by
              by_cases hil : i < len
              · exact ⟨elems[i], by rw [hel i hil]; simp [hlen, hil]⟩
              · refine ⟨rest[i - len]'(by omega), ?_⟩
                have := hr (i - len) (by omega)
                rw [show len + (i - len) = i by omega] at this
                rw [this]; simp
            obtain ⟨y, hy⟩ := hb'
            rw [Option.bind_eq_some_iff, hce] at hy
            obtain ⟨row, h1, h2⟩ := hy
            exact ⟨row, h1, ih1 e ty' h m row y h2⟩
          have hrow : ∀ i, ∃ row : List Value, i < cap → W.cells? 0 (a.add (i * ty'.sz)) ty'.sz = some row ∧ ∃ d, Rep nos ty' (hp W) row d := by
            intro i
            by_cases hi : i < cap
            · obtain ⟨row, hr⟩ := each i hi
              exact ⟨row, fun _ => hr⟩
            · exact ⟨[], fun h => absurd h hi⟩
          obtain ⟨rowf, hrf⟩ := Classical.axiomOfChoice hrow
          have hdf' : ∀ i, ∃ d : ty'.D, i < cap → Rep nos ty' (hp W) (rowf i) d := by
            intro i
            by_cases hi : i < cap
            · obtain ⟨_, d, hd⟩ := hrf i hi
              exact ⟨d, fun _ => hd⟩
            · by_cases hc0 : 0 < cap
              · obtain ⟨_, d, hd⟩ := hrf 0 hc0
                exact ⟨d, fun h => absurd h hi⟩
              · exact ⟨Classical.choice (by
                  have : ∀ t : Ty, Nonempty t.D := by
                    intro t
                    induction t with
                    | int k => exact ⟨(0 : Int)⟩
                    | byte => exact ⟨(0 : UInt8)⟩
                    | bool => exact ⟨false⟩
                    | str => exact ⟨[]⟩
                    | flt => exact ⟨(0 : Nat)⟩
                    | sl t _ => exact ⟨[]⟩
                    | pair a b iha ihb => exact iha.elim fun x => ihb.elim fun y => ⟨(x, y)⟩
                  exact this ty'), fun h => absurd h hi⟩
          obtain ⟨df, hdf⟩ := Classical.axiomOfChoice hdf'
          have hrows : ((List.range cap).map rowf).length = cap := by simp
          have hs := slk_of (W := W) (k := ty'.sz) (a := a) (len := len) (cap := cap) (rows := (List.range cap).map rowf) ty'.sz_pos hl (by simp) (fun r hr => by
            obtain ⟨i, hi, rfl⟩ := List.mem_map.1 hr
            exact (cellsOk (hrf i (List.mem_range.1 hi)).1).1) (fun i hi j hj => by
            simp at hi
            simp only [List.getElem_map, List.getElem_range] at hj ⊢
            rw [← (cellsOk (hrf i hi).1).2 j hj]
            congr 1
            rw [add_add'])
          refine ⟨(List.range len).map df, .slice (some a) len cap, _, rfl, hs, by simp; omega, ?_⟩
          intro i r x hr hx
          rw [List.getElem?_take] at hr
          split at hr
          · rename_i hil
            rw [List.getElem?_map, List.getElem?_range (by omega)] at hr hx
            simp only [Option.map_some, Option.some.injEq] at hr hx
            subst hr hx
            exact hdf i (by omega)
          · cases hr
      · rename_i fs hu
        obtain ⟨xs, m, _, _, hl, hlen, hf⟩ := DataW.trod_struct hu hx
        obtain ⟨d, hd⟩ := ih2 0 fs.toList _ h m cs (fun f hmem => by
          obtain ⟨i, hi⟩ := List.getElem?_of_mem hmem
          rw [Array.getElem?_toList] at hi
          have h1 := hf i f hi
          have hlt : i < fs.size := (Array.getElem?_eq_some_iff.1 hi).1
          exact ⟨xs[i], by rw [h1]; simp [hlen, hlt]⟩)
        refine ⟨d, ?_⟩
        rw [List.drop_zero, List.take_of_length_le (by omega)] at hd
        exact hd
      · cases h
    · intro o fs ty h fuel cs hcs
      unfold tyBs at h
      split at h
      · cases h
      · rename_i n' f heq
        obtain rfl := Nat.succ.inj heq
        simp only [Bool.and_eq_true, beq_iff_eq] at h
        obtain ⟨⟨h1, h2⟩, h3⟩ := h
        obtain ⟨y, hy⟩ := hcs f (by simp)
        rw [h1, h2] at hy
        exact ih1 _ _ h3 fuel _ _ hy
      · rename_i n' f r a b hne heq
        obtain rfl := Nat.succ.inj heq
        simp only [Bool.and_eq_true, beq_iff_eq] at h
        obtain ⟨⟨⟨h1, h2⟩, h3⟩, h4⟩ := h
        obtain ⟨y, hy⟩ := hcs f (by simp)
        rw [h1, h2] at hy
        obtain ⟨d1, hd1⟩ := ih1 _ _ h3 fuel _ _ hy
        obtain ⟨d2, hd2⟩ := ih2 _ _ _ h4 fuel cs (fun g hg => hcs g (by simp [hg]))
        refine ⟨(d1, d2), _, _, ?_, hd1, hd2⟩
        show List.take (a.sz + b.sz) _ = _
        rw [List.take_add, List.drop_drop]
      · cases h
/-- A slice that came in is not greater than the form's own reach. -/
theorem slice_fit {t e : TypeId} {v : Value} {d : DataW H'} {p : List MemPlace} (ht : P.underlying t = some (.slice e)) (h : DataW.Trod enc P W 0 (fun _ => true) true t v d p) (hw : (d.weights P t).all (· ≤ reachBytes) = true) {a : Option Addr} {n c : Nat} (hv : v = .slice a n c) : n * P.bytesOf e ≤ 140737488351232 := by
  obtain ⟨fuel, h⟩ := h
  subst hv
  rcases DataW.trod_slice ht h with ⟨h1, _⟩ | ⟨a', len, cap, elems, rest, m, _, h1, h2, hb, hl, hm, hlen, hel, hsp, _⟩
  · simp only [Value.cells, List.cons.injEq, Value.slice.injEq, and_true] at h1
    obtain ⟨_, rfl, _⟩ := h1
    simp
  · simp only [Value.cells, List.cons.injEq, Value.slice.injEq, and_true] at h1
    obtain ⟨_, rfl, _⟩ := h1
    simp only [Prod.mk.injEq] at h2
    obtain ⟨rfl, _⟩ := h2
    unfold DataW.weights at hw
    rw [ht] at hw
    simp only [List.all_cons, Bool.and_eq_true, decide_eq_true_eq, List.length_map] at hw
    have h3 : n * P.bytesOf e ≤ (elems.length + rest.length) * P.bytesOf e := Nat.mul_le_mul_right _ (by omega)
    have h4 : reachBytes = 140737488351232 := rfl
    omega
/-- An argument, opened. -/
theorem rep_open {n : Nat} {t : TypeId} (ty : Ty) {v : Value} {d : DataW H'} {p : List MemPlace} (ht : tyB P n t ty = true) (h : DataW.Trod enc P W 0 (fun _ => true) true t v d p) : ∃ x : ty.D, Rep nos ty (hp W) v.cells.toList x := by
  obtain ⟨fuel, h⟩ := h
  exact (rep_all n).1 t ty ht fuel _ _ h
end
end Go.Proofs.Ytojhnclkhiffkaa
