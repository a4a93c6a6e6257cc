/-
  model: calls and replies; the object of a model.
-/
import Derived.Test.YtpgkkpjdajkobaaR2
import Derived.Test.YtpgkkpjdajkobaaK22
namespace Go.Proofs.Ytpgkkpjdajkobaa.mo
open Go.Proofs.Ytpgkkpjdajkobaa rr
set_option linter.unusedVariables false
set_option linter.unusedSimpArgs false
/-! ### Calls, replies -/
abbrev tI : Ty := .int .i64
abbrev callT : Ty := .pair tI (.pair tI (.pair (.sl rc) (.pair tI tI)))
abbrev replyT : Ty := .pair tI (.pair tI (.sl rc))
def inI (n : Int) : Prop := -9223372036854775808 ≤ n ∧ n ≤ 9223372036854775807
theorem rep_i {S : Nat → Prop} {h : H} {cs : List Value} {n : Int} : Rep S tI h cs n ↔ cs = [.int .i64 n] ∧ inI n := Iff.rfl
def cB (x : callT.D) : Prop := inI x.1 ∧ inI x.2.1 ∧ inI x.2.2.2.1 ∧ inI x.2.2.2.2
def yB (x : replyT.D) : Prop := inI x.1 ∧ inI x.2.1
abbrev cCs (x : callT.D) (r : Value) : List Value := [.int .i64 x.1, .int .i64 x.2.1, r, .int .i64 x.2.2.2.1, .int .i64 x.2.2.2.2]
abbrev yCs (x : replyT.D) (r : Value) : List Value := [.int .i64 x.1, .int .i64 x.2.1, r]
theorem rep_call {S : Nat → Prop} {h : H} {cs : List Value} {x : callT.D} : Rep S callT h cs x ↔ ∃ r, cs = cCs x r ∧ cB x ∧ RepL S rc h r x.2.2.1 := by
  constructor
  · rintro ⟨c1, d1, rfl, ⟨rfl, b1⟩, c2, d2, rfl, ⟨rfl, b2⟩, c3, d3, rfl, r3, c4, d4, rfl, ⟨rfl, b4⟩, rfl, b5⟩
    obtain ⟨r, _, rfl, _⟩ := id r3
    exact ⟨r, rfl, ⟨b1, b2, b4, b5⟩, r3⟩
  · rintro ⟨r, rfl, ⟨b1, b2, b4, b5⟩, r3⟩
    exact ⟨[_], _, rfl, ⟨rfl, b1⟩, [_], _, rfl, ⟨rfl, b2⟩, [_], _, rfl, r3, [_], [_], rfl, ⟨rfl, b4⟩, rfl, b5⟩
theorem rep_reply {S : Nat → Prop} {h : H} {cs : List Value} {x : replyT.D} : Rep S replyT h cs x ↔ ∃ r, cs = yCs x r ∧ yB x ∧ RepL S rc h r x.2.2 := by
  constructor
  · rintro ⟨c1, d1, rfl, ⟨rfl, b1⟩, c2, d2, rfl, ⟨rfl, b2⟩, r3⟩
    obtain ⟨r, _, rfl, _⟩ := id r3
    exact ⟨r, rfl, ⟨b1, b2⟩, r3⟩
  · rintro ⟨r, rfl, ⟨b1, b2⟩, r3⟩
    exact ⟨[_], _, rfl, ⟨rfl, b1⟩, [_], _, rfl, ⟨rfl, b2⟩, r3⟩
theorem inI0 : inI 0 := by unfold inI; decide
theorem repL_pre {S : Nat → Prop} {t : Ty} {h : H} {a : Option Addr} {n c m : Nat} {xs : List t.D} (r : RepL S t h (.slice a n c) xs) (hm : m ≤ n) : RepL S t h (.slice a m c) (xs.take m) := by
  obtain ⟨rows, h1, h2, h3⟩ := repL_iff.1 r
  refine repL_iff.2 ⟨rows.take m, h1.pre hm, by simp [h2], ?_⟩
  intro i r x hr hx
  rw [List.getElem?_take] at hr hx
  split at hr
  · rw [if_pos ‹_›] at hx
    exact h3 i r x hr hx
  · cases hr
/-- A part of a struct. -/
theorem cellsAt_part {h : H} {b o n : Nat} {cs : List Value} (hc : cellsAt h ⟨b, o, none⟩ n = some cs.toArray) (j m : Nat) (hjm : j + m ≤ n) (hm : 0 < m) : cellsAt h ⟨b, o + j, none⟩ m = some ((cs.drop j).take m).toArray := by
  unfold cellsAt at *
  rw [if_neg (by omega)] at hc ⊢
  split at hc
  · rename_i c E fr hb
    simp only [] at hb
    rw [hb]
    simp only [Option.isNone_none, Bool.true_and, decide_eq_true_eq] at hc ⊢
    split at hc
    · rename_i hl
      rw [if_pos (by omega)]
      simp only [Option.some.injEq] at hc ⊢
      have h1 : cs = (c.extract o (o + n)).toList := by rw [hc]
      apply Array.ext'
      rw [h1]
      simp only [Array.toList_extract, List.extract_eq_take_drop]
      rw [List.drop_take, List.take_take, List.drop_drop]
      congr 1
      omega
    · cases hc
  · cases hc
/-- A yes or no. -/
def Tells (p : Prop) (h : H) (v : Value) (h' : H) : Prop := ∃ b : Bool, v = .bool b ∧ (b = true ↔ p) ∧ Ext h h'
/-! ### The object -/
theorem _root_.Go.Proofs.Ytpgkkpjdajkobaa.OwL.subS2 {S S' O : Nat → Prop} {t : Ty} {h : H} {E : TypeId} {v : Value} {xs : List t.D} (s : OwL S t O h E v xs) (hs : ∀ y, S' y → isAt v y ∨ S y) : OwL S' t O h E v xs := by
  obtain ⟨rows, h1, h2, h3⟩ := s
  exact ⟨rows, h1, h2, fun i r x hr hx => (h3 i r x hr hx).mono fun y _ _ hy => hy.elim .inl (hs y)⟩
/-- The blocks that a model's calls may write. -/
def MF (p : Nat) (pv : Value) (vs : List Value) : Nat → Prop := fun y => y = p ∨ isAt pv y ∨ ∃ v ∈ vs, isAt v y
structure MX (S : Nat → Prop) (h0 h : H) (p : Nat) (pv : Value) (vs : List Value) (ps : List (List rc.D)) : Prop where
  obj : h p = some (.cells #[pv] 64)
  new : h0 p = none ∧ ¬ S p
  len : vs.length = ps.length
  pos : 0 < ps.length ∧ ps.length ≤ 16
  par : O1 (fun y => h0 y = none ∧ ¬ S y) h 24 pv vs
  lst : ∀ (i : Nat) v l, vs[i]? = some v → ps[i]? = some l → OwL (fun y => MF p pv vs y ∨ S y) rc (fun y => h0 y = none ∧ ¬ S y) h 55 v l
  apart : ∀ (i j : Nat) v w, vs[i]? = some v → vs[j]? = some w → i ≠ j → ∀ y, isAt v y → ¬ isAt w y
section
variable {S : Nat → Prop} {h0 g g' : H} {p : Nat} {pv : Value} {vs : List Value} {ps : List (List rc.D)}
theorem MX.recAt (X : MX S h0 g p pv vs ps) {i : Nat} (hi : i < ps.length) : OwL (fun y => MF p pv vs y ∨ S y) rc (fun y => h0 y = none ∧ ¬ S y) g 55 (vs[i]'(by rw [X.len]; exact hi)) ps[i] :=
  X.lst i _ _ (List.getElem?_eq_getElem _) (List.getElem?_eq_getElem hi)
theorem MX.own (X : MX S h0 g p pv vs ps) {y : Nat} (hy : MF p pv vs y) : h0 y = none ∧ ¬ S y := by
  rcases hy with rfl | hy | ⟨v, hv, hy⟩
  · exact X.new
  · exact X.par.own hy
  · obtain ⟨i, hi, rfl⟩ := List.getElem_of_mem hv
    exact (X.recAt (i := i) (by rw [← X.len]; exact hi)).own hy
theorem MX.there (X : MX S h0 g p pv vs ps) {y : Nat} (hy : MF p pv vs y) : g y ≠ none := by
  rcases hy with rfl | hy | ⟨v, hv, hy⟩
  · rw [X.obj]; simp
  · exact X.par.there hy
  · obtain ⟨i, hi, rfl⟩ := List.getElem_of_mem hv
    exact (X.recAt (i := i) (by rw [← X.len]; exact hi)).there hy
/-- What is written elsewhere does not matter. -/
theorem MX.fr {T : Nat → Prop} (X : MX S h0 g p pv vs ps) (f : Fr T g g') (hT : ∀ y, T y → S y) : MX S h0 g' p pv vs ps :=
  ⟨f _ _ X.obj fun h => X.new.2 (hT _ h), X.new, X.len, X.pos, OwK.fr X.par f fun y hy ho => absurd (hT y hy) ho.2, fun i v l hv hl => (X.lst i v l hv hl).fr f (fun y hy => .inr (hT y hy)) fun y hy ho => absurd (hT y hy) ho.2, X.apart⟩
theorem MX.ext (X : MX S h0 g p pv vs ps) (e : Ext g g') : MX S h0 g' p pv vs ps := X.fr e fun _ h => h.elim
/-- Other blocks are avoided: they were, or were not there. -/
theorem MX.avoid {S' : Nat → Prop} (X : MX S h0 g p pv vs ps) (hS : ∀ y, S' y → S y ∨ g y = none) : MX S' h0 g p pv vs ps := by
  have hO : ∀ x o, g x = some o → (h0 x = none ∧ ¬ S x) → (h0 x = none ∧ ¬ S' x) := fun x o hx ho => ⟨ho.1, fun h => (hS x h).elim ho.2 fun hn => by rw [hn] at hx; cases hx⟩
  exact ⟨X.obj, ⟨X.new.1, fun h => (hS p h).elim X.new.2 fun hn => by rw [X.obj] at hn; cases hn⟩, X.len, X.pos, X.par.mono hO, fun i v l hv hl => ((X.lst i v l hv hl).avoid.subS fun y hy => hy.elim (fun h => .inl (.inl h)) fun h => (hS y h).elim (fun h => .inl (.inr h)) .inr).mono hO, X.apart⟩
theorem MX.cell (X : MX S h0 g p pv vs ps) : cellAt g ⟨p, 0, none⟩ = some pv := by rw [cellAt_of X.obj]; rfl
/-- A partition is written. -/
theorem MX.store {k : Nat} {v' : Value} {l' : List rc.D} (X : MX S h0 g p pv vs ps) (hk : k < ps.length) (hS : ∀ y, S y → g y ≠ none) (f : Fr (isAt (vs[k]'(by rw [X.len]; exact hk))) g g') (o : OwL (fun y => MF p pv vs y ∨ S y) rc (fun y => h0 y = none ∧ ¬ S y) g' 55 v' l')
    (hat : ∀ y, isAt v' y → isAt (vs[k]'(by rw [X.len]; exact hk)) y ∨ g y = none) (kk : IntKind) : ∃ b od, idxV1 1 pv (.int kk (k : Int)) = some (.pointer (some ⟨b, od, none⟩)) ∧ ∀ (K : H → Prop), (∀ g'', MX S h0 g'' p pv (vs.set k v') (ps.set k l') → Fr (MF p pv vs) g g'' → K g'') → storeH g' ⟨b, od, none⟩ [v'] K := by
  have hkv : k < vs.length := by rw [X.len]; exact hk
  have ownk := X.recAt hk
  obtain ⟨rk, hrk⟩ := ownk.k
  have par' : O1 (fun y => h0 y = none ∧ ¬ S y) g' 24 pv vs := OwK.fr X.par f fun y hy _ hpv => hrk.unlike X.par (by decide) hy hpv
  obtain ⟨b, od, h1, h2, h3, h4⟩ := par'.put hkv kk
  refine ⟨b, od, h1, fun K hK => ?_⟩
  have hcell : isCell v' = true := by obtain ⟨a, c, rfl⟩ := o.len; rfl
  refine h4 v' K hcell fun g'' h5 f2 => ?_
  have F : Fr (MF p pv vs) g g'' := (f.mono fun y hy => .inr (.inr ⟨_, List.getElem_mem hkv, hy⟩)).trans (f2.mono fun y hy => .inr (.inl (hy ▸ h2)))
  have hMF : ∀ y, MF p pv (vs.set k v') y → MF p pv vs y ∨ g y = none := by
    rintro y (hy | hy | ⟨v, hv, hy⟩)
    · exact .inl (.inl hy)
    · exact .inl (.inr (.inl hy))
    · rcases List.mem_or_eq_of_mem_set hv with hv | rfl
      · exact .inl (.inr (.inr ⟨v, hv, hy⟩))
      · rcases hat y hy with h | h
        · exact .inl (.inr (.inr ⟨_, List.getElem_mem hkv, h⟩))
        · exact .inr h
  have ty : ∀ {v l}, OwL (fun y => MF p pv vs y ∨ S y) rc (fun y => h0 y = none ∧ ¬ S y) g' 55 v l → ¬ isAt v b := by
    intro v l ho hb
    obtain ⟨r, hr⟩ := ho.k
    exact hr.unlike par' (by decide) hb h2
  refine hK g'' ⟨?_, X.new, by simp [X.len], by simpa using X.pos, h5, ?_, ?_⟩ F
  · refine f2 _ _ (f _ _ X.obj ?_) ?_
    · intro h
      exact hrk.tyno X.obj (by decide) h
    · intro h
      exact X.par.tyno X.obj (by decide) (h ▸ h2)
  · intro i v l hv hl
    rw [List.getElem?_set] at hv hl
    by_cases hik : k = i
    · rw [if_pos hik, if_pos hkv] at hv
      rw [if_pos hik, if_pos hk] at hl
      simp only [Option.some.injEq] at hv hl
      subst hv hl
      have o2 := o.fr f2 (fun y hy => .inl (.inr (.inl (hy ▸ h2)))) fun y hy _ hb => ty o (hy ▸ hb)
      refine o2.subS2 fun y hy => ?_
      rcases hy with (hy | hy | ⟨v, hv, hy⟩) | hy
      · exact .inr (.inl (.inl hy))
      · exact .inr (.inl (.inr (.inl hy)))
      · rcases List.mem_or_eq_of_mem_set hv with hv | rfl
        · exact .inr (.inl (.inr (.inr ⟨v, hv, hy⟩)))
        · exact .inl hy
      · exact .inr (.inr hy)
    · rw [if_neg hik] at hv hl
      have o1 := (X.lst i v l hv hl).avoid.fr f (fun y hy => .inl (.inl (.inr (.inr ⟨_, List.getElem_mem hkv, hy⟩)))) fun y hy _ hb => X.apart k i _ _ (List.getElem?_eq_getElem hkv) hv hik y hy hb
      have hvb : ¬ isAt v b := by
        intro hb
        obtain ⟨r, hr⟩ := o1.k
        exact hr.unlike par' (by decide) hb h2
      exact (o1.fr f2 (fun y hy => .inl (.inl (.inr (.inl (hy ▸ h2))))) fun y hy _ hb => hvb (hy ▸ hb)).subS fun y hy => hy.elim (fun h => (hMF y h).elim (fun h => .inl (.inl h)) .inr) fun h => .inl (.inr h)
  · intro i j v w hv hw hij y hy hy'
    rw [List.getElem?_set] at hv hw
    have old : ∀ (m : Nat) u, vs[m]? = some u → m ≠ k → isAt u y → isAt v' y → False := by
      intro m u hu hmk h1 h2
      rcases hat y h2 with h | h
      · exact X.apart k m _ _ (List.getElem?_eq_getElem hkv) hu (fun h => hmk h.symm) y h h1
      · exact X.there (.inr (.inr ⟨u, List.mem_of_getElem? hu, h1⟩)) h
    by_cases hi : k = i
    · rw [if_pos hi, if_pos hkv] at hv
      simp only [Option.some.injEq] at hv
      subst hv
      rw [if_neg (by omega)] at hw
      exact old j w hw (by omega) hy' hy
    · rw [if_neg hi] at hv
      by_cases hj : k = j
      · rw [if_pos hj, if_pos hkv] at hw
        simp only [Option.some.injEq] at hw
        subst hw
        exact old i v hv (by omega) hy hy'
      · rw [if_neg hj] at hw
        exact X.apart i j v w hv hw hij y hy hy'
end
end Go.Proofs.Ytpgkkpjdajkobaa.mo
