/-
  history: put.
-/
import Derived.Test.YtmolhemoiplpfaaH3
namespace Go.Proofs.Ytmolhemoiplpfaa.hi
open Go.Proofs.Ytmolhemoiplpfaa
set_option linter.unusedVariables false
set_option linter.unusedSimpArgs false

/-! ### The plain side -/
def lastIx (c : Int) : List opT.D → Option Nat
  | [] => none
  | o :: t => match lastIx c t with
    | some j => some (j + 1)
    | none => if @Eq Int o.1 c then some 0 else none
theorem lastIx_none {c : Int} : ∀ {l : List opT.D}, (∀ (j : Nat) (hj : j < l.length), @Ne Int (l[j]).1 c) → lastIx c l = none
  | [], _ => rfl
  | o :: t, h => by
    have h1 : lastIx c t = none := lastIx_none fun j hj => h (j + 1) (by simp; omega)
    have h2 : @Ne Int o.1 c := h 0 (by simp)
    rw [lastIx, h1]
    simp only []
    rw [if_neg h2]
theorem lastIx_some {c : Int} : ∀ {l : List opT.D} {i : Nat} (hi : i < l.length), @Eq Int (l[i]).1 c → (∀ (j : Nat) (hj : j < l.length), i < j → @Ne Int (l[j]).1 c) → lastIx c l = some i
  | o :: t, 0, hi, h0, h => by
    have h1 : lastIx c t = none := lastIx_none fun j hj => h (j + 1) (by simp; omega) (by omega)
    rw [lastIx, h1]
    exact if_pos h0
  | o :: t, i + 1, hi, h0, h => by
    have h1 : lastIx c t = some i := lastIx_some (by simpa using hi) (h0) fun j hj hij => h (j + 1) (by simp; omega) (by omega)
    rw [lastIx, h1]
def opN (x : evT.D) (n : Nat) : opT.D := (x.1, x.2.2.1, ((0 : Int), (0 : Int), ([] : List rc.D)), ((n : Int), (-1 : Int)))
def clo (x : evT.D) (n : Nat) (o : opT.D) : opT.D := (o.1, o.2.1, x.2.2.2, (o.2.2.2.1, (n : Int)))
def opsS (s : Hs) (x : evT.D) : List opT.D :=
  if x.2.1 = false then s.ops ++ [opN x s.evs.length] else
    match lastIx x.1 s.ops with
    | some i => match s.ops[i]? with
      | some o => s.ops.set i (clo x s.evs.length o)
      | none => s.ops
    | none => s.ops
def putS (s : Hs) (x : evT.D) : Hs := ⟨s.evs ++ [x], s.opn.set (Int.toNat x.1) (!x.2.1), opsS s x⟩
theorem opsS_le (s : Hs) (x : evT.D) : (opsS s x).length ≤ s.ops.length + 1 := by
  unfold opsS
  repeat' split
  all_goals simp
/-! ### The object is written -/
theorem HO_set {opn : List Bool} {ve vo : Value} (hl : opn.length = 64) {i : Nat} (hi : i < 64) (b : Bool) : (HO opn ve vo).toArray.setIfInBounds (1 + i) (.bool b) = (HO (opn.set i b) ve vo).toArray := by
  rw [List.setIfInBounds_toArray, Nat.add_comm, HO, List.set_cons_succ, List.set_append_left _ _ (by simp [hl, hi]), ← List.map_set]
theorem HO_setO {opn : List Bool} {ve vo vo' : Value} (hl : opn.length = 64) : (HO opn ve vo).toArray.setIfInBounds 65 vo' = (HO opn ve vo').toArray := by
  rw [List.setIfInBounds_toArray, HO, List.set_cons_succ, List.set_append_right _ _ (by simp [hl])]
  simp [hl]
theorem HO_size {opn : List Bool} {ve vo : Value} (hl : opn.length = 64) : (HO opn ve vo).toArray.size = 67 := by simp [hl]
section
variable {h0 g g' : H} {p : Nat} {ve vo : Value} {s : Hs} {evs : List evT.D} {ops : List opT.D}
theorem HX.nve (X : HX h0 g p ve vo s) : ¬ isAt ve p := X.evs.tyno X.obj (by decide)
theorem HX.nvo (X : HX h0 g p ve vo s) : ¬ isAt vo p := X.ops.tyno X.obj (by decide)
/-- Events and operations lie apart. -/
theorem HZ.apart (X : HZ h0 g p ve vo evs ops) {y : Nat} (h : isAt ve y) : ¬ isAt vo y := by
  obtain ⟨_, h1⟩ := X.evs.k
  obtain ⟨_, h2⟩ := X.ops.k
  exact h1.unlike h2 (by decide) h
/-- Only the object is written. -/
theorem HZ.obj (X : HZ h0 g p ve vo evs ops) {a : Array Value} (ho : g p = some (.cells a 35)) (f : Fr (fun y => y = p) g g') : HZ h0 g' p ve vo evs ops :=
  ⟨X.new, X.evs.fr f (fun y hy => .inl hy) (fun y hy _ hat => X.evs.tyno ho (by decide) (hy ▸ hat)), X.ops.fr f (fun y hy => .inl hy) (fun y hy _ hat => X.ops.tyno ho (by decide) (hy ▸ hat))⟩
theorem HX.setI (X : HX h0 g p ve vo s) {i : Nat} (hi : i < 64) (b : Bool) {K : H → Prop} (hK : ∀ g', HX h0 g' p ve vo ⟨s.evs, s.opn.set i b, s.ops⟩ → Fr (fun y => y = p) g g' → K g') : storeH g ⟨p, 1 + i, none⟩ [.bool b] K := by
  rw [storeH_0 X.obj]
  refine ⟨by rw [HO_size X.len]; omega, rfl, ?_⟩
  rw [HO_set X.len hi]
  have f : Fr (fun y => y = p) g (hupd g p (.cells (HO (s.opn.set i b) ve vo).toArray 35)) := Fr.upd (S := fun y => y = p) rfl _
  exact hK _ ⟨hupd_same _ _ _, by rw [List.length_set]; exact X.len, X.le, X.z.obj X.obj f⟩ f
/-- What a put may write. -/
abbrev HF (p : Nat) (ve vo : Value) : Nat → Prop := fun y => y = p ∨ isAt ve y ∨ isAt vo y
theorem HX.there (X : HX h0 g p ve vo s) {y : Nat} (hy : HF p ve vo y) : g y ≠ none := by
  rcases hy with rfl | hy | hy
  · rw [X.obj]; simp
  · exact X.evs.there hy
  · exact X.ops.there hy
theorem HX.own (X : HX h0 g p ve vo s) {y : Nat} (hy : HF p ve vo y) : h0 y = none := by
  rcases hy with rfl | hy | hy
  · exact X.new
  · exact X.evs.own hy
  · exact X.ops.own hy
theorem inI0 : inI 0 := by unfold inI; decide
theorem HO_store {opn : List Bool} {vo' : Value} {g'' : H} {K : H → Prop} (ho : g p = some (.cells (HO opn ve vo).toArray 35)) (hl : opn.length = 64) (hc : isCell vo' = true) (hG : hupd g p (.cells (HO opn ve vo').toArray 35) = g'') : storeH g ⟨p, 65, none⟩ [vo'] K = K g'' := by
  rw [storeH_0 ho, HO_setO hl, HO_size hl, hG]
  simp [hc]
/-- What is not there now was not there. -/
theorem _root_.Go.Proofs.Ytmolhemoiplpfaa.Fr.gone {S : Nat → Prop} {h h' : H} (f : Fr S h h') (hs : ∀ y, S y → h y ≠ none → h' y ≠ none) {y : Nat} (hy : h' y = none) : h y = none := by
  cases hh : h y with
  | none => rfl
  | some o =>
    by_cases hS : S y
    · exact absurd hy (hs y hS (by rw [hh]; simp))
    · rw [f y o hh hS] at hy; cases hy
/-- One operation more. -/
theorem HZ.addOp (X : HZ h0 g p ve vo evs ops) (E0 : Ext h0 g) {row : List Value} {x : opT.D} (hn : ops.length ≤ 70000) (hr : Rep (HF p ve vo) opT g row x) {V : Nat → Value → H → Prop} {z : Array Value} (hz : z.size = 11)
    (hV : ∀ (b : Nat) vo' g', g b = none → Fr (isAt vo) g g' → (∀ y, isAt vo' y → isAt vo y ∨ g y = none) → HZ h0 g' p ve vo' evs (ops ++ [x]) → V b vo' g') :
    ∀ b, g b = none → appM 43 11 120 z vo (.slice (some ⟨b, 0, none⟩) 1 1) (hupd g b (.cells row.toArray 43)) (V b) := by
  refine OwL.push2 11 rfl X.ops (fun y hy => E0.bk hy) (hr.mono fun y _ _ hy => hy.elim (fun h => .inr (.inr h)) fun h => h.elim .inl fun h => .inr (.inl h)) hz (by omega) (by omega) ?_
  intro b vo' g' hb ho hf hat
  have hf' : Fr (isAt vo) g g' := hf.mono fun y hy => hy.2
  refine hV b vo' g' hb hf' hat ⟨X.new, ?_, ho⟩
  exact (X.evs.avoid.fr hf' (fun y hy => .inl (.inr hy)) fun y hy _ he => X.apart he hy).subS fun y hy => hy.elim (fun h => .inl (.inl h)) fun h => (hat y h).elim (fun h => .inl (.inr h)) .inr
/-- An operation written. -/
theorem HZ.setOp (X : HZ h0 g p ve vo evs ops) {k : Nat} (hk : k < ops.length) (kk : IntKind) : ∃ b o r q, idxV1 11 vo (.int kk (k : Int)) = some (.pointer (some ⟨b, o, none⟩)) ∧ isAt vo b ∧ cellAt g ⟨b, o, none⟩ = some (.int .i64 (ops[k]).1) ∧
    (inI (ops[k]).1 ∧ cB (ops[k]).2.1 ∧ yB (ops[k]).2.2.1 ∧ inI (ops[k]).2.2.2.1 ∧ inI (ops[k]).2.2.2.2) ∧ RepL (HF p ve vo) rc g r (ops[k]).2.1.2.2.1 ∧ RepL (HF p ve vo) rc g q (ops[k]).2.2.1.2.2 ∧
    ∀ (j : Nat) (new : List Value) (x' : opT.D) (K : H → Prop), j + new.length ≤ 11 → new.all isCell = true → Rep (HF p ve vo) opT g ((oCs ops[k] r q).take j ++ new ++ (oCs ops[k] r q).drop (j + new.length)) x' →
      (∀ g', HZ h0 g' p ve vo evs (ops.set k x') → Fr (fun y => y = b) g g' → K g') → storeH g ⟨b, o + j, none⟩ new K := by
  obtain ⟨b, o, cs, h1, h2, h3, h4, h5, h6⟩ := OwL.set X.ops hk kk 11 rfl
  have hS : ∀ y, HF p ve vo y → (isAt vo y ∨ (y = p ∨ isAt ve y)) := fun y hy => hy.elim (fun h => .inr (.inl h)) fun h => h.elim (fun h => .inr (.inr h)) .inl
  have hS' : ∀ y, (isAt vo y ∨ (y = p ∨ isAt ve y)) → HF p ve vo y := fun y hy => hy.elim (fun h => .inr (.inr h)) fun h => h.elim .inl fun h => .inr (.inl h)
  obtain ⟨r, q, rfl, hb, hr, hq⟩ := rep_op.1 h5
  refine ⟨b, o, r, q, h1, h2, by have := h4 0 (by omega); simpa using this, hb, RepL.mono hr fun y _ _ hy => hS y hy, RepL.mono hq fun y _ _ hy => hS y hy, ?_⟩
  intro j new x' K hj hc hx hK
  refine h6 j new x' K hj hc (hx.mono fun y _ _ hy => hS' y hy) fun g' ho hf => hK g' ⟨X.new, ?_, ho⟩ hf
  exact X.evs.fr hf (fun y hy => .inr (hy ▸ h2)) fun y hy _ he => X.apart (hy ▸ he) h2
/-- One event more. -/
theorem HZ.addEv (X : HZ h0 g p ve vo evs ops) (E0 : Ext h0 g) {row : List Value} {x : evT.D} (hn : evs.length ≤ 70000) (hr : Rep (HF p ve vo) evT g row x) {V : Nat → Value → H → Prop} {z : Array Value} (hz : z.size = 10)
    (hV : ∀ (b : Nat) ve' g', g b = none → Fr (isAt ve) g g' → (∀ y, isAt ve' y → isAt ve y ∨ g y = none) → HZ h0 g' p ve' vo (evs ++ [x]) ops → V b ve' g') :
    ∀ b, g b = none → appM 41 10 112 z ve (.slice (some ⟨b, 0, none⟩) 1 1) (hupd g b (.cells row.toArray 41)) (V b) := by
  refine OwL.push2 10 rfl X.evs (fun y hy => E0.bk hy) (hr.mono fun y _ _ hy => hy.elim (fun h => .inr (.inl h)) fun h => h.elim .inl fun h => .inr (.inr h)) hz (by omega) (by omega) ?_
  intro b ve' g' hb ho hf hat
  have hf' : Fr (isAt ve) g g' := hf.mono fun y hy => hy.2
  refine hV b ve' g' hb hf' hat ⟨X.new, ho, ?_⟩
  exact (X.ops.avoid.fr hf' (fun y hy => .inl (.inr hy)) fun y hy _ he => X.apart hy he).subS fun y hy => hy.elim (fun h => .inl (.inl h)) fun h => (hat y h).elim (fun h => .inl (.inr h)) .inr
end
end Go.Proofs.Ytmolhemoiplpfaa.hi
