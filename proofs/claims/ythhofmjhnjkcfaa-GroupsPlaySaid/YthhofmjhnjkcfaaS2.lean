/-
  sort: a slice of rows in memory; two rows changed for one another.
-/
import Derived.Test.YthhofmjhnjkcfaaS1
namespace Go.Proofs.Ythhofmjhnjkcfaa.so
open Go.Proofs.Ythhofmjhnjkcfaa
set_option linter.unusedVariables false
set_option linter.unusedSimpArgs false
abbrev lessV : Value := .func (.func 73) #[] #[]
structure DX (g0 g : H) (sv : Value) (xs : List Row) : Prop where
  ow : OwK kR (fun _ => True) g 23 sv xs
  good : ∀ r ∈ xs, Good r
  fr : Fr (fun y => isAt sv y) g0 g
section
variable {g0 g g' : H} {sv : Value} {xs ys : List Row}
theorem DX.ext (d : DX g0 g sv xs) (e : Ext g g') : DX g0 g' sv xs := ⟨d.ow.ext e, d.good, fun y o hy hn => e y o (d.fr y o hy hn) id⟩
theorem DX.self (d : DX g0 g sv xs) : DX g g sv xs := ⟨d.ow, d.good, fun y o hy hn => hy⟩
theorem DX.from (d : DX g0 g sv xs) (d' : DX g g' sv ys) : DX g0 g' sv ys := ⟨d'.ow, d'.good, fun y o hy hn => d'.fr y o (d.fr y o hy hn) hn⟩
theorem DX.gd (d : DX g0 g sv xs) {i : Nat} (hi : i < xs.length) : Good (gt xs i) := d.good _ (gt_mem hi)
theorem DX.at (d : DX g0 g sv xs) {i : Nat} (hi : i < xs.length) {e : Int} (he : e = i) : ∃ b o, idxV1 kR sv (.int .i64 e) = some (.pointer (some ⟨b, o, none⟩)) ∧ cellsAt g ⟨b, o, none⟩ kR = some (gt xs i).toArray := by
  subst he
  obtain ⟨b, o, h1, _, _, h4⟩ := d.ow.s0.row hi .i64
  exact ⟨b, o, h1, by rw [gt_of hi]; exact h4⟩
/-- The place of a row, what stands there, and what a store of a whole row makes. -/
theorem DX.put (d : DX g0 g sv xs) {i : Nat} (hi : i < xs.length) {e : Int} (he : e = i) : ∃ b o, idxV1 kR sv (.int .i64 e) = some (.pointer (some ⟨b, o, none⟩)) ∧ ∀ (r : Row) (K : H → Prop), Good r → (∀ g', DX g0 g' sv (xs.set i r) → K g') → storeH g ⟨b, o, none⟩ r K := by
  subst he
  obtain ⟨b, o, h1, _, h3, h4⟩ := d.ow.put hi .i64
  refine ⟨b, o, h1, fun r K hr hK => ?_⟩
  have hk : (xs[i]).length = kR := d.ow.s0.rect _ (List.getElem_mem hi)
  refine h4 0 r K (by rw [hr.len]; omega) hr.cell fun g' o' f' => hK g' ⟨?_, ?_, ?_⟩
  · rw [hr.len, List.take_zero, List.nil_append, List.drop_of_length_le (by omega), List.append_nil] at o'
    exact o'
  · intro s hs
    rcases List.mem_or_eq_of_mem_set hs with hs | rfl
    · exact d.good s hs
    · exact hr
  · intro y o hy hn
    exact f' y o (d.fr y o hy hn) fun h => hn (h ▸ h3)
theorem DX.st (d : DX g0 g sv xs) {i : Nat} (hi : i < xs.length) {e : Int} (he : e = i) {b o : Nat} (hidx : idxV1 kR sv (.int .i64 e) = some (.pointer (some ⟨b, o, none⟩))) {r : Row} {K : H → Prop} (hr : Good r) (hK : ∀ g', DX g0 g' sv (xs.set i r) → K g') : storeH g ⟨b, o, none⟩ r K := by
  obtain ⟨b', o', h1, h2⟩ := d.put hi he
  rw [hidx] at h1
  simp only [Option.some.injEq, Value.pointer.injEq, Addr.mk.injEq, and_true] at h1
  obtain ⟨rfl, rfl⟩ := h1
  exact h2 r K hr hK
theorem DX.st2 (d : DX g0 g sv xs) {i : Nat} (hi : i < xs.length) {e : Int} (he : e = i) {b o : Nat} (hidx : idxV1 kR sv (.int .i64 e) = some (.pointer (some ⟨b, o, none⟩))) {r : Row} {K : H → Prop} (hr : Good r) (hK : ∀ g', DX g0 g' sv (xs.set i r) → Fr (fun y => isAt sv y) g g' → K g') : storeH g ⟨b, o, none⟩ r K :=
  (d.self).st hi he hidx hr fun g' d' => hK g' (d.from d') d'.fr
end
end Go.Proofs.Ythhofmjhnjkcfaa.so
