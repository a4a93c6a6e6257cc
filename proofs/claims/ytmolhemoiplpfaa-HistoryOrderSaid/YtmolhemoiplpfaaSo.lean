/-
  history: the order by which Back sorts: rows of operations.
-/
import Derived.Test.YtmolhemoiplpfaaH1
import Derived.Test.YtmolhemoiplpfaaKE
namespace Go.Proofs.Ytmolhemoiplpfaa.so
open Go.Proofs.Ytmolhemoiplpfaa
set_option linter.unusedVariables false
set_option linter.unusedSimpArgs false
abbrev Row := List Value
/-- cells of a row -/
abbrev kR : Nat := 11
def begV : Option Value → Int
  | some (Value.int _ n) => n
  | _ => 0
def beg (r : Row) : Int := begV r[9]?
def lt (r s : Row) : Prop := beg r < beg s
instance (r s : Row) : Decidable (lt r s) := inferInstanceAs (Decidable (beg r < beg s))
theorem lt_asym {r s : Row} (h : lt r s) : ¬ lt s r := by unfold lt at *; omega
theorem lt_ntr {r s t : Row} (h1 : ¬ lt s r) (h2 : ¬ lt t s) : ¬ lt t r := by unfold lt at *; omega
structure Good (r : Row) : Prop where
  len : r.length = kR
  cell : r.all isCell = true
  at9 : r[9]? = some (.int .i64 (beg r))
  lo : 0 ≤ beg r
  hi : beg r ≤ 4294967295
theorem less_ok {r s : Row} (h : H) (hr : Good r) (hs : Good s) : Ok Try.prog 36 #[.agg r.toArray, .agg s.toArray] h fun v h' => (∃ c : Int, v = .int .i64 c ∧ (c < 0 ↔ lt r s)) ∧ Ext h h' := by
  obtain ⟨r1, r2, r3, r4, r5⟩ := hr
  obtain ⟨s1, s2, s3, s4, s5⟩ := hs
  refine c36_ok (args := [_, _]) (by simp) ?_
  simp (disch := omega) only [dm_t, wS, simprocAttr, IntKind.bits]
  intro pa hpa pb hpb
  generalize hG : hupd h pa _ = g1 at hpb ⊢
  obtain ⟨e1, qa⟩ := new_ext hG hpa
  clear hG
  generalize hG : hupd g1 pb _ = g2
  obtain ⟨e2, qb⟩ := new_ext hG hpb
  clear hG
  have ca : cellAt g2 ⟨pa, 9, none⟩ = some (.int .i64 (beg r)) := by rw [cellAt_of (e2.at qa), List.getElem?_toArray, r3]
  have cb : cellAt g2 ⟨pb, 9, none⟩ = some (.int .i64 (beg s)) := by rw [cellAt_of qb, List.getElem?_toArray, s3]
  simp (disch := omega) only [dm_t, wS, simprocAttr, IntKind.bits, ca, cb]
  exact ⟨⟨_, rfl, by unfold lt; omega⟩, e1.trans e2⟩
end Go.Proofs.Ytmolhemoiplpfaa.so
