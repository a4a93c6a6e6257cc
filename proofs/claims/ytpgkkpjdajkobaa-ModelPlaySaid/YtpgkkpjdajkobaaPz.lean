/-
  model: what ModelPlay needs of ModelApart's and ModelStands' texts (Mn, Mo, Mq, Mr are not beside it: a claim's size is bound).
-/
import Derived.Test.YtpgkkpjdajkobaaMm
import Derived.Test.YtpgkkpjdajkobaaMf
namespace Go.Proofs.Ytpgkkpjdajkobaa.mo
open Go.Proofs.Ytpgkkpjdajkobaa rr
set_option linter.unusedVariables false
set_option linter.unusedSimpArgs false
theorem tryP_len {N : Nat} {ps : List (List rc.D)} {x : callT.D} (b : ∀ l ∈ ps, l.length ≤ N) : (tryP ps x).2.2.length ≤ N := by
  have hg : (ps.getD (Int.toNat x.2.1) []).length ≤ N := by
    rw [List.getD_eq_getElem?_getD]
    by_cases hi : Int.toNat x.2.1 < ps.length
    · rw [List.getElem?_eq_getElem hi]; exact b _ (List.getElem_mem hi)
    · rw [List.getElem?_eq_none (by omega)]; simp
  unfold tryP prodP fetchP err
  repeat' split
  all_goals first
    | exact Nat.zero_le _
    | (show (List.take _ (List.drop _ _)).length ≤ N
       rw [List.length_take, List.length_drop]; omega)
theorem res5 {G : H} {d : Nat} {c : Array Value} {E : TypeId} {K : H → Prop} (r : callT.D) (v : Value) (qd : G d = some (.cells c E)) (hc : c.size = 5) (hv : isCell v = true) (hK : ∀ G', G' d = some (.cells (cCs r v).toArray E) → Fr (fun y => y = d) G G' → K G') : storeH G ⟨d, 0, none⟩ (cCs r v) K :=
  storeH_all qd (by rw [hc]; rfl) (by show (isCell _ && (isCell _ && (isCell v && (isCell _ && (isCell _ && true))))) = true; rw [hv]; rfl) (hK _ (hupd_same _ _ _) (Fr.upd (S := fun y => y = d) rfl _))
def byteOk (l : List rc.D) : Prop := ∀ r ∈ l, r.2.1.length ≤ 140737488355328 ∧ r.2.2.length ≤ 140737488355328
theorem fit_rc {l : List rc.D} (f : Ty.fit (.sl rc) l) : byteOk l ∧ l.length ≤ 4611686018427387904 := by
  obtain ⟨f1, f2⟩ := f
  refine ⟨fun r hr => ?_, ?_⟩
  · obtain ⟨-, ⟨f3, -⟩, ⟨f4, -⟩⟩ := f2 r hr
    simp only [Ty.by] at f3 f4
    omega
  · have : Ty.by rc = 56 := rfl
    rw [this] at f1; omega
theorem MX.disj {S : Nat → Prop} {h0 g g' : H} {p q : Nat} {pv qv : Value} {vs ws : List Value} {ps qs : List (List rc.D)} (X : MX S h0 g p pv vs ps) (Y : MX (fun y => g y ≠ none) g g' q qv ws qs) {L : List Nat} (e : Ext g g') (E : Ext h0 g) (hT : ∀ y ∈ L, g y ≠ none ∧ h0 y = none) (hL : ∀ y ∈ L, S y) : M2 L h0 g' p q pv qv vs ws ps qs := by
  refine ⟨(X.avoid fun y hy => ?_).ext e, (Y.avoid fun y hy => .inl ?_).base E, E.trans e, fun y hy => ⟨fun hn => (hT y hy).1 (e.bk hn), (hT y hy).2⟩⟩
  · rcases hy with hy | hy
    · exact .inr (Y.own hy).1
    · exact .inl (hL y hy)
  · rcases hy with hy | hy
    · exact X.there hy
    · exact (hT y hy).1
abbrev qT (h : H) : Value → H → Prop := fun v h' => v = .bool true ∧ Ext h h'
theorem tryP_yB {ps : List (List rc.D)} {x : callT.D} (hps : ∀ l ∈ ps, lims l) : yB (tryP ps x) := by
  have hg : (ps.getD (Int.toNat x.2.1) []).length ≤ 1000000 := by
    rw [List.getD_eq_getElem?_getD]
    by_cases hi : Int.toNat x.2.1 < ps.length
    · rw [List.getElem?_eq_getElem hi]; exact (hps _ (List.getElem_mem hi)).1
    · rw [List.getElem?_eq_none (by omega)]; simp
  have hn : inI ((ps.getD (Int.toNat x.2.1) []).length : Int) := inI_len (by omega)
  unfold tryP prodP fetchP err
  repeat' split
  all_goals first
    | exact ⟨by show inI _; unfold inI; decide, by show inI _; unfold inI; decide⟩
    | exact ⟨inI0, hn⟩
theorem fits_self (ps : List (List rc.D)) (x : callT.D) : fitsP ps x (tryP ps x) := by
  unfold fitsP
  split
  · rename_i hc
    obtain ⟨h1, h2⟩ := hc
    have ht : tryP ps x = prodP ps x := by rw [tryP, if_pos h2]
    rw [ht] at h1 ⊢
    unfold prodP at h1 ⊢
    split at h1
    · split at h1
      · rcases h1 with h1 | h1 <;> cases h1
      · rw [if_pos ‹_›, if_neg ‹_›]; exact ⟨rfl, rfl⟩
    · rw [if_neg ‹_›]; exact ⟨rfl, rfl⟩
  · rfl
end Go.Proofs.Ytpgkkpjdajkobaa.mo
