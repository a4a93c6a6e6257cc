/-
  groups: places in order, plain. (No program in sight.)
-/
import Derived.Test.YthhofmjhnjkcfaaGg
import Derived.Test.YthhofmjhnjkcfaaSo
namespace Go.Proofs.Ythhofmjhnjkcfaa.gr
open Go.Proofs.Ythhofmjhnjkcfaa wi
open Go.Proofs.Ythhofmjhnjkcfaa.so (kLt k_irr k_tr k_asy k_tot k_ntr)
set_option linter.unusedVariables false
set_option linter.unusedSimpArgs false
def key (p : Pl) : Ky := (p.1, p.2.1)
def pk (p : Pl) : Ky × Value := (key p, enx (p.2.2.1, p.2.2.2))
def lp (p q : Pl) : Prop := kLt (key p) (key q)
def fnd (k : Ky) : List Pl → Option Pl
  | [] => none
  | x :: r => if k = key x then some x else fnd k r
def setP (p : Pl) : List Pl → List Pl
  | [] => [p]
  | x :: r => if key p = key x then p :: r else if kLt (key p) (key x) then p :: x :: r else x :: setP p r
def delP (k : Ky) : List Pl → List Pl
  | [] => []
  | x :: r => if k = key x then r else x :: delP k r
theorem fnd_some {k : Ky} {L : List Pl} {x : Pl} (h : fnd k L = some x) : x ∈ L ∧ key x = k := by
  induction L with
  | nil => cases h
  | cons y r ih =>
    rw [fnd] at h
    split at h
    · cases h; exact ⟨by simp, by rename_i h; exact h.symm⟩
    · obtain ⟨h1, h2⟩ := ih h; exact ⟨by simp [h1], h2⟩
theorem fnd_none {k : Ky} {L : List Pl} : fnd k L = none ↔ ∀ x ∈ L, key x ≠ k := by
  induction L with
  | nil => simp [fnd]
  | cons y r ih =>
    rw [fnd]
    by_cases h : k = key y
    · rw [if_pos h]; simp [h]
    · rw [if_neg h, ih]
      constructor
      · intro h1 x hx
        rcases List.mem_cons.1 hx with rfl | hx
        · exact fun e => h e.symm
        · exact h1 x hx
      · intro h1 x hx; exact h1 x (by simp [hx])
/-- No key twice. -/
def Uq (L : List Pl) : Prop := (L.map key).Nodup
theorem Uq.inj {L : List Pl} (u : Uq L) {x y : Pl} (hx : x ∈ L) (hy : y ∈ L) (h : key x = key y) : x = y := by
  induction L with
  | nil => cases hx
  | cons z r ih =>
    rw [Uq, List.map_cons, List.nodup_cons] at u
    rcases List.mem_cons.1 hx with rfl | hx'
    · rcases List.mem_cons.1 hy with rfl | hy'
      · rfl
      · exact absurd (show key x ∈ r.map key from List.mem_map.2 ⟨y, hy', h.symm⟩) u.1
    · rcases List.mem_cons.1 hy with rfl | hy'
      · exact absurd (show key y ∈ r.map key from List.mem_map.2 ⟨x, hx', h⟩) u.1
      · exact ih u.2 hx' hy'
theorem fnd_mem {k : Ky} {L : List Pl} (u : Uq L) {x : Pl} (hx : x ∈ L) (h : key x = k) : fnd k L = some x := by
  cases hf : fnd k L with
  | none => exact absurd h (fnd_none.1 hf x hx)
  | some y =>
    obtain ⟨h1, h2⟩ := fnd_some hf
    rw [u.inj h1 hx (h2.trans h.symm)]
theorem fnd_perm {k : Ky} {L M : List Pl} (p : L.Perm M) (u : Uq M) : fnd k L = fnd k M := by
  have u' : Uq L := (p.map key).nodup_iff.2 u
  cases hf : fnd k L with
  | none => exact (fnd_none.2 fun x hx => fnd_none.1 hf x (p.symm.subset hx)).symm
  | some y =>
    obtain ⟨h1, h2⟩ := fnd_some hf
    exact (fnd_mem u (p.subset h1) h2).symm
theorem uq_of {L : List Pl} (s : L.Pairwise lp) : Uq L := by
  rw [Uq, List.Nodup, List.pairwise_map]
  refine s.imp ?_
  intro a b h e
  unfold lp at h
  rw [e] at h
  exact k_irr _ h
theorem lk_fnd (k : Ky) : ∀ (l : List Pl), lk k (l.map pk) = (fnd k l).map fun x => enx (x.2.2.1, x.2.2.2)
  | [] => rfl
  | x :: r => by
    rw [List.map_cons, lk, fnd, show (pk x).1 = key x from rfl]
    by_cases h : k = key x
    · rw [if_pos h, if_pos h]; rfl
    · rw [if_neg h, if_neg h, lk_fnd k r]
/-- One place set, wherever it stands. -/
def put (p : Pl) (l : List Pl) : List Pl := if (fnd (key p) l).isSome then l.map (fun x => if key p = key x then p else x) else l ++ [p]
theorem setL_put (p : Pl) (l : List Pl) : setL (key p) (enx (p.2.2.1, p.2.2.2)) (l.map pk) = (put p l).map pk := by
  unfold setL put
  rw [lk_fnd]
  cases hf : fnd (key p) l with
  | none => simp [pk]
  | some y =>
    simp only [Option.map_some, Option.isSome_some, if_true, List.map_map]
    apply List.map_congr_left
    intro x _
    show (if key p = (pk x).1 then _ else pk x) = pk (if key p = key x then p else x)
    rw [show (pk x).1 = key x from rfl]
    split <;> rfl
theorem delL_del (k : Ky) (l : List Pl) : delL k (l.map pk) = (l.filter fun x => !decide (k = key x)).map pk := by
  unfold delL
  rw [List.filter_map]
  rfl
theorem put_perm {p : Pl} {l m : List Pl} (h : l.Perm m) (u : Uq m) : (put p l).Perm (put p m) := by
  unfold put
  rw [fnd_perm h u]
  split
  · exact h.map _
  · exact h.append_right _
theorem put_set {p : Pl} : ∀ {L : List Pl}, L.Pairwise lp → (put p L).Perm (setP p L)
  | [], _ => by simp [put, fnd, setP]
  | x :: r, s => by
    obtain ⟨s1, s2⟩ := List.pairwise_cons.1 s
    have ih := put_set (p := p) s2
    rw [setP]
    by_cases h : key p = key x
    · rw [if_pos h]
      unfold put
      rw [fnd, if_pos h]
      simp only [Option.isSome_some, if_true, List.map_cons, if_pos h]
      have : r.map (fun y => if key p = key y then p else y) = r := by
        have hh : ∀ y ∈ r, (fun y => if key p = key y then p else y) y = y := by
          intro y hy
          show (if key p = key y then p else y) = y
          rw [if_neg]
          intro e
          have := s1 y hy
          unfold lp at this
          rw [← h, e] at this
          exact k_irr _ this
        rw [List.map_congr_left hh, List.map_id']
      rw [this]
    · rw [if_neg h]
      have hput : put p (x :: r) = x :: put p r := by
        unfold put
        rw [fnd, if_neg h]
        split
        · rw [List.map_cons, if_neg h]
        · rfl
      rw [hput]
      split
      · rename_i hlt
        have hno : fnd (key p) r = none := fnd_none.2 fun y hy e => by
          have := s1 y hy
          unfold lp at this
          rw [e] at this
          exact k_asy hlt this
        have : put p r = r ++ [p] := by unfold put; rw [hno]; rfl
        rw [this]
        exact (List.perm_append_comm (l₁ := x :: r) (l₂ := [p]))
      · exact ih.cons x
theorem mem_setP {p x : Pl} : ∀ {L : List Pl}, x ∈ setP p L → x = p ∨ x ∈ L
  | [], h => by simp [setP] at h; exact .inl h
  | y :: r, h => by
    rw [setP] at h
    split at h
    · rcases List.mem_cons.1 h with h | h
      · exact .inl h
      · exact .inr (by simp [h])
    · split at h
      · rcases List.mem_cons.1 h with h | h
        · exact .inl h
        · exact .inr h
      · rcases List.mem_cons.1 h with h | h
        · exact .inr (by simp [h])
        · exact (mem_setP h).imp id fun h => by simp [h]
theorem setP_srt {p : Pl} : ∀ {L : List Pl}, L.Pairwise lp → (setP p L).Pairwise lp
  | [], _ => by simp [setP]
  | x :: r, s => by
    obtain ⟨s1, s2⟩ := List.pairwise_cons.1 s
    rw [setP]
    split
    · rename_i h
      refine List.pairwise_cons.2 ⟨fun y hy => ?_, s2⟩
      have := s1 y hy
      unfold lp at *; rwa [h]
    · rename_i h
      split
      · rename_i hlt
        refine List.pairwise_cons.2 ⟨fun y hy => ?_, s⟩
        rcases List.mem_cons.1 hy with rfl | hy
        · exact hlt
        · exact k_tr hlt (s1 y hy)
      · rename_i hnl
        refine List.pairwise_cons.2 ⟨fun y hy => ?_, setP_srt s2⟩
        rcases mem_setP hy with rfl | hy
        · rcases k_tot (key y) (key x) with h1 | h1 | h1
          · exact absurd h1 hnl
          · exact absurd h1 h
          · exact h1
        · exact s1 y hy
theorem setP_len {p : Pl} : ∀ (L : List Pl), L.Pairwise lp → (setP p L).length = if (fnd (key p) L).isSome then L.length else L.length + 1
  | L, s => by
    rw [← (put_set s).length_eq]
    unfold put
    split <;> simp
theorem delP_filter {k : Ky} : ∀ {L : List Pl}, L.Pairwise lp → delP k L = L.filter fun x => !decide (k = key x)
  | [], _ => rfl
  | x :: r, s => by
    obtain ⟨s1, s2⟩ := List.pairwise_cons.1 s
    rw [delP, List.filter_cons]
    by_cases h : k = key x
    · rw [if_pos h, if_neg (by simp [h])]
      symm
      rw [List.filter_eq_self]
      intro y hy
      simp only [Bool.not_eq_true', decide_eq_false_iff_not]
      intro e
      have := s1 y hy
      unfold lp at this
      rw [← h, e] at this
      exact k_irr _ this
    · rw [if_neg h, if_pos (by simp [h]), delP_filter s2]
theorem delP_srt {k : Ky} {L : List Pl} (s : L.Pairwise lp) : (delP k L).Pairwise lp := by
  rw [delP_filter s]; exact s.filter _
theorem mem_delP {k : Ky} {x : Pl} {L : List Pl} (s : L.Pairwise lp) (h : x ∈ delP k L) : x ∈ L ∧ key x ≠ k := by
  rw [delP_filter s] at h
  obtain ⟨h1, h2⟩ := List.mem_filter.1 h
  simp only [Bool.not_eq_true', decide_eq_false_iff_not] at h2
  exact ⟨h1, fun e => h2 e.symm⟩
end Go.Proofs.Ythhofmjhnjkcfaa.gr
