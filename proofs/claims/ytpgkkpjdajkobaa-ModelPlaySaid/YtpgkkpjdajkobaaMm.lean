/-
  model: two models side by side, and blocks beside them; plain laws of calls.
-/
import Derived.Test.YtpgkkpjdajkobaaMl
namespace Go.Proofs.Ytpgkkpjdajkobaa.mo
open Go.Proofs.Ytpgkkpjdajkobaa rr
set_option linter.unusedVariables false
set_option linter.unusedSimpArgs false
/-! ### Plain -/
def boundP (N : Nat) (ps : List (List rc.D)) : Prop := ∀ l ∈ ps, l.length ≤ N ∧ ∀ x ∈ l, x.2.1.length ≤ 140737488355328 ∧ x.2.2.length ≤ 140737488355328
theorem boundP.lims {N : Nat} {ps : List (List rc.D)} (b : boundP N ps) (hN : N ≤ 1000000) : ∀ l ∈ ps, lims l := fun l hl => ⟨by have := (b l hl).1; omega, (b l hl).2⟩
theorem boundP.mono {N M : Nat} {ps : List (List rc.D)} (b : boundP N ps) (h : N ≤ M) : boundP M ps := fun l hl => ⟨by have := (b l hl).1; omega, (b l hl).2⟩
theorem bound0 (n : Nat) : boundP 0 (List.replicate n []) := fun l hl => by
  rw [List.eq_of_mem_replicate hl]
  exact ⟨by simp, fun x hx => by simp at hx⟩
theorem doP_bound {N m : Nat} {ps : List (List rc.D)} {x : callT.D} (b : boundP N ps) (hm : x.2.2.1.length ≤ m) (hx : ∀ r ∈ x.2.2.1, r.2.1.length ≤ 140737488355328 ∧ r.2.2.length ≤ 140737488355328) : boundP (N + m) (doP ps x) := by
  unfold doP
  split
  · intro l hl
    rcases List.mem_or_eq_of_mem_set hl with hl | rfl
    · exact ⟨by have := (b l hl).1; omega, (b l hl).2⟩
    · have hg : (ps.getD (Int.toNat x.2.1) []).length ≤ N ∧ ∀ r ∈ ps.getD (Int.toNat x.2.1) [], r.2.1.length ≤ 140737488355328 ∧ r.2.2.length ≤ 140737488355328 := by
        rw [List.getD_eq_getElem?_getD]
        by_cases hi : Int.toNat x.2.1 < ps.length
        · rw [List.getElem?_eq_getElem hi]
          exact b _ (List.getElem_mem hi)
        · rw [List.getElem?_eq_none (by omega)]
          exact ⟨by simp, fun r hr => by simp at hr⟩
      refine ⟨by rw [List.length_append]; have := hg.1; omega, fun r hr => ?_⟩
      rcases List.mem_append.1 hr with hr | hr
      · exact hg.2 r hr
      · exact hx r hr
  · exact b.mono (by omega)
theorem doP_len (ps : List (List rc.D)) (x : callT.D) : (doP ps x).length = ps.length := by
  unfold doP; split <;> simp
/-- What is told looks at one partition alone. -/
theorem tryP_eq {ps qs : List (List rc.D)} {x : callT.D} (hl : ps.length = qs.length) (hg : inP ps x.2.1 → ps.getD (Int.toNat x.2.1) [] = qs.getD (Int.toNat x.2.1) []) : tryP ps x = tryP qs x := by
  have hi : inP ps x.2.1 ↔ inP qs x.2.1 := by unfold inP; rw [hl]
  unfold tryP prodP fetchP
  by_cases h : inP ps x.2.1
  · rw [if_pos h, if_pos h, if_pos (hi.1 h), if_pos (hi.1 h), hg h]
  · rw [if_neg h, if_neg h, if_neg (fun h' => h (hi.2 h')), if_neg (fun h' => h (hi.2 h'))]
theorem try_apart {ps : List (List rc.D)} {x y : callT.D} (h : ¬ @Eq Int x.2.1 y.2.1) : tryP (doP ps x) y = tryP ps y := by
  refine tryP_eq (doP_len _ _) fun hin => ?_
  rw [doP]
  split
  · rename_i hc
    have hx : inP ps x.2.1 := by
      have h2 := hc.2
      rw [tryP, if_pos hc.1, prodP] at h2
      by_cases hp : inP ps x.2.1
      · exact hp
      · rw [if_neg hp] at h2; cases h2
    have hne : Int.toNat x.2.1 ≠ Int.toNat y.2.1 := by
      have h1 := hx.1
      have h2 := hin.1
      intro he
      exact h (by omega)
    rw [List.getD_eq_getElem?_getD, List.getElem?_set_ne hne, ← List.getD_eq_getElem?_getD]
  · rfl
theorem getD_set_ne' {α : Type} {l : List (List α)} {i j : Nat} {v : List α} (h : i ≠ j) : (l.set i v).getD j [] = l.getD j [] := by
  rw [List.getD_eq_getElem?_getD, List.getElem?_set_ne h, ← List.getD_eq_getElem?_getD]
theorem do_apart {ps : List (List rc.D)} {x y : callT.D} (h : ¬ @Eq Int x.2.1 y.2.1) : doP (doP ps x) y = doP (doP ps y) x := by
  have h1 : tryP (doP ps x) y = tryP ps y := try_apart h
  have h2 : tryP (doP ps y) x = tryP ps x := try_apart fun e => h e.symm
  have in_of : ∀ {ps : List (List rc.D)} {z : callT.D}, (@Eq Int z.1 1 ∧ @Eq Int (tryP ps z).1 0) → inP ps z.2.1 := by
    intro ps z hc
    have h2 := hc.2
    rw [tryP, if_pos hc.1, prodP] at h2
    by_cases hp : inP ps z.2.1
    · exact hp
    · rw [if_neg hp] at h2; cases h2
  have g1 : ∀ {ps : List (List rc.D)} {z : callT.D}, doP ps z = if @Eq Int z.1 1 ∧ @Eq Int (tryP ps z).1 0 then ps.set (Int.toNat z.2.1) (ps.getD (Int.toNat z.2.1) [] ++ z.2.2.1) else ps := rfl
  by_cases cx : @Eq Int x.1 1 ∧ @Eq Int (tryP ps x).1 0
  · have ix := in_of cx
    by_cases cy : @Eq Int y.1 1 ∧ @Eq Int (tryP ps y).1 0
    · have iy := in_of cy
      have hne : Int.toNat x.2.1 ≠ Int.toNat y.2.1 := by
        have h1 := ix.1
        have h2 := iy.1
        intro he
        exact h (by omega)
      rw [g1 (ps := doP ps x), h1, if_pos cy, g1 (ps := doP ps y), h2, if_pos cx, g1 (ps := ps) (z := x), if_pos cx, g1 (ps := ps) (z := y), if_pos cy]
      rw [getD_set_ne' hne, getD_set_ne' hne.symm]
      exact List.set_comm _ _ hne
    · rw [g1 (ps := doP ps x), h1, if_neg cy, g1 (ps := ps) (z := y), if_neg cy]
  · rw [g1 (ps := doP ps y), h2, if_neg cx, g1 (ps := ps) (z := x), if_neg cx]
/-! ### Two models -/
section
variable {S : Nat → Prop} {h0 g g' : H} {p q : Nat} {pv qv : Value} {vs ws : List Value} {ps qs : List (List rc.D)} {L : List Nat}
theorem MX.base {h00 : H} (X : MX S h0 g p pv vs ps) (e : Ext h00 h0) : MX S h00 g p pv vs ps :=
  ⟨X.obj, ⟨e.bk X.new.1, X.new.2⟩, X.len, X.pos, OwK.mono X.par fun _ _ _ h => ⟨e.bk h.1, h.2⟩, fun i v l hv hl => (X.lst i v l hv hl).mono fun _ _ _ h => ⟨e.bk h.1, h.2⟩, X.apart⟩
def SS (L : List Nat) (p q : Nat) (pv qv : Value) (vs ws : List Value) (y : Nat) : Prop := MF p pv vs y ∨ MF q qv ws y ∨ y ∈ L
structure M2 (L : List Nat) (h0 g : H) (p q : Nat) (pv qv : Value) (vs ws : List Value) (ps qs : List (List rc.D)) : Prop where
  X : MX (fun y => MF q qv ws y ∨ y ∈ L) h0 g p pv vs ps
  Y : MX (fun y => MF p pv vs y ∨ y ∈ L) h0 g q qv ws qs
  E : Ext h0 g
  T : ∀ y ∈ L, g y ≠ none ∧ h0 y = none
theorem M2.symm (Z : M2 L h0 g p q pv qv vs ws ps qs) : M2 L h0 g q p qv pv ws vs qs ps := ⟨Z.Y, Z.X, Z.E, Z.T⟩
theorem SS.symm {y : Nat} (h : SS L p q pv qv vs ws y) : SS L q p qv pv ws vs y := h.elim (fun h => .inr (.inl h)) fun h => h.elim .inl fun h => .inr (.inr h)
theorem M2.keep (Z : M2 L h0 g p q pv qv vs ws ps qs) {y : Nat} (hy : y ∈ L) : ¬ MF p pv vs y := fun h => (Z.X.own h).2 (.inr hy)
theorem M2.ext (Z : M2 L h0 g p q pv qv vs ws ps qs) (e : Ext g g') : M2 L h0 g' p q pv qv vs ws ps qs :=
  ⟨Z.X.ext e, Z.Y.ext e, Z.E.trans e, fun y hy => ⟨fun hn => (Z.T y hy).1 (e.bk hn), (Z.T y hy).2⟩⟩
theorem M2.new (Z : M2 L h0 g p q pv qv vs ws ps qs) {d : Nat} {o : Obj} (hd : g d = none) (e : Ext g g') (hg : g' d = some o) : M2 (d :: L) h0 g' p q pv qv vs ws ps qs := by
  refine ⟨(Z.X.avoid fun y hy => ?_).ext e, (Z.Y.avoid fun y hy => ?_).ext e, Z.E.trans e, fun y hy => ?_⟩
  · rcases hy with hy | hy
    · exact .inl (.inl hy)
    · rcases List.mem_cons.1 hy with rfl | hy
      · exact .inr hd
      · exact .inl (.inr hy)
  · rcases hy with hy | hy
    · exact .inl (.inl hy)
    · rcases List.mem_cons.1 hy with rfl | hy
      · exact .inr hd
      · exact .inl (.inr hy)
  · rcases List.mem_cons.1 hy with rfl | hy
    · exact ⟨by rw [hg]; simp, Z.E.bk hd⟩
    · exact ⟨fun hn => (Z.T y hy).1 (e.bk hn), (Z.T y hy).2⟩
theorem M2.st (Z : M2 L h0 g p q pv qv vs ws ps qs) {d : Nat} {o : Obj} (hd : d ∈ L) (f : Fr (fun y => y = d) g g') (hg : g' d = some o) : M2 L h0 g' p q pv qv vs ws ps qs := by
  refine ⟨Z.X.fr f fun y hy => .inr (hy ▸ hd), Z.Y.fr f fun y hy => .inr (hy ▸ hd), Ext.step' Z.E f fun y hy => hy ▸ (Z.T d hd).2, fun y hy => ⟨?_, (Z.T y hy).2⟩⟩
  by_cases h : y = d
  · subst h; rw [hg]; simp
  · cases hc : g y with
    | none => exact absurd hc (Z.T y hy).1
    | some o => rw [f y o hc h]; simp
/-- What was told stands: its records lie apart. -/
theorem RepL.mstep {w : Value} {l : List rc.D} {vs' : List Value} (R : RepL (SS L p q pv qv vs ws) rc g w l) (f : Fr (MF p pv vs) g g') (hM : ∀ y, MF p pv vs' y → MF p pv vs y ∨ g y = none) : RepL (SS L p q pv qv vs' ws) rc g' w l := by
  have R1 : RepL (fun y => SS L p q pv qv vs ws y ∨ g y = none) rc g w l := R.mono fun y o hy h => h.elim id fun hn => by rw [hn] at hy; cases hy
  refine (RepL.fr R1 f fun y hy => .inl (.inl hy)).mono fun y o _ h => ?_
  rcases h with h | h | h
  · exact (hM y h).elim (fun h => .inl (.inl h)) .inr
  · exact .inl (.inr (.inl h))
  · exact .inl (.inr (.inr h))
theorem RepL.mnew {w : Value} {l : List rc.D} {d : Nat} (R : RepL (SS L p q pv qv vs ws) rc g w l) (hd : g d = none) (e : Ext g g') : RepL (SS (d :: L) p q pv qv vs ws) rc g' w l := by
  refine RepL.ext (RepL.mono R fun y o hy h => ?_) e
  rcases h with h | h | h
  · exact .inl h
  · exact .inr (.inl h)
  · rcases List.mem_cons.1 h with rfl | h
    · rw [hd] at hy; cases hy
    · exact .inr (.inr h)
theorem RepL.mst {w : Value} {l : List rc.D} {d : Nat} (R : RepL (SS L p q pv qv vs ws) rc g w l) (hd : d ∈ L) (f : Fr (fun y => y = d) g g') : RepL (SS L p q pv qv vs ws) rc g' w l := RepL.fr R f fun y hy => .inr (.inr (hy ▸ hd))
theorem RepL.msymm {w : Value} {l : List rc.D} (R : RepL (SS L p q pv qv vs ws) rc g w l) : RepL (SS L q p qv pv ws vs) rc g w l := RepL.mono R fun y _ _ h => SS.symm h
theorem tryP_put {ps : List (List rc.D)} {x : callT.D} (h : @Eq Int x.1 1) : (tryP ps x).2.2 = [] := by
  rw [tryP, if_pos h, prodP]
  split
  · split <;> rfl
  · rfl
theorem M2.Do {cs : List Value} {x : callT.D} (Z : M2 L h0 g p q pv qv vs ws ps qs) (hx : Rep nos callT g cs x) (hl : lims x.2.2.1) (hps : ∀ l ∈ ps, lims l) :
    Ok Try.prog 10 #[.pointer (some ⟨p, 0, none⟩), .agg cs.toArray] g fun v h' => ∃ a c vs', v = .agg (yCs (tryP ps x) (.slice a (tryP ps x).2.2.length c)).toArray ∧ RepL (SS L p q pv qv vs' ws) rc h' (.slice a (tryP ps x).2.2.length c) (tryP ps x).2.2 ∧
      M2 L h0 h' p q pv qv vs' ws (doP ps x) qs ∧ Fr (MF p pv vs) g h' ∧ (∀ y, MF p pv vs' y → MF p pv vs y ∨ g y = none) := by
  refine (Do_ok Z.X Z.E (fun y hy => hy.elim Z.Y.there fun h => (Z.T y h).1) hx hl hps).mono ?_
  rintro v h' ⟨cs', rfl, ⟨hy, hcs⟩, ⟨vs', X', hM, hvs⟩, f⟩
  have hZ : M2 L h0 h' p q pv qv vs' ws (doP ps x) qs := by
    have Y1 : MX (fun y => MF p pv vs y ∨ MF p pv vs' y ∨ y ∈ L) h0 g q qv ws qs := Z.Y.avoid fun y hy => by
      rcases hy with h | h | h
      · exact .inl (.inl h)
      · exact (hM y h).elim (fun h => .inl (.inl h)) .inr
      · exact .inl (.inr h)
    have Y2 := Y1.fr f fun y hy => .inl hy
    refine ⟨X', Y2.avoid fun y hy => .inl (.inr hy), Ext.step' Z.E f fun y hy => (Z.X.own hy).1, fun y hy => ⟨?_, (Z.T y hy).2⟩⟩
    cases hc : g y with
    | none => exact absurd hc (Z.T y hy).1
    | some o => rw [f y o hc (Z.keep hy)]; simp
  by_cases h1 : @Eq Int x.1 1
  · have h2 := hcs h1
    have h3 := tryP_put (ps := ps) h1
    subst h2
    rw [h3]
    exact ⟨none, 0, vs', rfl, RepL.nil, hZ, f, hM⟩
  · obtain ⟨w, rfl, hyb, how⟩ := hy
    obtain ⟨a, c, rfl⟩ := how.l.len
    obtain rfl := hvs h1
    refine ⟨a, c, vs', rfl, ?_, hZ, f, hM⟩
    refine RepL.mono (how.l.repS fun y hy hn => hn hy) fun y o _ h => ?_
    rcases h with h | h | h
    · exact Z.X.there h
    · exact Z.Y.there h
    · exact (Z.T y h).1
end
end Go.Proofs.Ytpgkkpjdajkobaa.mo
