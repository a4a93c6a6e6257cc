/-
  groups: Fold.
-/
import Derived.Test.YthhofmjhnjkcfaaGi
namespace Go.Proofs.Ythhofmjhnjkcfaa.gr
open Go.Proofs.Ythhofmjhnjkcfaa wi
set_option linter.unusedVariables false
set_option linter.unusedSimpArgs false
/-- What is no row of cells belongs to no data. -/
theorem SlK.oldM {k : Nat} {S T : Nat → Prop} {h : H} {v : Value} {rows : List (List Value)} (s : SlK k S h v rows) (ht : ∀ x, T x → ∀ c E fr, h x ≠ some (.cells c E fr)) : SlK k T h v rows := by
  obtain ⟨hr, s | ⟨b, o, cp, c, E, fr, h1, h2, h3, h4, h5, h6⟩⟩ := s
  · exact ⟨hr, .inl s⟩
  · exact ⟨hr, .inr ⟨b, o, cp, c, E, fr, h1, h2, h3, h4, h5, fun hx => ht b hx _ _ _ h2⟩⟩
theorem Rep.oldM {t : Ty} {S T : Nat → Prop} : ∀ {h : H} {cs : List Value} {x : t.D}, Rep S t h cs x → (∀ x, T x → ∀ c E fr, h x ≠ some (.cells c E fr)) → Rep T t h cs x := by
  induction t with
  | int k => intro h cs x r hs; exact r
  | byte => intro h cs x r hs; exact r
  | bool => intro h cs x r hs; exact r
  | str => intro h cs x r hs; exact r
  | flt => intro h cs x r hs; exact r
  | sl t ih =>
    intro h cs x r hs
    obtain ⟨v, rows, h1, h2, h3, h4⟩ := r
    exact ⟨v, rows, h1, SlK.oldM h2 hs, h3, fun i r x hr hx => ih (h4 i r x hr hx) hs⟩
  | pair a b iha ihb =>
    intro h cs x r hs
    obtain ⟨c, d, h1, h2, h3⟩ := r
    exact ⟨c, d, h1, iha h2 hs, ihb h3 hs⟩
section
variable {h h' g : H} {b m : Nat} {L : List Pl}
theorem GB.noc (G : GB h b m L) : ∀ x, x = m → ∀ c E fr, h x ≠ some (.cells c E fr) := fun x hx c E fr hc => G.nocell hc hx
/-- Data stay while the map turns. -/
theorem GB.rep (G : GB h b m L) {S : Nat → Prop} {t : Ty} {v : Value} {l : List t.D} (r : RepL S t h v l) (f : Fr (fun y => y = m) h h') : RepL nos t h' v l :=
  RepL.mono (RepL.fr (show RepL (fun y => y = m) t h v l from Rep.oldM r G.noc) f fun _ h => h) fun _ _ _ h => h.elim
end
/-- What Fold makes. -/
def foldG : List Pl → List rc.D → Nat → List Pl × Nat × Int
  | L, [], n => (L, n, 0)
  | L, x :: r, n =>
    if rdE x ≠ 0 then foldG L r (n + 1)
    else if rdS x = false then foldG (letR L (key (rdP x))) r (n + 1)
    else if setE L (rdP x) = 0 then foldG (setR L (rdP x)) r (n + 1) else (L, n, setE L (rdP x))
theorem foldG_ok {L L' : List Pl} {l : List rc.D} {n k : Nat} : foldG L l n = (L', k, 0) → k = n + l.length := by
  induction l generalizing L n with
  | nil => intro h; simp only [foldG, Prod.mk.injEq] at h; rw [← h.2.1]; rfl
  | cons x r ih =>
    intro h
    rw [foldG] at h
    split at h
    · rw [ih h, List.length_cons]; omega
    · split at h
      · rw [ih h, List.length_cons]; omega
      · split at h
        · rw [ih h, List.length_cons]; omega
        · rename_i hne
          simp only [Prod.mk.injEq] at h
          exact absurd h.2.2 hne
theorem rdOk.rd {x : rc.D} (h : rdE x = 0) : rdOk x := by
  by_cases hx : rdOk x
  · exact hx
  · rw [rdE, if_neg hx] at h; cases h
theorem rdP_len (x : rc.D) (hl : x.2.1.length ≤ 140737488351232) : (rdP x).1.length ≤ 140737488351232 := by
  unfold rdP
  split
  · show (x.2.1.take _).length ≤ _
    rw [List.length_take]; omega
  · simp
theorem Fold_ok {S : Nat → Prop} {h : H} {b m : Nat} {L : List Pl} (G : GB h b m L) {sv' : Value} {l : List rc.D} (hs : RepL S rc h sv' l) (hl : l.length ≤ 1000000) (hk : ∀ x ∈ l, x.2.1.length ≤ 140737488351232) :
    Ok Try.prog 21 #[.pointer (some ⟨b, 0, none⟩), sv'] h fun v h' => v = .tuple #[.int .i64 ((foldG L l 0).2.1 : Int), .int .i64 (foldG L l 0).2.2] ∧ GB h' b m (foldG L l 0).1 ∧ Fr (fun y => y = m) h h' := by
  obtain ⟨sa, sn, rfl⟩ := hs.len
  refine c21_ok (args := [_, _]) (by simp) ?_
  simp (disch := omega) only [dm_t, wS, simprocAttr, IntKind.bits]
  refine (none_ok G).k ?_
  rintro _ _ ⟨rfl, rfl⟩
  simp (disch := omega) only [dm_t, wS, simprocAttr, IntKind.bits]
  refine vc_loop1 (fun vi g => ∃ (i : Nat) (M : List Pl), vi = .int .i64 (i : Int) ∧ i ≤ l.length ∧ GB g b m M ∧ Fr (fun y => y = m) h g ∧ foldG M (l.drop i) i = foldG L l 0) (fun vi _ => l.length - m1 vi) ?_ ?_
  · simp (disch := omega) only [dm_t, wS, simprocAttr, IntKind.bits]
    exact ⟨0, L, rfl, by omega, G, Fr.refl _ _, by simp⟩
  rintro _ g ⟨i, M, rfl, hi, GM, f, hfo⟩
  by_cases hil : i < l.length
  rotate_left
  · obtain rfl : i = l.length := by omega
    rw [List.drop_eq_nil_of_le (by omega), foldG] at hfo
    rw [← hfo]
    simp (disch := omega) only [dm_t, wS, simprocAttr, IntKind.bits]
    exact ⟨GM, f⟩
  rw [List.drop_eq_getElem_cons hil, foldG] at hfo
  have hki := hk l[i] (List.getElem_mem hil)
  have hsg := G.rep hs f
  generalize hx : l[i] = x at *
  simp (disch := omega) only [dm_t, wS, simprocAttr, IntKind.bits]
  refine hsg.at sz_rc i rfl hil ?_
  intro pb po cs g1 g2 g3
  rw [hx] at g3
  simp (disch := omega) only [dm_t, wS, simprocAttr, IntKind.bits, g1]
  intro c hc
  simp (disch := omega) only [dm_t, wS, simprocAttr, IntKind.bits]
  refine stn_new (g3.len.trans sz_rc) (by rfl) g3.cells ?_
  generalize hG : hupd g c _ = G1
  obtain ⟨e1, qc⟩ := new_ext hG hc
  clear hG
  have kc : cellsAt G1 ⟨c, 0, none⟩ 3 = some cs.toArray := cellsAt_all qc 3 (g3.len.trans sz_rc)
  simp (disch := omega) only [dm_t, wS, simprocAttr, IntKind.bits, kc]
  refine (Read_ok (g3.ext e1) hki).k ?_
  rintro _ G2 ⟨rfl, e2⟩
  simp (disch := omega) only [dm_t, wS, simprocAttr, IntKind.bits]
  intro q hq
  simp (disch := omega) only [dm_t, wS, simprocAttr, IntKind.bits]
  refine storeH_all (hupd_same _ _ _) rfl rfl ?_
  rw [hupd_hupd]
  generalize hG : hupd G2 q _ = G3
  obtain ⟨e3, q3⟩ := new_ext hG hq
  clear hG
  have E3 := (e1.trans e2).trans e3
  have GM3 := GM.ext E3
  have F3 : Fr (fun y => y = m) h G3 := f.trans (E3.mono fun _ h => h.elim)
  have hpl := rdP_len x hki
  have k4 : cellsAt G3 ⟨q, 0, none⟩ 4 = some (pCs (rdP x)).toArray := cellsAt_all q3 4 rfl
  have c0 : cellAt G3 ⟨q, 0, none⟩ = some (sv (rdP x).1) := by rw [cellAt_of q3]; rfl
  have c1 : cellAt G3 ⟨q, 1, none⟩ = some (.int .i64 (rdP x).2.1) := by rw [cellAt_of q3]; rfl
  by_cases he : rdE x = 0
  · rw [if_neg (by simp [he])] at hfo
    rw [he]
    cases hst : rdS x with
    | false =>
      rw [if_pos hst] at hfo
      simp (disch := omega) only [dm_t, wS, simprocAttr, IntKind.bits, c0, c1]
      refine (Let_ok GM3 (key (rdP x)) (Nat.le_trans hpl (by decide))).k ?_
      rintro _ G4 ⟨rfl, GM4, f4⟩
      simp (disch := omega) only [dm_t, wS, simprocAttr, IntKind.bits]
      exact ⟨⟨i + 1, _, by simp, by omega, GM4, F3.trans f4, hfo⟩, by simp [m1]; omega⟩
    | true =>
      rw [if_neg (by rw [hst]; simp)] at hfo
      simp (disch := omega) only [dm_t, wS, simprocAttr, IntKind.bits, k4]
      refine (Set_ok GM3 (rdP x) (Nat.le_trans hpl (by decide))).k ?_
      rintro _ G4 ⟨rfl, GM4, f4⟩
      by_cases hse : setE M (rdP x) = 0
      · rw [if_pos hse] at hfo
        rw [hse]
        simp (disch := omega) only [dm_t, wS, simprocAttr, IntKind.bits]
        exact ⟨⟨i + 1, _, by simp, by omega, GM4, F3.trans f4, hfo⟩, by simp [m1]; omega⟩
      · rw [if_neg hse] at hfo
        have hR : setR M (rdP x) = M := if_neg hse
        rw [hR] at GM4
        simp (disch := omega) only [dm_t, wS, simprocAttr, IntKind.bits]
        rw [← hfo]
        exact ⟨rfl, GM4, F3.trans f4⟩
  · rw [if_pos he] at hfo
    simp (disch := omega) only [dm_t, wS, simprocAttr, IntKind.bits]
    exact ⟨⟨i + 1, M, by simp, by omega, GM3, F3, hfo⟩, by simp [m1]; omega⟩
end Go.Proofs.Ythhofmjhnjkcfaa.gr
