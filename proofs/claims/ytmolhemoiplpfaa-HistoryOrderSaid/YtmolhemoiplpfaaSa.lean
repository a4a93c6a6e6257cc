/-
  sort: SortFunc.
-/
import Derived.Test.YtmolhemoiplpfaaS9
namespace Go.Proofs.Ytmolhemoiplpfaa.so
open Go.Proofs.Ytmolhemoiplpfaa
set_option linter.unusedVariables false
set_option linter.unusedSimpArgs false
theorem SortF_ok {h : H} {sv : Value} {xs : List Row} (d : DX h h sv xs) (hl : xs.length ≤ 65535) (hd : Dist xs) :
    Ok Try.prog 44 #[sv, lessV] h fun _ h' => ∃ ys, DX h h' sv ys ∧ ys.Perm xs ∧ Srt 0 xs.length ys := by
  obtain ⟨a, c, rfl⟩ := d.ow.s0.len
  refine c44_ok (args := [_, _]) (by simp) ?_
  simp (disch := omega) only [dm_t, wS, simprocAttr, IntKind.bits]
  refine (Len_ok (n := xs.length) (by omega)).k ?_
  rintro _ _ ⟨⟨k, rfl, hk, _⟩, rfl⟩
  have t := Pdq_ih (.slice a xs.length c) (xs.length + 1) 0 xs.length (k : Int) h xs (by omega) d (by omega) (Nat.le_refl _) hl (fun h => absurd h (by omega)) hd (by omega) (by omega)
  simp (disch := omega) only [dm_t, wS, simprocAttr, IntKind.bits]
  refine t.k ?_
  intro v g hS
  obtain ⟨ys, D, R, S⟩ := hS
  simp (disch := omega) only [dm_t, wS, simprocAttr, IntKind.bits]
  exact ⟨ys, D, R.perm, S⟩
/-- Rows that are sorted, and the same but for their places, are the same. -/
theorem sorted_eq {xs ys : List Row} (p : ys.Perm xs) (hx : xs.Pairwise lt) (hy : Srt 0 ys.length ys) : ys = xs := by
  refine List.Perm.eq_of_pairwise (le := fun r s => le r s) ?_ ?_ (hx.imp fun h => le_of_lt h) p
  · intro r s hr hs h1 h2
    obtain ⟨i, hi, rfl⟩ := List.getElem_of_mem (p.subset hr)
    obtain ⟨j, hj, rfl⟩ := List.getElem_of_mem hs
    by_cases hij : i = j
    · subst hij; rfl
    · rcases Nat.lt_or_gt_of_ne hij with h | h
      · exact absurd (List.pairwise_iff_getElem.1 hx i j hi hj h) h2
      · exact absurd (List.pairwise_iff_getElem.1 hx j i hj hi h) h1
  · refine List.pairwise_iff_getElem.2 fun i j hi hj hij => ?_
    have := hy i j (by omega) hij hj
    rwa [gt_of hi, gt_of hj] at this
theorem dist_of {xs : List Row} (hx : xs.Pairwise lt) : Dist xs := hx.imp fun h => .inl h
end Go.Proofs.Ytmolhemoiplpfaa.so
namespace Go.Proofs.Ytmolhemoiplpfaa.so
open Go.Proofs.Ytmolhemoiplpfaa
set_option linter.unusedVariables false
set_option linter.unusedSimpArgs false
theorem splice_all {c : Array Value} {vs : List Value} (hl : vs.length = c.size) : splice c 0 vs = vs.toArray := by
  have h1 := at_splice (c := c) (p := 0) (new := vs) (by omega)
  apply Array.ext'
  apply List.ext_getElem?
  intro i
  rw [Array.getElem?_toList]
  by_cases hi : i < vs.length
  · have := h1 i hi
    rw [Nat.zero_add] at this
    rw [this]; simp [hi]
  · rw [Array.getElem?_eq_none (by rw [size_splice]; omega)]
    simp; omega
theorem VO_it {b : Nat} {s : Value} {rows : List Row} (hgd : ∀ r ∈ rows, Good r) (hl : rows.length ≤ 65535) :
    Rng Try.prog 45 #[.pointer (some ⟨b, 0, none⟩)] rows.length (fun i => [.agg (gt rows i).toArray]) (fun h => h b = some (.cells #[s] 33) ∧ SlK kR nos h s rows) := by
  intro L J Jx h X hJ hE hy h0
  obtain ⟨hb, hsl⟩ := hJ _ _ h0
  obtain ⟨sa, sc, rfl⟩ := hsl.len
  have key : Ok Try.prog 45 #[.func (.yield L) #[] #[], .pointer (some ⟨b, 0, none⟩)] h fun _ h' => J rows.length h' ∨ ∃ i, i < rows.length ∧ Jx (i + 1) h' := by
    refine c45_ok (args := [_, _]) (by simp) ?_
    simp (disch := omega) only [dm_t, wS, simprocAttr, IntKind.bits, cellAt_of hb]
    refine vc_loop1 (fun vi h' => ∃ i : Nat, vi = .int .i64 (i : Int) ∧ i ≤ rows.length ∧ J i h') (fun vi _ => rows.length - m1 vi) ?_ ?_
    · simp (disch := omega) only [dm_t, wS, simprocAttr, IntKind.bits]
      exact ⟨0, rfl, by omega, h0⟩
    rintro _ h1 ⟨i, rfl, hi, hj⟩
    by_cases hil : i < rows.length
    · obtain ⟨hb1, hs1⟩ := hJ _ _ hj
      obtain ⟨pb, po, g1, g2, -, g4⟩ := hs1.row hil .i64
      have hr := hgd _ (gt_mem hil)
      rw [← gt_of hil] at g2 g4
      simp (disch := omega) only [dm_t, wS, simprocAttr, IntKind.bits, g1, g4]
      intro c hc
      simp (disch := omega) only [dm_t, wS, simprocAttr, IntKind.bits]
      refine stn_new hr.len (by rfl) hr.cell ?_
      have g5 : cellsAt (hupd h1 c (.cells (gt rows i).toArray 43)) ⟨c, 0, none⟩ kR = some (gt rows i).toArray := cellsAt_all (hupd_same _ _ _) kR hr.len
      simp (disch := omega) only [dm_t, wS, simprocAttr, IntKind.bits, g5]
      have hj2 : J i (hupd h1 c (.cells (gt rows i).toArray 43)) := hE _ _ _ hj (Ext.new hc _)
      refine (hy i hil _ hj2).k ?_
      rintro (_ | _) h2 hj3
      · simp (disch := omega) only [dm_t, wS, simprocAttr, IntKind.bits]
        exact .inr ⟨i, hil, by simpa using hj3⟩
      · simp (disch := omega) only [dm_t, wS, simprocAttr, IntKind.bits]
        exact ⟨⟨i + 1, by simp, by omega, by simpa using hj3⟩, by simp [m1]; omega⟩
    · obtain rfl : i = rows.length := by omega
      simp (disch := omega) only [dm_t, wS, simprocAttr, IntKind.bits]
      exact .inl hj
  exact key.k fun _ _ h => h
theorem ASeq_ok {g : H} {b : Nat} {s : Value} {rows : List Row} (hb : g b = some (.cells #[s] 33)) (hs : SlK kR nos g s rows) (hgd : ∀ r ∈ rows, Good r) (hl : rows.length ≤ 65535) :
    Ok Try.prog 49 #[.slice none 0 0, .func (.func 45) #[] #[.pointer (some ⟨b, 0, none⟩)]] g fun v g' => OwK kR (fun y => g y = none) g' 43 v rows ∧ Ext g g' := by
  refine c49_ok (args := [_, _]) (by simp) ?_
  simp (disch := omega) only [dm_t, wS, simprocAttr, IntKind.bits]
  intro p hp
  generalize hG : hupd g p _ = g1
  obtain ⟨e1, q1⟩ := new_ext hG hp
  clear hG
  simp (disch := omega) only [dm_t, wS, simprocAttr, IntKind.bits]
  refine vc_rng rfl rfl (VO_it (b := b) (s := s) hgd hl) ?_
    (fun i G => Ext g G ∧ ∃ v, G p = some (.cells #[v] 33) ∧ OwK kR (fun y => g y = none) G 43 v (rows.take i))
    (fun _ => False) (fun _ _ => False) ?_ ?_ ?_ ?_ ?_ ?_ (fun _ h => h.elim) (fun _ _ h => h.elim)
  · rintro h b o hb ⟨h1, h2⟩
    exact ⟨(Ext.new hb o).at h1, h2.ext (Ext.new hb o)⟩
  · rintro i G ⟨e, _⟩
    exact ⟨e.at hb, hs.ext e⟩
  · rintro i h' h'' ⟨e, v, q, o⟩ e2
    exact ⟨e.trans e2, v, e2.at q, o.ext e2⟩
  · exact ⟨e1, _, q1, by simpa using (OwK.nil : OwK kR (fun y => g y = none) g1 43 (.slice none 0 0) [])⟩
  · intro i hi; rfl
  · rintro L i h1 hi ⟨r, hr⟩ ⟨e, v, q, o⟩
    have hgi := hgd _ (gt_mem hi)
    simp (disch := omega) only [dm_t, wS, simprocAttr, IntKind.bits, List.zip_cons_cons, List.zip_nil_right, List.cons_append, List.nil_append]
    intro cb hcb
    have hcL : cb ≠ L := fun h => by subst h; rw [hr] at hcb; cases hcb
    simp (disch := omega) only [dm_t, wS, simprocAttr, IntKind.bits]
    refine stn_new hgi.len (by rfl) hgi.cell ?_
    simp (disch := omega) only [dm_t, wS, simprocAttr, IntKind.bits]
    refine ⟨hupd_ne _ _ hcL.symm, ?_⟩
    have e5 := hdel_mono L (Ext.new hcb (.cells (gt rows i).toArray 43))
    have q0 : hdel (hupd h1 cb (.cells (gt rows i).toArray 43)) L cb = some (.cells (gt rows i).toArray 43) := by
      rw [hdel_hupd_ne hcL, hupd_same]
    generalize hdel (hupd h1 cb (.cells (gt rows i).toArray 43)) L = G at e5 q0 ⊢
    have qG := e5.at q
    have oG := o.ext e5
    have eG := e.trans e5
    have xa : cellsAt G ⟨cb, 0, none⟩ kR = some (gt rows i).toArray := cellsAt_all q0 kR hgi.len
    simp (disch := omega) only [dm_t, wS, simprocAttr, IntKind.bits, cellAt_of qG, xa]
    rw [if_pos (show (gt rows i).length = 11 from hgi.len), splice_all hgi.len]
    simp (disch := omega) only [dm_t, wS, simprocAttr, IntKind.bits]
    refine pushk (row := gt rows i) oG (fun y hy => eG.bk hy) hgi.len (by rfl) hgi.cell (by rw [List.length_take]; omega) (by rw [List.length_take]; omega) ?_
    intro b2 v2 G2 hb2 o2 f2 hat2
    have E2 : Ext g G2 := Ext.step eG f2
    have hpv : ¬ isAt v p := oG.tyno qG (by decide)
    have q2 : G2 p = some (.cells #[v] 33) := f2 _ _ qG fun h => hpv h.2
    have hpv2 : ¬ isAt v2 p := fun h => (hat2 p h).elim hpv fun h => by rw [h] at qG; cases qG
    simp (disch := omega) only [dm_t, wS, simprocAttr, IntKind.bits, storeH_0 q2]
    obtain ⟨va, vz, rfl⟩ := o2.s0.len
    refine ⟨rfl, ?_⟩
    have htk : rows.take (i + 1) = rows.take i ++ [gt rows i] := by rw [gt_of hi]; simp
    rw [htk]
    generalize hG3 : hupd G2 p _ = G3
    have f3 : Fr (fun y => y = p) G2 G3 := hG3 ▸ Fr.upd (S := fun y => y = p) rfl _
    have q3 := hG3 ▸ hupd_same G2 p (.cells #[.slice va (rows.take i ++ [gt rows i]).length vz] 33)
    have E3 : Ext g G3 := Ext.step' E2 f3 fun y hy => by rw [hy]; exact hp
    have o3 := OwK.fr o2 f3 fun y hy _ h => hpv2 (hy ▸ h)
    exact fun _ => ⟨E3, _, q3, o3⟩
  · rintro g2 ⟨e, v, q, o⟩
    rw [List.take_length] at o
    simp (disch := omega) only [dm_t, wS, simprocAttr, IntKind.bits, cellAt_of q]
    exact ⟨o, e⟩
theorem Coll_ok {g : H} {b : Nat} {s : Value} {rows : List Row} (hb : g b = some (.cells #[s] 33)) (hs : SlK kR nos g s rows) (hgd : ∀ r ∈ rows, Good r) (hl : rows.length ≤ 65535) :
    Ok Try.prog 43 #[.func (.func 45) #[] #[.pointer (some ⟨b, 0, none⟩)]] g fun v g' => OwK kR (fun y => g y = none) g' 43 v rows ∧ Ext g g' := by
  refine c43_ok (args := [_]) (by simp) ?_
  simp (disch := omega) only [dm_t, wS, simprocAttr, IntKind.bits]
  refine (ASeq_ok hb hs hgd hl).k ?_
  rintro v g1 ⟨o1, e1⟩
  simp (disch := omega) only [dm_t, wS, simprocAttr, IntKind.bits]
  exact ⟨o1, e1⟩
theorem Values_ok (g : H) (a : Option Addr) (n c : Nat) : Ok Try.prog 35 #[.slice a n c] g fun v g' => ∃ b, v = .func (.func 45) #[] #[.pointer (some ⟨b, 0, none⟩)] ∧ g' b = some (.cells #[.slice a n c] 33) ∧ Ext g g' := by
  refine c35_ok (args := [_]) (by simp) ?_
  simp (disch := omega) only [dm_t, wS, simprocAttr, IntKind.bits]
  intro b hb
  generalize hG : hupd g b _ = g1
  obtain ⟨e1, q1⟩ := new_ext hG hb
  clear hG
  exact ⟨b, rfl, q1, e1⟩
/-- The rows of a sequence, sorted. -/
theorem SortedF_ok {g : H} {b : Nat} {s : Value} {rows zs : List Row} (hb : g b = some (.cells #[s] 33)) (hs : SlK kR nos g s rows) (hgd : ∀ r ∈ rows, Good r) (hl : rows.length ≤ 65535) (hz : zs.Pairwise lt) (hp : zs.Perm rows) :
    Ok Try.prog 34 #[.func (.func 45) #[] #[.pointer (some ⟨b, 0, none⟩)], lessV] g fun v g' => OwK kR (fun y => g y = none) g' 43 v zs ∧ Ext g g' := by
  refine c34_ok (args := [_, _]) (by simp) ?_
  simp (disch := omega) only [dm_t, wS, simprocAttr, IntKind.bits]
  refine (Coll_ok hb hs hgd hl).k ?_
  rintro v g1 ⟨o1, e1⟩
  simp (disch := omega) only [dm_t, wS, simprocAttr, IntKind.bits]
  have d : DX g1 g1 v rows := ⟨o1.mono fun _ _ _ _ => trivial, hgd, Fr.refl _ _⟩
  refine (SortF_ok d hl ((dist_of hz).perm hp.symm)).k ?_
  rintro w g2 ⟨ys, D, P, S⟩
  have hys : ys = zs := sorted_eq (P.trans hp.symm) hz (by rw [P.length_eq]; exact S)
  subst hys
  simp (disch := omega) only [dm_t, wS, simprocAttr, IntKind.bits]
  refine ⟨?_, Ext.step' e1 D.fr fun y hy => o1.own hy⟩
  obtain ⟨hr, h | ⟨b, o, cp, c, fr, h1, h2, h3, h4, h5, h6, h7⟩⟩ := D.ow
  · exact ⟨hr, .inl h⟩
  · exact ⟨hr, .inr ⟨b, o, cp, c, fr, h1, h2, h3, h4, h5, o1.own ⟨_, _, _, h1⟩, h7⟩⟩
end Go.Proofs.Ytmolhemoiplpfaa.so
