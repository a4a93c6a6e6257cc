/-
  groups: the groups' object: New, Len, Set, Let, At.
-/
import Derived.Test.YthhofmjhnjkcfaaGh
namespace Go.Proofs.Ythhofmjhnjkcfaa.gr
open Go.Proofs.Ythhofmjhnjkcfaa wi
open Go.Proofs.Ythhofmjhnjkcfaa.so (kLt k_irr k_tr k_asy k_tot k_ntr)
set_option linter.unusedVariables false
set_option linter.unusedSimpArgs false
structure GB (h : H) (b m : Nat) (L : List Pl) : Prop where
  obj : h b = some (.cells #[.map (some m)] 96)
  mo : ∃ kl : List Pl, MO enk h m (kl.map pk) ∧ kl.Perm L
  srt : L.Pairwise lp
  may : ∀ p ∈ L, mayP p = true
  len : L.length ≤ 4096
section
variable {h h' g : H} {b m : Nat} {L : List Pl}
theorem GB.fr {T : Nat → Prop} (G : GB h b m L) (f : Fr T h h') (hb : ¬ T b) (hm : ¬ T m) : GB h' b m L := by
  obtain ⟨kl, h1, h2⟩ := G.mo
  exact ⟨f _ _ G.obj hb, ⟨kl, h1.fr f hm, h2⟩, G.srt, G.may, G.len⟩
theorem GB.ext (G : GB h b m L) (e : Ext h h') : GB h' b m L := G.fr e id id
theorem GB.nb (G : GB h b m L) : h b ≠ none := by rw [G.obj]; simp
theorem GB.nm (G : GB h b m L) : h m ≠ none := by obtain ⟨kl, h1, _⟩ := G.mo; exact h1.there
theorem GB.ne (G : GB h b m L) : b ≠ m := by
  rintro rfl
  obtain ⟨kl, h1, _⟩ := G.mo
  exact h1.nocell G.obj
theorem GB.nocell (G : GB h b m L) {c : Array Value} {E : TypeId} {fr : Nat × Nat} {y : Nat} (hy : h y = some (.cells c E fr)) : y ≠ m := by
  rintro rfl
  obtain ⟨kl, h1, _⟩ := G.mo
  exact h1.nocell hy
theorem GB.cell (G : GB h b m L) : cellAt h ⟨b, 0, none⟩ = some (.map (some m)) := by rw [cellAt_of G.obj]; rfl
/-- There are none. -/
def NoG (h : H) (v : Value) : Prop := v = .pointer none ∨ ∃ b, v = .pointer (some ⟨b, 0, none⟩) ∧ h b = some (.cells #[.map none] 96)
theorem NoG.ext {v : Value} (r : NoG h v) (e : Ext h h') : NoG h' v := r.imp id fun ⟨b, h1, h2⟩ => ⟨b, h1, e.at h2⟩
theorem none_ok (G : GB h b m L) : Ok Try.prog 49 #[.pointer (some ⟨b, 0, none⟩)] h fun v h' => v = .bool false ∧ h = h' := by
  refine c49_ok (args := [_]) (by simp) ?_
  simp (disch := omega) only [dm_t, wS, simprocAttr, IntKind.bits, G.cell]
theorem none_no {v : Value} (r : NoG h v) : Ok Try.prog 49 #[v] h fun v h' => v = .bool true ∧ h = h' := by
  rcases r with rfl | ⟨b, rfl, r⟩
  · refine c49_ok (args := [_]) (by simp) ?_
    simp (disch := omega) only [dm_t, wS, simprocAttr, IntKind.bits]
  · refine c49_ok (args := [_]) (by simp) ?_
    simp (disch := omega) only [dm_t, wS, simprocAttr, IntKind.bits, cellAt_of r]
theorem GNew_ok (h : H) : Ok Try.prog 19 #[] h fun v h' => ∃ b m, v = .pointer (some ⟨b, 0, none⟩) ∧ h b = none ∧ h m = none ∧ GB h' b m [] ∧ Ext h h' := by
  refine c19_ok (args := []) (by simp) ?_
  simp (disch := omega) only [dm_t, wS, simprocAttr, IntKind.bits]
  refine raw_mkmap ?_
  intro m hm
  simp (disch := omega) only [dm_t, wS, simprocAttr, IntKind.bits]
  intro b hb
  have e := Ext.new hm (.map #[] 0)
  have e2 := Ext.new hb (.cells #[.map (some m)] 96)
  exact ⟨b, m, rfl, e.bk hb, hm, ⟨hupd_same _ _ _, ⟨[], (MO.new (enc := enk)).ext e2, List.Perm.refl _⟩, List.Pairwise.nil, by simp, by simp⟩, e.trans e2⟩
theorem Len_ok (G : GB h b m L) : Ok Try.prog 22 #[.pointer (some ⟨b, 0, none⟩)] h fun v h' => v = .int .i64 (L.length : Int) ∧ h = h' := by
  refine c22_ok (args := [_]) (by simp) ?_
  obtain ⟨kl, h1, h2⟩ := G.mo
  simp (disch := omega) only [dm_t, wS, simprocAttr, IntKind.bits]
  refine (none_ok G).k ?_
  rintro _ _ ⟨rfl, rfl⟩
  simp (disch := omega) only [dm_t, wS, simprocAttr, IntKind.bits, G.cell]
  refine raw_lenm Try.underlying94 rfl h1 ?_
  simp (disch := omega) only [dm_t, wS, simprocAttr, IntKind.bits]
  rw [List.length_map, h2.length_eq]
theorem Len_no {v : Value} (r : NoG h v) : Ok Try.prog 22 #[v] h fun v h' => v = .int .i64 0 ∧ h = h' := by
  refine c22_ok (args := [_]) (by simp) ?_
  simp (disch := omega) only [dm_t, wS, simprocAttr, IntKind.bits]
  refine (none_no r).k ?_
  rintro _ _ ⟨rfl, rfl⟩
  simp (disch := omega) only [dm_t, wS, simprocAttr, IntKind.bits]
/-- What Set answers, and makes. -/
def setE (L : List Pl) (p : Pl) : Int := if mayP p = true then (if (fnd (key p) L).isNone = true ∧ L.length = 4096 then 6 else 0) else 2
def setR (L : List Pl) (p : Pl) : List Pl := if setE L p = 0 then setP p L else L
theorem Set_ok (G : GB h b m L) (p : Pl) (hp : p.1.length ≤ 9223372036854775807) : Ok Try.prog 20 #[.pointer (some ⟨b, 0, none⟩), .agg (pCs p).toArray] h fun v h' => v = .int .i64 (setE L p) ∧ GB h' b m (setR L p) ∧ Fr (fun y => y = m) h h' := by
  refine c20_ok (args := [_, _]) (by simp) ?_
  simp (disch := omega) only [dm_t, wS, simprocAttr, IntKind.bits]
  intro q hq
  generalize hG : hupd h q _ = g1
  obtain ⟨e1, q1⟩ := new_ext hG hq
  clear hG
  have G1 := G.ext e1
  simp (disch := omega) only [dm_t, wS, simprocAttr, IntKind.bits]
  refine (none_ok G1).k ?_
  rintro _ _ ⟨rfl, rfl⟩
  simp (disch := omega) only [dm_t, wS, simprocAttr, IntKind.bits, cellsAt_all q1 4 rfl]
  refine (may_ok g1 p hp).k ?_
  rintro _ g2 ⟨rfl, e2⟩
  have G2 := G1.ext e2
  have q2 := e2.at q1
  cases hm : mayP p with
  | false =>
    simp (disch := omega) only [dm_t, wS, simprocAttr, IntKind.bits]
    have hE : setE L p = 2 := by rw [setE, if_neg (by rw [hm]; simp)]
    rw [setR, hE, if_neg (by decide)]
    exact ⟨rfl, G2, (e1.trans e2).mono fun _ h => h.elim⟩
  | true =>
  have c0 : ∀ G, Ext g2 G → cellAt G ⟨q, 0, none⟩ = some (sv p.1) := fun G e => by rw [cellAt_of (e.at q2)]; rfl
  have c1 : ∀ G, Ext g2 G → cellAt G ⟨q, 1, none⟩ = some (.int .i64 p.2.1) := fun G e => by rw [cellAt_of (e.at q2)]; rfl
  have c2 : ∀ G, Ext g2 G → cellAt G ⟨q, 2, none⟩ = some (.int .i64 p.2.2.1) := fun G e => by rw [cellAt_of (e.at q2)]; rfl
  have c3 : ∀ G, Ext g2 G → cellAt G ⟨q, 3, none⟩ = some (.int .i64 p.2.2.2) := fun G e => by rw [cellAt_of (e.at q2)]; rfl
  have er := Ext.refl g2
  simp (disch := omega) only [dm_t, wS, simprocAttr, IntKind.bits, c0 _ er, c1 _ er]
  intro k hk
  simp (disch := omega) only [dm_t, wS, simprocAttr, IntKind.bits]
  refine storeH_all (hupd_same _ _ _) rfl rfl ?_
  rw [hupd_hupd]
  generalize hG : hupd g2 k _ = g3
  obtain ⟨e3, q3⟩ := new_ext hG hk
  clear hG
  have k3 : ∀ G, Ext g3 G → cellsAt G ⟨k, 0, none⟩ 2 = some #[sv p.1, .int .i64 p.2.1] := fun G e => cellsAt_all (e.at q3) 2 rfl
  have G3 := G2.ext e3
  have er3 := Ext.refl g3
  have kf := fun (kl : List Pl) (h : kl.Perm L) => (fnd_perm h (uq_of G.srt) : fnd (key p) kl = fnd (key p) L)
  obtain ⟨kl, M3, hp3⟩ := G3.mo
  have hlk : lk (key p) (kl.map pk) = (fnd (key p) L).map fun x => enx (x.2.2.1, x.2.2.2) := by rw [lk_fnd, kf kl hp3]
  have hi : Try.prog.info? 100 = some ((Try.prog.info? 100).getD default) := by kernel_rfl
  have hz : ((Try.prog.info? 100).getD default).zero = some (enx (0, 0)) := by kernel_rfl
  obtain ⟨vx, hvx⟩ : ∃ vx, ((fnd (key p) L).map fun x => enx (x.2.2.1, x.2.2.2)).getD (enx (0, 0)) = vx := ⟨_, rfl⟩
  have hvx2 : ∃ a b : Int, vx = .agg #[.int .i64 a, .int .i64 b] := by
    cases hf : fnd (key p) L with
    | none => rw [hf] at hvx; exact ⟨0, 0, hvx.symm⟩
    | some y => rw [hf] at hvx; exact ⟨_, _, hvx.symm⟩
  obtain ⟨va, vb, rfl⟩ := hvx2
  have hsome : ((fnd (key p) L).map fun x => enx (x.2.2.1, x.2.2.2)).isSome = (fnd (key p) L).isSome := by cases fnd (key p) L <;> rfl
  have hs12 : (if mayP p = true then (0 : Int) else 1) = 0 := if_pos hm
  have hset : setE L p = if (fnd (key p) L).isNone = true ∧ L.length = 4096 then 6 else 0 := by rw [setE, if_pos hm]
  have upd : ∀ g6, Ext g3 g6 → setE L p = 0 → vc Try.prog c20_s4 (retQ [4] (okR fun v h' => v = .int .i64 (setE L p) ∧ GB h' b m (setR L p) ∧ Fr (fun y => y = m) h h')) [(0, .pointer (some ⟨b, 0, none⟩)), (3, .pointer (some ⟨q, 0, none⟩)), (5, .pointer (some ⟨k, 0, none⟩))] g6 := by
    intro g6 e6 hE
    have G6 := G3.ext e6
    have M6 := M3.ext e6
    have e26 := e3.trans e6
    simp (disch := omega) only [dm_t, wS, simprocAttr, IntKind.bits, G6.cell, k3 _ e6, c2 _ e26, c3 _ e26]
    refine raw_update (key := key p) (val := enx (p.2.2.1, p.2.2.2)) keyT Try.underlying94 rfl rfl rfl M6 ?_
    intro g7 M7 f7
    rw [setL_put] at M7
    have hperm : (put p kl).Perm (setP p L) := (put_perm hp3 (uq_of G.srt)).trans (put_set G.srt)
    have hlen := setP_len (p := p) L G.srt
    have hle := G.len
    have G7 : GB g7 b m (setP p L) := by
      refine ⟨f7 _ _ G6.obj G6.ne, ⟨put p kl, M7, hperm⟩, setP_srt G.srt, fun x hx => ?_, ?_⟩
      · rcases mem_setP hx with rfl | hx
        · exact hm
        · exact G.may x hx
      · rw [hlen]
        split
        · exact hle
        · rename_i hf
          rw [hset] at hE
          split at hE
          · cases hE
          · rename_i hn
            have h1 : (fnd (key p) L).isNone = true := by
              cases hx : fnd (key p) L with
              | none => rfl
              | some y => exact absurd (by rw [hx]; rfl) hf
            have h2 : L.length ≠ 4096 := fun h => hn ⟨h1, h⟩
            omega
    have F7 : Fr (fun y => y = m) h g7 := (((((e1.trans e2).trans e3).trans e6).mono fun _ h => h.elim)).trans f7
    have qq := f7 _ _ (e26.at q2) (G6.nocell (e26.at q2))
    have qk := f7 _ _ (e6.at q3) (G6.nocell (e6.at q3))
    have d2 : cellAt g7 ⟨q, 2, none⟩ = some (.int .i64 p.2.2.1) := by rw [cellAt_of qq]; rfl
    have d3 : cellAt g7 ⟨q, 3, none⟩ = some (.int .i64 p.2.2.2) := by rw [cellAt_of qq]; rfl
    have dk : cellsAt g7 ⟨k, 0, none⟩ 2 = some #[sv p.1, .int .i64 p.2.1] := cellsAt_all qk 2 rfl
    have hR : setR L p = setP p L := if_pos hE
    rw [hE, hR]
    simp (disch := omega) only [dm_t, wS, simprocAttr, IntKind.bits, G7.cell, d2, d3, dk]
    exact ⟨G7, F7⟩
  have cont : ∀ g6, Ext g3 g6 → vc Try.prog c20_s3 (seqQ Try.prog [0, 3, 5] c20_s4 (retQ [4] (okR fun v h' => v = .int .i64 (setE L p) ∧ GB h' b m (setR L p) ∧ Fr (fun y => y = m) h h'))) [(0, .pointer (some ⟨b, 0, none⟩)), (3, .pointer (some ⟨q, 0, none⟩)), (5, .pointer (some ⟨k, 0, none⟩)), (7, .bool (fnd (key p) L).isSome)] g6 := by
    intro g6 e6
    have G6 := G3.ext e6
    cases hf : fnd (key p) L with
    | some y =>
      have hE : setE L p = 0 := by rw [hset, hf]; simp
      have kk := upd g6 e6 hE
      rw [hf] at *
      simp (disch := omega) only [dm_t, wS, simprocAttr, IntKind.bits, kk]
    | none =>
      have M6 := M3.ext e6
      have hkl : (kl.map pk).length = L.length := by rw [List.length_map, hp3.length_eq]
      have hle := G.len
      have F6 : Fr (fun y => y = m) h g6 := (((e1.trans e2).trans e3).trans e6).mono fun _ h => h.elim
      simp (disch := omega) only [dm_t, wS, simprocAttr, IntKind.bits, G6.cell]
      refine raw_lenm Try.underlying94 rfl M6 ?_
      rw [hkl]
      by_cases hl : L.length = 4096
      · have hE : setE L p = 6 := by rw [hset, hf]; exact if_pos ⟨rfl, hl⟩
        have hR : setR L p = L := if_neg (by rw [hE]; decide)
        have hl' : (L.length : Int) = 4096 := by omega
        rw [hE, hR]
        simp (disch := omega) only [dm_t, wS, simprocAttr, IntKind.bits, hl']
        exact ⟨G6, F6⟩
      · have hE : setE L p = 0 := by rw [hset]; exact if_neg fun h => hl h.2
        have kk := upd g6 e6 hE
        have hl' : ¬ (L.length : Int) = 4096 := by omega
        simp (disch := omega) only [dm_t, wS, simprocAttr, IntKind.bits, kk]
  simp (disch := omega) only [dm_t, wS, simprocAttr, IntKind.bits, G3.cell, k3 _ er3]
  refine ⟨?_, ?_⟩
  · refine raw_lookup (key := key p) keyT Try.underlying94 hi hz rfl rfl M3 ?_
    rw [hlk, hvx, hsome]
    simp (disch := omega) only [dm_t, wN, simprocAttr, IntKind.bits, G3.cell, k3 _ er3]
    intro d hd
    generalize hG : hupd g3 d _ = g6
    obtain ⟨e6, q6⟩ := new_ext hG hd
    clear hG
    simp (disch := omega) only [dm_t, wN, simprocAttr, IntKind.bits, (G3.ext e6).cell, k3 _ e6]
    refine storeH_all q6 rfl rfl ?_
    generalize hG : hupd g6 d _ = g7
    have f7 : Fr (fun y => y = d) g6 g7 := hG ▸ Fr.upd (S := fun y => y = d) rfl _
    have e7 : Ext g3 g7 := Ext.step' e6 f7 fun y hy => by rw [hy]; exact hd
    clear hG
    simp (disch := omega) only [dm_t, wN, simprocAttr, IntKind.bits, (G3.ext e7).cell, k3 _ e7]
    exact cont g7 e7
  · intro d hd
    generalize hG : hupd g3 d _ = g6
    obtain ⟨e6, q6⟩ := new_ext hG hd
    clear hG
    simp (disch := omega) only [dm_t, wN, simprocAttr, IntKind.bits, (G3.ext e6).cell, k3 _ e6]
    refine raw_lookup (key := key p) keyT Try.underlying94 hi hz rfl rfl (M3.ext e6) ?_
    rw [hlk, hvx, hsome]
    simp (disch := omega) only [dm_t, wN, simprocAttr, IntKind.bits, (G3.ext e6).cell, k3 _ e6]
    refine storeH_all q6 rfl rfl ?_
    generalize hG : hupd g6 d _ = g7
    have f7 : Fr (fun y => y = d) g6 g7 := hG ▸ Fr.upd (S := fun y => y = d) rfl _
    have e7 : Ext g3 g7 := Ext.step' e6 f7 fun y hy => by rw [hy]; exact hd
    clear hG
    simp (disch := omega) only [dm_t, wN, simprocAttr, IntKind.bits, (G3.ext e7).cell, k3 _ e7]
    exact cont g7 e7
/-- What Let answers. -/
def letE (L : List Pl) (k : Ky) : Int := if (grp k.1 && prt k.2) = true then (if (fnd k L).isSome = true then 0 else 360) else 2
def letR (L : List Pl) (k : Ky) : List Pl := if letE L k = 0 then delP k L else L
theorem Let_ok (G : GB h b m L) (k : Ky) (hp : k.1.length ≤ 9223372036854775807) : Ok Try.prog 50 #[.pointer (some ⟨b, 0, none⟩), sv k.1, .int .i64 k.2] h fun v h' => v = .int .i64 (letE L k) ∧ GB h' b m (letR L k) ∧ Fr (fun y => y = m) h h' := by
  refine c50_ok (args := [_, _, _]) (by simp) ?_
  simp (disch := omega) only [dm_t, wS, simprocAttr, IntKind.bits]
  refine (none_ok G).k ?_
  rintro _ _ ⟨rfl, rfl⟩
  simp (disch := omega) only [dm_t, wS, simprocAttr, IntKind.bits]
  refine (where_ok h k.1 k.2 hp).k ?_
  rintro _ g2 ⟨rfl, e2⟩
  have G2 := G.ext e2
  cases hm : (grp k.1 && prt k.2) with
  | false =>
    simp (disch := omega) only [dm_t, wS, simprocAttr, IntKind.bits]
    have hE : letE L k = 2 := by rw [letE, if_neg (by rw [hm]; simp)]
    rw [letR, hE, if_neg (by decide)]
    exact ⟨rfl, G2, e2.mono fun _ h => h.elim⟩
  | true =>
  simp (disch := omega) only [dm_t, wS, simprocAttr, IntKind.bits]
  intro q hq
  simp (disch := omega) only [dm_t, wS, simprocAttr, IntKind.bits]
  refine storeH_all (hupd_same _ _ _) rfl rfl ?_
  rw [hupd_hupd]
  generalize hG : hupd g2 q _ = g3
  obtain ⟨e3, q3⟩ := new_ext hG hq
  clear hG
  have k3 : ∀ G, Ext g3 G → cellsAt G ⟨q, 0, none⟩ 2 = some #[sv k.1, .int .i64 k.2] := fun G e => cellsAt_all (e.at q3) 2 rfl
  have G3 := G2.ext e3
  have er3 := Ext.refl g3
  obtain ⟨kl, M3, hp3⟩ := G3.mo
  have hlk : lk k (kl.map pk) = (fnd k L).map fun x => enx (x.2.2.1, x.2.2.2) := by rw [lk_fnd, fnd_perm hp3 (uq_of G.srt)]
  have hi : Try.prog.info? 100 = some ((Try.prog.info? 100).getD default) := by kernel_rfl
  have hz : ((Try.prog.info? 100).getD default).zero = some (enx (0, 0)) := by kernel_rfl
  obtain ⟨vx, hvx⟩ : ∃ vx, ((fnd k L).map fun x => enx (x.2.2.1, x.2.2.2)).getD (enx (0, 0)) = vx := ⟨_, rfl⟩
  have hvx2 : ∃ a b : Int, vx = .agg #[.int .i64 a, .int .i64 b] := by
    cases hf : fnd k L with
    | none => rw [hf] at hvx; exact ⟨0, 0, hvx.symm⟩
    | some y => rw [hf] at hvx; exact ⟨_, _, hvx.symm⟩
  obtain ⟨va, vb, rfl⟩ := hvx2
  have hsome : ((fnd k L).map fun x => enx (x.2.2.1, x.2.2.2)).isSome = (fnd k L).isSome := by cases fnd k L <;> rfl
  have hlet : letE L k = if (fnd k L).isSome = true then 0 else 360 := by rw [letE, if_pos hm]
  have cont : ∀ g6, Ext g3 g6 → vc Try.prog c50_s3 (seqQ Try.prog [0, 7] c50_s4 (retQ [6] (okR fun v h' => v = .int .i64 (letE L k) ∧ GB h' b m (letR L k) ∧ Fr (fun y => y = m) h h'))) [(0, .pointer (some ⟨b, 0, none⟩)), (7, .pointer (some ⟨q, 0, none⟩)), (9, .bool (fnd k L).isSome)] g6 := by
    intro g6 e6
    have G6 := G3.ext e6
    have F6 : Fr (fun y => y = m) h g6 := ((e2.trans e3).trans e6).mono fun _ h => h.elim
    cases hf : fnd k L with
    | none =>
      have hE : letE L k = 360 := by rw [hlet, hf]; rfl
      have hR : letR L k = L := if_neg (by rw [hE]; decide)
      rw [hE, hR]
      simp (disch := omega) only [dm_t, wS, simprocAttr, IntKind.bits]
      exact ⟨G6, F6⟩
    | some y =>
      have hE : letE L k = 0 := by rw [hlet, hf]; rfl
      have hR : letR L k = delP k L := if_pos hE
      rw [hE, hR]
      have M6 := M3.ext e6
      simp (disch := omega) only [dm_t, wS, simprocAttr, IntKind.bits, G6.cell, k3 _ e6]
      refine raw_delete (key := k) keyT Try.underlying94 rfl rfl M6 ?_
      intro g7 M7 f7
      rw [delL_del] at M7
      have G7 : GB g7 b m (delP k L) := by
        refine ⟨f7 _ _ G6.obj G6.ne, ⟨_, M7, ?_⟩, delP_srt G.srt, fun x hx => G.may x (mem_delP G.srt hx).1, ?_⟩
        · rw [delP_filter G.srt]; exact hp3.filter _
        · rw [delP_filter G.srt]
          exact Nat.le_trans (List.length_filter_le _ _) G.len
      have qk := f7 _ _ (e6.at q3) (G6.nocell (e6.at q3))
      have dk : cellsAt g7 ⟨q, 0, none⟩ 2 = some #[sv k.1, .int .i64 k.2] := cellsAt_all qk 2 rfl
      simp (disch := omega) only [dm_t, wS, simprocAttr, IntKind.bits, G7.cell, dk]
      exact ⟨G7, F6.trans f7⟩
  simp (disch := omega) only [dm_t, wS, simprocAttr, IntKind.bits, G3.cell, k3 _ er3]
  refine ⟨?_, ?_⟩
  · refine raw_lookup (key := k) keyT Try.underlying94 hi hz rfl rfl M3 ?_
    rw [hlk, hvx, hsome]
    simp (disch := omega) only [dm_t, wN, simprocAttr, IntKind.bits, G3.cell, k3 _ er3]
    intro d hd
    generalize hG : hupd g3 d _ = g6
    obtain ⟨e6, q6⟩ := new_ext hG hd
    clear hG
    simp (disch := omega) only [dm_t, wN, simprocAttr, IntKind.bits, (G3.ext e6).cell, k3 _ e6]
    refine storeH_all q6 rfl rfl ?_
    generalize hG : hupd g6 d _ = g7
    have f7 : Fr (fun y => y = d) g6 g7 := hG ▸ Fr.upd (S := fun y => y = d) rfl _
    have e7 : Ext g3 g7 := Ext.step' e6 f7 fun y hy => by rw [hy]; exact hd
    clear hG
    simp (disch := omega) only [dm_t, wN, simprocAttr, IntKind.bits, (G3.ext e7).cell, k3 _ e7]
    exact cont g7 e7
  · intro d hd
    generalize hG : hupd g3 d _ = g6
    obtain ⟨e6, q6⟩ := new_ext hG hd
    clear hG
    simp (disch := omega) only [dm_t, wN, simprocAttr, IntKind.bits, (G3.ext e6).cell, k3 _ e6]
    refine raw_lookup (key := k) keyT Try.underlying94 hi hz rfl rfl (M3.ext e6) ?_
    rw [hlk, hvx, hsome]
    simp (disch := omega) only [dm_t, wN, simprocAttr, IntKind.bits, (G3.ext e6).cell, k3 _ e6]
    refine storeH_all q6 rfl rfl ?_
    generalize hG : hupd g6 d _ = g7
    have f7 : Fr (fun y => y = d) g6 g7 := hG ▸ Fr.upd (S := fun y => y = d) rfl _
    have e7 : Ext g3 g7 := Ext.step' e6 f7 fun y hy => by rw [hy]; exact hd
    clear hG
    simp (disch := omega) only [dm_t, wN, simprocAttr, IntKind.bits, (G3.ext e7).cell, k3 _ e7]
    exact cont g7 e7
/-- What At answers. -/
def atE (L : List Pl) (k : Ky) : Int := letE L k
def atP (L : List Pl) (k : Ky) : Pl := if letE L k = 0 then (fnd k L).getD pl0 else pl0
theorem At_ok (G : GB h b m L) (k : Ky) (hp : k.1.length ≤ 9223372036854775807) : Ok Try.prog 26 #[.pointer (some ⟨b, 0, none⟩), sv k.1, .int .i64 k.2] h fun v h' => v = .tuple #[.agg (pCs (atP L k)).toArray, .int .i64 (letE L k)] ∧ Ext h h' := by
  refine c26_ok (args := [_, _, _]) (by simp) ?_
  simp (disch := omega) only [dm_t, wS, simprocAttr, IntKind.bits]
  intro r hr
  generalize hG : hupd h r _ = g1
  obtain ⟨e1, q1⟩ := new_ext hG hr
  clear hG
  have G1 := G.ext e1
  simp (disch := omega) only [dm_t, wS, simprocAttr, IntKind.bits]
  refine (none_ok G1).k ?_
  rintro _ _ ⟨rfl, rfl⟩
  simp (disch := omega) only [dm_t, wS, simprocAttr, IntKind.bits]
  refine (where_ok g1 k.1 k.2 hp).k ?_
  rintro _ g2 ⟨rfl, e2⟩
  have G2 := G1.ext e2
  have q2 := e2.at q1
  cases hm : (grp k.1 && prt k.2) with
  | false =>
    have hE : letE L k = 2 := by rw [letE, if_neg (by rw [hm]; simp)]
    rw [atP, hE, if_neg (by decide)]
    simp (disch := omega) only [dm_t, wS, simprocAttr, IntKind.bits]
    refine storeH_all q2 rfl rfl ?_
    generalize hG : hupd g2 r _ = g3
    have f3 : Fr (fun y => y = r) g2 g3 := hG ▸ Fr.upd (S := fun y => y = r) rfl _
    have q3 : g3 r = some (.cells (pCs pl0).toArray 23) := by rw [← hG, hupd_same]
    have E3 : Ext h g3 := Ext.step' (e1.trans e2) f3 fun y hy => by rw [hy]; exact hr
    clear hG
    simp (disch := omega) only [dm_t, wS, simprocAttr, IntKind.bits, cellsAt_all q3 4 rfl]
    exact E3
  | true =>
  obtain ⟨kl, M2, hp2⟩ := G2.mo
  have hlk : lk k (kl.map pk) = (fnd k L).map fun x => enx (x.2.2.1, x.2.2.2) := by rw [lk_fnd, fnd_perm hp2 (uq_of G.srt)]
  have hi : Try.prog.info? 100 = some ((Try.prog.info? 100).getD default) := by kernel_rfl
  have hz : ((Try.prog.info? 100).getD default).zero = some (enx (0, 0)) := by kernel_rfl
  have hlet : letE L k = if (fnd k L).isSome = true then 0 else 360 := by rw [letE, if_pos hm]
  simp (disch := omega) only [dm_t, wS, simprocAttr, IntKind.bits, G2.cell]
  refine raw_lookup (key := k) keyT Try.underlying94 hi hz rfl rfl M2 ?_
  rw [hlk]
  cases hf : fnd k L with
  | none =>
    have hE : letE L k = 360 := by rw [hlet, hf]; rfl
    rw [atP, hE, if_neg (by decide)]
    simp (disch := omega) only [dm_t, wS, simprocAttr, IntKind.bits, Option.map_none, Option.getD_none, Option.isSome_none]
    intro d hd
    generalize hG : hupd g2 d _ = g3
    obtain ⟨e3, q3⟩ := new_ext hG hd
    clear hG
    simp (disch := omega) only [dm_t, wS, simprocAttr, IntKind.bits]
    refine storeH_all q3 rfl rfl ?_
    generalize hG : hupd g3 d _ = g4
    have f4 : Fr (fun y => y = d) g3 g4 := hG ▸ Fr.upd (S := fun y => y = d) rfl _
    have e4 : Ext g2 g4 := Ext.step' e3 f4 fun y hy => by rw [hy]; exact hd
    clear hG
    have q4 := e4.at q2
    simp (disch := omega) only [dm_t, wS, simprocAttr, IntKind.bits]
    refine storeH_all q4 rfl rfl ?_
    generalize hG : hupd g4 r _ = g5
    have f5 : Fr (fun y => y = r) g4 g5 := hG ▸ Fr.upd (S := fun y => y = r) rfl _
    have q5 : g5 r = some (.cells (pCs pl0).toArray 23) := by rw [← hG, hupd_same]
    have E5 : Ext h g5 := Ext.step' ((e1.trans e2).trans e4) f5 fun y hy => by rw [hy]; exact hr
    clear hG
    simp (disch := omega) only [dm_t, wS, simprocAttr, IntKind.bits, cellsAt_all q5 4 rfl]
    exact E5
  | some y =>
    have hE : letE L k = 0 := by rw [hlet, hf]; rfl
    obtain ⟨hy1, hy2⟩ := fnd_some hf
    rw [atP, hE, if_pos rfl, hf, Option.getD_some]
    simp (disch := omega) only [dm_t, wS, simprocAttr, IntKind.bits, Option.map_some, Option.getD_some, Option.isSome_some]
    intro d hd
    generalize hG : hupd g2 d _ = g3
    obtain ⟨e3, q3⟩ := new_ext hG hd
    clear hG
    simp (disch := omega) only [dm_t, wS, simprocAttr, IntKind.bits]
    refine storeH_all q3 rfl rfl ?_
    generalize hG : hupd g3 d _ = g4
    have f4 : Fr (fun y => y = d) g3 g4 := hG ▸ Fr.upd (S := fun y => y = d) rfl _
    have qd : g4 d = some (.cells #[.int .i64 y.2.2.1, .int .i64 y.2.2.2] 100) := by rw [← hG, hupd_same]
    have e4 : Ext g2 g4 := Ext.step' e3 f4 fun y hy => by rw [hy]; exact hd
    clear hG
    have q4 := e4.at q2
    have d0 : cellAt g4 ⟨d, 0, none⟩ = some (.int .i64 y.2.2.1) := by rw [cellAt_of qd]; rfl
    have d1 : cellAt g4 ⟨d, 1, none⟩ = some (.int .i64 y.2.2.2) := by rw [cellAt_of qd]; rfl
    simp (disch := omega) only [dm_t, wS, simprocAttr, IntKind.bits, d0, d1]
    refine storeH_all q4 rfl rfl ?_
    generalize hG : hupd g4 r _ = g5
    have f5 : Fr (fun y => y = r) g4 g5 := hG ▸ Fr.upd (S := fun y => y = r) rfl _
    have q5 : g5 r = some (.cells (pCs y).toArray 23) := by rw [← hG, hupd_same, ← hy2]; rfl
    have E5 : Ext h g5 := Ext.step' ((e1.trans e2).trans e4) f5 fun y hy => by rw [hy]; exact hr
    clear hG
    simp (disch := omega) only [dm_t, wS, simprocAttr, IntKind.bits, cellsAt_all q5 4 rfl]
    exact E5
end
end Go.Proofs.Ythhofmjhnjkcfaa.gr
