/-
  groups: the document's groups: find, Set, Let, At, Fold.
-/
import Derived.Test.YthhofmjhnjkcfaaGr
namespace Go.Proofs.Ythhofmjhnjkcfaa.gr
open Go.Proofs.Ythhofmjhnjkcfaa wi
open Go.Proofs.Ythhofmjhnjkcfaa.so (kLt k_irr k_tr k_asy k_tot k_ntr b_lss b_gtr s_irr s_asy s_tot)
set_option linter.unusedVariables false
set_option linter.unusedSimpArgs false
theorem appK {k : Nat} {O S : Nat → Prop} {h : H} {E : TypeId} {bytes : Nat} {z : Array Value} {s x : Value} {rows new : List (List Value)} {V : Value → H → Prop} (hs : OwK k O h E s rows) (hO : ∀ b, h b = none → O b)
    (hx : SlK k S h x new) (hcell : (flat new).all isCell = true) (hz : z.size = k) (hlen : 2 * ((rows.length + new.length) * bytes) ≤ 281474976710656) (hlen' : rows.length + new.length ≤ 9223372036854775807)
    (hk : ∀ v h', OwK k O h' E v (rows ++ new) → Fr (fun y => O y ∧ isAt s y) h h' → V v h') : appM E k bytes z s x h V := by
  obtain ⟨h1, h2⟩ := SlK.src hx
  have h3 := h2 _ (Nat.le_refl _)
  rw [List.take_length] at h3
  exact app_ow hs hO hx.1 h1 h3 hcell hz hlen hlen' fun v h' ho hf _ => hk v h' ho hf
theorem flat_cells (L : List Pl) : (flat (L.map pCs)).all isCell = true := by
  induction L with
  | nil => rfl
  | cons x r ih => rw [List.map_cons, flat_cons, List.all_append, ih]; rfl
theorem pl_f {S : Nat → Prop} {h : H} {v : Value} {L : List Pl} (p : SlK 4 S h v (L.map pCs)) {i : Nat} (hi : i < L.length) : ∃ b o, idxV1 4 v (.int .i64 (i : Int)) = some (.pointer (some ⟨b, o, none⟩)) ∧ cellAt h ⟨b, o, none⟩ = some (sv L[i].1) ∧ cellAt h ⟨b, o + 1, none⟩ = some (.int .i64 L[i].2.1) ∧ cellAt h ⟨b, o + 2, none⟩ = some (.int .i64 L[i].2.2.1) ∧ cellsAt h ⟨b, o, none⟩ 4 = some (pCs L[i]).toArray := by
  obtain ⟨b, o, g1, g2, g3, g4⟩ := p.row (i := i) (by rw [List.length_map]; exact hi) .i64
  have hr : (L.map pCs)[i]'(by rw [List.length_map]; exact hi) = pCs L[i] := by simp
  rw [hr] at g3 g4
  exact ⟨b, o, g1, g3 0 (by omega), g3 1 (by omega), g3 2 (by omega), g4⟩
/-- The document's groups in memory. -/
def DG (h : H) (d : Nat) (v : Value) (L : List Pl) : Prop := h d = some (.cells #[v] 67) ∧ OwK 4 (fun y => y ≠ d) h 23 v (L.map pCs)
section
variable {h h' : H} {d : Nat} {v : Value} {L : List Pl}
theorem DG.cell (D : DG h d v L) : cellAt h ⟨d, 0, none⟩ = some v := by rw [cellAt_of D.1]; rfl
theorem DG.ext (D : DG h d v L) (e : Ext h h') : DG h' d v L := ⟨e.at D.1, OwK.ext D.2 e⟩
theorem DG.sl (D : DG h d v L) : SlK 4 (fun y => y = d) h v (L.map pCs) := OwK.sl D.2 fun _ h h2 => h h2
theorem DG.len (D : DG h d v L) : ∃ a c, v = .slice a L.length c := by
  obtain ⟨a, c, h⟩ := D.sl.len
  exact ⟨a, c, by rw [h, List.length_map]⟩
end
def fi (k : Ky) : List Pl → Nat × Bool
  | [] => (0, false)
  | x :: r => if key x = k then (0, true) else if kLt k (key x) then (0, false) else ((fi k r).1 + 1, (fi k r).2)
theorem fi_le (k : Ky) : ∀ L, (fi k L).1 ≤ L.length ∧ ((fi k L).2 = true → (fi k L).1 < L.length)
  | [] => by simp [fi]
  | x :: r => by
    have ih := fi_le k r
    rw [fi]
    split
    · simp
    · split
      · simp
      · refine ⟨by simp only [List.length_cons]; omega, fun h => ?_⟩
        have := ih.2 h
        simp only [List.length_cons]; omega
theorem fi_set (p : Pl) : ∀ L, L.take (fi (key p) L).1 ++ [p] ++ L.drop (if (fi (key p) L).2 = true then (fi (key p) L).1 + 1 else (fi (key p) L).1) = setP p L
  | [] => by simp [fi, setP]
  | x :: r => by
    have ih := fi_set p r
    rw [fi, setP]
    by_cases h1 : key x = key p
    · rw [if_pos h1, if_pos h1.symm]; simp
    · have h1' : ¬ key p = key x := fun e => h1 e.symm
      rw [if_neg h1, if_neg h1']
      by_cases h2 : kLt (key p) (key x)
      · rw [if_pos h2, if_pos h2]; simp
      · rw [if_neg h2, if_neg h2, ← ih]
        simp only [List.take_succ_cons, List.cons_append, List.cons.injEq, true_and]
        split <;> rfl
theorem fi_fnd (k : Ky) : ∀ {L : List Pl}, L.Pairwise lp → fnd k L = if (fi k L).2 = true then L[(fi k L).1]? else none
  | [], _ => rfl
  | x :: r, s => by
    obtain ⟨s1, s2⟩ := List.pairwise_cons.1 s
    have ih := fi_fnd k s2
    rw [fnd, fi]
    by_cases h1 : key x = k
    · rw [if_pos h1, if_pos h1.symm]; simp
    · have h1' : ¬ k = key x := fun e => h1 e.symm
      rw [if_neg h1, if_neg h1']
      by_cases h2 : kLt k (key x)
      · rw [if_pos h2, if_neg (by simp)]
        refine fnd_none.2 fun y hy e => ?_
        have := s1 y hy
        unfold lp at this
        rw [e] at this
        exact k_asy h2 this
      · rw [if_neg h2, ih]
        simp
theorem fi_del (k : Ky) : ∀ {L : List Pl}, (fi k L).2 = true → L.take (fi k L).1 ++ L.drop ((fi k L).1 + 1) = delP k L
  | [], h => by simp [fi] at h
  | x :: r, h => by
    rw [fi] at h ⊢
    rw [delP]
    by_cases h1 : key x = k
    · rw [if_pos h1, if_pos h1.symm]; simp
    · have h1' : ¬ k = key x := fun e => h1 e.symm
      rw [if_neg h1] at h ⊢
      rw [if_neg h1']
      by_cases h2 : kLt k (key x)
      · rw [if_pos h2] at h; simp at h
      · rw [if_neg h2] at h ⊢
        rw [← fi_del k h]
        simp
theorem fi_step {k : Ky} {x : Pl} {r : List Pl} (h1 : ¬ key x = k) (h2 : ¬ kLt k (key x)) : fi k (x :: r) = ((fi k r).1 + 1, (fi k r).2) := by rw [fi, if_neg h1, if_neg h2]
theorem find_ok {h : H} {d : Nat} {v : Value} {L : List Pl} (D : DG h d v L) (hL : L.length ≤ 4096) (k : Ky) : Ok Try.prog 80 #[.pointer (some ⟨d, 0, none⟩), sv k.1, .int .i64 k.2] h fun u h' => u = .tuple #[.int .i64 ((fi k L).1 : Int), .bool (fi k L).2] ∧ h = h' := by
  obtain ⟨g, n⟩ := k
  obtain ⟨a, c, rfl⟩ := D.len
  have dc := D.cell
  refine c80_ok (args := [_, _, _]) (by simp) ?_
  simp (disch := omega) only [dm_t, wS, simprocAttr, IntKind.bits]
  refine vc_loop1 (fun vi h' => h' = h ∧ ∃ i : Nat, vi = .int .i64 (i : Int) ∧ i ≤ L.length ∧ fi (g, n) L = ((fi (g, n) (L.drop i)).1 + i, (fi (g, n) (L.drop i)).2)) (fun vi _ => L.length - m1 vi) ?_ ?_
  · simp (disch := omega) only [dm_t, wS, simprocAttr, IntKind.bits]
    exact ⟨0, rfl, by omega, by simp⟩
  rintro _ h' ⟨rfl, i, rfl, hi, heq⟩
  by_cases hil : i < L.length
  · obtain ⟨pb, po, i1, f0, f1, f2, f4⟩ := pl_f D.sl hil
    rw [List.drop_eq_getElem_cons hil] at heq
    have r2 := b_gtr .other (L[i]).1 g
    by_cases hg : (L[i]).1 = g
    · by_cases hn : (L[i]).2.1 = n
      · rw [fi, if_pos (by rw [key, hg, hn])] at heq
        rw [heq]
        simp (disch := omega) only [dm_t, wS, simprocAttr, IntKind.bits, dc, i1, f0, f1, toList_mk, hg, hn]
      · have hk1 : ¬ key L[i] = (g, n) := fun e => hn (congrArg Prod.snd e)
        rw [fi, if_neg hk1] at heq
        replace r2 := b_gtr .other g g
        rw [decide_eq_false (s_irr g)] at r2
        by_cases hlt : n < (L[i]).2.1
        · rw [if_pos (.inr ⟨hg.symm, hlt⟩)] at heq
          rw [heq]
          simp (disch := omega) only [dm_t, wS, simprocAttr, IntKind.bits, dc, i1, f0, f1, toList_mk, hg, hn, r2]
        · rw [if_neg (by
            rintro (h | h)
            · have h : g < L[i].1 := h
              rw [hg] at h; exact s_irr _ h
            · exact hlt h.2)] at heq
          simp (disch := omega) only [dm_t, wS, simprocAttr, IntKind.bits, dc, i1, f0, f1, toList_mk, hg, hn, r2]
          refine ⟨⟨i + 1, by simp, by omega, by rw [heq]; simp; omega⟩, by simp [m1]; omega⟩
    · have hk1 : ¬ key L[i] = (g, n) := fun e => hg (congrArg Prod.fst e)
      rw [fi, if_neg hk1] at heq
      by_cases hlt : g < (L[i]).1
      · rw [if_pos (.inl hlt)] at heq
        rw [decide_eq_true hlt] at r2
        rw [heq]
        simp (disch := omega) only [dm_t, wS, simprocAttr, IntKind.bits, dc, i1, f0, f1, toList_mk, hg, r2]
      · rw [if_neg (by
          rintro (h | h)
          · exact hlt h
          · exact hg h.1.symm)] at heq
        rw [decide_eq_false hlt] at r2
        simp (disch := omega) only [dm_t, wS, simprocAttr, IntKind.bits, dc, i1, f0, f1, toList_mk, hg, r2]
        refine ⟨⟨i + 1, by simp, by omega, by rw [heq]; simp; omega⟩, by simp [m1]; omega⟩
  · obtain rfl : i = L.length := by omega
    rw [List.drop_length] at heq
    rw [heq]
    simp (disch := omega) only [dm_t, wS, simprocAttr, IntKind.bits, dc]
    simp [fi]
def dsetE (L : List Pl) (p : Pl) : Int := if (fnd (key p) L).isNone = true ∧ L.length = 4096 then 6 else 0
theorem fi_some {k : Ky} {L : List Pl} (s : L.Pairwise lp) : (fnd k L).isSome = (fi k L).2 := by
  rw [fi_fnd k s]
  cases hf : (fi k L).2 with
  | true =>
    have := (fi_le k L).2 hf
    rw [if_pos rfl, List.getElem?_eq_getElem this]; rfl
  | false => rw [if_neg (by simp)]; rfl
theorem lit1 {g : H} {b : Nat} {p : Pl} {E : TypeId} (q : g b = some (.cells (pCs p).toArray E)) : SlK 4 nos g (.slice (some ⟨b, 0, none⟩) 1 1) [pCs p] := by
  have hfl : flat [pCs p] = pCs p := by simp [flat]
  refine ⟨fun r hr => by simp at hr; subst hr; rfl, .inr ⟨b, 0, 1, _, _, _, rfl, q, by simp, Nat.le_refl _, ?_, fun h => h⟩⟩
  rw [hfl]; have := at_arr (pCs p) #[]; simpa using this
theorem DSet_ok {h : H} {d : Nat} {v : Value} {L : List Pl} (D : DG h d v L) (s : L.Pairwise lp) (hL : L.length ≤ 4096) (p : Pl) : Ok Try.prog 58 #[.pointer (some ⟨d, 0, none⟩), .agg (pCs p).toArray] h fun u h' => u = .int .i64 (dsetE L p) ∧ (∃ v', DG h' d v' (if dsetE L p = 0 then setP p L else L)) ∧ Fr (fun y => y = d) h h' := by
  obtain ⟨a, c, rfl⟩ := D.len
  refine c58_ok (args := [_, _]) (by simp) ?_
  have hle := fi_le (key p) L
  have hset := fi_set p L
  have hsm := fi_some (k := key p) s
  generalize hfi : (fi (key p) L).1 = i at hle hset
  generalize hfo : (fi (key p) L).2 = ok at hle hset hsm
  simp (disch := omega) only [dm_t, wS, simprocAttr, IntKind.bits]
  intro b3 hb3
  generalize hG : hupd h b3 _ = g1
  obtain ⟨e1, q3⟩ := new_ext hG hb3
  clear hG
  have c0 : cellAt g1 ⟨b3, 0, none⟩ = some (sv p.1) := by rw [cellAt_of q3]; rfl
  have c1 : cellAt g1 ⟨b3, 1, none⟩ = some (.int .i64 p.2.1) := by rw [cellAt_of q3]; rfl
  have D1 := D.ext e1
  have dc := D1.cell
  simp (disch := omega) only [dm_t, wS, simprocAttr, IntKind.bits, c0, c1]
  refine (find_ok D1 hL (key p)).k ?_
  rintro _ _ ⟨rfl, rfl⟩
  rw [hfi, hfo]
  by_cases hfull : ok = false ∧ L.length = 4096
  · obtain ⟨rfl, hl4⟩ := hfull
    have hE : dsetE L p = 6 := by
      rw [dsetE, if_pos]
      refine ⟨?_, hl4⟩
      cases hf : fnd (key p) L with
      | none => rfl
      | some x => rw [hf] at hsm; cases hsm
    rw [hE]
    simp (disch := omega) only [dm_t, wS, simprocAttr, IntKind.bits, dc, Bool.not_false, beq_self_eq_true]
    exact ⟨⟨_, D1⟩, e1.mono fun _ h => h.elim⟩
  have hE : dsetE L p = 0 := by
    rw [dsetE, if_neg]
    rintro ⟨h1, h2⟩
    apply hfull
    refine ⟨?_, h2⟩
    rw [← hsm]
    cases hf : fnd (key p) L with
    | none => rfl
    | some x => rw [hf] at h1; cases h1
  rw [hE, if_pos rfl]
  have key2 : ∀ g, Ext g1 g → vc Try.prog c58_s2 (retQ [4] (okR fun u h' => u = .int .i64 0 ∧ (∃ v', DG h' d v' (setP p L)) ∧ Fr (fun y => y = d) h h')) [(0, .pointer (some ⟨d, 0, none⟩)), (3, .pointer (some ⟨b3, 0, none⟩)), (5, .int .i64 (i : Int)), (6, .bool ok)] g := by
    intro g eg
    have Dg := D1.ext eg
    have dcg := Dg.cell
    have cp : cellsAt g ⟨b3, 0, none⟩ 4 = some (pCs p).toArray := cellsAt_all (eg.at q3) 4 rfl
    have hcap := Dg.sl.cap
    rw [List.length_map] at hcap
    obtain ⟨lv1, s1, t1⟩ := Dg.sl.cut (m3 := false) (lo := 0) (hi := i) (mx := c) (l := 0) (u := i) (m := c) rfl rfl rfl (by omega) (by omega) (by omega) (Nat.le_refl _) (.inr rfl)
    rw [List.drop_zero, Nat.sub_zero, ← List.map_take] at t1
    have Eg : Ext h g := e1.trans eg
    have tl1 : ((L.take i).map pCs).length ≤ 4096 := by rw [List.length_map, List.length_take]; omega
    have tail : ∀ (g2 : H) (lv2 : Value), Ext g g2 → OwK 4 (fun y => g y = none) g2 23 lv2 ((L.take i ++ [p]).map pCs) → vc Try.prog c58_s4 (retQ [4] (okR fun u h' => u = .int .i64 0 ∧ (∃ v', DG h' d v' (setP p L)) ∧ Fr (fun y => y = d) h h')) [(0, .pointer (some ⟨d, 0, none⟩)), (5, .int .i64 (i : Int)), (6, .bool ok), (7, lv2)] g2 := by
      intro g2 lv2 e2 o2
      have D2 := Dg.ext e2
      have E2 := Eg.trans e2
      have hl2 : ((L.take i ++ [p]).map pCs).length ≤ 4097 := by rw [List.length_map, List.length_append, List.length_take, List.length_singleton]; omega
      have last : ∀ j, j = (if ok = true then i + 1 else i) → vc Try.prog c58_s5 (retQ [4] (okR fun u h' => u = .int .i64 0 ∧ (∃ v', DG h' d v' (setP p L)) ∧ Fr (fun y => y = d) h h')) [(0, .pointer (some ⟨d, 0, none⟩)), (5, .int .i64 ((j : Nat) : Int)), (7, lv2)] g2 := by
        intro j hj
        have hjL : j ≤ L.length := by
          rw [hj]; split
          · have := hle.2 ‹_›; omega
          · omega
        obtain ⟨lv3, s3, t3⟩ := D2.sl.cut (m3 := false) (lo := j) (hi := L.length) (mx := c) (l := j) (u := L.length) (m := c) rfl rfl rfl hjL (Nat.le_refl _) (by omega) (Nat.le_refl _) (.inr rfl)
        rw [← List.map_drop, show L.length - j = ((L.drop j).map pCs).length by rw [List.length_map, List.length_drop], List.take_length] at t3
        have hl3 : ((L.drop j).map pCs).length ≤ 4096 := by rw [List.length_map, List.length_drop]; omega
        simp (disch := omega) only [dm_t, wS, simprocAttr, IntKind.bits, D2.cell, s3]
        refine appK o2 (fun y hy => e2.bk hy) t3 (flat_cells _) (by rfl) (by omega) (by omega) ?_
        intro v4 g3 o3 f3
        rw [← List.map_append, hj, hset] at o3
        have e3 : Ext g g3 := Ext.step' e2 f3 fun y hy => hy.1
        have D3 := Dg.ext e3
        obtain ⟨a4, c4, rfl⟩ := o3.s0.len
        simp (disch := omega) only [dm_t, wS, simprocAttr, IntKind.bits]
        refine storeH_all D3.1 rfl rfl ?_
        generalize hG : hupd g3 d _ = g4
        have f4 : Fr (fun y => y = d) g3 g4 := hG ▸ Fr.upd (S := fun y => y = d) rfl _
        have q4 : g4 d = some (.cells #[.slice a4 ((setP p L).map pCs).length c4] 67) := by rw [← hG, hupd_same]
        clear hG
        simp (disch := omega) only [dm_t, wS, simprocAttr, IntKind.bits]
        have hdn : ¬ g d = none := by rw [Dg.1]; simp
        refine ⟨⟨_, q4, OwK.fr (o3.mono fun y o _ hy (hyd : y = d) => hdn (hyd ▸ hy)) f4 fun y hy hO => absurd hy hO⟩, ((Eg.trans e3).mono fun _ h => h.elim).trans f4⟩
      cases ok with
      | true =>
        have k1 := last (i + 1) rfl
        rw [show ((i + 1 : Nat) : Int) = (i : Int) + 1 by omega] at k1
        simp (disch := omega) only [dm_t, wS, simprocAttr, IntKind.bits, k1]
      | false =>
        have k1 := last i rfl
        simp (disch := omega) only [dm_t, wS, simprocAttr, IntKind.bits, k1]
    have nil0 : ∀ g', OwK 4 (fun y => g y = none) g' 23 (.slice none 0 0) [] := fun _ => OwK.nil
    have dcx : ∀ g2, Ext g g2 → cellAt g2 ⟨d, 0, none⟩ = some (.slice a L.length c) := fun g2 e => (Dg.ext e).cell
    have cpx : ∀ g2, Ext g g2 → cellsAt g2 ⟨b3, 0, none⟩ 4 = some (pCs p).toArray := fun g2 e => cellsAt_ext e cp
    simp (disch := omega) only [dm_t, wS, simprocAttr, IntKind.bits, dcg, s1, cp]
    refine ⟨?_, ?_⟩
    · refine appK (nil0 g) (fun y hy => hy) t1 (flat_cells _) (by rfl) (by rw [List.length_nil]; omega) (by rw [List.length_nil]; omega) ?_
      intro v2 g2 o2 f2
      rw [List.nil_append] at o2
      have e2 : Ext g g2 := f2.mono fun y hy => (no_at hy.2).elim
      simp (disch := omega) only [dm_t, wS, simprocAttr, IntKind.bits, dcx _ e2, s1, cpx _ e2]
      intro b4 hb4
      generalize hG : hupd g2 b4 _ = g3
      obtain ⟨e23, q4⟩ := new_ext hG hb4
      clear hG
      have e3 := e2.trans e23
      simp (disch := omega) only [dm_t, wS, simprocAttr, IntKind.bits, dcx _ e3, s1, cpx _ e3]
      refine appK (OwK.ext o2 e23) (fun y hy => e3.bk hy) (lit1 q4) ?_ rfl ?_ ?_ ?_
      · rfl
      · simp only [List.length_singleton]; omega
      · simp only [List.length_singleton]; omega
      intro v4 g4 o4 f4
      have e4 : Ext g g4 := Ext.step' e3 f4 fun y hy => hy.1
      rw [show (L.take i).map pCs ++ [pCs p] = (L.take i ++ [p]).map pCs by rw [List.map_append]; rfl] at o4
      have k4 := tail g4 v4 e4 o4
      simp (disch := omega) only [dm_t, wS, simprocAttr, IntKind.bits, dcx _ e4, s1, cpx _ e4, k4]
    · intro b4 hb4
      generalize hG : hupd g b4 _ = g2
      obtain ⟨e2, q4⟩ := new_ext hG hb4
      clear hG
      have hl := lit1 q4
      simp (disch := omega) only [dm_t, wS, simprocAttr, IntKind.bits, dcx _ e2, s1, cpx _ e2]
      refine appK (nil0 g2) (fun y hy => e2.bk hy) (SlK.ext t1 e2) (flat_cells _) (by rfl) (by rw [List.length_nil]; omega) (by rw [List.length_nil]; omega) ?_
      intro v3 g3 o3 f3
      rw [List.nil_append] at o3
      have e23 : Ext g2 g3 := f3.mono fun y hy => (no_at hy.2).elim
      have e3 := e2.trans e23
      simp (disch := omega) only [dm_t, wS, simprocAttr, IntKind.bits, dcx _ e3, s1, cpx _ e3]
      refine appK o3 (fun y hy => e3.bk hy) (SlK.ext hl e23) ?_ rfl ?_ ?_ ?_
      · rfl
      · simp only [List.length_singleton]; omega
      · simp only [List.length_singleton]; omega
      intro v4 g4 o4 f4
      have e4 : Ext g g4 := Ext.step' e3 f4 fun y hy => hy.1
      rw [show (L.take i).map pCs ++ [pCs p] = (L.take i ++ [p]).map pCs by rw [List.map_append]; rfl] at o4
      have k4 := tail g4 v4 e4 o4
      simp (disch := omega) only [dm_t, wS, simprocAttr, IntKind.bits, dcx _ e4, s1, cpx _ e4, k4]
  have k2 := key2 g1 (Ext.refl _)
  cases ok with
  | true =>
    simp (disch := omega) only [dm_t, wS, simprocAttr, IntKind.bits, dc, Bool.not_true, k2]
  | false =>
    have hl4 : ¬ L.length = 4096 := fun h => hfull ⟨rfl, h⟩
    simp (disch := omega) only [dm_t, wS, simprocAttr, IntKind.bits, dc, Bool.not_false, k2]
end Go.Proofs.Ythhofmjhnjkcfaa.gr
namespace Go.Proofs.Ythhofmjhnjkcfaa.gr
open Go.Proofs.Ythhofmjhnjkcfaa wi
set_option linter.unusedVariables false
set_option linter.unusedSimpArgs false
def dletE (L : List Pl) (k : Ky) : Int := if (fnd k L).isSome = true then 0 else 360
theorem DLet_ok {h : H} {d : Nat} {v : Value} {L : List Pl} (D : DG h d v L) (s : L.Pairwise lp) (hL : L.length ≤ 4096) (k : Ky) : Ok Try.prog 59 #[.pointer (some ⟨d, 0, none⟩), sv k.1, .int .i64 k.2] h fun u h' => u = .int .i64 (dletE L k) ∧ (∃ v', DG h' d v' (if dletE L k = 0 then delP k L else L)) ∧ Fr (fun y => y = d) h h' := by
  obtain ⟨a, c, rfl⟩ := D.len
  refine c59_ok (args := [_, _, _]) (by simp) ?_
  have hle := fi_le k L
  have hdel := fi_del k (L := L)
  have hsm := fi_some (k := k) s
  have dc := D.cell
  have hcap := D.sl.cap
  rw [List.length_map] at hcap
  simp (disch := omega) only [dm_t, wS, simprocAttr, IntKind.bits]
  refine (find_ok D hL k).k ?_
  rintro _ _ ⟨rfl, rfl⟩
  generalize hfi : (fi k L).1 = i at hle hdel ⊢
  generalize hfo : (fi k L).2 = ok at hle hdel hsm ⊢
  cases ok with
  | false =>
    have hE : dletE L k = 360 := by rw [dletE, hsm]; rfl
    rw [hE]
    simp (disch := omega) only [dm_t, wS, simprocAttr, IntKind.bits, Bool.not_false]
    exact ⟨⟨_, D⟩, Fr.refl _ _⟩
  | true =>
    have hE : dletE L k = 0 := by rw [dletE, hsm]; rfl
    rw [hE, if_pos rfl]
    have hi := hle.2 rfl
    obtain ⟨lv1, s1, t1⟩ := D.sl.cut (m3 := false) (lo := 0) (hi := i) (mx := c) (l := 0) (u := i) (m := c) rfl rfl rfl (by omega) (by omega) (by omega) (Nat.le_refl _) (.inr rfl)
    rw [List.drop_zero, Nat.sub_zero, ← List.map_take] at t1
    obtain ⟨lv3, s3, t3⟩ := D.sl.cut (m3 := false) (lo := (i : Int) + 1) (hi := L.length) (mx := c) (l := i + 1) (u := L.length) (m := c) (by omega) rfl rfl (by omega) (Nat.le_refl _) (by omega) (Nat.le_refl _) (.inr rfl)
    rw [← List.map_drop, show L.length - (i + 1) = ((L.drop (i + 1)).map pCs).length by rw [List.length_map, List.length_drop], List.take_length] at t3
    have tl1 : ((L.take i).map pCs).length ≤ 4096 := by rw [List.length_map, List.length_take]; omega
    have tl3 : ((L.drop (i + 1)).map pCs).length ≤ 4096 := by rw [List.length_map, List.length_drop]; omega
    have nil0 : ∀ g', OwK 4 (fun y => h y = none) g' 23 (.slice none 0 0) [] := fun _ => OwK.nil
    simp (disch := omega) only [dm_t, wS, simprocAttr, IntKind.bits, Bool.not_true, dc, s1, s3]
    refine appK (nil0 h) (fun y hy => hy) t1 (flat_cells _) (by rfl) (by rw [List.length_nil]; omega) (by rw [List.length_nil]; omega) ?_
    intro v2 g2 o2 f2
    rw [List.nil_append] at o2
    have e2 : Ext h g2 := f2.mono fun y hy => (no_at hy.2).elim
    simp (disch := omega) only [dm_t, wS, simprocAttr, IntKind.bits, (D.ext e2).cell, s1, s3]
    refine appK o2 (fun y hy => e2.bk hy) (SlK.ext t3 e2) (flat_cells _) (by rfl) (by omega) (by omega) ?_
    intro v3 g3 o3 f3
    rw [← List.map_append, hdel rfl] at o3
    have e3 : Ext h g3 := Ext.step' e2 f3 fun y hy => hy.1
    have D3 := D.ext e3
    obtain ⟨a4, c4, rfl⟩ := o3.s0.len
    simp (disch := omega) only [dm_t, wS, simprocAttr, IntKind.bits, D3.cell, s1, s3]
    refine storeH_all D3.1 rfl rfl ?_
    generalize hG : hupd g3 d _ = g4
    have f4 : Fr (fun y => y = d) g3 g4 := hG ▸ Fr.upd (S := fun y => y = d) rfl _
    have q4 : g4 d = some (.cells #[.slice a4 ((delP k L).map pCs).length c4] 67) := by rw [← hG, hupd_same]
    clear hG
    have hdn : ¬ h d = none := by rw [D.1]; simp
    simp (disch := omega) only [dm_t, wS, simprocAttr, IntKind.bits, cellAt_of q4, s1, s3]
    refine ⟨⟨_, q4, OwK.fr (o3.mono fun y o _ hy (hyd : y = d) => hdn (hyd ▸ hy)) f4 fun y hy hO => absurd hy hO⟩, (e3.mono fun _ h => h.elim).trans f4⟩
def datP (L : List Pl) (k : Ky) : Pl := if letE L k = 0 then (fnd k L).getD pl0 else pl0
theorem DAt_ok {h : H} {d : Nat} {v : Value} {L : List Pl} (D : DG h d v L) (s : L.Pairwise lp) (hL : L.length ≤ 4096) (k : Ky) (hk : k.1.length ≤ 9223372036854775807) : Ok Try.prog 61 #[.pointer (some ⟨d, 0, none⟩), sv k.1, .int .i64 k.2] h fun u h' => u = .tuple #[.agg (pCs (atP L k)).toArray, .int .i64 (letE L k)] ∧ Ext h h' := by
  obtain ⟨a, c, rfl⟩ := D.len
  refine c61_ok (args := [_, _, _]) (by simp) ?_
  simp (disch := omega) only [dm_t, wS, simprocAttr, IntKind.bits]
  intro r hr
  generalize hG : hupd h r _ = g1
  obtain ⟨e1, q1⟩ := new_ext hG hr
  clear hG
  have D1 := D.ext e1
  have fail : ∀ x, x = letE L k → x ≠ 0 → True := fun _ _ _ => trivial
  clear fail
  have zero : ∀ g, g = hupd g1 r (.cells (pCs pl0).toArray 23) → Ext h g ∧ cellsAt g ⟨r, 0, none⟩ 4 = some (pCs pl0).toArray := by
    rintro _ rfl
    refine ⟨Ext.step' e1 (Fr.upd (S := fun y => y = r) rfl _) fun y hy => by rw [hy]; exact hr, cellsAt_all (hupd_same _ _ _) 4 rfl⟩
  simp (disch := omega) only [dm_t, wS, simprocAttr, IntKind.bits]
  refine (DGroup_ok g1 k.1 hk).k ?_
  rintro _ _ ⟨rfl, rfl⟩
  cases hg : grp k.1 with
  | false =>
    have hE : letE L k = 2 := by rw [letE, if_neg (by rw [hg]; simp)]
    rw [atP, hE, if_neg (by decide)]
    simp (disch := omega) only [dm_t, wS, simprocAttr, IntKind.bits, Bool.not_false]
    refine storeH_all q1 rfl rfl ?_
    obtain ⟨z1, z2⟩ := zero _ rfl
    generalize hupd g1 r _ = g2 at z1 z2 ⊢
    simp (disch := omega) only [dm_t, wS, simprocAttr, IntKind.bits, z2]
    exact z1
  | true =>
  simp (disch := omega) only [dm_t, wS, simprocAttr, IntKind.bits, Bool.not_true]
  refine (DPart_ok g1 k.2).k ?_
  rintro _ _ ⟨rfl, rfl⟩
  cases hp : prt k.2 with
  | false =>
    have hE : letE L k = 2 := by rw [letE, if_neg (by rw [hp]; simp)]
    rw [atP, hE, if_neg (by decide)]
    simp (disch := omega) only [dm_t, wS, simprocAttr, IntKind.bits, Bool.not_false]
    refine storeH_all q1 rfl rfl ?_
    obtain ⟨z1, z2⟩ := zero _ rfl
    generalize hupd g1 r _ = g2 at z1 z2 ⊢
    simp (disch := omega) only [dm_t, wS, simprocAttr, IntKind.bits, z2]
    exact z1
  | true =>
  have hlet : letE L k = if (fnd k L).isSome = true then 0 else 360 := by rw [letE, if_pos (by rw [hg, hp]; rfl)]
  have hle := fi_le k L
  have hfn := fi_fnd k s
  simp (disch := omega) only [dm_t, wS, simprocAttr, IntKind.bits, Bool.not_true]
  refine (find_ok D1 hL k).k ?_
  rintro _ _ ⟨rfl, rfl⟩
  generalize hfi : (fi k L).1 = i at hle hfn ⊢
  generalize hfo : (fi k L).2 = ok at hle hfn ⊢
  cases ok with
  | false =>
    rw [if_neg (by simp)] at hfn
    rw [hfn] at hlet
    have hE : letE L k = 360 := hlet
    rw [atP, hE, if_neg (by decide)]
    simp (disch := omega) only [dm_t, wS, simprocAttr, IntKind.bits, Bool.not_false]
    refine storeH_all q1 rfl rfl ?_
    obtain ⟨z1, z2⟩ := zero _ rfl
    generalize hupd g1 r _ = g2 at z1 z2 ⊢
    simp (disch := omega) only [dm_t, wS, simprocAttr, IntKind.bits, z2]
    exact z1
  | true =>
    have hi := hle.2 rfl
    rw [if_pos rfl, List.getElem?_eq_getElem hi] at hfn
    rw [hfn] at hlet
    have hE : letE L k = 0 := hlet
    rw [atP, hE, if_pos rfl, hfn, Option.getD_some]
    obtain ⟨pb, po, i1, f0, f1, f2, f4⟩ := pl_f D1.sl hi
    simp (disch := omega) only [dm_t, wS, simprocAttr, IntKind.bits, Bool.not_true, D1.cell, i1, f4]
    refine storeH_all q1 rfl rfl ?_
    have z1 : Ext h (hupd g1 r (.cells (pCs L[i]).toArray 23)) := Ext.step' e1 (Fr.upd (S := fun y => y = r) rfl _) fun y hy => by rw [hy]; exact hr
    have z2 : cellsAt (hupd g1 r (.cells (pCs L[i]).toArray 23)) ⟨r, 0, none⟩ 4 = some (pCs L[i]).toArray := cellsAt_all (hupd_same _ _ _) 4 rfl
    generalize hupd g1 r _ = g2 at z1 z2 ⊢
    simp (disch := omega) only [dm_t, wS, simprocAttr, IntKind.bits, z2]
    exact z1
end Go.Proofs.Ythhofmjhnjkcfaa.gr
namespace Go.Proofs.Ythhofmjhnjkcfaa.gr
open Go.Proofs.Ythhofmjhnjkcfaa wi
set_option linter.unusedVariables false
set_option linter.unusedSimpArgs false
theorem dset_eq {L : List Pl} {p : Pl} (h : mayP p = true) : dsetE L p = setE L p ∧ (if dsetE L p = 0 then setP p L else L) = setR L p := by
  have h1 : dsetE L p = setE L p := by rw [setE, if_pos h]; rfl
  exact ⟨h1, by rw [setR, h1]⟩
theorem dlet_eq {L : List Pl} {k : Ky} (h : (grp k.1 && prt k.2) = true) : dletE L k = letE L k ∧ (if dletE L k = 0 then delP k L else L) = letR L k := by
  have h1 : dletE L k = letE L k := by rw [letE, if_pos h]; rfl
  exact ⟨h1, by rw [letR, h1]⟩
theorem may_k {p : Pl} (h : mayP p = true) : (grp (key p).1 && prt (key p).2) = true := by
  rw [mayP, Bool.and_eq_true, Bool.and_eq_true] at h
  exact h.1.1
/-- What is told of the list. -/
structure Lst (L : List Pl) : Prop where
  srt : L.Pairwise lp
  may : ∀ p ∈ L, mayP p = true
  len : L.length ≤ 4096
theorem GB.lst {h : H} {b m : Nat} {L : List Pl} (G : GB h b m L) : Lst L := ⟨G.srt, G.may, G.len⟩
theorem Lst.set {L : List Pl} (s : Lst L) (p : Pl) : Lst (setR L p) := by
  unfold setR
  split
  · rename_i hE
    have hm : mayP p = true := by
      by_cases h : mayP p = true
      · exact h
      · rw [setE, if_neg h] at hE; cases hE
    refine ⟨setP_srt s.srt, fun q hq => ?_, ?_⟩
    · rcases mem_setP hq with rfl | hq
      · exact hm
      · exact s.may q hq
    · rw [setP_len _ s.srt]
      rw [setE, if_pos hm] at hE
      split at hE
      · cases hE
      · rename_i hn
        split
        · exact s.len
        · rename_i hno
          have := s.len
          have : L.length ≠ 4096 := fun h => hn ⟨by simpa using hno, h⟩
          omega
  · exact s
theorem Lst.del {L : List Pl} (s : Lst L) (k : Ky) : Lst (letR L k) := by
  unfold letR
  split
  · refine ⟨delP_srt s.srt, fun q hq => s.may q (mem_delP s.srt hq).1, ?_⟩
    rw [delP_filter s.srt]
    exact Nat.le_trans (List.length_filter_le _ _) s.len
  · exact s
theorem DFold_ok {h : H} {d : Nat} {v : Value} {L : List Pl} (D : DG h d v L) (s : Lst L) {sv' : Value} {l : List rc.D} (hs : RepL (fun y => y = d) rc h sv' l) (hl : l.length ≤ 1000000) (hk : ∀ x ∈ l, x.2.1.length ≤ 140737488351232) :
    Ok Try.prog 60 #[.pointer (some ⟨d, 0, none⟩), sv'] h fun u h' => u = .tuple #[.int .i64 ((foldG L l 0).2.1 : Int), .int .i64 (foldG L l 0).2.2] ∧ (∃ v', DG h' d v' (foldG L l 0).1) ∧ Fr (fun y => y = d) h h' := by
  obtain ⟨sa, sn, rfl⟩ := hs.len
  refine c60_ok (args := [_, _]) (by simp) ?_
  simp (disch := omega) only [dm_t, wS, simprocAttr, IntKind.bits]
  refine vc_loop1 (fun vi g => ∃ (i : Nat) (M : List Pl) (w : Value), vi = .int .i64 (i : Int) ∧ i ≤ l.length ∧ DG g d w M ∧ Lst M ∧ Fr (fun y => y = d) h g ∧ foldG M (l.drop i) i = foldG L l 0) (fun vi _ => l.length - m1 vi) ?_ ?_
  · simp (disch := omega) only [dm_t, wS, simprocAttr, IntKind.bits]
    exact ⟨0, L, v, rfl, by omega, D, s, Fr.refl _ _, by simp⟩
  rintro _ g ⟨i, M, w, rfl, hi, DM, sM, f, hfo⟩
  by_cases hil : i < l.length
  rotate_left
  · obtain rfl : i = l.length := by omega
    rw [List.drop_eq_nil_of_le (by omega), foldG] at hfo
    rw [← hfo]
    simp (disch := omega) only [dm_t, wS, simprocAttr, IntKind.bits]
    exact ⟨⟨_, DM⟩, f⟩
  rw [List.drop_eq_getElem_cons hil, foldG] at hfo
  have hki := hk l[i] (List.getElem_mem hil)
  have hsg := hs.fr f fun _ h => h
  generalize hx : l[i] = x at *
  simp (disch := omega) only [dm_t, wS, simprocAttr, IntKind.bits]
  refine hsg.at sz_rc i rfl hil ?_
  intro pb po cs g1 g2 g3
  rw [hx] at g3
  simp (disch := omega) only [dm_t, wS, simprocAttr, IntKind.bits, g1]
  refine (DRead_ok g3 hki).k ?_
  rintro _ G2 ⟨rfl, e2⟩
  simp (disch := omega) only [dm_t, wS, simprocAttr, IntKind.bits]
  intro q hq
  simp (disch := omega) only [dm_t, wS, simprocAttr, IntKind.bits]
  refine storeH_all (hupd_same _ _ _) rfl rfl ?_
  rw [hupd_hupd]
  generalize hG : hupd G2 q _ = G3
  obtain ⟨e3, q3⟩ := new_ext hG hq
  clear hG
  have E3 := e2.trans e3
  have DM3 := DM.ext E3
  have F3 : Fr (fun y => y = d) h G3 := f.trans (E3.mono fun _ h => h.elim)
  have k4 : cellsAt G3 ⟨q, 0, none⟩ 4 = some (pCs (rdP x)).toArray := cellsAt_all q3 4 rfl
  have c0 : cellAt G3 ⟨q, 0, none⟩ = some (sv (rdP x).1) := by rw [cellAt_of q3]; rfl
  have c1 : cellAt G3 ⟨q, 1, none⟩ = some (.int .i64 (rdP x).2.1) := by rw [cellAt_of q3]; rfl
  by_cases he : rdE x = 0
  · rw [if_neg (by simp [he])] at hfo
    rw [he]
    have hm := rdE_of he
    cases hst : rdS x with
    | false =>
      rw [if_pos hst] at hfo
      simp (disch := omega) only [dm_t, wS, simprocAttr, IntKind.bits, c0, c1, Bool.not_false]
      refine (DLet_ok DM3 sM.srt sM.len (key (rdP x))).k ?_
      rintro _ G4 ⟨rfl, ⟨w4, D4⟩, f4⟩
      rw [(dlet_eq (may_k hm)).2] at D4
      simp (disch := omega) only [dm_t, wS, simprocAttr, IntKind.bits]
      exact ⟨⟨i + 1, _, _, by simp, by omega, D4, sM.del _, F3.trans f4, hfo⟩, by simp [m1]; omega⟩
    | true =>
      rw [if_neg (by rw [hst]; simp)] at hfo
      simp (disch := omega) only [dm_t, wS, simprocAttr, IntKind.bits, k4, Bool.not_true]
      refine (DSet_ok DM3 sM.srt sM.len (rdP x)).k ?_
      rintro _ G4 ⟨rfl, ⟨w4, D4⟩, f4⟩
      rw [(dset_eq hm).2] at D4
      rw [(dset_eq hm).1]
      by_cases hse : setE M (rdP x) = 0
      · rw [if_pos hse] at hfo
        rw [hse]
        simp (disch := omega) only [dm_t, wS, simprocAttr, IntKind.bits]
        exact ⟨⟨i + 1, _, _, by simp, by omega, D4, sM.set _, F3.trans f4, hfo⟩, by simp [m1]; omega⟩
      · rw [if_neg hse] at hfo
        have hR : setR M (rdP x) = M := if_neg hse
        rw [hR] at D4
        simp (disch := omega) only [dm_t, wS, simprocAttr, IntKind.bits]
        rw [← hfo]
        exact ⟨rfl, ⟨_, D4⟩, F3.trans f4⟩
  · rw [if_pos he] at hfo
    simp (disch := omega) only [dm_t, wS, simprocAttr, IntKind.bits]
    exact ⟨⟨i + 1, M, _, by simp, by omega, DM3, sM, F3, hfo⟩, by simp [m1]; omega⟩
/-- Groups of the document at a place in memory, to be read. -/
def DA (h : H) (d o : Nat) (v : Value) (L : List Pl) : Prop := cellAt h ⟨d, o, none⟩ = some v ∧ SlK 4 nos h v (L.map pCs)
theorem DG.da {h : H} {d : Nat} {v : Value} {L : List Pl} (D : DG h d v L) : DA h d 0 v L := ⟨D.cell, D.2.s0⟩
theorem DA.ext {h h' : H} {d o : Nat} {v : Value} {L : List Pl} (D : DA h d o v L) (e : Ext h h') : DA h' d o v L := ⟨cellAt_ext e D.1, SlK.ext D.2 e⟩
theorem DA.len {h : H} {d o : Nat} {v : Value} {L : List Pl} (D : DA h d o v L) : ∃ a c, v = .slice a L.length c := by
  obtain ⟨a, c, h⟩ := D.2.len
  exact ⟨a, c, by rw [h, List.length_map]⟩
theorem DNames_ok {h : H} {d o : Nat} {v : Value} {L : List Pl} (D : DA h d o v L) (hL : L.length ≤ 4096) : Ok Try.prog 66 #[.pointer (some ⟨d, o, none⟩)] h fun u h' => O1 (fun y => h y = none) h' 9 u (sL (nm L)) ∧ Ext h h' := by
  obtain ⟨a, c, rfl⟩ := D.len
  refine c66_ok (args := [_]) (by simp) ?_
  simp (disch := omega) only [dm_t, wS, simprocAttr, IntKind.bits]
  refine vc_loop2 (fun vl vi g => ∃ (i : Nat), vi = .int .i64 (i : Int) ∧ i ≤ L.length ∧ O1 (fun y => h y = none) g 9 vl (sL (nk (L.map (·.1)) i)) ∧ Ext h g) (fun _ vi _ => L.length - m1 vi) ?_ ?_
  · simp (disch := omega) only [dm_t, wS, simprocAttr, IntKind.bits]
    exact ⟨0, rfl, by omega, OwK.nil, Ext.refl _⟩
  rintro vl _ g ⟨i, rfl, hi, ow, e⟩
  have Dg := D.ext e
  have dc := Dg.1
  by_cases hil : i < L.length
  · obtain ⟨pb, po, i1, f0, f1, f2, f4⟩ := pl_f Dg.2 hil
    have hnl := nk_len (L.map (·.1)) i
    have push : ∀ (x : List UInt8), x = (L[i]).1 → nk (L.map (·.1)) (i + 1) = nk (L.map (·.1)) i ++ [x] → sL (nk (L.map (·.1)) i) ++ [sv x] = sL (nk (L.map (·.1)) (i + 1)) := by
      intro x hx hn
      rw [hn, sL, sL, List.map_append]; rfl
    have g0 : (L.map (·.1)).getD i [] = (L[i]).1 := by simp [hil]
    by_cases h0 : i = 0
    · have hN : nk (L.map (·.1)) (i + 1) = nk (L.map (·.1)) i ++ [(L[i]).1] := by rw [nk, if_pos (.inl h0), g0]
      simp (disch := omega) only [dm_t, wS, simprocAttr, IntKind.bits, dc, i1, f0]
      refine push1 ow (fun y hy => e.bk hy) rfl (by rw [List.length_map]; omega) (by rw [List.length_map]; omega) ?_
      intro b7 v7 g5 hb7 o7 f7
      rw [push _ rfl hN] at o7
      simp (disch := omega) only [dm_t, wS, simprocAttr, IntKind.bits]
      exact ⟨⟨i + 1, by simp, by omega, o7, Ext.step' e f7 fun y hy => hy.1⟩, by simp [m1]; omega⟩
    · obtain ⟨qb, qo, j1, y0, y1, y2, y4⟩ := pl_f Dg.2 (i := i - 1) (by omega)
      have hic : ((i : Int) - 1) = ((i - 1 : Nat) : Int) := by omega
      have g1 : (L.map (·.1)).getD (i - 1) [] = (L[i - 1]).1 := by simp [show i - 1 < L.length by omega]
      by_cases heq : (L[i]).1 = (L[i - 1]).1
      · have hN : nk (L.map (·.1)) (i + 1) = nk (L.map (·.1)) i := by
          rw [nk, if_neg, List.append_nil]
          rw [g0, g1]
          rintro (h | h)
          · exact h0 h
          · exact h heq
        simp (disch := omega) only [dm_t, wS, simprocAttr, IntKind.bits, dc, i1, f0, hic, j1, y0, toList_mk, heq]
        exact ⟨⟨i + 1, by simp, by omega, by rw [hN]; exact ow, e⟩, by simp [m1]; omega⟩
      · have hN : nk (L.map (·.1)) (i + 1) = nk (L.map (·.1)) i ++ [(L[i]).1] := by rw [nk, if_pos (.inr (by rw [g0, g1]; exact heq)), g0]
        simp (disch := omega) only [dm_t, wS, simprocAttr, IntKind.bits, dc, i1, f0, hic, j1, y0, toList_mk, heq]
        refine push1 ow (fun y hy => e.bk hy) rfl (by rw [List.length_map]; omega) (by rw [List.length_map]; omega) ?_
        intro b7 v7 g5 hb7 o7 f7
        rw [push _ rfl hN] at o7
        simp (disch := omega) only [dm_t, wS, simprocAttr, IntKind.bits]
        exact ⟨⟨i + 1, by simp, by omega, o7, Ext.step' e f7 fun y hy => hy.1⟩, by simp [m1]; omega⟩
  · obtain rfl : i = L.length := by omega
    simp (disch := omega) only [dm_t, wS, simprocAttr, IntKind.bits, dc]
    exact ⟨ow, e⟩
theorem DSame_ok {h : H} {d o d' o' : Nat} {v w : Value} {L M : List Pl} (D : DA h d o v L) (D' : DA h d' o' w M) (hL : L.length ≤ 4096) : Ok Try.prog 32 #[.pointer (some ⟨d, o, none⟩), .pointer (some ⟨d', o', none⟩)] h fun r h' => r = .bool (decide (L = M)) ∧ h = h' := by
  obtain ⟨a, c, rfl⟩ := D.len
  obtain ⟨a', c', rfl⟩ := D'.len
  refine c32_ok (args := [_, _]) (by simp) ?_
  by_cases hlm : L.length = M.length
  rotate_left
  · simp (disch := omega) only [dm_t, wS, simprocAttr, IntKind.bits, D.1, D'.1]
    rw [decide_eq_false]
    intro hh; exact hlm (by rw [hh])
  simp (disch := omega) only [dm_t, wS, simprocAttr, IntKind.bits, D.1, D'.1]
  refine vc_loop1 (fun vi g => g = h ∧ ∃ (i : Nat), vi = .int .i64 (i : Int) ∧ i ≤ L.length ∧ L.take i = M.take i) (fun vi _ => L.length - m1 vi) ?_ ?_
  · simp (disch := omega) only [dm_t, wS, simprocAttr, IntKind.bits]
    exact ⟨0, rfl, by omega, by simp⟩
  rintro _ g ⟨hg, i, rfl, hi, heq⟩
  subst hg
  by_cases hil : i < L.length
  · have him : i < M.length := by omega
    obtain ⟨b1, o1, i1, -, -, -, c1⟩ := pl_f D.2 hil
    obtain ⟨b2, o2, i2, -, -, -, c2⟩ := pl_f D'.2 him
    by_cases hv : L[i] = M[i]
    · simp (disch := omega) only [dm_t, wS, simprocAttr, IntKind.bits, D.1, D'.1, i1, i2, c1, c2]
      refine raw_nePl rfl rfl ?_
      rw [decide_eq_true hv]
      simp (disch := omega) only [dm_t, wS, simprocAttr, IntKind.bits, Bool.not_true, D.1, D'.1, i1, i2, c1, c2]
      refine ⟨⟨i + 1, by simp, by omega, ?_⟩, by simp [m1]; omega⟩
      rw [List.take_succ_eq_append_getElem hil, List.take_succ_eq_append_getElem him, heq, hv]
    · simp (disch := omega) only [dm_t, wS, simprocAttr, IntKind.bits, D.1, D'.1, i1, i2, c1, c2]
      refine raw_nePl rfl rfl ?_
      rw [decide_eq_false hv]
      simp (disch := omega) only [dm_t, wS, simprocAttr, IntKind.bits, Bool.not_false, D.1, D'.1, i1, i2, c1, c2]
      rw [decide_eq_false]
      intro hh; subst hh; exact hv rfl
  · obtain rfl : i = L.length := by omega
    simp (disch := omega) only [dm_t, wS, simprocAttr, IntKind.bits, D.1, D'.1]
    rw [decide_eq_true]
    rw [List.take_length, hlm, List.take_length] at heq
    exact heq
/-- The least offset in a partition. -/
def lst1 (n : Int) (ok : Bool) (part : Int) : List Pl → Int × Bool
  | [] => (n, ok)
  | x :: r => if x.2.1 = part ∧ (ok = false ∨ x.2.2.1 < n) then lst1 x.2.2.1 true part r else lst1 n ok part r
theorem Least_ok {h : H} {b m : Nat} {L : List Pl} (G : GB h b m L) (part : Int) : Ok Try.prog 62 #[.pointer (some ⟨b, 0, none⟩), .int .i64 part] h fun u h' => u = .tuple #[.int .i64 (lst1 0 false part L).1, .bool (lst1 0 false part L).2] ∧ Ext h h' := by
  refine c62_ok (args := [_, _]) (by simp) ?_
  simp (disch := omega) only [dm_t, wS, simprocAttr, IntKind.bits]
  refine (list_ok G).k ?_
  rintro _ g1 ⟨pl, e1⟩
  obtain ⟨pa, pc, rfl⟩ := pl.s0.len
  have hL := G.len
  have hml : (L.map pCs).length = L.length := List.length_map ..
  simp (disch := omega) only [dm_t, wS, simprocAttr, IntKind.bits, hml]
  refine vc_loop3 (fun vn vo vi g => ∃ (n : Int) (ok : Bool) (i : Nat), vn = .int .i64 n ∧ vo = .bool ok ∧ vi = .int .i64 (i : Int) ∧ i ≤ L.length ∧ lst1 n ok part (L.drop i) = lst1 0 false part L ∧ SlK 4 nos g (.slice pa L.length pc) (L.map pCs) ∧ Ext h g) (fun _ _ vi _ => L.length - m1 vi) ?_ ?_
  · simp (disch := omega) only [dm_t, wS, simprocAttr, IntKind.bits]
    exact ⟨0, false, 0, rfl, rfl, rfl, by omega, rfl, hml ▸ pl.s0, e1⟩
  rintro _ _ _ g ⟨n, ok, i, rfl, rfl, rfl, hi, heq, ps, e⟩
  by_cases hil : i < L.length
  · obtain ⟨rb, ro, r1, r2⟩ := pl_at ps hil
    rw [List.drop_eq_getElem_cons hil, lst1] at heq
    simp (disch := omega) only [dm_t, wS, simprocAttr, IntKind.bits, r1, r2]
    intro b5 hb5
    simp (disch := omega) only [dm_t, wS, simprocAttr, IntKind.bits]
    refine storeH_all (hupd_same _ _ _) rfl rfl ?_
    rw [hupd_hupd]
    generalize hG : hupd g b5 _ = g2
    obtain ⟨e2, q5⟩ := new_ext hG hb5
    clear hG
    have d1 : cellAt g2 ⟨b5, 1, none⟩ = some (.int .i64 (L[i]).2.1) := by rw [cellAt_of q5]; rfl
    have d2 : cellAt g2 ⟨b5, 2, none⟩ = some (.int .i64 (L[i]).2.2.1) := by rw [cellAt_of q5]; rfl
    have ps2 := SlK.ext ps e2
    have E2 := e.trans e2
    by_cases hp : (L[i]).2.1 = part
    · cases ok with
      | false =>
        rw [if_pos ⟨hp, .inl rfl⟩] at heq
        simp (disch := omega) only [dm_t, wS, simprocAttr, IntKind.bits, d1, d2, Bool.not_false]
        exact ⟨⟨_, true, i + 1, rfl, rfl, by simp, by omega, heq, ps2, E2⟩, by simp [m1]; omega⟩
      | true =>
        by_cases hlt : (L[i]).2.2.1 < n
        · rw [if_pos ⟨hp, .inr hlt⟩] at heq
          simp (disch := omega) only [dm_t, wS, simprocAttr, IntKind.bits, d1, d2, Bool.not_true]
          exact ⟨⟨_, true, i + 1, rfl, rfl, by simp, by omega, heq, ps2, E2⟩, by simp [m1]; omega⟩
        · rw [if_neg (by rintro ⟨_, h | h⟩; (cases h); exact hlt h)] at heq
          simp (disch := omega) only [dm_t, wS, simprocAttr, IntKind.bits, d1, d2, Bool.not_true]
          exact ⟨⟨_, true, i + 1, rfl, rfl, by simp, by omega, heq, ps2, E2⟩, by simp [m1]; omega⟩
    · rw [if_neg (fun h => hp h.1)] at heq
      simp (disch := omega) only [dm_t, wS, simprocAttr, IntKind.bits, d1, d2]
      exact ⟨⟨_, ok, i + 1, rfl, rfl, by simp, by omega, heq, ps2, E2⟩, by simp [m1]; omega⟩
  · obtain rfl : i = L.length := by omega
    rw [List.drop_length] at heq
    rw [← heq]
    simp (disch := omega) only [dm_t, wS, simprocAttr, IntKind.bits]
    exact ⟨by simp [lst1], e⟩
theorem DLeast_ok {h : H} {d o : Nat} {v : Value} {L : List Pl} (D : DA h d o v L) (hL : L.length ≤ 4096) (part : Int) : Ok Try.prog 63 #[.pointer (some ⟨d, o, none⟩), .int .i64 part] h fun u h' => u = .tuple #[.int .i64 (lst1 0 false part L).1, .bool (lst1 0 false part L).2] ∧ h = h' := by
  obtain ⟨a, c, rfl⟩ := D.len
  refine c63_ok (args := [_, _]) (by simp) ?_
  simp (disch := omega) only [dm_t, wS, simprocAttr, IntKind.bits]
  refine vc_loop3 (fun vn vo vi g => g = h ∧ ∃ (n : Int) (ok : Bool) (i : Nat), vn = .int .i64 n ∧ vo = .bool ok ∧ vi = .int .i64 (i : Int) ∧ i ≤ L.length ∧ lst1 n ok part (L.drop i) = lst1 0 false part L) (fun _ _ vi _ => L.length - m1 vi) ?_ ?_
  · simp (disch := omega) only [dm_t, wS, simprocAttr, IntKind.bits]
    exact ⟨0, false, 0, rfl, rfl, rfl, by omega, rfl⟩
  rintro _ _ _ g ⟨hg, n, ok, i, rfl, rfl, rfl, hi, heq⟩
  subst hg
  by_cases hil : i < L.length
  · obtain ⟨b1, o1, i1, -, c1, c2, -⟩ := pl_f D.2 hil
    rw [List.drop_eq_getElem_cons hil, lst1] at heq
    by_cases hp : (L[i]).2.1 = part
    · cases ok with
      | false =>
        rw [if_pos ⟨hp, .inl rfl⟩] at heq
        simp (disch := omega) only [dm_t, wS, simprocAttr, IntKind.bits, D.1, i1, c1, c2, Bool.not_false]
        exact ⟨⟨_, true, i + 1, rfl, rfl, by simp, by omega, heq⟩, by simp [m1]; omega⟩
      | true =>
        by_cases hlt : (L[i]).2.2.1 < n
        · rw [if_pos ⟨hp, .inr hlt⟩] at heq
          simp (disch := omega) only [dm_t, wS, simprocAttr, IntKind.bits, D.1, i1, c1, c2, Bool.not_true]
          exact ⟨⟨_, true, i + 1, rfl, rfl, by simp, by omega, heq⟩, by simp [m1]; omega⟩
        · rw [if_neg (by rintro ⟨_, h | h⟩; (cases h); exact hlt h)] at heq
          simp (disch := omega) only [dm_t, wS, simprocAttr, IntKind.bits, D.1, i1, c1, c2, Bool.not_true]
          exact ⟨⟨_, true, i + 1, rfl, rfl, by simp, by omega, heq⟩, by simp [m1]; omega⟩
    · rw [if_neg (fun h => hp h.1)] at heq
      simp (disch := omega) only [dm_t, wS, simprocAttr, IntKind.bits, D.1, i1, c1, c2]
      exact ⟨⟨_, ok, i + 1, rfl, rfl, by simp, by omega, heq⟩, by simp [m1]; omega⟩
  · obtain rfl : i = L.length := by omega
    rw [List.drop_length] at heq
    rw [← heq]
    simp (disch := omega) only [dm_t, wS, simprocAttr, IntKind.bits, D.1]
    simp [lst1]
end Go.Proofs.Ythhofmjhnjkcfaa.gr
namespace Go.Proofs.Ythhofmjhnjkcfaa.gr
open Go.Proofs.Ythhofmjhnjkcfaa wi
set_option linter.unusedVariables false
set_option linter.unusedSimpArgs false
theorem fnd_snoc {k : Ky} {x : Pl} : ∀ {A : List Pl}, fnd k (A ++ [x]) = match fnd k A with | some y => some y | none => if k = key x then some x else none
  | [] => rfl
  | y :: A => by
    rw [List.cons_append, fnd, fnd]
    by_cases h : k = key y
    · rw [if_pos h, if_pos h]
    · rw [if_neg h, if_neg h, fnd_snoc]
def trm (ms : List Int) (x : Pl) : Int := if x.2.1.toNat < ms.length then max 0 (ms.getD x.2.1.toNat 0 - x.2.2.1) else 0
theorem lagT_snoc {A : List Pl} {x : Pl} {g : List UInt8} {ms : List Int} (hx : fnd (key x) A = none) (n : Nat) : lagT (A ++ [x]) g ms n = if (g, (n : Int)) = key x then trm ms x else lagT A g ms n := by
  unfold lagT
  rw [fnd_snoc]
  by_cases h : (g, (n : Int)) = key x
  · rw [if_pos h, h, hx]
    simp only [if_true]
    have hn : x.2.1 = (n : Int) := (congrArg Prod.snd h).symm
    rw [trm, hn]; rfl
  · simp only [if_neg h]
    cases fnd (g, (n : Int)) A with
    | some y => rfl
    | none => rfl
theorem lagS_snoc {A : List Pl} {x : Pl} {g : List UInt8} {ms : List Int} (hx : fnd (key x) A = none) (h0 : 0 ≤ x.2.1) : ∀ n : Nat, lagS (A ++ [x]) g ms n = lagS A g ms n + (if x.1 = g ∧ x.2.1 < n then trm ms x else 0)
  | 0 => by rw [lagS, lagS, if_neg (by rintro ⟨_, h⟩; omega)]; rfl
  | n + 1 => by
    rw [lagS, lagS, lagS_snoc hx h0 n, lagT_snoc hx]
    by_cases h : (g, (n : Int)) = key x
    · have h1 : x.1 = g := (congrArg Prod.fst h).symm
      have h2 : x.2.1 = (n : Int) := (congrArg Prod.snd h).symm
      have hz : lagT A g ms n = 0 := by unfold lagT; rw [h, hx]
      rw [if_pos h, if_neg (by rintro ⟨_, h⟩; omega), if_pos ⟨h1, by omega⟩, hz]
      try omega
    · rw [if_neg h]
      by_cases h1 : x.1 = g ∧ x.2.1 < (n : Int)
      · rw [if_pos h1, if_pos ⟨h1.1, by omega⟩]; omega
      · rw [if_neg h1, if_neg]
        · omega
        · rintro ⟨h2, h3⟩
          apply h1
          refine ⟨h2, ?_⟩
          have : x.2.1 ≠ (n : Int) := fun e => h (by rw [key, h2, e])
          omega
theorem lagA_snoc {A : List Pl} {x : Pl} {g : List UInt8} (hx : fnd (key x) A = none) (h0 : 0 ≤ x.2.1) : ∀ n : Nat, lagA (A ++ [x]) g n = (lagA A g n || (decide (x.1 = g) && decide (x.2.1 < n)))
  | 0 => by rw [lagA, lagA, decide_eq_false (show ¬ x.2.1 < ((0 : Nat) : Int) by omega), Bool.and_false]; rfl
  | n + 1 => by
    rw [lagA, lagA, lagA_snoc hx h0 n, fnd_snoc]
    by_cases h : (g, (n : Int)) = key x
    · have h1 : x.1 = g := (congrArg Prod.fst h).symm
      have h2 : x.2.1 = (n : Int) := (congrArg Prod.snd h).symm
      rw [h, hx, decide_eq_true h1, decide_eq_true (show x.2.1 < ((n + 1 : Nat) : Int) by omega)]
      simp
    · have hd : (decide (x.1 = g) && decide (x.2.1 < ((n + 1 : Nat) : Int))) = (decide (x.1 = g) && decide (x.2.1 < (n : Int))) := by
        by_cases h1 : x.1 = g
        · have : x.2.1 ≠ (n : Int) := fun e => h (by rw [key, h1, e])
          rw [decide_eq_true h1, Bool.true_and, Bool.true_and]
          by_cases h2 : x.2.1 < (n : Int)
          · rw [decide_eq_true h2, decide_eq_true (by omega)]
          · rw [decide_eq_false h2, decide_eq_false (by omega)]
        · rw [decide_eq_false h1]; rfl
      rw [hd]
      cases fnd (g, (n : Int)) A with
      | some y => simp
      | none => simp [h]
theorem dtime_ok (h : H) (x : Int) : Ok Try.prog 46 #[.int .i64 x] h fun v h' => v = .bool (tm x) ∧ h = h' := by
  refine c46_ok (args := [_]) (by simp) ?_
  by_cases h1 : 0 ≤ x
  · by_cases h2 : x ≤ 9007199254740992
    · simp (disch := omega) only [dm_t, wS, simprocAttr, IntKind.bits]
      simp [tm, h1, h2]
    · simp (disch := omega) only [dm_t, wS, simprocAttr, IntKind.bits]
      simp [tm, h1, h2]
  · simp (disch := omega) only [dm_t, wS, simprocAttr, IntKind.bits]
    simp [tm, h1]
theorem DLag_ok {S : Nat → Prop} {h : H} {d o : Nat} {v : Value} {L : List Pl} (D : DA h d o v L) (l : Lst L) (g : List UInt8) (hg : g.length ≤ 9223372036854775807) {w : Value} {ms : List Int} (s : IL S h w ms) (hl : ms.length ≤ 4611686018427387904) :
    Ok Try.prog 64 #[.pointer (some ⟨d, o, none⟩), sv g, w] h fun u h' => u = .tuple #[.int .i64 (lagV L g ms), .int .i64 (lagE L g ms)] ∧ h = h' := by
  obtain ⟨a, c, rfl⟩ := il_len s
  obtain ⟨a', c', rfl⟩ := D.len
  have hLl := l.len
  refine c64_ok (args := [_, _, _]) (by simp) ?_
  simp (disch := omega) only [dm_t, wS, simprocAttr, IntKind.bits]
  refine (DGroup_ok h g hg).k ?_
  rintro _ _ ⟨rfl, rfl⟩
  cases hgr : grp g with
  | false =>
    have hE : lagE L g ms = 2 := by rw [lagE, if_neg (by simp [hgr])]
    rw [lagV, hE, if_neg (by decide)]
    simp (disch := omega) only [dm_t, wS, simprocAttr, IntKind.bits, Bool.not_false]
  | true =>
  by_cases h16 : 16 < ms.length
  · have hE : lagE L g ms = 2 := by rw [lagE, if_neg (by omega)]
    rw [lagV, hE, if_neg (by decide)]
    simp (disch := omega) only [dm_t, wS, simprocAttr, IntKind.bits, Bool.not_true]
  simp (disch := omega) only [dm_t, wS, simprocAttr, IntKind.bits, Bool.not_true]
  refine vc_loop1 (fun vi g' => g' = h ∧ ∃ (i : Nat), vi = .int .i64 (i : Int) ∧ i ≤ ms.length ∧ (ms.take i).all tm = true) (fun vi _ => ms.length - m1 vi) ?_ ?_
  · simp (disch := omega) only [dm_t, wS, simprocAttr, IntKind.bits]
    exact ⟨0, rfl, by omega, by simp⟩
  rintro _ g' ⟨hg', i, rfl, hi, hall⟩
  subst hg'
  by_cases hil : i < ms.length
  · obtain ⟨b1, o1, i1, t1⟩ := il_at s hil
    simp (disch := omega) only [dm_t, wS, simprocAttr, IntKind.bits, i1, t1]
    refine (dtime_ok g' ms[i]).k ?_
    rintro _ _ ⟨rfl, rfl⟩
    cases hm : tm ms[i] with
    | true =>
      simp (disch := omega) only [dm_t, wS, simprocAttr, IntKind.bits, Bool.not_true]
      refine ⟨⟨i + 1, by simp, by omega, ?_⟩, by simp [m1]; omega⟩
      rw [List.take_succ_eq_append_getElem hil, List.all_append, hall]
      simp [hm]
    | false =>
      have hE : lagE L g ms = 2 := by
        rw [lagE, if_neg]
        rintro ⟨_, _, h⟩
        have := List.all_eq_true.1 h _ (List.getElem_mem hil)
        rw [hm] at this; cases this
      rw [lagV, hE, if_neg (by decide)]
      simp (disch := omega) only [dm_t, wS, simprocAttr, IntKind.bits, Bool.not_false]
  obtain rfl : i = ms.length := by omega
  rw [List.take_length] at hall
  have hE : lagE L g ms = if lagA L g 16 = true then 0 else 360 := by rw [lagE, if_pos ⟨hgr, by omega, hall⟩]
  simp (disch := omega) only [dm_t, wS, simprocAttr, IntKind.bits]
  refine vc_loop3 (fun vn vo vi g2 => g2 = g' ∧ ∃ (i : Nat), vn = .int .i64 (lagS (L.take i) g ms 16) ∧ vo = .bool (lagA (L.take i) g 16) ∧ vi = .int .i64 (i : Int) ∧ i ≤ L.length) (fun _ _ vi _ => L.length - m1 vi) ?_ ?_
  · simp (disch := omega) only [dm_t, wS, simprocAttr, IntKind.bits]
    exact ⟨0, rfl, rfl, rfl, by omega⟩
  rintro _ _ _ g2 ⟨hg2, i, rfl, rfl, rfl, hi⟩
  subst hg2
  by_cases hiL : i < L.length
  · obtain ⟨b1, o1, i1, c0, c1, c2, -⟩ := pl_f D.2 hiL
    have hmp := mayP_iff.1 (l.may _ (List.getElem_mem hiL))
    have hno : fnd (key L[i]) (L.take i) = none := fnd_none.2 fun y hy e => by
      obtain ⟨j, hj, rfl⟩ := List.getElem_of_mem hy
      rw [List.length_take] at hj
      rw [List.getElem_take] at e
      have := List.pairwise_iff_getElem.1 l.srt j i (by omega) hiL (by omega)
      unfold lp at this
      rw [e] at this
      exact so.k_irr _ this
    have hSs := lagS_snoc (g := g) (ms := ms) hno hmp.2.1.1 16
    have hAs := lagA_snoc (g := g) hno hmp.2.1.1 16
    rw [← List.take_succ_eq_append_getElem hiL] at hSs hAs
    have hp16 : (L[i]).2.1 < ((16 : Nat) : Int) := by omega
    have hbd := lagS_bd (L := L.take i) (fun p hp => l.may p (List.mem_of_mem_take hp)) hall (g := g) 16
    obtain ⟨n, hn⟩ : ∃ n : Nat, (L[i]).2.1 = (n : Int) := ⟨(L[i]).2.1.toNat, by omega⟩
    by_cases hge : (L[i]).1 = g
    · rw [if_pos ⟨hge, hp16⟩] at hSs
      rw [decide_eq_true hge, decide_eq_true hp16, Bool.and_true, Bool.or_true] at hAs
      rw [hn] at c1
      have hof := hmp.2.2.1
      by_cases hnm : n < ms.length
      · obtain ⟨b3, o3, i3, t3⟩ := il_at s hnm
        have htm := tm_iff.1 (List.all_eq_true.1 hall _ (List.getElem_mem hnm))
        have htr : trm ms L[i] = max 0 (ms[n] - (L[i]).2.2.1) := by
          rw [trm, hn, Int.toNat_natCast, if_pos hnm, show ms.getD n 0 = ms[n] by simp [hnm]]
        by_cases hgt : (L[i]).2.2.1 < ms[n]
        · simp (disch := omega) only [dm_t, wS, simprocAttr, IntKind.bits, D.1, i1, c0, c1, c2, i3, t3, toList_mk, hge]
          refine ⟨⟨i + 1, ?_, by rw [hAs], by simp, by omega⟩, by simp [m1]; omega⟩
          rw [hSs, htr]; congr 1; omega
        · simp (disch := omega) only [dm_t, wS, simprocAttr, IntKind.bits, D.1, i1, c0, c1, c2, i3, t3, toList_mk, hge]
          refine ⟨⟨i + 1, ?_, by rw [hAs], by simp, by omega⟩, by simp [m1]; omega⟩
          rw [hSs, htr]; congr 1; omega
      · have htr : trm ms L[i] = 0 := by rw [trm, hn, Int.toNat_natCast, if_neg hnm]
        simp (disch := omega) only [dm_t, wS, simprocAttr, IntKind.bits, D.1, i1, c0, c1, c2, toList_mk, hge]
        refine ⟨⟨i + 1, ?_, by rw [hAs], by simp, by omega⟩, by simp [m1]; omega⟩
        rw [hSs, htr]; congr 1; omega
    · rw [if_neg (fun h => hge h.1), Int.add_zero] at hSs
      rw [decide_eq_false hge, Bool.false_and, Bool.or_false] at hAs
      simp (disch := omega) only [dm_t, wS, simprocAttr, IntKind.bits, D.1, i1, c0, toList_mk, hge]
      exact ⟨⟨i + 1, by rw [hSs], by rw [hAs], by simp, by omega⟩, by simp [m1]; omega⟩
  · obtain rfl : i = L.length := by omega
    rw [List.take_length]
    cases hla : lagA L g 16 with
    | true =>
      rw [hla, if_pos rfl] at hE
      rw [lagV, hE, if_pos rfl]
      simp (disch := omega) only [dm_t, wS, simprocAttr, IntKind.bits, D.1]
    | false =>
      rw [hla, if_neg (by simp)] at hE
      rw [lagV, hE, if_neg (by decide)]
      simp (disch := omega) only [dm_t, wS, simprocAttr, IntKind.bits, D.1]
end Go.Proofs.Ythhofmjhnjkcfaa.gr
namespace Go.Proofs.Ythhofmjhnjkcfaa.gr
open Go.Proofs.Ythhofmjhnjkcfaa wi
set_option linter.unusedVariables false
set_option linter.unusedSimpArgs false
def itN (r : Nat) (h : H) : Nat := match h r with
  | some (.mapIter _ _ s _) => 4097 - s.size
  | _ => 0
theorem itN_eq {KT : Type} {enc : KT → Value} {h : H} {b r : Nat} {l vis : List (KT × Value)} (I : ITO enc h b r l vis) : itN r h = 4097 - vis.length := by
  obtain ⟨bs, vs, rest, clock, h1, h2, h3, h4, h5, h6, h7, h8⟩ := I
  unfold itN
  rw [h6]
  simp [← h7]
theorem Copy_no {h : H} {v : Value} (r : NoG h v) : Ok Try.prog 29 #[v] h fun v h' => v = .pointer none ∧ h = h' := by
  refine c29_ok (args := [_]) (by simp) ?_
  simp (disch := omega) only [dm_t, wS, simprocAttr, IntKind.bits]
  refine (none_no r).k ?_
  rintro _ _ ⟨rfl, rfl⟩
  simp (disch := omega) only [dm_t, wS, simprocAttr, IntKind.bits]
theorem Cpy_ok {h : H} {b m : Nat} {L : List Pl} (G : GB h b m L) : Ok Try.prog 29 #[.pointer (some ⟨b, 0, none⟩)] h fun v h' => ∃ b' m', v = .pointer (some ⟨b', 0, none⟩) ∧ h b' = none ∧ h m' = none ∧ GB h' b' m' L ∧ Ext h h' := by
  refine c29_ok (args := [_]) (by simp) ?_
  obtain ⟨kl, M, hp⟩ := G.mo
  have hle := G.len
  have hll := hp.length_eq
  simp (disch := omega) only [dm_t, wS, simprocAttr, IntKind.bits]
  refine (none_ok G).k ?_
  rintro _ _ ⟨rfl, rfl⟩
  simp (disch := omega) only [dm_t, wS, simprocAttr, IntKind.bits]
  refine (GNew_ok h).k ?_
  rintro _ g0 ⟨b', m', rfl, hb', hm', G', e0⟩
  obtain ⟨kl', M', hp'⟩ := G'.mo
  have hkl' : kl' = [] := List.perm_nil.1 hp'
  subst hkl'
  simp (disch := omega) only [dm_t, wS, simprocAttr, IntKind.bits, (G.ext e0).cell]
  refine raw_rangem Try.underlying94 rfl (M.ext e0) ?_
  intro r g1 hr I1 e1
  have hbb : h b ≠ none := G.nb
  have hmm : h m ≠ none := G.nm
  have hrb : h r = none := e0.bk hr
  have hrm' : r ≠ m' := fun h => G'.nm (h ▸ hr)
  have hrb' : r ≠ b' := fun h => G'.nb (h ▸ hr)
  simp (disch := omega) only [dm_t, wS, simprocAttr, IntKind.bits]
  refine vc_loop0 (fun g => ∃ vis : List Pl, ITO enk g m r (kl.map pk) (vis.map pk) ∧ MO enk g m' (vis.map pk) ∧ g b' = some (.cells #[.map (some m')] 96) ∧ Ext h g) (itN r) ⟨[], I1, M'.ext e1, e1.at G'.obj, e0.trans e1⟩ ?_
  rintro g ⟨vis, I, M2, qb, e⟩
  have hvl := I.le
  rw [List.length_map, List.length_map] at hvl
  have hN := itN_eq I
  rw [List.length_map] at hN
  simp (disch := omega) only [dm_t, wS, simprocAttr, IntKind.bits]
  refine raw_nextm rfl I ?_ ?_
  · intro x g2 hx hnew I2 f2
    obtain ⟨y, hy, rfl⟩ := List.mem_map.1 hx
    have hlt : vis.length < kl.length := by
      have := I2.le
      simp only [List.length_append, List.length_map, List.length_singleton] at this
      omega
    have e2 : Ext h g2 := Ext.step' e f2 fun y hy => by rw [hy]; exact hrb
    have M3 := M2.fr f2 (fun h => hrm' h.symm)
    have qb2 := f2 _ _ qb (fun h => hrb' h.symm)
    have p1 : enk (pk y).1 = .agg #[sv y.1, .int .i64 y.2.1] := rfl
    have p2 : (pk y).2 = .agg #[.int .i64 y.2.2.1, .int .i64 y.2.2.2] := rfl
    rw [p1, p2]
    simp (disch := omega) only [dm_t, wS, simprocAttr, IntKind.bits]
    refine raw_entrym rfl I2 ?_
    rw [p1, p2]
    simp (disch := omega) only [dm_t, wS, simprocAttr, IntKind.bits]
    intro kb hkb xb hxb
    generalize hG : hupd g2 kb _ = g3 at hxb ⊢
    obtain ⟨e3, q3⟩ := new_ext hG hkb
    clear hG
    generalize hG : hupd g3 xb _ = g4
    obtain ⟨e4, q4⟩ := new_ext hG hxb
    clear hG
    have q34 := e4.at q3
    refine storeH_all q34 rfl rfl ?_
    generalize hG : hupd g4 kb _ = g5
    have f5 : Fr (fun y => y = kb) g4 g5 := hG ▸ Fr.upd (S := fun y => y = kb) rfl _
    have q5 : g5 kb = some (.cells #[sv y.1, .int .i64 y.2.1] 98) := by rw [← hG, hupd_same]
    have hkx : xb ≠ kb := fun h => ne_of q3 hxb h.symm
    have q6 := f5 _ _ q4 hkx
    have e25 : Ext g2 g5 := Ext.step' (e3.trans e4) f5 fun y hy => by rw [hy]; exact hkb
    clear hG
    simp (disch := omega) only [dm_t, wS, simprocAttr, IntKind.bits]
    refine storeH_all q6 rfl rfl ?_
    generalize hG : hupd g5 xb _ = g6
    have f6 : Fr (fun y => y = xb) g5 g6 := hG ▸ Fr.upd (S := fun y => y = xb) rfl _
    have q7 : g6 xb = some (.cells #[.int .i64 y.2.2.1, .int .i64 y.2.2.2] 100) := by rw [← hG, hupd_same]
    have q8 := f6 _ _ q5 hkx.symm
    have e26 : Ext g2 g6 := Ext.step' e25 f6 fun y hy => by rw [hy]; exact e3.bk hxb
    clear hG
    have ck : cellsAt g6 ⟨kb, 0, none⟩ 2 = some #[sv y.1, .int .i64 y.2.1] := cellsAt_all q8 2 rfl
    have cx : cellsAt g6 ⟨xb, 0, none⟩ 2 = some #[.int .i64 y.2.2.1, .int .i64 y.2.2.2] := cellsAt_all q7 2 rfl
    have E6 := e2.trans e26
    have I6 := I2.ext e26
    have qb6 := e26.at qb2
    have M6 := M3.ext e26
    have cb6 : cellAt g6 ⟨b', 0, none⟩ = some (.map (some m')) := by rw [cellAt_of qb6]; rfl
    simp (disch := omega) only [dm_t, wS, simprocAttr, IntKind.bits, ck, cx, cb6]
    refine raw_update (key := key y) (val := enx (y.2.2.1, y.2.2.2)) keyT Try.underlying94 rfl rfl rfl M6 ?_
    intro g7 M7 f7
    have hno : lk (key y) (vis.map pk) = none := lk_none.2 fun z hz e => hnew z hz e.symm
    have hset : setL (key y) (enx (y.2.2.1, y.2.2.2)) (vis.map pk) = (vis ++ [y]).map pk := by
      unfold setL
      rw [hno, List.map_append]
      rfl
    rw [hset] at M7
    have hmap2 : vis.map pk ++ [pk y] = (vis ++ [y]).map pk := by simp
    rw [hmap2] at I6
    have I7 := I6.fr f7 (fun hh => hmm (hh ▸ hm')) (fun hh => hrm' hh)
    have qb7 := f7 _ _ qb6 (fun hh => G'.ne hh)
    have cb7 : cellAt g7 ⟨b', 0, none⟩ = some (.map (some m')) := by rw [cellAt_of qb7]; rfl
    have hmk : kb ≠ m' := fun hh => M6.nocell (hh ▸ q8)
    have ck7 : cellsAt g7 ⟨kb, 0, none⟩ 2 = some #[sv y.1, .int .i64 y.2.1] := cellsAt_all (f7 _ _ q8 hmk) 2 rfl
    have hmx : xb ≠ m' := fun hh => M6.nocell (hh ▸ q7)
    have cx7 : cellsAt g7 ⟨xb, 0, none⟩ 2 = some #[.int .i64 y.2.2.1, .int .i64 y.2.2.2] := cellsAt_all (f7 _ _ q7 hmx) 2 rfl
    have hN7 := itN_eq I7
    rw [List.length_map, List.length_append, List.length_singleton] at hN7
    have E7 : Ext h g7 := Ext.step' E6 f7 fun y hy => by rw [hy]; exact hm'
    simp (disch := omega) only [dm_t, wS, simprocAttr, IntKind.bits, ck7, cx7, cb7]
    exact ⟨⟨vis ++ [y], I7, M7, qb7, E7⟩, by omega⟩
  · intro hperm
    have hpk : vis.Perm kl := by
      have := hperm.map unpk
      rwa [List.map_map, List.map_map, unpk_pk, List.map_id, List.map_id] at this
    simp (disch := omega) only [dm_t, wS, simprocAttr, IntKind.bits]
    exact ⟨b', m', rfl, hb', hm', ⟨qb, ⟨vis, M2, hpk.trans hp⟩, G.srt, G.may, G.len⟩, e⟩
end Go.Proofs.Ythhofmjhnjkcfaa.gr
namespace Go.Proofs.Ythhofmjhnjkcfaa.gr
open Go.Proofs.Ythhofmjhnjkcfaa wi
set_option linter.unusedVariables false
set_option linter.unusedSimpArgs false
section
variable {S T : Nat → Prop} {g g' : H} {l : List Pl}
theorem SA_it {b : Nat} {s : Value} (hlen : l.length ≤ 4611686018427387904) :
    Rng Try.prog 82 #[.pointer (some ⟨b, 0, none⟩)] l.length (fun i => [.int .i64 (i : Int), .agg (pCs (l.getD i pl0)).toArray]) (fun h => h b = some (.cells #[s] 65) ∧ SlK 4 nos h s (l.map pCs)) := by
  intro L J Jx h X hJ hE hy h0
  obtain ⟨hb, hsl⟩ := hJ _ _ h0
  obtain ⟨sa, sc, hs⟩ := hsl.len
  rw [List.length_map] at hs
  subst hs
  have key : Ok Try.prog 82 #[.func (.yield L) #[] #[], .pointer (some ⟨b, 0, none⟩)] h fun _ h' => J l.length h' ∨ ∃ i, i < l.length ∧ Jx (i + 1) h' := by
    refine c82_ok (args := [_, _]) (by simp) ?_
    simp (disch := omega) only [dm_t, wS, simprocAttr, IntKind.bits, cellAt_of hb]
    refine vc_loop1 (fun vi h' => ∃ i : Nat, vi = .int .i64 (i : Int) ∧ i ≤ l.length ∧ J i h') (fun vi _ => l.length - m1 vi) ?_ ?_
    · simp (disch := omega) only [dm_t, wS, simprocAttr, IntKind.bits]
      exact ⟨0, rfl, by omega, h0⟩
    rintro _ h1 ⟨i, rfl, hi, hj⟩
    by_cases hil : i < l.length
    · obtain ⟨hb1, hs1⟩ := hJ _ _ hj
      obtain ⟨pb, po, g1, g4⟩ := pl_at hs1 hil
      simp (disch := omega) only [dm_t, wS, simprocAttr, IntKind.bits, g1, g4]
      intro c hc
      simp (disch := omega) only [dm_t, wS, simprocAttr, IntKind.bits]
      refine storeH_all (hupd_same _ _ _) rfl rfl ?_
      rw [hupd_hupd]
      have g5 : cellsAt (hupd h1 c (.cells (pCs l[i]).toArray 23)) ⟨c, 0, none⟩ 4 = some (pCs l[i]).toArray := cellsAt_all (hupd_same _ _ _) 4 rfl
      simp (disch := omega) only [dm_t, wS, simprocAttr, IntKind.bits, g5]
      have hj2 : J i (hupd h1 c (.cells (pCs l[i]).toArray 23)) := hE _ _ _ hj (Ext.new hc _)
      have henc : l.getD i pl0 = l[i] := by simp [hil]
      have hy1 := hy i hil _ hj2
      simp only [henc] at hy1
      refine hy1.k ?_
      rintro (_ | _) h2 hj3
      · simp (disch := omega) only [dm_t, wS, simprocAttr, IntKind.bits]
        exact .inr ⟨i, hil, by simpa using hj3⟩
      · simp (disch := omega) only [dm_t, wS, simprocAttr, IntKind.bits]
        exact ⟨⟨i + 1, by simp, by omega, by simpa using hj3⟩, by simp [m1]; omega⟩
    · obtain rfl : i = l.length := by omega
      simp (disch := omega) only [dm_t, wS, simprocAttr, IntKind.bits]
      exact .inl hj
  exact key.k fun _ _ h => h
theorem goes_ok {vb : Nat} {u lv : Value} {leave : Int} (hv : g vb = some (.cells #[u] 65)) (hu : SlK 4 nos g u (l.map pCs)) (hl : SlK 4 S g lv (l.map pCs)) (hlen : l.length ≤ 1000000) (hlv : -9223372036854775808 ≤ leave ∧ leave ≤ 9223372036854775807) :
    Ok Try.prog 65 #[.func (.func 82) #[] #[.pointer (some ⟨vb, 0, none⟩)], lv, .int .i64 leave] g fun r h' => r = .bool true ∧ Ext g h' := by
  obtain ⟨la, lc, hlvv⟩ := hl.len
  rw [List.length_map] at hlvv
  subst hlvv
  refine c65_ok (args := [_, _, _]) (by simp) ?_
  simp (disch := omega) only [dm_t, wS, simprocAttr, IntKind.bits]
  intro b4 h4 b5 h5 b6 h6
  generalize hG : hupd g b4 _ = g1 at h5 h6 ⊢
  obtain ⟨e1, q4⟩ := new_ext hG h4
  clear hG
  generalize hG : hupd g1 b5 _ = g2 at h6 ⊢
  obtain ⟨e2, q5⟩ := new_ext hG h5
  clear hG
  generalize hG : hupd g2 b6 _ = g3
  obtain ⟨e3, q6⟩ := new_ext hG h6
  clear hG
  have n6 := (e1.trans e2).bk h6
  have E3 := e1.trans (e2.trans e3)
  simp (disch := omega) only [dm_t, wS, simprocAttr, IntKind.bits]
  intro b7 h7
  generalize hG : hupd g3 b7 _ = g4
  obtain ⟨e4, q7⟩ := new_ext hG h7
  clear hG
  have n7 := E3.bk h7
  have E4 := E3.trans e4
  have d4 : b4 ≠ b7 := ne_of ((e2.trans e3).at q4) h7
  have d5 : b5 ≠ b7 := ne_of (e3.at q5) h7
  have d6 : b6 ≠ b7 := ne_of q6 h7
  have dv : vb ≠ b7 := ne_of (E3.at hv) h7
  simp (disch := omega) only [dm_t, wS, simprocAttr, IntKind.bits]
  refine storeH_all (vs := [_]) q7 rfl rfl ?_
  generalize hG : hupd g4 b7 _ = g5
  have f5 : Fr (fun y => y = b7) g4 g5 := hG ▸ Fr.upd (S := fun y => y = b7) rfl _
  have q7' : g5 b7 = some (.cells #[.int .i64 ((0 : Nat) : Int)] 3) := hG ▸ hupd_same _ _ _
  clear hG
  replace q4 := (e2.trans (e3.trans e4)).at q4
  replace q5 := (e3.trans e4).at q5
  replace q6 := e4.at q6
  have hu4 : SlK 4 (fun y => y = b7) g4 u (l.map pCs) := SlK.ext (SlK.old hu fun y hy => by rw [hy]; exact n7) E4
  have hl4 : SlK 4 (fun y => y = b7) g4 (.slice la l.length lc) (l.map pCs) := SlK.ext (SlK.old hl fun y hy => by rw [hy]; exact n7) E4
  have nW : ∀ y, y = b7 → g y = none := fun y hy => by rw [hy]; exact n7
  simp (disch := omega) only [dm_t, wS, simprocAttr, IntKind.bits]
  refine vc_rng rfl (by kernel_rfl) (SA_it (b := vb) (s := u) (l := l) (by omega)) ?_
    (fun i G => Fr (fun y => y = b7) g4 G ∧ G b7 = some (.cells #[.int .i64 (i : Int)] 3))
    (fun G => G b6 = some (.cells #[.bool true] 4) ∧ Ext g G) (fun _ _ => False) ?_ ?_ ?_ ?_ ?_ ?_ ?_ (fun _ _ h => h.elim)
  · rintro h b o hb ⟨h1, h2⟩
    exact ⟨(Ext.new hb o).at h1, h2.ext (Ext.new hb o)⟩
  · rintro i G ⟨z0, z1⟩
    exact ⟨z0 _ _ (E4.at hv) dv, SlK.mono (SlK.fr hu4 z0 fun y hy => hy) fun _ _ _ h => h.elim⟩
  · rintro i h' h'' ⟨z0, z1⟩ e
    exact ⟨z0.trans (e.mono fun _ h => h.elim), e.at z1⟩
  · exact ⟨f5, q7'⟩
  · intro i hi; rfl
  · rintro L i h1 hi ⟨r, hr⟩ ⟨z0, z1⟩
    have hgd : l.getD i pl0 = l[i] := by simp [hi]
    rw [hgd]
    simp (disch := omega) only [dm_t, wS, simprocAttr, IntKind.bits, List.zip_cons_cons, List.zip_nil_right, List.cons_append, List.nil_append]
    intro cb hcb
    have hcL : cb ≠ L := fun h => by subst h; rw [hr] at hcb; cases hcb
    simp (disch := omega) only [dm_t, wS, simprocAttr, IntKind.bits]
    refine storeH_all (hupd_same _ _ _) rfl rfl ?_
    rw [hupd_hupd]
    simp (disch := omega) only [dm_t, wS, simprocAttr, IntKind.bits]
    refine ⟨hupd_ne _ _ hcL.symm, ?_⟩
    have e5 := hdel_mono L (Ext.new hcb (.cells (pCs l[i]).toArray 23))
    have q0 : hdel (hupd h1 cb (.cells (pCs l[i]).toArray 23)) L cb = some (.cells (pCs l[i]).toArray 23) := by
      rw [hdel_hupd_ne hcL, hupd_same]
    generalize hdel (hupd h1 cb (.cells (pCs l[i]).toArray 23)) L = G at e5 q0 ⊢
    have w0 : Fr (fun y => y = b7) g4 G := z0.trans (e5.mono fun _ h => h.elim)
    have w1 := e5.at z1
    have c7 : cellAt G ⟨b7, 0, none⟩ = some (.int .i64 (i : Int)) := by rw [cellAt_of w1]; rfl
    have c4 : cellAt G ⟨b4, 0, none⟩ = some (.slice la l.length lc) := by rw [cellAt_of (w0 _ _ q4 d4)]; rfl
    have c5 : ∀ {G'}, Fr (fun y => y = b7) g4 G' → cellAt G' ⟨b5, 0, none⟩ = some (.int .i64 leave) := fun f => by rw [cellAt_of (f _ _ q5 d5)]; rfl
    have xa : cellsAt G ⟨cb, 0, none⟩ 4 = some (pCs l[i]).toArray := cellsAt_all q0 4 rfl
    obtain ⟨pb, po, i1, t1⟩ := pl_at (SlK.fr hl4 w0 fun y hy => hy) hi
    simp (disch := omega) only [dm_t, wS, simprocAttr, IntKind.bits, c7, c4, xa, i1, t1]
    refine raw_nePl rfl rfl ?_
    rw [decide_eq_true rfl]
    simp (disch := omega) only [dm_t, wS, simprocAttr, IntKind.bits, c7, c4, xa, i1, t1, Bool.not_true]
    refine storeH_all (vs := [_]) w1 rfl rfl ?_
    generalize hG : hupd G b7 _ = G2
    have f2 : Fr (fun y => y = b7) G G2 := hG ▸ Fr.upd (S := fun y => y = b7) rfl _
    have q2 : G2 b7 = some (.cells #[.int .i64 ((i + 1 : Nat) : Int)] 3) := by rw [← hG, hupd_same]; simp
    clear hG
    have c72 : cellAt G2 ⟨b7, 0, none⟩ = some (.int .i64 ((i + 1 : Nat) : Int)) := by rw [cellAt_of q2]; rfl
    have w2 := w0.trans f2
    by_cases hlv' : ((i + 1 : Nat) : Int) = leave
    · simp (disch := omega) only [dm_t, wS, simprocAttr, IntKind.bits, c72, c5 w2, hlv']
      refine storeH_all (vs := [_]) (w2 _ _ q6 d6) rfl rfl ?_
      generalize hG : hupd G2 b6 _ = G3
      have f3 : Fr (fun y => y = b6) G2 G3 := hG ▸ Fr.upd (S := fun y => y = b6) rfl _
      have q3 : G3 b6 = some (.cells #[.bool true] 4) := hG ▸ hupd_same _ _ _
      clear hG
      simp (disch := omega) only [dm_t, wS, simprocAttr, IntKind.bits]
      exact fun _ => ⟨q3, Ext.step' (Ext.step' E4 w2 nW) f3 fun y hy => by rw [hy]; exact n6⟩
    · simp (disch := omega) only [dm_t, wS, simprocAttr, IntKind.bits, c72, c5 w2, hlv']
      exact fun _ => ⟨w2, q2⟩
  · rintro G ⟨z0, z1⟩
    have c7 : cellAt G ⟨b7, 0, none⟩ = some (.int .i64 (l.length : Int)) := by rw [cellAt_of z1]; rfl
    have c4 : cellAt G ⟨b4, 0, none⟩ = some (.slice la l.length lc) := by rw [cellAt_of (z0 _ _ q4 d4)]; rfl
    simp (disch := omega) only [dm_t, wS, simprocAttr, IntKind.bits, c7, c4]
    refine storeH_all (vs := [_]) (z0 _ _ q6 d6) rfl rfl ?_
    generalize hG : hupd G b6 _ = G2
    have f2 : Fr (fun y => y = b6) G G2 := hG ▸ Fr.upd (S := fun y => y = b6) rfl _
    have q2 : G2 b6 = some (.cells #[.bool true] 4) := by rw [← hG, hupd_same]
    clear hG
    simp (disch := omega) only [dm_t, wS, simprocAttr, IntKind.bits, cellAt_of q2]
    exact Ext.step' (Ext.step' E4 z0 nW) f2 fun y hy => by rw [hy]; exact n6
  · rintro G ⟨q2, E⟩
    simp (disch := omega) only [dm_t, wS, simprocAttr, IntKind.bits, cellAt_of q2]
    exact E
end
end Go.Proofs.Ythhofmjhnjkcfaa.gr
namespace Go.Proofs.Ythhofmjhnjkcfaa.gr
open Go.Proofs.Ythhofmjhnjkcfaa wi
set_option linter.unusedVariables false
set_option linter.unusedSimpArgs false
theorem as_ok {h : H} {b m d o : Nat} {v : Value} {L : List Pl} (G : GB h b m L) (D : DA h d o v L) : Ok Try.prog 31 #[.pointer (some ⟨b, 0, none⟩), .pointer (some ⟨d, o, none⟩)] h fun r h' => r = .bool true ∧ Ext h h' := by
  obtain ⟨a, c, rfl⟩ := D.len
  have hL := G.len
  refine c31_ok (args := [_, _]) (by simp) ?_
  simp (disch := omega) only [dm_t, wS, simprocAttr, IntKind.bits, D.1]
  refine (Len_ok G).k ?_
  rintro _ _ ⟨rfl, rfl⟩
  simp (disch := omega) only [dm_t, wS, simprocAttr, IntKind.bits, D.1]
  refine (All_ok G).k ?_
  rintro _ g1 ⟨ac, asl, rfl, hac, qac, oac, e1⟩
  have D1 := D.ext e1
  simp (disch := omega) only [dm_t, wS, simprocAttr, IntKind.bits, D1.1]
  refine (goes_ok (leave := 0) qac oac.s0 D1.2 (by omega) (by omega)).k ?_
  rintro _ g2 ⟨rfl, e2⟩
  have D2 := D1.ext e2
  have G2 := (G.ext e1).ext e2
  simp (disch := omega) only [dm_t, wS, simprocAttr, IntKind.bits, D2.1, Bool.not_true]
  refine (Names_ok G2).k ?_
  rintro nv g3 ⟨no, e3⟩
  simp (disch := omega) only [dm_t, wS, simprocAttr, IntKind.bits]
  refine (DNames_ok (D2.ext e3) hL).k ?_
  rintro wv g4 ⟨wo, e4⟩
  obtain ⟨na, nc, hnv⟩ := no.s0.len
  rw [one_len, List.length_map] at hnv
  subst hnv
  obtain ⟨wa, wc, hwv⟩ := wo.s0.len
  rw [one_len, List.length_map] at hwv
  subst hwv
  have s1 := SlK.ext no.s0 e4
  have s2 := wo.s0
  have e24 := ((e1.trans e2).trans e3).trans e4
  have hnl : (nm L).length ≤ 4096 := Nat.le_trans (nk_len _ _) hL
  simp (disch := omega) only [dm_t, wS, simprocAttr, IntKind.bits]
  refine vc_loop1 (fun vi g => g = g4 ∧ ∃ (i : Nat), vi = .int .i64 (i : Int) ∧ i ≤ (nm L).length) (fun vi _ => (nm L).length - m1 vi) ?_ ?_
  · simp (disch := omega) only [dm_t, wS, simprocAttr, IntKind.bits]
    exact ⟨0, rfl, by omega⟩
  rintro _ g ⟨hg, i, rfl, hi⟩
  subst hg
  by_cases hil : i < (nm L).length
  · obtain ⟨b1, o1, i1, c1⟩ := ss_at s1 hil
    obtain ⟨b2, o2, i2, c2⟩ := ss_at s2 hil
    simp (disch := omega) only [dm_t, wS, simprocAttr, IntKind.bits, i1, c1, i2, c2, toList_mk]
    exact ⟨⟨i + 1, by simp, by omega⟩, by simp [m1]; omega⟩
  obtain rfl : i = (nm L).length := by omega
  simp (disch := omega) only [dm_t, wS, simprocAttr, IntKind.bits]
  refine (Records_ok (G.ext e24)).k ?_
  rintro rv g5 ⟨rr, e5⟩
  obtain ⟨ra, rn, rfl⟩ := rr.len
  have e25 := e24.trans e5
  have hml : (L.map recP).length = L.length := List.length_map ..
  simp (disch := omega) only [dm_t, wS, simprocAttr, IntKind.bits, hml, (D.ext e25).1]
  refine vc_loop1 (fun vi g' => ∃ (i : Nat), vi = .int .i64 (i : Int) ∧ i ≤ L.length ∧ Ext g5 g') (fun vi _ => L.length - m1 vi) ?_ ?_
  · simp (disch := omega) only [dm_t, wS, simprocAttr, IntKind.bits]
    exact ⟨0, rfl, by omega, Ext.refl _⟩
  rintro _ g6 ⟨i, rfl, hi, e6⟩
  by_cases hil : i < L.length
  · obtain ⟨b1, o1, cs, i1, c1, -, r1⟩ := (rr.ext e6).load (i := i) (by rw [hml]; exact hil) .i64 3 sz_rc
    have D6 := D.ext (e25.trans e6)
    obtain ⟨b2, o2, i2, c2⟩ := pl_at D6.2 hil
    have hm := G.may _ (List.getElem_mem hil)
    rw [hml] at i1
    rw [List.getElem_map] at r1
    simp (disch := omega) only [dm_t, wS, simprocAttr, IntKind.bits, hml, i1, c1, D6.1, i2, c2]
    refine (DRecord_ok g6 L[i] hm).k ?_
    rintro _ g7 ⟨hRN, e7⟩
    obtain ⟨zs, rfl, hz⟩ := hRN.rep
    simp (disch := omega) only [dm_t, wS, simprocAttr, IntKind.bits, hml, i1, cellsAt_ext e7 c1, (D6.ext e7).1, i2, cellsAt_ext e7 c2]
    refine (same_ok (Rep.ext r1 e7) hz).k ?_
    rintro _ g8 ⟨rfl, e8⟩
    rw [decide_eq_true rfl]
    simp (disch := omega) only [dm_t, wS, simprocAttr, IntKind.bits, hml, i1, cellsAt_ext (e7.trans e8) c1, (D6.ext (e7.trans e8)).1, i2, cellsAt_ext (e7.trans e8) c2, Bool.not_true]
    exact ⟨⟨i + 1, by simp, by omega, (e6.trans e7).trans e8⟩, by simp [m1]; omega⟩
  · simp (disch := omega) only [dm_t, wS, simprocAttr, IntKind.bits, hml]
    exact e25.trans e6
end Go.Proofs.Ythhofmjhnjkcfaa.gr
namespace Go.Proofs.Ythhofmjhnjkcfaa.gr
open Go.Proofs.Ythhofmjhnjkcfaa wi
set_option linter.unusedVariables false
set_option linter.unusedSimpArgs false
abbrev askT : Ty := .pair tI (.pair plT (.pair (.sl rc) (.pair (.sl tI) tI)))
abbrev aCs (k : Int) (p : Pl) (lv mv : Value) (q : Int) : List Value := .int .i64 k :: (pCs p ++ [lv, mv, .int .i64 q])
section
variable {h h' : H} {b m d : Nat} {v : Value} {L : List Pl}
theorem DG.frm (D : DG h d v L) (G : GB h b m L) (f : Fr (fun y => y = m) h h') : DG h' d v L := by
  have hd : ¬ d = m := fun e => G.nocell D.1 e
  refine ⟨f _ _ D.1 hd, OwK.fr D.2 f fun y hy _ hat => ?_⟩
  obtain ⟨c, fr, hc⟩ := D.2.ty hat
  exact G.nocell hc hy
theorem GB.frd {M : List Pl} (G : GB h b m L) (D : DG h d v M) (f : Fr (fun y => y = d) h h') : GB h' b m L := by
  refine G.fr f (fun e => ?_) (fun e => G.nocell D.1 e.symm)
  have := G.obj
  rw [e, D.1] at this
  simp only [Option.some.injEq, Obj.cells.injEq] at this
  exact absurd this.2.1 (by decide)
end
/-- Both stand alike. -/
def Both (h : H) (b m d : Nat) : Prop := ∃ L v, GB h b m L ∧ DG h d v L
section
variable {h : H} {b m d : Nat} {v : Value} {L : List Pl} {lv mv : Value} {l : List rc.D} {ms : List Int} {p : Pl} {q : Int}
theorem ask_set {k : Int} (hk : k = 0 ∨ k = 1) (G : GB h b m L) (D : DG h d v L) (hp : p.1.length ≤ 9223372036854775807) (hlv : isCell lv = true) (hmv : isCell mv = true) :
    Ok Try.prog 30 #[.pointer (some ⟨b, 0, none⟩), .pointer (some ⟨d, 0, none⟩), .agg (aCs k p lv mv q).toArray] h fun r h' => r = .bool true ∧ Both h' b m d ∧ Fr (fun y => y = m ∨ y = d) h h' := by
  refine c30_ok (args := [_, _, _]) (by simp) ?_
  simp (disch := omega) only [dm_t, wS, simprocAttr, IntKind.bits]
  intro b5 hb5
  generalize hG : hupd h b5 _ = g1
  obtain ⟨e1, q5⟩ := new_ext hG hb5
  clear hG
  have c0 : ∀ {g}, Ext g1 g → cellAt g ⟨b5, 0, none⟩ = some (.int .i64 k) := fun e => by rw [cellAt_of (e.at q5)]; rfl
  have cp : ∀ {g}, Ext g1 g → cellsAt g ⟨b5, 1, none⟩ 4 = some (pCs p).toArray := fun e => by rw [cellsAt_of (e.at q5) (by simp)]; rfl
  have G1 := G.ext e1
  have D1 := D.ext e1
  have k5 : g1 b5 ≠ none := by rw [q5]; simp
  have n5 : ¬ b5 = m := fun e => G.nm (e ▸ hb5)
  have n5d : ¬ b5 = d := fun e => by rw [e, D.1] at hb5; cases hb5
  rcases hk with rfl | rfl
  ·
    simp (disch := omega) only [dm_t, wS, simprocAttr, IntKind.bits, c0 (Ext.refl _), cp (Ext.refl _)]
    refine (Set_ok G1 p hp).k ?_
    rintro _ g2 ⟨rfl, G2, f2⟩
    have q52 := f2 _ _ q5 n5
    have D2 := D1.frm G1 f2
    have cp2 : ∀ {g}, Ext g2 g → cellsAt g ⟨b5, 1, none⟩ 4 = some (pCs p).toArray := fun e => by rw [cellsAt_of (e.at q52) (by simp)]; rfl
    have F2 : Fr (fun y => y = m ∨ y = d) h g2 := (e1.mono fun _ h => h.elim).trans (f2.mono fun _ h => .inl h)
    simp (disch := omega) only [dm_t, wS, simprocAttr, IntKind.bits, cp2 (Ext.refl _)]
    refine (DMay_ok g2 p hp).k ?_
    rintro _ g3 ⟨rfl, e3⟩
    have F3 := F2.trans (e3.mono fun _ h => h.elim)
    cases hm : mayP p with
    | false =>
      have hE : setE L p = 2 := by rw [setE, if_neg (by rw [hm]; simp)]
      rw [setR, hE, if_neg (by decide)] at G2
      rw [hE]
      simp (disch := omega) only [dm_t, wS, simprocAttr, IntKind.bits, Bool.not_false]
      refine (num_ok g3 2).k ?_
      rintro _ _ ⟨rfl, rfl⟩
      simp (disch := omega) only [dm_t, wS, simprocAttr, IntKind.bits]
      exact ⟨⟨_, _, G2.ext e3, D2.ext e3⟩, F3⟩
    | true =>
      simp (disch := omega) only [dm_t, wS, simprocAttr, IntKind.bits, Bool.not_true, cp2 e3]
      refine (num_ok g3 (setE L p)).k ?_
      rintro _ _ ⟨rfl, rfl⟩
      simp (disch := omega) only [dm_t, wS, simprocAttr, IntKind.bits, cp2 e3]
      refine (DSet_ok (D2.ext e3) G.srt G.len p).k ?_
      rintro _ g4 ⟨rfl, ⟨w4, D4⟩, f4⟩
      rw [(dset_eq hm).2] at D4
      rw [(dset_eq hm).1]
      have cp4 : cellsAt g4 ⟨b5, 1, none⟩ 4 = some (pCs p).toArray := by rw [cellsAt_of (f4 _ _ (e3.at q52) n5d) (by simp)]; rfl
      simp (disch := omega) only [dm_t, wS, simprocAttr, IntKind.bits, cp4, beq_self_eq_true]
      exact ⟨⟨_, _, (G2.ext e3).frd (D2.ext e3) f4, D4⟩, F3.trans (f4.mono fun _ h => .inr h)⟩
  ·
    simp (disch := omega) only [dm_t, wS, simprocAttr, IntKind.bits, c0 (Ext.refl _), cp (Ext.refl _)]
    refine (Set_ok G1 p hp).k ?_
    rintro _ g2 ⟨rfl, G2, f2⟩
    have q52 := f2 _ _ q5 n5
    have D2 := D1.frm G1 f2
    have cp2 : ∀ {g}, Ext g2 g → cellsAt g ⟨b5, 1, none⟩ 4 = some (pCs p).toArray := fun e => by rw [cellsAt_of (e.at q52) (by simp)]; rfl
    have F2 : Fr (fun y => y = m ∨ y = d) h g2 := (e1.mono fun _ h => h.elim).trans (f2.mono fun _ h => .inl h)
    simp (disch := omega) only [dm_t, wS, simprocAttr, IntKind.bits, cp2 (Ext.refl _)]
    refine (DMay_ok g2 p hp).k ?_
    rintro _ g3 ⟨rfl, e3⟩
    have F3 := F2.trans (e3.mono fun _ h => h.elim)
    cases hm : mayP p with
    | false =>
      have hE : setE L p = 2 := by rw [setE, if_neg (by rw [hm]; simp)]
      rw [setR, hE, if_neg (by decide)] at G2
      rw [hE]
      simp (disch := omega) only [dm_t, wS, simprocAttr, IntKind.bits, Bool.not_false]
      refine (num_ok g3 2).k ?_
      rintro _ _ ⟨rfl, rfl⟩
      simp (disch := omega) only [dm_t, wS, simprocAttr, IntKind.bits]
      exact ⟨⟨_, _, G2.ext e3, D2.ext e3⟩, F3⟩
    | true =>
      simp (disch := omega) only [dm_t, wS, simprocAttr, IntKind.bits, Bool.not_true, cp2 e3]
      refine (num_ok g3 (setE L p)).k ?_
      rintro _ _ ⟨rfl, rfl⟩
      simp (disch := omega) only [dm_t, wS, simprocAttr, IntKind.bits, cp2 e3]
      refine (DSet_ok (D2.ext e3) G.srt G.len p).k ?_
      rintro _ g4 ⟨rfl, ⟨w4, D4⟩, f4⟩
      rw [(dset_eq hm).2] at D4
      rw [(dset_eq hm).1]
      have cp4 : cellsAt g4 ⟨b5, 1, none⟩ 4 = some (pCs p).toArray := by rw [cellsAt_of (f4 _ _ (e3.at q52) n5d) (by simp)]; rfl
      simp (disch := omega) only [dm_t, wS, simprocAttr, IntKind.bits, cp4, beq_self_eq_true]
      exact ⟨⟨_, _, (G2.ext e3).frd (D2.ext e3) f4, D4⟩, F3.trans (f4.mono fun _ h => .inr h)⟩
end
end Go.Proofs.Ythhofmjhnjkcfaa.gr
namespace Go.Proofs.Ythhofmjhnjkcfaa.gr
open Go.Proofs.Ythhofmjhnjkcfaa wi
set_option linter.unusedVariables false
set_option linter.unusedSimpArgs false
section
variable {h : H} {b m d : Nat} {v : Value} {L : List Pl} {lv mv : Value} {l : List rc.D} {ms : List Int} {p : Pl} {q : Int}
theorem ask_let {k : Int} (hk : k = 2) (G : GB h b m L) (D : DG h d v L) (hp : p.1.length ≤ 9223372036854775807) :
    Ok Try.prog 30 #[.pointer (some ⟨b, 0, none⟩), .pointer (some ⟨d, 0, none⟩), .agg (aCs k p lv mv q).toArray] h fun r h' => r = .bool true ∧ Both h' b m d ∧ Fr (fun y => y = m ∨ y = d) h h' := by
  refine c30_ok (args := [_, _, _]) (by simp) ?_
  simp (disch := omega) only [dm_t, wS, simprocAttr, IntKind.bits]
  intro b5 hb5
  generalize hG : hupd h b5 _ = g1
  obtain ⟨e1, q5⟩ := new_ext hG hb5
  clear hG
  have cz : ∀ {g}, Ext g1 g → cellAt g ⟨b5, 0, none⟩ = some (.int .i64 k) ∧ cellAt g ⟨b5, 1, none⟩ = some (sv p.1) ∧ cellAt g ⟨b5, 2, none⟩ = some (.int .i64 p.2.1) ∧ cellAt g ⟨b5, 5, none⟩ = some lv ∧ cellAt g ⟨b5, 6, none⟩ = some mv ∧ cellAt g ⟨b5, 7, none⟩ = some (.int .i64 q) := fun e => by
    rw [cellAt_of (e.at q5), cellAt_of (e.at q5), cellAt_of (e.at q5), cellAt_of (e.at q5), cellAt_of (e.at q5), cellAt_of (e.at q5)]; exact ⟨rfl, rfl, rfl, rfl, rfl, rfl⟩
  have G1 := G.ext e1
  have D1 := D.ext e1
  have n5 : ¬ b5 = m := fun e => G.nm (e ▸ hb5)
  have n5d : ¬ b5 = d := fun e => by rw [e, D.1] at hb5; cases hb5
  have FE : ∀ {g}, Ext h g → Fr (fun y => y = m ∨ y = d) h g := fun e => e.mono fun _ h => h.elim
  have fin : ∀ {g}, Ext g1 g → Both g b m d ∧ Fr (fun y => y = m ∨ y = d) h g := fun e => ⟨⟨_, _, G1.ext e, D1.ext e⟩, FE (e1.trans e)⟩
  obtain ⟨z0, z1, z2, z5, z6, z7⟩ := cz (Ext.refl _)
  subst hk
  simp (disch := omega) only [dm_t, wS, simprocAttr, IntKind.bits, z0, z1, z2]
  refine (Let_ok G1 (key p) hp).k ?_
  rintro _ g2 ⟨rfl, G2, f2⟩
  have q52 := f2 _ _ q5 n5
  have D2 := D1.frm G1 f2
  have y1 : ∀ {g}, Ext g2 g → cellAt g ⟨b5, 1, none⟩ = some (sv p.1) ∧ cellAt g ⟨b5, 2, none⟩ = some (.int .i64 p.2.1) := fun e => by
    rw [cellAt_of (e.at q52), cellAt_of (e.at q52)]; exact ⟨rfl, rfl⟩
  obtain ⟨x1, x2⟩ := y1 (Ext.refl _)
  have F2 : Fr (fun y => y = m ∨ y = d) h g2 := (FE e1).trans (f2.mono fun _ h => .inl h)
  have bad : ¬ (grp (key p).1 && prt (key p).2) = true → letE L (key p) = 2 ∧ GB g2 b m L := fun hn => by
    have hE : letE L (key p) = 2 := by rw [letE, if_neg hn]
    rw [letR, hE, if_neg (by decide)] at G2
    exact ⟨hE, G2⟩
  simp (disch := omega) only [dm_t, wS, simprocAttr, IntKind.bits, x1, x2]
  refine (DGroup_ok g2 p.1 hp).k ?_
  rintro _ _ ⟨rfl, rfl⟩
  cases hg : grp p.1 with
  | false =>
    obtain ⟨hE, G2'⟩ := bad (by show ¬ (grp p.1 && prt p.2.1) = true; rw [hg]; simp)
    rw [hE]
    simp (disch := omega) only [dm_t, wS, simprocAttr, IntKind.bits, Bool.not_false, x1, x2]
    refine (num_ok g2 2).k ?_
    rintro _ _ ⟨rfl, rfl⟩
    simp (disch := omega) only [dm_t, wS, simprocAttr, IntKind.bits]
    exact ⟨⟨_, _, G2', D2⟩, F2⟩
  | true =>
  simp (disch := omega) only [dm_t, wS, simprocAttr, IntKind.bits, Bool.not_true, x1, x2]
  refine (DPart_ok g2 p.2.1).k ?_
  rintro _ _ ⟨rfl, rfl⟩
  cases hpp : prt p.2.1 with
  | false =>
    obtain ⟨hE, G2'⟩ := bad (by show ¬ (grp p.1 && prt p.2.1) = true; rw [hpp]; simp)
    rw [hE]
    simp (disch := omega) only [dm_t, wS, simprocAttr, IntKind.bits, Bool.not_false, x1, x2]
    refine (num_ok g2 2).k ?_
    rintro _ _ ⟨rfl, rfl⟩
    simp (disch := omega) only [dm_t, wS, simprocAttr, IntKind.bits]
    exact ⟨⟨_, _, G2', D2⟩, F2⟩
  | true =>
  have hgp : (grp (key p).1 && prt (key p).2) = true := by show (grp p.1 && prt p.2.1) = true; rw [hg, hpp]; rfl
  simp (disch := omega) only [dm_t, wS, simprocAttr, IntKind.bits, Bool.not_true, x1, x2]
  refine (num_ok g2 (letE L (key p))).k ?_
  rintro _ _ ⟨rfl, rfl⟩
  simp (disch := omega) only [dm_t, wS, simprocAttr, IntKind.bits, x1, x2]
  refine (DLet_ok D2 G.srt G.len (key p)).k ?_
  rintro _ g4 ⟨rfl, ⟨w4, D4⟩, f4⟩
  rw [(dlet_eq hgp).2] at D4
  rw [(dlet_eq hgp).1]
  have q54 := f4 _ _ q52 n5d
  have x14 : cellAt g4 ⟨b5, 1, none⟩ = some (sv p.1) := by rw [cellAt_of q54]; rfl
  have x24 : cellAt g4 ⟨b5, 2, none⟩ = some (.int .i64 p.2.1) := by rw [cellAt_of q54]; rfl
  simp (disch := omega) only [dm_t, wS, simprocAttr, IntKind.bits, x14, x24, beq_self_eq_true]
  exact ⟨⟨_, _, G2.frd D2 f4, D4⟩, F2.trans (f4.mono fun _ h => .inr h)⟩
theorem ask_at {k : Int} (hk : k = 4) (G : GB h b m L) (D : DG h d v L) (hp : p.1.length ≤ 9223372036854775807) :
    Ok Try.prog 30 #[.pointer (some ⟨b, 0, none⟩), .pointer (some ⟨d, 0, none⟩), .agg (aCs k p lv mv q).toArray] h fun r h' => r = .bool true ∧ Both h' b m d ∧ Fr (fun y => y = m ∨ y = d) h h' := by
  refine c30_ok (args := [_, _, _]) (by simp) ?_
  simp (disch := omega) only [dm_t, wS, simprocAttr, IntKind.bits]
  intro b5 hb5
  generalize hG : hupd h b5 _ = g1
  obtain ⟨e1, q5⟩ := new_ext hG hb5
  clear hG
  have cz : ∀ {g}, Ext g1 g → cellAt g ⟨b5, 0, none⟩ = some (.int .i64 k) ∧ cellAt g ⟨b5, 1, none⟩ = some (sv p.1) ∧ cellAt g ⟨b5, 2, none⟩ = some (.int .i64 p.2.1) ∧ cellAt g ⟨b5, 5, none⟩ = some lv ∧ cellAt g ⟨b5, 6, none⟩ = some mv ∧ cellAt g ⟨b5, 7, none⟩ = some (.int .i64 q) := fun e => by
    rw [cellAt_of (e.at q5), cellAt_of (e.at q5), cellAt_of (e.at q5), cellAt_of (e.at q5), cellAt_of (e.at q5), cellAt_of (e.at q5)]; exact ⟨rfl, rfl, rfl, rfl, rfl, rfl⟩
  have G1 := G.ext e1
  have D1 := D.ext e1
  have n5 : ¬ b5 = m := fun e => G.nm (e ▸ hb5)
  have n5d : ¬ b5 = d := fun e => by rw [e, D.1] at hb5; cases hb5
  have FE : ∀ {g}, Ext h g → Fr (fun y => y = m ∨ y = d) h g := fun e => e.mono fun _ h => h.elim
  have fin : ∀ {g}, Ext g1 g → Both g b m d ∧ Fr (fun y => y = m ∨ y = d) h g := fun e => ⟨⟨_, _, G1.ext e, D1.ext e⟩, FE (e1.trans e)⟩
  obtain ⟨z0, z1, z2, z5, z6, z7⟩ := cz (Ext.refl _)
  subst hk
  simp (disch := omega) only [dm_t, wS, simprocAttr, IntKind.bits, z0, z1, z2]
  refine (At_ok G1 (key p) hp).k ?_
  rintro _ g2 ⟨rfl, e2⟩
  simp (disch := omega) only [dm_t, wS, simprocAttr, IntKind.bits]
  intro a1 ha1
  simp (disch := omega) only [dm_t, wS, simprocAttr, IntKind.bits]
  refine storeH_all (hupd_same _ _ _) rfl rfl ?_
  rw [hupd_hupd]
  generalize hG : hupd g2 a1 _ = g3
  obtain ⟨e3, q3⟩ := new_ext hG ha1
  clear hG
  have e13 := e2.trans e3
  obtain ⟨y0, y1, y2, y5, y6, y7⟩ := cz e13
  simp (disch := omega) only [dm_t, wS, simprocAttr, IntKind.bits, y1, y2]
  refine (DAt_ok (D1.ext e13) G.srt G.len (key p) hp).k ?_
  rintro _ g4 ⟨rfl, e4⟩
  simp (disch := omega) only [dm_t, wS, simprocAttr, IntKind.bits]
  intro a2 ha2
  simp (disch := omega) only [dm_t, wS, simprocAttr, IntKind.bits]
  refine storeH_all (hupd_same _ _ _) rfl rfl ?_
  rw [hupd_hupd]
  generalize hG : hupd g4 a2 _ = g5
  obtain ⟨e5, q4⟩ := new_ext hG ha2
  clear hG
  have x3 : cellsAt g5 ⟨a1, 0, none⟩ 4 = some (pCs (atP L (key p))).toArray := cellsAt_all ((e4.trans e5).at q3) 4 rfl
  have x4 : cellsAt g5 ⟨a2, 0, none⟩ 4 = some (pCs (atP L (key p))).toArray := cellsAt_all q4 4 rfl
  simp (disch := omega) only [dm_t, wS, simprocAttr, IntKind.bits, x3, x4]
  refine raw_eqPl rfl rfl ?_
  rw [decide_eq_true rfl]
  simp (disch := omega) only [dm_t, wS, simprocAttr, IntKind.bits, x3, x4]
  refine (num_ok g5 (letE L (key p))).k ?_
  rintro _ _ ⟨rfl, rfl⟩
  simp (disch := omega) only [dm_t, wS, simprocAttr, IntKind.bits, beq_self_eq_true]
  exact fin ((e13.trans e4).trans e5)
theorem ask_least {k : Int} (hk : k = 5) (G : GB h b m L) (D : DG h d v L) (hp : p.1.length ≤ 9223372036854775807) :
    Ok Try.prog 30 #[.pointer (some ⟨b, 0, none⟩), .pointer (some ⟨d, 0, none⟩), .agg (aCs k p lv mv q).toArray] h fun r h' => r = .bool true ∧ Both h' b m d ∧ Fr (fun y => y = m ∨ y = d) h h' := by
  refine c30_ok (args := [_, _, _]) (by simp) ?_
  simp (disch := omega) only [dm_t, wS, simprocAttr, IntKind.bits]
  intro b5 hb5
  generalize hG : hupd h b5 _ = g1
  obtain ⟨e1, q5⟩ := new_ext hG hb5
  clear hG
  have cz : ∀ {g}, Ext g1 g → cellAt g ⟨b5, 0, none⟩ = some (.int .i64 k) ∧ cellAt g ⟨b5, 1, none⟩ = some (sv p.1) ∧ cellAt g ⟨b5, 2, none⟩ = some (.int .i64 p.2.1) ∧ cellAt g ⟨b5, 5, none⟩ = some lv ∧ cellAt g ⟨b5, 6, none⟩ = some mv ∧ cellAt g ⟨b5, 7, none⟩ = some (.int .i64 q) := fun e => by
    rw [cellAt_of (e.at q5), cellAt_of (e.at q5), cellAt_of (e.at q5), cellAt_of (e.at q5), cellAt_of (e.at q5), cellAt_of (e.at q5)]; exact ⟨rfl, rfl, rfl, rfl, rfl, rfl⟩
  have G1 := G.ext e1
  have D1 := D.ext e1
  have n5 : ¬ b5 = m := fun e => G.nm (e ▸ hb5)
  have n5d : ¬ b5 = d := fun e => by rw [e, D.1] at hb5; cases hb5
  have FE : ∀ {g}, Ext h g → Fr (fun y => y = m ∨ y = d) h g := fun e => e.mono fun _ h => h.elim
  have fin : ∀ {g}, Ext g1 g → Both g b m d ∧ Fr (fun y => y = m ∨ y = d) h g := fun e => ⟨⟨_, _, G1.ext e, D1.ext e⟩, FE (e1.trans e)⟩
  obtain ⟨z0, z1, z2, z5, z6, z7⟩ := cz (Ext.refl _)
  subst hk
  simp (disch := omega) only [dm_t, wS, simprocAttr, IntKind.bits, z0, z1, z2]
  refine (Least_ok G1 p.2.1).k ?_
  rintro _ g2 ⟨rfl, e2⟩
  obtain ⟨y0, y1, y2, y5, y6, y7⟩ := cz e2
  simp (disch := omega) only [dm_t, wS, simprocAttr, IntKind.bits, y1, y2]
  refine (DLeast_ok (D1.ext e2).da G.len p.2.1).k ?_
  rintro _ _ ⟨rfl, rfl⟩
  simp (disch := omega) only [dm_t, wS, simprocAttr, IntKind.bits, beq_self_eq_true]
  exact fin e2
theorem ask_lag {k : Int} (hk : k = 6) (G : GB h b m L) (D : DG h d v L) (hp : p.1.length ≤ 9223372036854775807) (hm : IL nos h mv ms) (hml : ms.length ≤ 60) :
    Ok Try.prog 30 #[.pointer (some ⟨b, 0, none⟩), .pointer (some ⟨d, 0, none⟩), .agg (aCs k p lv mv q).toArray] h fun r h' => r = .bool true ∧ Both h' b m d ∧ Fr (fun y => y = m ∨ y = d) h h' := by
  refine c30_ok (args := [_, _, _]) (by simp) ?_
  simp (disch := omega) only [dm_t, wS, simprocAttr, IntKind.bits]
  intro b5 hb5
  generalize hG : hupd h b5 _ = g1
  obtain ⟨e1, q5⟩ := new_ext hG hb5
  clear hG
  have cz : ∀ {g}, Ext g1 g → cellAt g ⟨b5, 0, none⟩ = some (.int .i64 k) ∧ cellAt g ⟨b5, 1, none⟩ = some (sv p.1) ∧ cellAt g ⟨b5, 2, none⟩ = some (.int .i64 p.2.1) ∧ cellAt g ⟨b5, 5, none⟩ = some lv ∧ cellAt g ⟨b5, 6, none⟩ = some mv ∧ cellAt g ⟨b5, 7, none⟩ = some (.int .i64 q) := fun e => by
    rw [cellAt_of (e.at q5), cellAt_of (e.at q5), cellAt_of (e.at q5), cellAt_of (e.at q5), cellAt_of (e.at q5), cellAt_of (e.at q5)]; exact ⟨rfl, rfl, rfl, rfl, rfl, rfl⟩
  have G1 := G.ext e1
  have D1 := D.ext e1
  have n5 : ¬ b5 = m := fun e => G.nm (e ▸ hb5)
  have n5d : ¬ b5 = d := fun e => by rw [e, D.1] at hb5; cases hb5
  have FE : ∀ {g}, Ext h g → Fr (fun y => y = m ∨ y = d) h g := fun e => e.mono fun _ h => h.elim
  have fin : ∀ {g}, Ext g1 g → Both g b m d ∧ Fr (fun y => y = m ∨ y = d) h g := fun e => ⟨⟨_, _, G1.ext e, D1.ext e⟩, FE (e1.trans e)⟩
  obtain ⟨z0, z1, z2, z5, z6, z7⟩ := cz (Ext.refl _)
  subst hk
  obtain ⟨ma, mc, rfl⟩ := il_len hm
  simp (disch := omega) only [dm_t, wS, simprocAttr, IntKind.bits, z0, z1, z2, z6]
  refine (Lag_ok G1 p.1 hp (SlK.ext hm e1) (by omega)).k ?_
  rintro _ g2 ⟨rfl, e2⟩
  obtain ⟨y0, y1, y2, y5, y6, y7⟩ := cz e2
  simp (disch := omega) only [dm_t, wS, simprocAttr, IntKind.bits, y1, y2, y6]
  refine (DLag_ok (S := nos) (D1.ext e2).da G.lst p.1 hp (SlK.ext hm (e1.trans e2)) (by omega)).k ?_
  rintro _ _ ⟨rfl, rfl⟩
  simp (disch := omega) only [dm_t, wS, simprocAttr, IntKind.bits]
  refine (num_ok g2 (lagE L p.1 ms)).k ?_
  rintro _ _ ⟨rfl, rfl⟩
  simp (disch := omega) only [dm_t, wS, simprocAttr, IntKind.bits, beq_self_eq_true]
  exact fin e2
theorem ask_all {k : Int} (hk : k = 7) (G : GB h b m L) (D : DG h d v L) (hp : p.1.length ≤ 9223372036854775807) (hq : -9223372036854775808 ≤ q ∧ q ≤ 9223372036854775807) :
    Ok Try.prog 30 #[.pointer (some ⟨b, 0, none⟩), .pointer (some ⟨d, 0, none⟩), .agg (aCs k p lv mv q).toArray] h fun r h' => r = .bool true ∧ Both h' b m d ∧ Fr (fun y => y = m ∨ y = d) h h' := by
  refine c30_ok (args := [_, _, _]) (by simp) ?_
  simp (disch := omega) only [dm_t, wS, simprocAttr, IntKind.bits]
  intro b5 hb5
  generalize hG : hupd h b5 _ = g1
  obtain ⟨e1, q5⟩ := new_ext hG hb5
  clear hG
  have cz : ∀ {g}, Ext g1 g → cellAt g ⟨b5, 0, none⟩ = some (.int .i64 k) ∧ cellAt g ⟨b5, 1, none⟩ = some (sv p.1) ∧ cellAt g ⟨b5, 2, none⟩ = some (.int .i64 p.2.1) ∧ cellAt g ⟨b5, 5, none⟩ = some lv ∧ cellAt g ⟨b5, 6, none⟩ = some mv ∧ cellAt g ⟨b5, 7, none⟩ = some (.int .i64 q) := fun e => by
    rw [cellAt_of (e.at q5), cellAt_of (e.at q5), cellAt_of (e.at q5), cellAt_of (e.at q5), cellAt_of (e.at q5), cellAt_of (e.at q5)]; exact ⟨rfl, rfl, rfl, rfl, rfl, rfl⟩
  have G1 := G.ext e1
  have D1 := D.ext e1
  have n5 : ¬ b5 = m := fun e => G.nm (e ▸ hb5)
  have n5d : ¬ b5 = d := fun e => by rw [e, D.1] at hb5; cases hb5
  have FE : ∀ {g}, Ext h g → Fr (fun y => y = m ∨ y = d) h g := fun e => e.mono fun _ h => h.elim
  have fin : ∀ {g}, Ext g1 g → Both g b m d ∧ Fr (fun y => y = m ∨ y = d) h g := fun e => ⟨⟨_, _, G1.ext e, D1.ext e⟩, FE (e1.trans e)⟩
  obtain ⟨z0, z1, z2, z5, z6, z7⟩ := cz (Ext.refl _)
  subst hk
  obtain ⟨da, dc, hv⟩ := D.len
  subst hv
  simp (disch := omega) only [dm_t, wS, simprocAttr, IntKind.bits, z0, z1, z2, z7]
  refine (All_ok G1).k ?_
  rintro _ g2 ⟨ac, asl, rfl, hac, qac, oac, e2⟩
  obtain ⟨y0, y1, y2, y5, y6, y7⟩ := cz e2
  have hL := G.len
  simp (disch := omega) only [dm_t, wS, simprocAttr, IntKind.bits, y7, (D1.ext e2).cell]
  refine (goes_ok (leave := q) qac oac.s0 (D1.ext e2).sl (by omega) hq).k ?_
  rintro _ g3 ⟨rfl, e3⟩
  obtain ⟨y0, y1, y2, y5, y6, y7⟩ := cz (e2.trans e3)
  simp (disch := omega) only [dm_t, wS, simprocAttr, IntKind.bits, y7, (D1.ext (e2.trans e3)).cell]
  refine (goes_ok (leave := 0) (e3.at qac) (SlK.ext oac.s0 e3) (D1.ext (e2.trans e3)).sl (by omega) (by omega)).k ?_
  rintro _ g4 ⟨rfl, e4⟩
  obtain ⟨y0, y1, y2, y5, y6, y7⟩ := cz ((e2.trans e3).trans e4)
  simp (disch := omega) only [dm_t, wS, simprocAttr, IntKind.bits, y7, (D1.ext ((e2.trans e3).trans e4)).cell]
  exact fin ((e2.trans e3).trans e4)
theorem ask_else {k : Int} (hk : k ≠ 0 ∧ k ≠ 1 ∧ k ≠ 2 ∧ k ≠ 3 ∧ k ≠ 4 ∧ k ≠ 5 ∧ k ≠ 6 ∧ k ≠ 7) (G : GB h b m L) (D : DG h d v L) (hp : p.1.length ≤ 9223372036854775807) :
    Ok Try.prog 30 #[.pointer (some ⟨b, 0, none⟩), .pointer (some ⟨d, 0, none⟩), .agg (aCs k p lv mv q).toArray] h fun r h' => r = .bool true ∧ Both h' b m d ∧ Fr (fun y => y = m ∨ y = d) h h' := by
  refine c30_ok (args := [_, _, _]) (by simp) ?_
  simp (disch := omega) only [dm_t, wS, simprocAttr, IntKind.bits]
  intro b5 hb5
  generalize hG : hupd h b5 _ = g1
  obtain ⟨e1, q5⟩ := new_ext hG hb5
  clear hG
  have cz : ∀ {g}, Ext g1 g → cellAt g ⟨b5, 0, none⟩ = some (.int .i64 k) ∧ cellAt g ⟨b5, 1, none⟩ = some (sv p.1) ∧ cellAt g ⟨b5, 2, none⟩ = some (.int .i64 p.2.1) ∧ cellAt g ⟨b5, 5, none⟩ = some lv ∧ cellAt g ⟨b5, 6, none⟩ = some mv ∧ cellAt g ⟨b5, 7, none⟩ = some (.int .i64 q) := fun e => by
    rw [cellAt_of (e.at q5), cellAt_of (e.at q5), cellAt_of (e.at q5), cellAt_of (e.at q5), cellAt_of (e.at q5), cellAt_of (e.at q5)]; exact ⟨rfl, rfl, rfl, rfl, rfl, rfl⟩
  have G1 := G.ext e1
  have D1 := D.ext e1
  have n5 : ¬ b5 = m := fun e => G.nm (e ▸ hb5)
  have n5d : ¬ b5 = d := fun e => by rw [e, D.1] at hb5; cases hb5
  have FE : ∀ {g}, Ext h g → Fr (fun y => y = m ∨ y = d) h g := fun e => e.mono fun _ h => h.elim
  have fin : ∀ {g}, Ext g1 g → Both g b m d ∧ Fr (fun y => y = m ∨ y = d) h g := fun e => ⟨⟨_, _, G1.ext e, D1.ext e⟩, FE (e1.trans e)⟩
  obtain ⟨z0, z1, z2, z5, z6, z7⟩ := cz (Ext.refl _)
  obtain ⟨n0, n1, n2, n3, n4, n6, n7, n8⟩ := hk
  simp (disch := omega) only [dm_t, wS, simprocAttr, IntKind.bits, z0]
  exact fin (Ext.refl _)
end
end Go.Proofs.Ythhofmjhnjkcfaa.gr
namespace Go.Proofs.Ythhofmjhnjkcfaa.gr
open Go.Proofs.Ythhofmjhnjkcfaa wi
set_option linter.unusedVariables false
set_option linter.unusedSimpArgs false
theorem rec_oneS {S : Nat → Prop} {h : H} {b : Nat} {cs : List Value} {x : rc.D} (q : h b = some (.cells cs.toArray 26)) (r : Rep S rc h cs x) (hS : ¬ S b) : RepL S rc h (.slice (some ⟨b, 0, none⟩) 1 1) [x] := by
  have hl : cs.length = 3 := r.len.trans sz_rc
  refine repL_iff.2 ⟨[cs], ⟨fun r hr => ?_, .inr ⟨b, 0, 1, _, _, _, rfl, q, ?_, by simp, ?_, hS⟩⟩, rfl, fun i r' z hr hz => ?_⟩
  · simp only [List.mem_singleton] at hr; subst hr; exact hl
  · rw [sz_rc]; simp [hl]
  · rw [flat_cons, flat_nil, List.append_nil]; exact at_arr cs #[]
  · cases i with
    | zero =>
      simp only [List.getElem?_cons_zero, Option.some.injEq] at hr hz
      subst hr hz
      exact r
    | succ i => simp at hr
def r77 : rc.D := ((77 : Int), ([] : List UInt8), ([] : List UInt8))
theorem rep_r77 (S : Nat → Prop) (h : H) : Rep S rc h [.int .i64 77, .slice none 0 0, .slice none 0 0] r77 := rep_rc.2 ⟨_, _, rfl, by decide, By.nil, By.nil⟩
theorem lit77 {S : Nat → Prop} {h : H} {b : Nat} (q : h b = some (.cells #[.int .i64 77, .slice none 0 0, .slice none 0 0] 26)) (hS : ¬ S b) : RepL S rc h (.slice (some ⟨b, 0, none⟩) 1 1) [r77] := rec_oneS (cs := [.int .i64 77, .slice none 0 0, .slice none 0 0]) q (rep_r77 S h) hS
section
variable {h : H} {b m d : Nat} {v : Value} {L : List Pl} {lv mv : Value} {l : List rc.D} {ms : List Int} {p : Pl} {q : Int}
theorem ask_fold {k : Int} (hk : k = 3) (G : GB h b m L) (D : DG h d v L) (hp : p.1.length ≤ 9223372036854775807) (hlv : RepL (fun y => y = d ∨ y = m) rc h lv l) (hll : l.length ≤ 60) (hkk : ∀ x ∈ l, x.2.1.length ≤ 140737488351232 ∧ x.2.2.length ≤ 140737488351232) :
    Ok Try.prog 30 #[.pointer (some ⟨b, 0, none⟩), .pointer (some ⟨d, 0, none⟩), .agg (aCs k p lv mv q).toArray] h fun r h' => r = .bool true ∧ Both h' b m d ∧ Fr (fun y => y = m ∨ y = d) h h' := by
  refine c30_ok (args := [_, _, _]) (by simp) ?_
  simp (disch := omega) only [dm_t, wS, simprocAttr, IntKind.bits]
  intro b5 hb5
  generalize hG : hupd h b5 _ = g1
  obtain ⟨e1, q5⟩ := new_ext hG hb5
  clear hG
  have cz : ∀ {g}, Ext g1 g → cellAt g ⟨b5, 0, none⟩ = some (.int .i64 k) ∧ cellAt g ⟨b5, 1, none⟩ = some (sv p.1) ∧ cellAt g ⟨b5, 2, none⟩ = some (.int .i64 p.2.1) ∧ cellAt g ⟨b5, 5, none⟩ = some lv ∧ cellAt g ⟨b5, 6, none⟩ = some mv ∧ cellAt g ⟨b5, 7, none⟩ = some (.int .i64 q) := fun e => by
    rw [cellAt_of (e.at q5), cellAt_of (e.at q5), cellAt_of (e.at q5), cellAt_of (e.at q5), cellAt_of (e.at q5), cellAt_of (e.at q5)]; exact ⟨rfl, rfl, rfl, rfl, rfl, rfl⟩
  have G1 := G.ext e1
  have D1 := D.ext e1
  have n5 : ¬ b5 = m := fun e => G.nm (e ▸ hb5)
  have n5d : ¬ b5 = d := fun e => by rw [e, D.1] at hb5; cases hb5
  have FE : ∀ {g}, Ext h g → Fr (fun y => y = m ∨ y = d) h g := fun e => e.mono fun _ h => h.elim
  have fin : ∀ {g}, Ext g1 g → Both g b m d ∧ Fr (fun y => y = m ∨ y = d) h g := fun e => ⟨⟨_, _, G1.ext e, D1.ext e⟩, FE (e1.trans e)⟩
  obtain ⟨z0, z1, z2, z5, z6, z7⟩ := cz (Ext.refl _)
  subst hk
  obtain ⟨la, lc, rfl⟩ := hlv.len
  have hdn : ¬ g1 d = none := by rw [D1.1]; simp
  have hmn : ¬ g1 m = none := G1.nm
  have hk1 : ∀ x ∈ l, x.2.1.length ≤ 140737488351232 := fun x hx => (hkk x hx).1
  have hk2 : ∀ x ∈ l, x.2.1.length ≤ 140737488355328 ∧ x.2.2.length ≤ 140737488355328 := fun x hx => by have := hkk x hx; omega
  simp (disch := omega) only [dm_t, wS, simprocAttr, IntKind.bits, z0, z5]
  refine ⟨?_, ?_⟩
  · refine (Copy_ok (hlv.ext e1) (by omega) hk2).k ?_
    rintro cv g2 ⟨om, e2⟩
    have o2 : OwL (fun y => y = d ∨ y = m) rc (fun y => g1 y = none) g2 26 cv l := om.l.subS fun y hy => by rcases hy with rfl | rfl <;> assumption
    obtain ⟨y0, y1, y2, y5, y6, y7⟩ := cz e2
    simp (disch := omega) only [dm_t, wS, simprocAttr, IntKind.bits, y5]
    intro bl hbl
    generalize hG : hupd g2 bl _ = g3
    obtain ⟨e23, ql⟩ := new_ext hG hbl
    clear hG
    have e3 := e2.trans e23
    obtain ⟨y0, y1, y2, y5, y6, y7⟩ := cz e3
    simp (disch := omega) only [dm_t, wS, simprocAttr, IntKind.bits, y5]
    refine OwL.app 3 sz_rc (o2.ext e23) (fun y hy => e3.bk hy) (lit77 ql ?_) rfl ?_ ?_ ?_
    · rintro (h | rfl | rfl)
      · exact o2.there h hbl
      · exact hdn (e2.bk hbl)
      · exact hmn (e2.bk hbl)
    · simp only [List.length_singleton]; omega
    · simp only [List.length_singleton]; omega
    intro sv' g4 o4 f4 at4
    have e4 : Ext g1 g4 := Ext.step' e3 f4 fun y hy => hy.1
    have R4 : RepL (fun y => y = d ∨ y = m) rc g4 sv' (l ++ [r77]) := o4.repS fun y hy hS => by rcases hS with rfl | rfl <;> (first | exact hdn hy | exact hmn hy)
    obtain ⟨sa, sc, hsv⟩ := R4.len
    have hln : (l ++ [r77]).length = l.length + 1 := by rw [List.length_append]; rfl
    rw [hln] at hsv
    subst hsv
    have hcap := R4.cap
    rw [hln] at hcap
    have hpre := slcV_pre 3 sa (l.length + 1) sc l.length (by omega)
    have hpre2 := slcV_pre 3 sa l.length sc (l.length + 1) (by omega)
    rw [show ((l.length + 1 : Nat) : Int) = (l.length : Int) + 1 by omega] at hpre2
    have cutm : ∀ {g}, RepL (fun y => y = d ∨ y = m) rc g (.slice sa (l.length + 1) sc) (l ++ [r77]) → RepL (fun y => y = d ∨ y = m) rc g (.slice sa l.length sc) l := fun r => by
      obtain ⟨w, w1, w2⟩ := r.cut 3 sz_rc (m3 := false) (lo := 0) (hi := l.length) (mx := sc) (l := 0) (u := l.length) (m := sc) rfl rfl rfl (by omega) (by omega) (by omega) (Nat.le_refl _) (.inr rfl)
      rw [hpre] at w1
      simp only [Option.some.injEq] at w1
      subst w1
      simpa using w2
    obtain ⟨y0, y1, y2, y5, y6, y7⟩ := cz e4
    simp (disch := omega) only [dm_t, wS, simprocAttr, IntKind.bits, y5, hpre]
    refine (Fold_ok (G1.ext e4) (cutm R4) (by omega) hk1).k ?_
    rintro _ g5 ⟨rfl, G5, f5⟩
    have D5 := (D1.ext e4).frm (G1.ext e4) f5
    have R5 := R4.fr f5 fun y hy => .inr hy
    have lv4 := hlv.ext (e1.trans e4)
    have lv5 := lv4.fr f5 fun y hy => .inr hy
    have q54 := f5 _ _ (e4.at q5) n5
    have x5 : cellAt g5 ⟨b5, 5, none⟩ = some (.slice la l.length lc) := by rw [cellAt_of q54]; rfl
    simp (disch := omega) only [dm_t, wS, simprocAttr, IntKind.bits, x5]
    refine (DFold_ok D5 G.lst (lv5.mono fun y _ _ hy => .inl hy) (by omega) hk1).k ?_
    rintro _ g6 ⟨rfl, ⟨w6, D6⟩, f6⟩
    have G6 := G5.frd D5 f6
    have R6 := R5.fr f6 fun y hy => .inl hy
    have lv6 := lv5.fr f6 fun y hy => .inl hy
    have q56 := f6 _ _ q54 n5d
    have x6 : cellAt g6 ⟨b5, 5, none⟩ = some (.slice la l.length lc) := by rw [cellAt_of q56]; rfl
    obtain ⟨tb, to, ts, ti, tc, tf, tr⟩ := R6.load (i := l.length) (by rw [hln]; omega) .i64 3 sz_rc
    obtain ⟨tk, tv, hts, _⟩ := rep_rc.1 tr
    have t0 : cellAt g6 ⟨tb, to, none⟩ = some (.int .i64 77) := by
      have := tf 0 (by omega)
      rw [hts, show ((l ++ [r77])[l.length]'(by rw [hln]; omega)) = r77 by simp] at this
      exact this
    have F6 : Fr (fun y => y = m ∨ y = d) h g6 := (FE (e1.trans e4)).trans ((f5.mono fun _ h => .inl h).trans (f6.mono fun _ h => .inr h))
    simp (disch := omega) only [dm_t, wS, simprocAttr, IntKind.bits, x6]
    refine (num_ok g6 _).k ?_
    rintro _ _ ⟨rfl, rfl⟩
    simp (disch := omega) only [dm_t, wS, simprocAttr, IntKind.bits, x6, beq_self_eq_true]
    refine (Same_ok (cutm R6) lv6 (by omega)).k ?_
    rintro _ _ ⟨rfl, rfl⟩
    rw [decide_eq_true rfl]
    simp (disch := omega) only [dm_t, wS, simprocAttr, IntKind.bits, x6, hpre2, ti, t0, beq_self_eq_true]
    exact ⟨⟨_, _, G6, D6⟩, F6⟩
  · intro bl hbl
    generalize hG : hupd g1 bl _ = g2
    obtain ⟨e2, ql⟩ := new_ext hG hbl
    clear hG
    have hdn2 : ¬ g2 d = none := fun h => hdn (e2.bk h)
    have hmn2 : ¬ g2 m = none := fun h => hmn (e2.bk h)
    obtain ⟨y0, y1, y2, y5, y6, y7⟩ := cz e2
    simp (disch := omega) only [dm_t, wS, simprocAttr, IntKind.bits, y5]
    refine (Copy_ok (hlv.ext (e1.trans e2)) (by omega) hk2).k ?_
    rintro cv g3 ⟨om, e23⟩
    have o3 : OwL (fun y => y = d ∨ y = m) rc (fun y => g2 y = none) g3 26 cv l := om.l.subS fun y hy => by rcases hy with rfl | rfl <;> assumption
    have e3 := e2.trans e23
    obtain ⟨y0, y1, y2, y5, y6, y7⟩ := cz e3
    simp (disch := omega) only [dm_t, wS, simprocAttr, IntKind.bits, y5]
    refine OwL.app 3 sz_rc o3 (fun y hy => e23.bk hy) (lit77 (e23.at ql) ?_) rfl ?_ ?_ ?_
    · rintro (h | rfl | rfl)
      · have := o3.own h; rw [ql] at this; cases this
      · exact hdn hbl
      · exact hmn hbl
    · simp only [List.length_singleton]; omega
    · simp only [List.length_singleton]; omega
    intro sv' g4 o4 f4 at4
    have e4 : Ext g1 g4 := Ext.step' e3 f4 fun y hy => e2.bk hy.1
    have R4 : RepL (fun y => y = d ∨ y = m) rc g4 sv' (l ++ [r77]) := o4.repS fun y hy hS => by rcases hS with rfl | rfl <;> (first | exact hdn2 hy | exact hmn2 hy)
    obtain ⟨sa, sc, hsv⟩ := R4.len
    have hln : (l ++ [r77]).length = l.length + 1 := by rw [List.length_append]; rfl
    rw [hln] at hsv
    subst hsv
    have hcap := R4.cap
    rw [hln] at hcap
    have hpre := slcV_pre 3 sa (l.length + 1) sc l.length (by omega)
    have hpre2 := slcV_pre 3 sa l.length sc (l.length + 1) (by omega)
    rw [show ((l.length + 1 : Nat) : Int) = (l.length : Int) + 1 by omega] at hpre2
    have cutm : ∀ {g}, RepL (fun y => y = d ∨ y = m) rc g (.slice sa (l.length + 1) sc) (l ++ [r77]) → RepL (fun y => y = d ∨ y = m) rc g (.slice sa l.length sc) l := fun r => by
      obtain ⟨w, w1, w2⟩ := r.cut 3 sz_rc (m3 := false) (lo := 0) (hi := l.length) (mx := sc) (l := 0) (u := l.length) (m := sc) rfl rfl rfl (by omega) (by omega) (by omega) (Nat.le_refl _) (.inr rfl)
      rw [hpre] at w1
      simp only [Option.some.injEq] at w1
      subst w1
      simpa using w2
    obtain ⟨y0, y1, y2, y5, y6, y7⟩ := cz e4
    simp (disch := omega) only [dm_t, wS, simprocAttr, IntKind.bits, y5, hpre]
    refine (Fold_ok (G1.ext e4) (cutm R4) (by omega) hk1).k ?_
    rintro _ g5 ⟨rfl, G5, f5⟩
    have D5 := (D1.ext e4).frm (G1.ext e4) f5
    have R5 := R4.fr f5 fun y hy => .inr hy
    have lv4 := hlv.ext (e1.trans e4)
    have lv5 := lv4.fr f5 fun y hy => .inr hy
    have q54 := f5 _ _ (e4.at q5) n5
    have x5 : cellAt g5 ⟨b5, 5, none⟩ = some (.slice la l.length lc) := by rw [cellAt_of q54]; rfl
    simp (disch := omega) only [dm_t, wS, simprocAttr, IntKind.bits, x5]
    refine (DFold_ok D5 G.lst (lv5.mono fun y _ _ hy => .inl hy) (by omega) hk1).k ?_
    rintro _ g6 ⟨rfl, ⟨w6, D6⟩, f6⟩
    have G6 := G5.frd D5 f6
    have R6 := R5.fr f6 fun y hy => .inl hy
    have lv6 := lv5.fr f6 fun y hy => .inl hy
    have q56 := f6 _ _ q54 n5d
    have x6 : cellAt g6 ⟨b5, 5, none⟩ = some (.slice la l.length lc) := by rw [cellAt_of q56]; rfl
    obtain ⟨tb, to, ts, ti, tc, tf, tr⟩ := R6.load (i := l.length) (by rw [hln]; omega) .i64 3 sz_rc
    obtain ⟨tk, tv, hts, _⟩ := rep_rc.1 tr
    have t0 : cellAt g6 ⟨tb, to, none⟩ = some (.int .i64 77) := by
      have := tf 0 (by omega)
      rw [hts, show ((l ++ [r77])[l.length]'(by rw [hln]; omega)) = r77 by simp] at this
      exact this
    have F6 : Fr (fun y => y = m ∨ y = d) h g6 := (FE (e1.trans e4)).trans ((f5.mono fun _ h => .inl h).trans (f6.mono fun _ h => .inr h))
    simp (disch := omega) only [dm_t, wS, simprocAttr, IntKind.bits, x6]
    refine (num_ok g6 _).k ?_
    rintro _ _ ⟨rfl, rfl⟩
    simp (disch := omega) only [dm_t, wS, simprocAttr, IntKind.bits, x6, beq_self_eq_true]
    refine (Same_ok (cutm R6) lv6 (by omega)).k ?_
    rintro _ _ ⟨rfl, rfl⟩
    rw [decide_eq_true rfl]
    simp (disch := omega) only [dm_t, wS, simprocAttr, IntKind.bits, x6, hpre2, ti, t0, beq_self_eq_true]
    exact ⟨⟨_, _, G6, D6⟩, F6⟩
end
end Go.Proofs.Ythhofmjhnjkcfaa.gr
namespace Go.Proofs.Ythhofmjhnjkcfaa.gr
open Go.Proofs.Ythhofmjhnjkcfaa wi
set_option linter.unusedVariables false
set_option linter.unusedSimpArgs false
section
variable {h : H} {v : Value}
theorem Set_no (r : NoG h v) (p : Pl) : Ok Try.prog 20 #[v, .agg (pCs p).toArray] h fun u h' => u = .int .i64 1 ∧ Ext h h' := by
  refine c20_ok (args := [_, _]) (by simp) ?_
  simp (disch := omega) only [dm_t, wS, simprocAttr, IntKind.bits]
  intro q hq
  generalize hG : hupd h q _ = g1
  obtain ⟨e1, q1⟩ := new_ext hG hq
  clear hG
  simp (disch := omega) only [dm_t, wS, simprocAttr, IntKind.bits]
  refine (none_no (r.ext e1)).k ?_
  rintro _ _ ⟨rfl, rfl⟩
  simp (disch := omega) only [dm_t, wS, simprocAttr, IntKind.bits]
  exact e1
theorem Let_no (r : NoG h v) (s : List UInt8) (n : Int) : Ok Try.prog 50 #[v, sv s, .int .i64 n] h fun u h' => u = .int .i64 1 ∧ h = h' := by
  refine c50_ok (args := [_, _, _]) (by simp) ?_
  simp (disch := omega) only [dm_t, wS, simprocAttr, IntKind.bits]
  refine (none_no r).k ?_
  rintro _ _ ⟨rfl, rfl⟩
  simp (disch := omega) only [dm_t, wS, simprocAttr, IntKind.bits]
theorem Fold_no (r : NoG h v) (w : Value) : Ok Try.prog 21 #[v, w] h fun u h' => u = .tuple #[.int .i64 0, .int .i64 1] ∧ h = h' := by
  refine c21_ok (args := [_, _]) (by simp) ?_
  simp (disch := omega) only [dm_t, wS, simprocAttr, IntKind.bits]
  refine (none_no r).k ?_
  rintro _ _ ⟨rfl, rfl⟩
  simp (disch := omega) only [dm_t, wS, simprocAttr, IntKind.bits]
theorem At_no (r : NoG h v) (s : List UInt8) (n : Int) : Ok Try.prog 26 #[v, sv s, .int .i64 n] h fun u h' => u = .tuple #[.agg (pCs pl0).toArray, .int .i64 1] ∧ Ext h h' := by
  refine c26_ok (args := [_, _, _]) (by simp) ?_
  simp (disch := omega) only [dm_t, wS, simprocAttr, IntKind.bits]
  intro a ha
  generalize hG : hupd h a _ = g1
  obtain ⟨e1, q1⟩ := new_ext hG ha
  clear hG
  simp (disch := omega) only [dm_t, wS, simprocAttr, IntKind.bits]
  refine (none_no (r.ext e1)).k ?_
  rintro _ _ ⟨rfl, rfl⟩
  simp (disch := omega) only [dm_t, wS, simprocAttr, IntKind.bits]
  refine storeH_all q1 rfl rfl ?_
  generalize hG : hupd g1 a _ = g3
  have f3 : Fr (fun y => y = a) g1 g3 := hG ▸ Fr.upd (S := fun y => y = a) rfl _
  have q3 : g3 a = some (.cells (pCs pl0).toArray 23) := by rw [← hG, hupd_same]
  have E3 : Ext h g3 := Ext.step' e1 f3 fun y hy => by rw [hy]; exact ha
  clear hG
  simp (disch := omega) only [dm_t, wS, simprocAttr, IntKind.bits, cellsAt_all q3 4 rfl]
  exact E3
theorem list_no (r : NoG h v) : Ok Try.prog 51 #[v] h fun u h' => u = .slice none 0 0 ∧ h = h' := by
  refine c51_ok (args := [_]) (by simp) ?_
  simp (disch := omega) only [dm_t, wS, simprocAttr, IntKind.bits]
  refine (none_no r).k ?_
  rintro _ _ ⟨rfl, rfl⟩
  simp (disch := omega) only [dm_t, wS, simprocAttr, IntKind.bits]
theorem Names_no (r : NoG h v) : Ok Try.prog 27 #[v] h fun u h' => u = .slice none 0 0 ∧ h = h' := by
  refine c27_ok (args := [_]) (by simp) ?_
  simp (disch := omega) only [dm_t, wS, simprocAttr, IntKind.bits]
  refine (list_no r).k ?_
  rintro _ _ ⟨rfl, rfl⟩
  simp (disch := omega) only [dm_t, wS, simprocAttr, IntKind.bits]
  refine vc_loop2 (fun vl vi g => g = h ∧ vl = .slice none 0 0 ∧ vi = .int .i64 0) (fun _ _ _ => 0) ?_ ?_
  · simp (disch := omega) only [dm_t, wS, simprocAttr, IntKind.bits]
    first | done | exact ⟨rfl, rfl, rfl⟩
  rintro _ _ g ⟨hg, rfl, rfl⟩
  subst hg
  simp (disch := omega) only [dm_t, wS, simprocAttr, IntKind.bits]
  have k : Ok Try.prog 54 #[.slice none 0 0] g fun u h' => u = .slice none 0 0 ∧ g = h' := by
    refine c54_ok (args := [_]) (by simp) ?_
    simp (disch := omega) only [dm_t, wS, simprocAttr, IntKind.bits]
  refine (k).k ?_
  rintro _ _ ⟨rfl, rfl⟩
  simp (disch := omega) only [dm_t, wS, simprocAttr, IntKind.bits]
theorem Records_no (r : NoG h v) : Ok Try.prog 24 #[v] h fun u h' => u = .slice none 0 0 ∧ h = h' := by
  refine c24_ok (args := [_]) (by simp) ?_
  simp (disch := omega) only [dm_t, wS, simprocAttr, IntKind.bits]
  refine (list_no r).k ?_
  rintro _ _ ⟨rfl, rfl⟩
  simp (disch := omega) only [dm_t, wS, simprocAttr, IntKind.bits]
  refine vc_loop2 (fun vl vi g => g = h ∧ vl = .slice none 0 0 ∧ vi = .int .i64 0) (fun _ _ _ => 0) ?_ ?_
  · simp (disch := omega) only [dm_t, wS, simprocAttr, IntKind.bits]
    first | done | exact ⟨rfl, rfl, rfl⟩
  rintro _ _ g ⟨hg, rfl, rfl⟩
  subst hg
  simp (disch := omega) only [dm_t, wS, simprocAttr, IntKind.bits]
theorem Least_no (r : NoG h v) (n : Int) : Ok Try.prog 62 #[v, .int .i64 n] h fun u h' => u = .tuple #[.int .i64 0, .bool false] ∧ h = h' := by
  refine c62_ok (args := [_, _]) (by simp) ?_
  simp (disch := omega) only [dm_t, wS, simprocAttr, IntKind.bits]
  refine (list_no r).k ?_
  rintro _ _ ⟨rfl, rfl⟩
  simp (disch := omega) only [dm_t, wS, simprocAttr, IntKind.bits]
  refine vc_loop3 (fun vn vo vi g => g = h ∧ vn = .int .i64 0 ∧ vo = .bool false ∧ vi = .int .i64 0) (fun _ _ _ _ => 0) ?_ ?_
  · simp (disch := omega) only [dm_t, wS, simprocAttr, IntKind.bits]
    first | done | exact ⟨rfl, rfl, rfl, rfl⟩
  rintro _ _ _ g ⟨hg, rfl, rfl, rfl⟩
  subst hg
  simp (disch := omega) only [dm_t, wS, simprocAttr, IntKind.bits]
theorem Lag_no (r : NoG h v) (s : List UInt8) (w : Value) : Ok Try.prog 28 #[v, sv s, w] h fun u h' => u = .tuple #[.int .i64 0, .int .i64 1] ∧ h = h' := by
  refine c28_ok (args := [_, _, _]) (by simp) ?_
  simp (disch := omega) only [dm_t, wS, simprocAttr, IntKind.bits]
  refine (none_no r).k ?_
  rintro _ _ ⟨rfl, rfl⟩
  simp (disch := omega) only [dm_t, wS, simprocAttr, IntKind.bits]
theorem All_no (r : NoG h v) : Ok Try.prog 48 #[v] h fun v h' => ∃ c, v = .func (.func 82) #[] #[.pointer (some ⟨c, 0, none⟩)] ∧ h c = none ∧ h' c = some (.cells #[.slice none 0 0] 65) ∧ Ext h h' := by
  refine c48_ok (args := [_]) (by simp) ?_
  simp (disch := omega) only [dm_t, wS, simprocAttr, IntKind.bits]
  refine (list_no r).k ?_
  rintro _ _ ⟨rfl, rfl⟩
  have k : Ok Try.prog 71 #[.slice none 0 0] h fun v h' => ∃ c, v = .func (.func 82) #[] #[.pointer (some ⟨c, 0, none⟩)] ∧ h c = none ∧ h' c = some (.cells #[.slice none 0 0] 65) ∧ Ext h h' := by
    refine c71_ok (args := [_]) (by simp) ?_
    simp (disch := omega) only [dm_t, wS, simprocAttr, IntKind.bits]
    intro c hc
    exact ⟨c, rfl, hc, hupd_same _ _ _, Ext.new hc _⟩
  simp (disch := omega) only [dm_t, wS, simprocAttr, IntKind.bits]
  refine (k).k ?_
  rintro _ g2 ⟨c, rfl, hc, qc, e2⟩
  simp (disch := omega) only [dm_t, wS, simprocAttr, IntKind.bits]
  exact ⟨c, rfl, hc, qc, e2⟩
theorem Same_no {w : Value} (r : NoG h v) (s : NoG h w) : Ok Try.prog 25 #[v, w] h fun u h' => u = .bool true ∧ h = h' := by
  refine c25_ok (args := [_, _]) (by simp) ?_
  simp (disch := omega) only [dm_t, wS, simprocAttr, IntKind.bits]
  refine (none_no r).k ?_
  rintro _ _ ⟨rfl, rfl⟩
  simp (disch := omega) only [dm_t, wS, simprocAttr, IntKind.bits]
  refine (none_no r).k ?_
  rintro _ _ ⟨rfl, rfl⟩
  simp (disch := omega) only [dm_t, wS, simprocAttr, IntKind.bits]
  refine (none_no s).k ?_
  rintro _ _ ⟨rfl, rfl⟩
  simp (disch := omega) only [dm_t, wS, simprocAttr, IntKind.bits]
theorem Same_half {b m : Nat} {L : List Pl} {w : Value} (G : GB h b m L) (s : NoG h w) : Ok Try.prog 25 #[.pointer (some ⟨b, 0, none⟩), w] h fun u h' => u = .bool false ∧ h = h' := by
  refine c25_ok (args := [_, _]) (by simp) ?_
  simp (disch := omega) only [dm_t, wS, simprocAttr, IntKind.bits]
  refine (none_ok G).k ?_
  rintro _ _ ⟨rfl, rfl⟩
  simp (disch := omega) only [dm_t, wS, simprocAttr, IntKind.bits]
  refine (none_no s).k ?_
  rintro _ _ ⟨rfl, rfl⟩
  simp (disch := omega) only [dm_t, wS, simprocAttr, IntKind.bits]
  refine (none_ok G).k ?_
  rintro _ _ ⟨rfl, rfl⟩
  simp (disch := omega) only [dm_t, wS, simprocAttr, IntKind.bits]
end
end Go.Proofs.Ythhofmjhnjkcfaa.gr
namespace Go.Proofs.Ythhofmjhnjkcfaa.gr
open Go.Proofs.Ythhofmjhnjkcfaa wi
set_option linter.unusedVariables false
set_option linter.unusedSimpArgs false
section
variable {g : H} {v : Value}
/-- One of the two. -/
theorem no_round {Q : Post} {k : Nat} {xs : Value} {rb : Nat} (n : NoG g v) (hQ : ∀ g2, Ext g g2 → vc Try.prog c33_s12 Q [(0, .pointer (some ⟨rb, 0, none⟩)), (14, xs), (15, .int .i64 ((2 : Nat) : Int)), (16, .int .i64 (k : Int))] g2) :
    vc Try.prog c33_s4 (blockQ 1 (seqQ Try.prog [0, 14, 15, 16] c33_s12 Q)) [(0, .pointer (some ⟨rb, 0, none⟩)), (2, v), (14, xs), (15, .int .i64 ((2 : Nat) : Int)), (16, .int .i64 (k : Int))] g := by
  simp (disch := omega) only [dm_t, wS, simprocAttr, IntKind.bits]
  refine (Fold_no n _).k ?_
  rintro _ _ ⟨rfl, rfl⟩
  simp (disch := omega) only [dm_t, wS, simprocAttr, IntKind.bits]
  refine (At_no n [] (-1)).k ?_
  rintro _ g1 ⟨rfl, e1⟩
  simp (disch := omega) only [dm_t, wS, simprocAttr, IntKind.bits]
  intro pb hpb
  simp (disch := omega) only [dm_t, wS, simprocAttr, IntKind.bits]
  refine storeH_all (hupd_same _ _ _) rfl rfl ?_
  rw [hupd_hupd]
  generalize hG : hupd g1 pb _ = g2
  obtain ⟨e2, qp⟩ := new_ext hG hpb
  clear hG
  have e12 := e1.trans e2
  have n2 := n.ext e12
  simp (disch := omega) only [dm_t, wS, simprocAttr, IntKind.bits]
  refine (Least_no n2 0).k ?_
  rintro _ _ ⟨rfl, rfl⟩
  simp (disch := omega) only [dm_t, wS, simprocAttr, IntKind.bits]
  refine (Lag_no n2 [] _).k ?_
  rintro _ _ ⟨rfl, rfl⟩
  simp (disch := omega) only [dm_t, wS, simprocAttr, IntKind.bits]
  refine (All_no n2).k ?_
  rintro _ g3 ⟨vb, rfl, -, hvb, e3⟩
  have n3 := n2.ext e3
  simp (disch := omega) only [dm_t, wS, simprocAttr, IntKind.bits]
  refine (Set_no n3 pl0).k ?_
  rintro _ g4 ⟨rfl, e4⟩
  have n4 := n3.ext e4
  simp (disch := omega) only [dm_t, wS, simprocAttr, IntKind.bits]
  refine (num_ok _ _).k ?_
  rintro _ _ ⟨rfl, rfl⟩
  simp (disch := omega) only [dm_t, wS, simprocAttr, IntKind.bits]
  refine (Let_no n4 [] (-1)).k ?_
  rintro _ _ ⟨rfl, rfl⟩
  simp (disch := omega) only [dm_t, wS, simprocAttr, IntKind.bits]
  refine (num_ok _ _).k ?_
  rintro _ _ ⟨rfl, rfl⟩
  simp (disch := omega) only [dm_t, wS, simprocAttr, IntKind.bits]
  refine (num_ok _ _).k ?_
  rintro _ _ ⟨rfl, rfl⟩
  have cp4 : cellsAt g4 ⟨pb, 0, none⟩ 4 = some (pCs pl0).toArray := cellsAt_all ((e3.trans e4).at qp) 4 rfl
  simp (disch := omega) only [dm_t, wS, simprocAttr, IntKind.bits, cp4]
  refine raw_nePl (a := pl0) (b := pl0) rfl rfl ?_
  rw [decide_eq_true rfl]
  simp (disch := omega) only [dm_t, wS, simprocAttr, IntKind.bits, Bool.not_true]
  refine (num_ok _ _).k ?_
  rintro _ _ ⟨rfl, rfl⟩
  simp (disch := omega) only [dm_t, wS, simprocAttr, IntKind.bits]
  refine (Len_no n4).k ?_
  rintro _ _ ⟨rfl, rfl⟩
  simp (disch := omega) only [dm_t, wS, simprocAttr, IntKind.bits]
  refine (Names_no n4).k ?_
  rintro _ _ ⟨rfl, rfl⟩
  simp (disch := omega) only [dm_t, wS, simprocAttr, IntKind.bits]
  refine (Records_no n4).k ?_
  rintro _ _ ⟨rfl, rfl⟩
  simp (disch := omega) only [dm_t, wS, simprocAttr, IntKind.bits]
  refine (num_ok _ _).k ?_
  rintro _ _ ⟨rfl, rfl⟩
  simp (disch := omega) only [dm_t, wS, simprocAttr, IntKind.bits]
  refine (Copy_no n4).k ?_
  rintro _ _ ⟨rfl, rfl⟩
  simp (disch := omega) only [dm_t, wS, simprocAttr, IntKind.bits]
  refine (Same_no n4 (.inl rfl)).k ?_
  rintro _ _ ⟨rfl, rfl⟩
  simp (disch := omega) only [dm_t, wS, simprocAttr, IntKind.bits, Bool.not_true]
  intro zb hzb
  generalize hG : hupd g4 zb _ = g5
  obtain ⟨e5, qz⟩ := new_ext hG hzb
  clear hG
  replace qz : g5 zb = some (.cells #[.map none] 96) := qz
  simp (disch := omega) only [dm_t, wS, simprocAttr, IntKind.bits]
  refine (Same_no (n4.ext e5) (.inr ⟨zb, rfl, qz⟩)).k ?_
  rintro _ _ ⟨rfl, rfl⟩
  have E := (e12.trans e3).trans (e4.trans e5)
  have hv5 := (e4.trans e5).at hvb
  simp (disch := omega) only [dm_t, wS, simprocAttr, IntKind.bits, Bool.not_true]
  refine vc_rng rfl (by kernel_rfl) (SA_it (b := vb) (s := .slice none 0 0) (l := []) (by simp)) ?_ (fun _ G => Ext g5 G) (fun _ => False) (fun _ _ => False) ?_ ?_ ?_ ?_ ?_ ?_ (fun _ h => h.elim) (fun _ _ h => h.elim)
  · rintro h b o hb ⟨h1, h2⟩
    exact ⟨(Ext.new hb o).at h1, h2.ext (Ext.new hb o)⟩
  · intro i G e
    exact ⟨e.at hv5, ⟨fun r hr => by simp at hr, .inl ⟨none, rfl, rfl⟩⟩⟩
  · intro i h' h'' hh e
    exact hh.trans e
  · exact Ext.refl _
  · intro i hi; simp at hi
  · intro L i h1 hi; simp at hi
  intro G e
  have k := hQ G (E.trans e)
  simp (disch := omega) only [dm_t, wN, simprocAttr, IntKind.bits]
  exact k
theorem nothing_ok (g : H) : Ok Try.prog 33 #[] g fun u h' => u = .bool true ∧ Ext g h' := by
  refine c33_ok (args := []) (by simp) ?_
  simp (disch := omega) only [dm_t, wS, simprocAttr, IntKind.bits]
  intro rb hrb
  generalize hG : hupd g rb _ = g1
  obtain ⟨e1, qr⟩ := new_ext hG hrb
  clear hG
  simp (disch := omega) only [dm_t, wS, simprocAttr, IntKind.bits]
  intro zb hzb
  generalize hG : hupd g1 zb _ = g2
  obtain ⟨e2, qz⟩ := new_ext hG hzb
  clear hG
  replace qz : g2 zb = some (.cells #[.map none] 96) := qz
  simp (disch := omega) only [dm_t, wS, simprocAttr, IntKind.bits]
  intro lb hlb
  generalize hG : hupd g2 lb _ = g3
  obtain ⟨e3, ql⟩ := new_ext hG hlb
  clear hG
  have E3 := e1.trans (e2.trans e3)
  simp (disch := omega) only [dm_t, wS, simprocAttr, IntKind.bits]
  refine vc_loop1 (fun vi G => ∃ i : Nat, vi = .int .i64 (i : Int) ∧ i ≤ 2 ∧ Ext g3 G) (fun vi _ => 2 - m1 vi) ?_ ?_
  · simp (disch := omega) only [dm_t, wS, simprocAttr, IntKind.bits]
    exact ⟨0, rfl, by omega, Ext.refl _⟩
  rintro _ G ⟨i, rfl, hi, e⟩
  have hsl : S1 nos G (.slice (some ⟨lb, 0, none⟩) 2 2) [.pointer none, .pointer (some ⟨zb, 0, none⟩)] := by
    refine ⟨rect_one _, .inr ⟨lb, 0, 2, _, _, (0, 0), by rw [one_len]; rfl, e.at ql, by simp [one], by simp [one], ?_, fun h => h.elim⟩⟩
    rw [flat_one]
    have := at_arr [Value.pointer none, Value.pointer (some ⟨zb, 0, none⟩)] #[]
    simpa using this
  have hz : NoG G (.pointer (some ⟨zb, 0, none⟩)) := .inr ⟨zb, rfl, (e3.trans e).at qz⟩
  by_cases hil : i < 2
  · obtain ⟨b1, o1, i1, t1⟩ := S1.load hsl (i := i) (by simpa using hil) .i64
    have hno : NoG G ([Value.pointer none, Value.pointer (some ⟨zb, 0, none⟩)][i]'(by simpa using hil)) := by
      match i, hil with
      | 0, _ => exact .inl rfl
      | 1, _ => exact hz
    generalize hQ0 : lq1 _ _ _ _ _ _ _ = Q0
    have k := no_round (Q := Q0) (k := i) (xs := .slice (some ⟨lb, 0, none⟩) 2 2) (rb := rb) hno fun g2 eg => by
      rw [← hQ0]
      simp (disch := omega) only [dm_t, wS, simprocAttr, IntKind.bits]
      exact ⟨⟨i + 1, by simp, by omega, e.trans eg⟩, by simp [m1]; omega⟩
    revert k
    simp (disch := omega) only [dm_t, wS, simprocAttr, IntKind.bits, i1, t1]
    exact id
  · obtain rfl : i = 2 := by omega
    have hr := (e2.trans (e3.trans e)).at qr
    simp (disch := omega) only [dm_t, wS, simprocAttr, IntKind.bits]
    refine storeH_all (vs := [_]) hr rfl rfl ?_
    generalize hG : hupd G rb _ = G2
    have f2 : Fr (fun y => y = rb) G G2 := hG ▸ Fr.upd (S := fun y => y = rb) rfl _
    have q2 : G2 rb = some (.cells #[.bool true] 4) := by rw [← hG, hupd_same]
    clear hG
    simp (disch := omega) only [dm_t, wS, simprocAttr, IntKind.bits, cellAt_of q2]
    exact Ext.step' (E3.trans e) f2 fun y hy => by rw [hy]; exact hrb
end
end Go.Proofs.Ythhofmjhnjkcfaa.gr
namespace Go.Proofs.Ythhofmjhnjkcfaa.gr
open Go.Proofs.Ythhofmjhnjkcfaa wi
set_option linter.unusedVariables false
set_option linter.unusedSimpArgs false
abbrev aL (x : askT.D) : List rc.D := x.2.2.1
abbrev aM (x : askT.D) : List Int := x.2.2.2.1
theorem rep_ask {S : Nat → Prop} {h : H} {cs : List Value} {x : askT.D} (r : Rep S askT h cs x) : ∃ lv mv, cs = aCs x.1 x.2.1 lv mv x.2.2.2.2 ∧ x.2.1.1.length ≤ 9223372036854775807 ∧ (-9223372036854775808 ≤ x.2.2.2.2 ∧ x.2.2.2.2 ≤ 9223372036854775807) ∧ RepL S rc h lv (aL x) ∧ RepL S tI h mv (aM x) := by
  obtain ⟨c1, d1, rfl, ⟨rfl, b1⟩, c2, d2, rfl, r2, c3, d3, rfl, r3, c4, d4, rfl, r4, rfl, b5⟩ := r
  obtain ⟨rfl, p1, -⟩ := rep_pl.1 r2
  obtain ⟨lv, _, rfl, _⟩ := id r3
  obtain ⟨mv, _, rfl, _⟩ := id r4
  exact ⟨lv, mv, rfl, p1, b5, r3, r4⟩
theorem ask_ok {h : H} {b m d : Nat} {v : Value} {L : List Pl} {cs : List Value} {x : askT.D} (G : GB h b m L) (D : DG h d v L) (r : Rep (fun y => y = d ∨ y = m) askT h cs x) (hl : (aL x).length ≤ 60) (hm : (aM x).length ≤ 60) (hk : ∀ y ∈ aL x, y.2.1.length ≤ 140737488351232 ∧ y.2.2.length ≤ 140737488351232) :
    Ok Try.prog 30 #[.pointer (some ⟨b, 0, none⟩), .pointer (some ⟨d, 0, none⟩), .agg cs.toArray] h fun u h' => u = .bool true ∧ Both h' b m d ∧ Fr (fun y => y = m ∨ y = d) h h' := by
  obtain ⟨lv, mv, rfl, p1, b5, r3, r4⟩ := rep_ask r
  obtain ⟨la, lc, hlv⟩ := r3.len
  obtain ⟨ma, mc, hmv⟩ := r4.len
  have c1 : isCell lv = true := by rw [hlv]; rfl
  have c2 : isCell mv = true := by rw [hmv]; rfl
  by_cases h0 : x.1 = 0 ∨ x.1 = 1
  · exact ask_set h0 G D p1 c1 c2
  by_cases h2 : x.1 = 2
  · exact ask_let h2 G D p1
  by_cases h3 : x.1 = 3
  · exact ask_fold h3 G D p1 r3 hl hk
  by_cases h4 : x.1 = 4
  · exact ask_at h4 G D p1
  by_cases h5 : x.1 = 5
  · exact ask_least h5 G D p1
  by_cases h6 : x.1 = 6
  · exact ask_lag h6 G D p1 ((repI r4).1.mono fun _ _ _ h => h.elim) hm
  by_cases h7 : x.1 = 7
  · exact ask_all h7 G D p1 b5
  · exact ask_else ⟨fun h => h0 (.inl h), fun h => h0 (.inr h), h2, h3, h4, h5, h6, h7⟩ G D p1
/-- Places put aside: the groups, their map, their places, the document's list. -/
abbrev Asd := Nat × Nat × List Pl × Value
structure PS (h g0 g : H) (b m d : Nat) (L : List Pl) (ov wv : Value) (os : List Asd) : Prop where
  gb : GB g b m L
  dg : ∃ v, DG g d v L
  old : O1 (fun y => g0 y = none) g 44 ov (os.map fun o => .pointer (some ⟨o.1, 0, none⟩))
  was : O1 (fun y => g0 y = none) g 67 wv (os.map fun o => o.2.2.2)
  all : ∀ o ∈ os, GB g o.1 o.2.1 o.2.2.1 ∧ OwK 4 (fun y => y ≠ d) g 23 o.2.2.2 (o.2.2.1.map pCs) ∧ o.2.1 ≠ m
  nm : h m = none
  nd : h d = none
  d0 : g0 d ≠ none
  bk : ∀ y, g y = none → g0 y = none
  e : Ext h g
  up : ∀ y, g0 y = none → h y = none
section
variable {h g0 g g' : H} {b m d : Nat} {L M : List Pl} {ov wv v : Value} {os : List Asd} {T : Nat → Prop}
theorem keepG (G : GB g b m L) (f : Fr T g g') (hT : ∀ y, T y → ∃ c E fr, g y = some (.cells c E fr) ∧ E ≠ 96) : GB g' b m L := by
  refine G.fr f (fun h => ?_) (fun h => ?_)
  · obtain ⟨c, E, fr, h1, h2⟩ := hT _ h
    rw [G.obj] at h1
    simp only [Option.some.injEq, Obj.cells.injEq] at h1
    exact h2 h1.2.1.symm
  · obtain ⟨c, E, fr, h1, h2⟩ := hT _ h
    exact G.nocell h1 rfl
theorem keepS {O : Nat → Prop} {rows : List (List Value)} (s : OwK 4 O g 23 v rows) (f : Fr T g g') (hT : ∀ y, T y → ∃ c E fr, g y = some (.cells c E fr) ∧ E ≠ 23) : OwK 4 O g' 23 v rows :=
  OwK.fr s f fun y hy _ hat => by
    obtain ⟨c, E, fr, h1, h2⟩ := hT _ hy
    exact s.tyno h1 h2 hat
theorem keepD (D : DG g d v L) (f : Fr T g g') (hd : ¬ T d) (hT : ∀ y, T y → ∃ c E fr, g y = some (.cells c E fr) ∧ E ≠ 23) : DG g' d v L :=
  ⟨f _ _ D.1 hd, keepS D.2 f hT⟩
theorem PS.ext (p : PS h g0 g b m d L ov wv os) (e : Ext g g') : PS h g0 g' b m d L ov wv os :=
  ⟨p.gb.ext e, p.dg.imp fun _ D => D.ext e, OwK.ext p.old e, OwK.ext p.was e, fun o ho => ⟨(p.all o ho).1.ext e, OwK.ext (p.all o ho).2.1 e, (p.all o ho).2.2⟩, p.nm, p.nd, p.d0, fun y hy => p.bk y (e.bk hy), p.e.trans e, p.up⟩
/-- A call. -/
theorem PS.step (p : PS h g0 g b m d L ov wv os) (B : Both g' b m d) (f : Fr (fun y => y = m ∨ y = d) g g') : ∃ L', PS h g0 g' b m d L' ov wv os := by
  obtain ⟨L', v', G', D'⟩ := B
  obtain ⟨v, D⟩ := p.dg
  have hO : ∀ {k : Nat} {E : TypeId} {w : Value} {rows : List (List Value)}, OwK k (fun y => g0 y = none) g E w rows → OwK k (fun y => g0 y = none) g' E w rows := fun s => OwK.fr s f fun y hy hn hat => by
    rcases hy with rfl | rfl
    · obtain ⟨c, fr, hc⟩ := s.ty hat
      exact p.gb.nocell hc rfl
    · exact p.d0 hn
  refine ⟨L', G', ⟨v', D'⟩, hO p.old, hO p.was, fun o ho => ?_, p.nm, p.nd, p.d0, fun y hy => ?_, Ext.step' p.e f fun y hy => hy.elim (fun h => h ▸ p.nm) fun h => h ▸ p.nd, p.up⟩
  · obtain ⟨h1, h2, h3⟩ := p.all o ho
    refine ⟨h1.fr f ?_ ?_, OwK.fr h2 f fun y hy hO hat => ?_, h3⟩
    · rintro (e | e)
      · exact p.gb.nocell h1.obj e
      · have := h1.obj
        rw [e, D.1] at this
        simp only [Option.some.injEq, Obj.cells.injEq] at this
        exact absurd this.2.1 (by decide)
    · rintro (e | e)
      · exact h3 e
      · exact h1.nocell D.1 e.symm
    · rcases hy with rfl | rfl
      · obtain ⟨c, fr, hc⟩ := h2.ty hat
        exact p.gb.nocell hc rfl
      · exact hO rfl
  · cases hg : g y with
    | none => exact p.bk y hg
    | some o =>
      by_cases hm : y = m
      · exact absurd hy (hm ▸ G'.nm)
      · by_cases hd : y = d
        · rw [hd, D'.1] at hy; cases hy
        · rw [f _ _ hg (by rintro (h | h); exact hm h; exact hd h)] at hy; cases hy
/-- Put aside; b', m' stand in its place. -/
theorem PS.aside (p : PS h g0 g b m d L ov wv os) {ov' wv' : Value} {g1 : H} (hv : DG g d v L) (f : Fr (fun y => g0 y = none ∧ (isAt ov y ∨ isAt wv y)) g g1)
    (o' : O1 (fun y => g0 y = none) g1 44 ov' ((os.map fun o => .pointer (some ⟨o.1, 0, none⟩)) ++ [.pointer (some ⟨b, 0, none⟩)])) (w' : O1 (fun y => g0 y = none) g1 67 wv' ((os.map fun o => o.2.2.2) ++ [v])) :
    GB g1 b m L ∧ DG g1 d v L ∧ (∀ y, g1 y = none → g0 y = none) ∧ Ext h g1 ∧ ∀ (g2 : H) (b' m' : Nat), Ext g1 g2 → GB g2 b' m' L → g1 m' = none → PS h g0 g2 b' m' d L ov' wv' (os ++ [(b, m, L, v)]) := by
  have hT : ∀ y, (g0 y = none ∧ (isAt ov y ∨ isAt wv y)) → ∃ c E fr, g y = some (.cells c E fr) ∧ (E = 44 ∨ E = 67) := fun y hy => by
    rcases hy.2 with h | h
    · obtain ⟨c, fr, hc⟩ := p.old.ty h; exact ⟨c, _, fr, hc, .inl rfl⟩
    · obtain ⟨c, fr, hc⟩ := p.was.ty h; exact ⟨c, _, fr, hc, .inr rfl⟩
  have hG : ∀ y, (g0 y = none ∧ (isAt ov y ∨ isAt wv y)) → ∃ c E fr, g y = some (.cells c E fr) ∧ E ≠ 96 := fun y hy => by
    obtain ⟨c, E, fr, h1, h2⟩ := hT y hy
    exact ⟨c, E, fr, h1, by rcases h2 with rfl | rfl <;> decide⟩
  have hP : ∀ y, (g0 y = none ∧ (isAt ov y ∨ isAt wv y)) → ∃ c E fr, g y = some (.cells c E fr) ∧ E ≠ 23 := fun y hy => by
    obtain ⟨c, E, fr, h1, h2⟩ := hT y hy
    exact ⟨c, E, fr, h1, by rcases h2 with rfl | rfl <;> decide⟩
  have G1 := keepG p.gb f hG
  have D1 := keepD hv f (fun h => p.d0 h.1) hP
  have bk1 : ∀ y, g1 y = none → g0 y = none := fun y hy => by
    cases hg : g y with
    | none => exact p.bk y hg
    | some o =>
      by_cases hn : g0 y = none
      · exact hn
      · rw [f _ _ hg (fun h => hn h.1)] at hy; cases hy
  have E1 : Ext h g1 := fun x o hx _ => f x o (p.e.at hx) fun hh => by
    have := p.up _ hh.1
    rw [hx] at this; cases this
  refine ⟨G1, D1, bk1, E1, fun g2 b' m' e2 G2 hm' => ?_⟩
  refine ⟨G2, ⟨v, D1.ext e2⟩, by rw [List.map_append]; exact OwK.ext o' e2, by rw [List.map_append]; exact OwK.ext w' e2, fun o ho => ?_, E1.bk hm', p.nd, p.d0, fun y hy => bk1 y (e2.bk hy), E1.trans e2, p.up⟩
  rcases List.mem_append.1 ho with ho | ho
  · obtain ⟨h1, h2, h3⟩ := p.all o ho
    have h1' := keepG h1 f hG
    refine ⟨h1'.ext e2, OwK.ext (keepS h2 f hP) e2, fun h => h1'.nm ?_⟩
    rw [h]; exact hm'
  · simp only [List.mem_singleton] at ho
    subst ho
    refine ⟨G1.ext e2, OwK.ext D1.2 e2, fun h => G1.nm ?_⟩
    have h : m = m' := h
    rw [h]; exact hm'
end
end Go.Proofs.Ythhofmjhnjkcfaa.gr
namespace Go.Proofs.Ythhofmjhnjkcfaa.gr
open Go.Proofs.Ythhofmjhnjkcfaa wi
set_option linter.unusedVariables false
set_option linter.unusedSimpArgs false
theorem sz_ask : askT.sz = 8 := rfl
theorem row_at {S : Nat → Prop} {h : H} {v : Value} {al : List askT.D} (r : RepL S askT h v al) {i : Nat} (hi : i < al.length) : ∃ b o cs la lc ma mc, idxV1 8 v (.int .i64 (i : Int)) = some (.pointer (some ⟨b, o, none⟩)) ∧ cellsAt h ⟨b, o, none⟩ 8 = some cs.toArray ∧ Rep S askT h cs al[i] ∧ cellAt h ⟨b, o, none⟩ = some (.int .i64 (al[i]).1) ∧ cellAt h ⟨b, o + 5, none⟩ = some (.slice la (aL al[i]).length lc) ∧ cellAt h ⟨b, o + 6, none⟩ = some (.slice ma (aM al[i]).length mc) := by
  obtain ⟨b, o, cs, i1, c1, c2, r1⟩ := r.load hi .i64 8 sz_ask
  obtain ⟨lv, mv, hcs, _, _, r3, r4⟩ := rep_ask r1
  obtain ⟨la, lc, rfl⟩ := r3.len
  obtain ⟨ma, mc, rfl⟩ := r4.len
  refine ⟨b, o, cs, la, lc, ma, mc, i1, c1, r1, ?_, ?_, ?_⟩
  · have := c2 0 (by omega); rw [hcs] at this; exact this
  · have := c2 5 (by omega); rw [hcs] at this; exact this
  · have := c2 6 (by omega); rw [hcs] at this; exact this
theorem GP_ok {h : H} {sv0 : Value} {al : List askT.D} (hs : RepL nos askT h sv0 al) (hk : ∀ x ∈ al, ∀ y ∈ aL x, y.2.1.length ≤ 140737488351232 ∧ y.2.2.length ≤ 140737488351232) : Ok Try.prog 7 #[sv0] h fun u h' => u = .bool true ∧ Ext h h' := by
  obtain ⟨sa, sc, rfl⟩ := hs.len
  have hsf : RepL (fun y => h y = none) askT h (.slice sa al.length sc) al := hs.fresh
  refine c7_ok (args := [_]) (by simp) ?_
  by_cases h40 : 40 < al.length
  · simp (disch := omega) only [dm_t, wS, simprocAttr, IntKind.bits]
    refine (works_ok h).k ?_
    rintro _ g1 ⟨rfl, e1⟩
    simp (disch := omega) only [dm_t, wS, simprocAttr, IntKind.bits]
    exact e1
  simp (disch := omega) only [dm_t, wS, simprocAttr, IntKind.bits]
  refine vc_loop1 (fun vi g => g = h ∧ ∃ i : Nat, vi = .int .i64 (i : Int) ∧ i ≤ al.length ∧ ∀ x ∈ al.take i, (aL x).length ≤ 60 ∧ (aM x).length ≤ 60) (fun vi _ => al.length - m1 vi) ?_ ?_
  · simp (disch := omega) only [dm_t, wS, simprocAttr, IntKind.bits]
    exact ⟨0, rfl, by omega, by simp⟩
  rintro _ g ⟨hg, i, rfl, hi, hsm⟩
  subst hg
  by_cases hil : i < al.length
  · obtain ⟨b1, o1, cs, la, lc, ma, mc, i1, c1, r1, c0, c5, c6⟩ := row_at hsf hil
    by_cases hA : 60 < (aL al[i]).length
    · simp (disch := omega) only [dm_t, wS, simprocAttr, IntKind.bits, i1, c5, c6]
      refine (works_ok g).k ?_
      rintro _ g1 ⟨rfl, e1⟩
      simp (disch := omega) only [dm_t, wS, simprocAttr, IntKind.bits]
      exact e1
    by_cases hB : 60 < (aM al[i]).length
    · simp (disch := omega) only [dm_t, wS, simprocAttr, IntKind.bits, i1, c5, c6]
      refine (works_ok g).k ?_
      rintro _ g1 ⟨rfl, e1⟩
      simp (disch := omega) only [dm_t, wS, simprocAttr, IntKind.bits]
      exact e1
    simp (disch := omega) only [dm_t, wS, simprocAttr, IntKind.bits, i1, c5, c6]
    refine ⟨⟨i + 1, by simp, by omega, fun x hx => ?_⟩, by simp [m1]; omega⟩
    rw [List.take_succ_eq_append_getElem hil] at hx
    rcases List.mem_append.1 hx with hx | hx
    · exact hsm x hx
    · simp only [List.mem_singleton] at hx
      subst hx
      omega
  obtain rfl : i = al.length := by omega
  rw [List.take_length] at hsm
  simp (disch := omega) only [dm_t, wS, simprocAttr, IntKind.bits]
  refine (GNew_ok g).k ?_
  rintro _ g1 ⟨b0, m0, rfl, hb0, hm0, G1, e1⟩
  simp (disch := omega) only [dm_t, wS, simprocAttr, IntKind.bits]
  intro d hd
  generalize hG : hupd g1 d _ = g2
  obtain ⟨e2, qd⟩ := new_ext hG hd
  clear hG
  have D2 : DG g2 d (.slice none 0 0) [] := ⟨qd, OwK.nil⟩
  have P0 : PS g g2 g2 b0 m0 d [] (.slice none 0 0) (.slice none 0 0) [] := ⟨G1.ext e2, ⟨_, D2⟩, OwK.nil, OwK.nil, by simp, hm0, e1.bk hd, by rw [qd]; simp, fun _ h => h, e1.trans e2, fun y hy => (e1.trans e2).bk hy⟩
  simp (disch := omega) only [dm_t, wS, simprocAttr, IntKind.bits]
  refine vc_loop4 (fun vg vo vw vi g3 => ∃ (i : Nat) (b m : Nat) (L : List Pl) (os : List Asd), vi = .int .i64 (i : Int) ∧ i ≤ al.length ∧ vg = .pointer (some ⟨b, 0, none⟩) ∧ os.length ≤ i ∧ PS g g2 g3 b m d L vo vw os) (fun _ _ _ vi _ => al.length - m1 vi) ?_ ?_
  · simp (disch := omega) only [dm_t, wS, simprocAttr, IntKind.bits]
    exact ⟨0, b0, m0, [], [], rfl, by omega, rfl, by simp, P0⟩
  rintro _ vo vw _ g3 ⟨i, b, m, L, os, rfl, hi, rfl, hos, P⟩
  by_cases hil : i < al.length
  · have hx := hsm _ (List.getElem_mem hil)
    have hkx := hk _ (List.getElem_mem hil)
    generalize hQ0 : lq4 _ _ _ _ _ _ _ _ _ _ = Q0
    have key : ∀ (g4 : H) (b m : Nat) (L : List Pl) (vo vw : Value) (os : List Asd), PS g g2 g4 b m d L vo vw os → os.length ≤ i + 1 → vc Try.prog c7_s20 (blockQ 3 (seqQ Try.prog [0, 4, 5, 6, 7, 8] c7_s21 Q0)) [(0, .slice sa al.length sc), (4, .pointer (some ⟨b, 0, none⟩)), (5, .pointer (some ⟨d, 0, none⟩)), (6, vo), (7, vw), (8, .int .i64 (i : Int))] g4 := by
      rw [← hQ0]
      intro g4 b m L vo vw os P hos
      obtain ⟨b1, o1, cs, la, lc, ma, mc, i1, c1, r1, c0, c5, c6⟩ := row_at (hsf.ext P.e) hil
      obtain ⟨v, D⟩ := P.dg
      simp (disch := omega) only [dm_t, wS, simprocAttr, IntKind.bits, i1, c1]
      refine (ask_ok P.gb D (r1.mono fun y o _ hy => hy.elim (fun h => h ▸ P.nd) fun h => h ▸ P.nm) hx.1 hx.2 hkx).k ?_
      rintro _ g5 ⟨rfl, B, f5⟩
      obtain ⟨L', P5⟩ := P.step B f5
      obtain ⟨v5, D5⟩ := P5.dg
      simp (disch := omega) only [dm_t, wS, simprocAttr, IntKind.bits, Bool.not_true]
      refine (as_ok P5.gb D5.da).k ?_
      rintro _ g6 ⟨rfl, e6⟩
      simp (disch := omega) only [dm_t, wS, simprocAttr, IntKind.bits, Bool.not_true]
      exact ⟨⟨i + 1, b, m, L', os, by simp, by omega, rfl, by omega, P5.ext e6⟩, by simp [m1]; omega⟩
    obtain ⟨b1, o1, cs, la, lc, ma, mc, i1, c1, r1, c0, c5, c6⟩ := row_at (hsf.ext P.e) hil
    by_cases hne : (al[i]).1 ≠ 8 ∧ (al[i]).1 ≠ 9
    · obtain ⟨n8, n9⟩ := hne
      have k := key g3 b m L vo vw os P (by omega)
      simp (disch := omega) only [dm_t, wS, simprocAttr, IntKind.bits, i1, c0, k]
    have hol : (os.map fun o : Asd => (Value.pointer (some ⟨o.1, 0, none⟩))).length = os.length := List.length_map ..
    have hwl : (os.map fun o : Asd => o.2.2.2).length = os.length := List.length_map ..
    obtain ⟨v, D⟩ := P.dg
    obtain ⟨va, vc', hv⟩ := D.len
    have aside : ∀ (gA : H) (ov' : Value), O1 (fun y => g2 y = none) gA 44 ov' ((os.map fun o : Asd => (Value.pointer (some ⟨o.1, 0, none⟩))) ++ [.pointer (some ⟨b, 0, none⟩)]) → Fr (fun y => g2 y = none ∧ isAt vo y) g3 gA →
        vc Try.prog c7_s12 (seqQ Try.prog [0, 4, 5, 6, 7, 8] c7_s20 (blockQ 3 (seqQ Try.prog [0, 4, 5, 6, 7, 8] c7_s21 Q0))) [(0, .slice sa al.length sc), (4, .pointer (some ⟨b, 0, none⟩)), (5, .pointer (some ⟨d, 0, none⟩)), (6, ov'), (7, vw), (8, .int .i64 (i : Int))] gA := by
      intro gA ov' oA fA
      have hTA : ∀ y, (g2 y = none ∧ isAt vo y) → ∃ c fr, g3 y = some (.cells c 44 fr) := fun y hy => P.old.ty hy.2
      have wA := OwK.fr P.was fA fun y hy _ hat => by
        obtain ⟨c, fr, hc⟩ := hTA y hy
        exact P.was.tyno hc (by decide) hat
      have DA1 : DG gA d v L := keepD D fA (fun h => P.d0 h.1) fun y hy => by
        obtain ⟨c, fr, hc⟩ := hTA y hy
        exact ⟨c, _, fr, hc, by decide⟩
      have bkA : ∀ y, gA y = none → g2 y = none := fun y hy => by
        cases hg : g3 y with
        | none => exact P.bk y hg
        | some o =>
          by_cases hn : g2 y = none
          · exact hn
          · rw [fA _ _ hg (fun h => hn h.1)] at hy; cases hy
      have cd : cellsAt gA ⟨d, 0, none⟩ 1 = some #[v] := cellsAt_all DA1.1 1 rfl
      simp (disch := omega) only [dm_t, wS, simprocAttr, IntKind.bits, cd]
      refine push1 wA bkA (by rw [hv]; rfl) (by rw [hwl]; omega) (by rw [hwl]; omega) ?_
      intro bc wv' gB hbc wB fB
      have oB := OwK.fr oA fB fun y hy _ hat => by
        obtain ⟨c, fr, hc⟩ := wA.ty hy.2
        exact oA.tyno hc (by decide) hat
      obtain ⟨GB1, DB, bkB, EB, mk⟩ := P.aside D ((fA.mono fun y hy => ⟨hy.1, .inl hy.2⟩).trans (fB.mono fun y hy => ⟨hy.1, .inr hy.2⟩)) oB wB
      have fin : ∀ (gC : H) (b' m' : Nat), Ext gB gC → GB gC b' m' L → gB m' = none → vc Try.prog c7_s18 (seqQ Try.prog [0, 4, 5, 6, 7, 8] c7_s20 (blockQ 3 (seqQ Try.prog [0, 4, 5, 6, 7, 8] c7_s21 Q0))) [(0, .slice sa al.length sc), (5, .pointer (some ⟨d, 0, none⟩)), (6, ov'), (7, wv'), (8, .int .i64 (i : Int)), (9, .pointer (some ⟨b', 0, none⟩))] gC := by
        intro gC b' m' eC GC hm'
        obtain ⟨oa, oc, hov⟩ := oB.s0.len
        rw [one_len, List.length_append, hol, List.length_singleton] at hov
        subst hov
        obtain ⟨b3, o3, i3, c3⟩ := S1.load (OwK.ext oB eC).s0 (i := os.length) (by rw [List.length_append, hol]; simp) .i64
        rw [show ((os.map fun o : Asd => (Value.pointer (some ⟨o.1, 0, none⟩))) ++ [.pointer (some ⟨b, 0, none⟩)])[os.length]'(by rw [List.length_append, hol]; simp) = .pointer (some ⟨b, 0, none⟩) by simp] at c3
        have hi1 : (((os.length + 1 : Nat) : Int)) - 1 = (os.length : Int) := by omega
        have hi2 : ((os.length : Int) + 1) - 1 = (os.length : Int) := by omega
        simp (disch := omega) only [dm_t, wS, simprocAttr, IntKind.bits, hi1, hi2, i3, c3]
        refine (GSame_ok GC (GB1.ext eC)).k ?_
        rintro _ gS ⟨rfl, eS⟩
        rw [decide_eq_true rfl]
        have k := key gS b' m' L _ _ _ ((mk gC b' m' eC GC hm').ext eS) (by rw [List.length_append, List.length_singleton]; omega)
        simp (disch := omega) only [dm_t, wS, simprocAttr, IntKind.bits, hi1, hi2, i3, cellAt_ext eS c3, Bool.not_true, k]
      simp (disch := omega) only [dm_t, wS, simprocAttr, IntKind.bits]
      refine (Cpy_ok GB1).k ?_
      rintro _ gC ⟨b', m', rfl, hb', hm', GC, eC⟩
      obtain ⟨b2, o2, cs2, la2, lc2, ma2, mc2, i2, -, -, c20, -, -⟩ := row_at (hsf.ext (EB.trans eC)) hil
      by_cases h9 : (al[i]).1 = 9
      · simp (disch := omega) only [dm_t, wS, simprocAttr, IntKind.bits, i2, c20]
        refine (GNew_ok gC).k ?_
        rintro _ gD ⟨b2', m2', rfl, hb2, hm2, GD, eD⟩
        simp (disch := omega) only [dm_t, wS, simprocAttr, IntKind.bits]
        have GBE := (GB1.ext eC).ext eD
        refine (Records_ok GBE).k ?_
        rintro _ gE ⟨rr, eE⟩
        have hMl := GB1.len
        have hF3 := foldG_eq (l := L.map recP) 0 List.Pairwise.nil (by simp; omega)
        rw [fold_recs GB1.srt GB1.may, Nat.zero_add, List.length_map] at hF3
        have hkr : ∀ x ∈ L.map recP, x.2.1.length ≤ 140737488351232 := fun x hx => by
          obtain ⟨p, hp, rfl⟩ := List.mem_map.1 hx
          have := (mayP_iff.1 (GB1.may p hp)).1.1.2
          rw [show (recP p).2.1 = keyB p.1 p.2.1 from rfl, keyB_len]; omega
        simp (disch := omega) only [dm_t, wS, simprocAttr, IntKind.bits]
        refine (Fold_ok (GD.ext eE) rr (by rw [List.length_map]; omega) hkr).k ?_
        rintro _ gF ⟨rfl, GF, fF⟩
        rw [hF3] at GF ⊢
        have eF : Ext gB gF := Ext.step' ((eC.trans eD).trans eE) fF fun y hy => by rw [hy]; exact eC.bk hm2
        have cdF := (DB.ext eF).cell
        rw [hv] at cdF
        simp (disch := omega) only [dm_t, wS, simprocAttr, IntKind.bits, cdF]
        refine (num_ok gF 0).k ?_
        rintro _ _ ⟨rfl, rfl⟩
        have k := fin gF b2' m2' eF GF (eC.bk hm2)
        simp (disch := omega) only [dm_t, wS, simprocAttr, IntKind.bits, k]
      · have k := fin gC b' m' eC GC hm'
        simp (disch := omega) only [dm_t, wS, simprocAttr, IntKind.bits, i2, c20, k]
    by_cases h8 : (al[i]).1 = 8
    · simp (disch := omega) only [dm_t, wS, simprocAttr, IntKind.bits, i1, c0]
      refine push1 P.old P.bk rfl (by rw [hol]; omega) (by rw [hol]; omega) ?_
      intro bb ov' gA hbb oA fA
      have k := aside gA ov' oA fA
      simp (disch := omega) only [dm_t, wS, simprocAttr, IntKind.bits, k]
    · have h9 : (al[i]).1 = 9 := by
        by_cases h9 : (al[i]).1 = 9
        · exact h9
        · exact absurd ⟨h8, h9⟩ hne
      simp (disch := omega) only [dm_t, wS, simprocAttr, IntKind.bits, i1, c0]
      refine push1 P.old P.bk rfl (by rw [hol]; omega) (by rw [hol]; omega) ?_
      intro bb ov' gA hbb oA fA
      have k := aside gA ov' oA fA
      simp (disch := omega) only [dm_t, wS, simprocAttr, IntKind.bits, k]
  · obtain rfl : i = al.length := by omega
    obtain ⟨oa, oc, hov⟩ := P.old.s0.len
    rw [one_len, List.length_map] at hov
    subst hov
    obtain ⟨wa, wc, hwv⟩ := P.was.s0.len
    rw [one_len, List.length_map] at hwv
    subst hwv
    simp (disch := omega) only [dm_t, wS, simprocAttr, IntKind.bits]
    refine vc_loop1 (fun vi g4 => ∃ (j : Nat), vi = .int .i64 (j : Int) ∧ j ≤ os.length ∧ Ext g3 g4) (fun vi _ => os.length - m1 vi) ?_ ?_
    · simp (disch := omega) only [dm_t, wS, simprocAttr, IntKind.bits]
      exact ⟨0, rfl, by omega, Ext.refl _⟩
    rintro _ g4 ⟨j, rfl, hj, e4⟩
    by_cases hjl : j < os.length
    · have P4 := P.ext e4
      obtain ⟨v, D⟩ := P4.dg
      obtain ⟨b3, o3, i3, c3⟩ := S1.load P4.old.s0 (i := j) (by rw [List.length_map]; exact hjl) .i64
      obtain ⟨b5, o5, i5, c5⟩ := S1.load P4.was.s0 (i := j) (by rw [List.length_map]; exact hjl) .i64
      rw [List.getElem_map] at c3 c5
      obtain ⟨h1, h2, h3⟩ := P4.all _ (List.getElem_mem hjl)
      generalize os[j] = q at *
      have DQ : DA g4 b5 o5 q.2.2.2 q.2.2.1 := ⟨c5, h2.s0⟩
      simp (disch := omega) only [dm_t, wS, simprocAttr, IntKind.bits, i3, c3, i5]
      refine (as_ok h1 DQ).k ?_
      rintro _ g5 ⟨rfl, e5⟩
      simp (disch := omega) only [dm_t, wS, simprocAttr, IntKind.bits, i3, cellAt_ext e5 c3, i5, Bool.not_true]
      refine (GSame_ok (P4.gb.ext e5) (h1.ext e5)).k ?_
      rintro _ g6 ⟨rfl, e6⟩
      have e56 := e5.trans e6
      simp (disch := omega) only [dm_t, wS, simprocAttr, IntKind.bits, i3, cellAt_ext e56 c3, i5, Bool.not_true]
      refine (DSame_ok (D.ext e56).da (DQ.ext e56) P4.gb.len).k ?_
      rintro _ _ ⟨rfl, rfl⟩
      have c3' := cellAt_ext e56 c3
      have fin : ∀ g7, Ext g6 g7 → Ext g3 g7 := fun g7 e => (e4.trans e56).trans e
      by_cases hLM : L = q.2.2.1
      · rw [decide_eq_true hLM]
        simp (disch := omega) only [dm_t, wS, simprocAttr, IntKind.bits, i3, c3', i5, beq_self_eq_true, Bool.not_true]
        refine (Same_half (P4.gb.ext e56) (.inl rfl)).k ?_
        rintro _ _ ⟨rfl, rfl⟩
        simp (disch := omega) only [dm_t, wS, simprocAttr, IntKind.bits, i3, c3', i5]
        exact ⟨⟨j + 1, by simp, by omega, fin _ (Ext.refl _)⟩, by simp [m1]; omega⟩
      · rw [decide_eq_false hLM]
        simp (disch := omega) only [dm_t, wS, simprocAttr, IntKind.bits, i3, c3', i5, beq_self_eq_true, Bool.not_true]
        refine (Same_half (P4.gb.ext e56) (.inl rfl)).k ?_
        rintro _ _ ⟨rfl, rfl⟩
        simp (disch := omega) only [dm_t, wS, simprocAttr, IntKind.bits, i3, c3', i5]
        exact ⟨⟨j + 1, by simp, by omega, fin _ (Ext.refl _)⟩, by simp [m1]; omega⟩
    · simp (disch := omega) only [dm_t, wS, simprocAttr, IntKind.bits]
      refine (nothing_ok g4).k ?_
      rintro _ g5 ⟨rfl, e5⟩
      simp (disch := omega) only [dm_t, wS, simprocAttr, IntKind.bits]
      refine (works_ok g5).k ?_
      rintro _ g6 ⟨rfl, e6⟩
      simp (disch := omega) only [dm_t, wS, simprocAttr, IntKind.bits]
      exact ((P.e.trans e4).trans e5).trans e6
theorem fitp {al : List askT.D} (h : Ty.fit (.sl askT) al) : ∀ x ∈ al, ∀ y ∈ aL x, y.2.1.length ≤ 140737488351232 ∧ y.2.2.length ≤ 140737488351232 := fun x hx y hy => by
  have h1 := ((h.2 x hx).2.2.1.2 y hy).2
  have h2 := h1.1.1
  have h3 := h1.2.1
  rw [show Ty.by .byte = 1 from rfl, Nat.mul_one] at h2 h3
  exact ⟨h2, h3⟩
end Go.Proofs.Ythhofmjhnjkcfaa.gr
