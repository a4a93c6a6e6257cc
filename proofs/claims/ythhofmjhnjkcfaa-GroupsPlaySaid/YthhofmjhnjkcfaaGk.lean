/-
  groups: the list of all places, in order.
-/
import Derived.Test.YthhofmjhnjkcfaaGj
import Derived.Test.YthhofmjhnjkcfaaSa
namespace Go.Proofs.Ythhofmjhnjkcfaa.gr
open Go.Proofs.Ythhofmjhnjkcfaa wi
set_option linter.unusedVariables false
set_option linter.unusedSimpArgs false
/-- Places in memory of the call's own. -/
abbrev PL (O : Nat → Prop) (h : H) (v : Value) (L : List Pl) : Prop := OwK 4 O h 23 v (L.map pCs)
theorem good_p (x : Pl) : so.Good (pCs x) := ⟨rfl, rfl, x.1, x.2.1, x.2.2.1, x.2.2.2, rfl⟩
theorem rk_p (x : Pl) : so.rk (pCs x) = key x := rfl
theorem srt_rows {L : List Pl} (s : L.Pairwise lp) : (L.map pCs).Pairwise so.lt := by
  rw [List.pairwise_map]
  exact s.imp fun h => h
def unx : Value → Int × Int
  | .agg cs => match cs.toList with
    | [.int _ o, .int _ t] => (o, t)
    | _ => (0, 0)
  | _ => (0, 0)
def unpk (x : Ky × Value) : Pl := (x.1.1, x.1.2, unx x.2)
theorem unpk_pk : unpk ∘ pk = id := by
  funext x
  rfl
theorem list_ok {h : H} {b m : Nat} {L : List Pl} (G : GB h b m L) : Ok Try.prog 51 #[.pointer (some ⟨b, 0, none⟩)] h fun v h' => PL (fun y => h y = none) h' v L ∧ Ext h h' := by
  refine c51_ok (args := [_]) (by simp) ?_
  obtain ⟨kl, M, hp⟩ := G.mo
  have hle := G.len
  have hll := hp.length_eq
  simp (disch := omega) only [dm_t, wS, simprocAttr, IntKind.bits]
  refine (none_ok G).k ?_
  rintro _ _ ⟨rfl, rfl⟩
  simp (disch := omega) only [dm_t, wS, simprocAttr, IntKind.bits, G.cell]
  refine raw_rangem Try.underlying94 rfl M ?_
  intro r g1 hr I1 e1
  simp (disch := omega) only [dm_t, wS, simprocAttr, IntKind.bits]
  refine vc_loop1 (fun vl g => ∃ vis : List Pl, ITO enk g m r (kl.map pk) (vis.map pk) ∧ PL (fun y => h y = none) g vl vis ∧ Ext h g) (fun vl _ => 4096 - mlen vl) ?_ ?_
  · simp (disch := omega) only [dm_t, wS, simprocAttr, IntKind.bits]
    exact ⟨[], I1, OwK.nil, e1⟩
  rintro vl g ⟨vis, I, ow, e⟩
  have hvl := I.le
  rw [List.length_map, List.length_map] at hvl
  have hvs : ∀ x ∈ vis, ∃ y ∈ kl, pk y = pk x := fun x hx => by
    have := I.sub (pk x) (List.mem_map.2 ⟨x, hx, rfl⟩)
    exact List.mem_map.1 this
  obtain ⟨la, lc, rfl⟩ := ow.s0.len
  simp (disch := omega) only [dm_t, wS, simprocAttr, IntKind.bits]
  refine raw_nextm rfl I ?_ ?_
  · intro x g2 hx hnew I2 f2
    obtain ⟨y, hy, rfl⟩ := List.mem_map.1 hx
    have hlt : vis.length < kl.length := by
      have := I2.le
      simp only [List.length_append, List.length_map, List.length_singleton] at this
      omega
    have e2 : Ext h g2 := Ext.step' e f2 fun y hy => by rw [hy]; exact hr
    obtain ⟨im, is, iseen, ic, hit⟩ := I.iter
    have ow2 := OwK.fr ow f2 fun y hy hn hat => by
      obtain ⟨c, fr, hc⟩ := ow.ty hat
      rw [hy, hit] at hc; cases hc
    have p1 : enk (pk y).1 = .agg #[sv y.1, .int .i64 y.2.1] := rfl
    have p2 : (pk y).2 = .agg #[.int .i64 y.2.2.1, .int .i64 y.2.2.2] := rfl
    rw [p1, p2]
    simp (disch := omega) only [dm_t, wS, simprocAttr, IntKind.bits]
    refine raw_entrym rfl I2 ?_
    rw [p1, p2]
    simp (disch := omega) only [dm_t, wS, simprocAttr, IntKind.bits]
    intro kb hkb xb hxb
    generalize hG : hupd g2 kb _ = g3 at hxb ⊢
    obtain ⟨e3, q3⟩ := new_ext hG hkb
    clear hG
    generalize hG : hupd g3 xb _ = g4
    obtain ⟨e4, q4⟩ := new_ext hG hxb
    clear hG
    have q34 := e4.at q3
    refine storeH_all q34 rfl rfl ?_
    generalize hG : hupd g4 kb _ = g5
    have f5 : Fr (fun y => y = kb) g4 g5 := hG ▸ Fr.upd (S := fun y => y = kb) rfl _
    have q5 : g5 kb = some (.cells #[sv y.1, .int .i64 y.2.1] 98) := by rw [← hG, hupd_same]
    have hkx : xb ≠ kb := fun h => ne_of q3 hxb h.symm
    have q6 := f5 _ _ q4 hkx
    have e25 : Ext g2 g5 := Ext.step' (e3.trans e4) f5 fun y hy => by rw [hy]; exact hkb
    clear hG
    simp (disch := omega) only [dm_t, wS, simprocAttr, IntKind.bits]
    refine storeH_all q6 rfl rfl ?_
    generalize hG : hupd g5 xb _ = g6
    have f6 : Fr (fun y => y = xb) g5 g6 := hG ▸ Fr.upd (S := fun y => y = xb) rfl _
    have q7 : g6 xb = some (.cells #[.int .i64 y.2.2.1, .int .i64 y.2.2.2] 100) := by rw [← hG, hupd_same]
    have q8 := f6 _ _ q5 hkx.symm
    have e26 : Ext g2 g6 := Ext.step' e25 f6 fun y hy => by rw [hy]; exact e3.bk hxb
    clear hG
    have c0 : cellAt g6 ⟨kb, 0, none⟩ = some (sv y.1) := by rw [cellAt_of q8]; rfl
    have c1 : cellAt g6 ⟨kb, 1, none⟩ = some (.int .i64 y.2.1) := by rw [cellAt_of q8]; rfl
    have c2 : cellAt g6 ⟨xb, 0, none⟩ = some (.int .i64 y.2.2.1) := by rw [cellAt_of q7]; rfl
    have c3 : cellAt g6 ⟨xb, 1, none⟩ = some (.int .i64 y.2.2.2) := by rw [cellAt_of q7]; rfl
    have E6 := e2.trans e26
    have ow6 := OwK.ext ow2 e26
    have I6 := I2.ext e26
    simp (disch := omega) only [dm_t, wS, simprocAttr, IntKind.bits, c0, c1, c2, c3]
    refine pushk (row := pCs y) ow6 (fun y hy => E6.bk hy) rfl (by rfl) rfl (by rw [List.length_map]; omega) (by rw [List.length_map]; omega) ?_
    intro b2 v2 g7 hb2 o7 f7 hat7
    have hmap : vis.map pCs ++ [pCs y] = (vis ++ [y]).map pCs := by simp
    have hmap2 : vis.map pk ++ [pk y] = (vis ++ [y]).map pk := by simp
    rw [hmap] at o7
    rw [hmap2] at I6
    obtain ⟨la2, lc2, rfl⟩ := o7.s0.len
    simp (disch := omega) only [dm_t, wS, simprocAttr, IntKind.bits]
    refine ⟨⟨vis ++ [y], I6.fr f7 (fun hy => ?_) (fun hy => ?_), o7, Ext.step' E6 f7 fun y hy => hy.1⟩, by simp [mlen]; omega⟩
    · obtain ⟨c, fr, hc⟩ := ow6.ty hy.2
      exact I6.mo.nocell hc
    · obtain ⟨c, fr, hc⟩ := ow6.ty hy.2
      obtain ⟨im, is, iseen, ic, hit⟩ := I6.iter
      rw [hit] at hc; cases hc
  · intro hperm
    have hpk : vis.Perm kl := by
      have := hperm.map unpk
      rwa [List.map_map, List.map_map, unpk_pk, List.map_id, List.map_id] at this
    have hpl : (vis.map pCs).Perm (L.map pCs) := (hpk.trans hp).map _
    have hz := srt_rows G.srt
    have hvl2 := hpk.length_eq
    simp (disch := omega) only [dm_t, wS, simprocAttr, IntKind.bits]
    have d : so.DX g g (.slice la (vis.map pCs).length lc) (vis.map pCs) := ⟨ow.mono fun _ _ _ _ => trivial, fun r hr => by obtain ⟨x, _, rfl⟩ := List.mem_map.1 hr; exact good_p x, Fr.refl _ _⟩
    refine (so.SortF_ok d (by rw [List.length_map]; omega) ((so.dist_of hz).perm hpl)).k ?_
    rintro w g2 ⟨ys, D, P, Sr⟩
    have hys : ys = L.map pCs := so.sorted_eq (P.trans hpl) hz (by rw [P.length_eq]; exact Sr)
    subst hys
    simp (disch := omega) only [dm_t, wS, simprocAttr, IntKind.bits]
    refine ⟨?_, Ext.step' e D.fr fun y hy => ow.own hy⟩
    obtain ⟨hr, h | ⟨b, o, cp, c, fr, h1, h2, h3, h4, h5, h6, h7⟩⟩ := D.ow
    · exact ⟨hr, .inl h⟩
    · exact ⟨hr, .inr ⟨b, o, cp, c, fr, h1, h2, h3, h4, h5, ow.own ⟨_, _, _, h1⟩, h7⟩⟩
end Go.Proofs.Ythhofmjhnjkcfaa.gr
