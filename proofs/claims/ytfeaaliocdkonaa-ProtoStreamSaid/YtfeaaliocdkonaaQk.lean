/-
  proto: ProtoStream.
-/
import Derived.Test.YtfeaaliocdkonaaQj
namespace Go.Proofs.Ytfeaaliocdkonaa.pr
open Go.Proofs.Ytfeaaliocdkonaa rr wi
set_option linter.unusedVariables false
set_option linter.unusedSimpArgs false
theorem hdel_nn {h : H} {L y : Nat} (hn : h y = none) : hdel h L y = none := by
  show (if y = L then none else h y) = none
  split
  · rfl
  · exact hn
theorem PS_i {h : H} {vB vC : Value} {b : List UInt8} {cuts : List Int} (rB : By nos h vB b) (rC : RepL nos (.int .i64) h vC cuts) (hl1 : b.length ≤ 4611686018427387904) (hl2 : cuts.length ≤ 4611686018427387904) : Ok Try.prog 4 #[.agg #[vB, vC]] h fun v h' => v = .bool true ∧ Ext h h' := by
  obtain ⟨ba, bc, rfl⟩ := By.len rB
  obtain ⟨ca, cc, rfl⟩ := rC.len
  refine c4_ok (args := [_]) (by simp) ?_
  simp (disch := omega) only [dm_t, wS, simprocAttr, IntKind.bits]
  intro xb hxb rb hrb
  generalize hG : hupd h xb _ = g1 at hrb ⊢
  obtain ⟨e1, qx⟩ := new_ext hG hxb
  clear hG
  generalize hG : hupd g1 rb _ = g2
  obtain ⟨e2, qr⟩ := new_ext hG hrb
  clear hG
  replace qx := e2.at qx
  have E2 := e1.trans e2
  have x0' : cellAt g2 ⟨xb, 0, none⟩ = some (.slice ba b.length bc) := by rw [cellAt_of qx]; rfl
  have x1' : cellAt g2 ⟨xb, 1, none⟩ = some (.slice ca cuts.length cc) := by rw [cellAt_of qx]; rfl
  have fin : ∀ g', Ext g2 g' → Ext h (hupd g' rb (.cells #[.bool true] 4)) := fun g' e => Ext.upd (E2.trans e) (e1.bk hrb)
  by_cases hlb : 40000 < b.length
  · simp (disch := omega) only [dm_t, wS, simprocAttr, IntKind.bits, x0']
    refine works_k fun g3 e3 => ?_
    simp (disch := omega) only [dm_t, wS, simprocAttr, IntKind.bits, storeH_0 (e3.at qr), cellAt_same]
    exact fin g3 e3
  by_cases hlc : 300 < cuts.length
  · simp (disch := omega) only [dm_t, wS, simprocAttr, IntKind.bits, x0', x1']
    refine works_k fun g3 e3 => ?_
    simp (disch := omega) only [dm_t, wS, simprocAttr, IntKind.bits, storeH_0 (e3.at qr), cellAt_same]
    exact fin g3 e3
  simp (disch := omega) only [dm_t, wS, simprocAttr, IntKind.bits, x0', x1']
  intro wv hwv
  generalize hG : hupd g2 wv _ = g3
  obtain ⟨e3, qw⟩ := new_ext hG hwv
  clear hG
  simp (disch := omega) only [dm_t, wS, simprocAttr, IntKind.bits]
  intro ev hev
  simp (disch := omega) only [dm_t, wS, simprocAttr, IntKind.bits, storeH_same]
  generalize hG : hupd g3 ev _ = g4
  obtain ⟨e4, qe⟩ := new_ext hG hev
  clear hG
  have qw3 := qw
  replace qw := e4.at qw
  have E4 := e3.trans e4
  simp (disch := omega) only [dm_t, wS, simprocAttr, IntKind.bits, cellAt_ext E4 x0']
  refine (Frames_ok (rB.ext (E2.trans E4)) (by omega)).k ?_
  rintro _ g5 ⟨pb, w, rfl, hpb, qp, rp, e5⟩
  simp (disch := omega) only [dm_t, wS, simprocAttr, IntKind.bits]
  refine (New_c g5).k ?_
  rintro _ g6 ⟨pc, rfl, hpc, c6, e6⟩
  have E6 := (E4.trans e5).trans e6
  have qx5 := (E4.trans e5).at qx
  have qr5 := (E4.trans e5).at qr
  have qw5 := e5.at qw
  have qe5 := e5.at qe
  have n1 : xb ≠ pc := ne_of qx5 hpc
  have n2 : rb ≠ pc := ne_of qr5 hpc
  have n3 : wv ≠ pc := ne_of qw5 hpc
  have n4 : ev ≠ pc := ne_of qe5 hpc
  have hwe : wv ≠ ev := ne_of qw3 hev
  have hpw : pb ≠ wv := fun hh => by rw [hh, qw] at hpb; cases hpb
  have hpe : pb ≠ ev := fun hh => by rw [hh, qe] at hpb; cases hpb
  have hxw : xb ≠ wv := ne_of qx hwv
  have hxe : xb ≠ ev := ne_of (e3.at qx) hev
  have hrw : rb ≠ wv := ne_of qr hwv
  have hre : rb ≠ ev := ne_of (e3.at qr) hev
  have hwn : h wv = none := E2.bk hwv
  have hen : h ev = none := (E2.trans e3).bk hev
  have hpn : h pc = none := ((E2.trans E4).trans e5).bk hpc
  have w4 : g4 wv ≠ none := by rw [qw]; simp
  have v4 : g4 ev ≠ none := by rw [qe]; simp
  have qw6 := e6.at qw5
  have qe6 := e6.at qe5
  have qp6 := e6.at qp
  have rp6 : By (fun y => y = wv ∨ y = ev) g6 w b := SlK.mono (SlK.ext rp e6) fun y o _ hy => .inl (by rcases hy with rfl | rfl <;> assumption)
  simp (disch := omega) only [dm_t, wS, simprocAttr, IntKind.bits]
  refine vc_rngA rfl rfl (Frames_it (pb := pb) (w := w) (b := b) (by omega)) ?_
    (fun i G => Fr (fun y => y = wv ∨ y = ev) g6 G ∧ (∃ vw, G wv = some (.cells #[vw] 44) ∧ OwL (fun y => g6 y ≠ none) (.sl .byte) (fun y => g6 y = none) G 30 vw ((frs b).take i)) ∧ G ev = some (.cells #[.int .i64 (offs ((frs b).take i) : Nat)] 3))
    (fun _ => False) (fun _ _ => False) ?_ ?_ ?_ ?_ ?_ ?_ (fun _ h => h.elim) (fun _ _ h => h.elim)
  · rintro h' b' o hb' ⟨h1, h2⟩
    exact ⟨(Ext.new hb' o).at h1, SlK.ext h2 (Ext.new hb' o)⟩
  · rintro i h' ⟨z1, _, _⟩
    exact ⟨z1 _ _ qp6 fun hh => hh.elim hpw hpe, (SlK.fr rp6 z1 fun y hy => hy).nos⟩
  · rintro i h' h'' ⟨z1, ⟨vw, z2, z3⟩, z4⟩ e
    exact ⟨z1.trans (e.mono fun _ h => h.elim), ⟨vw, e.at z2, z3.ext e⟩, e.at z4⟩
  · exact ⟨Fr.refl _ _, ⟨_, qw6, OwL.nil⟩, by simpa [offs] using qe6⟩
  · rintro i h0 h' args hi ⟨w, rfl, -⟩; rfl
  · rintro L i h0 h1 args hi ⟨r, hr⟩ ⟨z1, ⟨vw, z2, z3⟩, z4⟩ e0 ⟨w', rfl, ow'⟩
    have f1 : Fr (fun y => y = L) h1 (hdel h1 L) := fun x o hx hn => by show (if x = L then none else h1 x) = _; rw [if_neg hn]; exact hx
    have ow2 : OwB (fun y => h0 y = none) (hdel h1 L) 5 w' ((frs b).getD i []) := OwK.fr ow' f1 fun y hy hn => absurd hn (by rw [hy, hr]; simp)
    have E01 := hdel_mono L e0
    have hd0 : ∀ y, hdel h0 L y ≠ none → h0 y ≠ none := fun y hy hn => hy (hdel_nn hn)
    have hg6 : ∀ y, g6 y ≠ none → hdel h0 L y ≠ none := fun y hy => by
      by_cases h1' : y = wv
      · rw [h1', z2]; simp
      by_cases h2' : y = ev
      · rw [h2', z4]; simp
      obtain ⟨o, ho⟩ := Option.ne_none_iff_exists'.1 hy
      rw [z1 _ _ ho fun hh => hh.elim h1' h2']; simp
    have rw2 : By (fun y => isAt vw y ∨ g6 y ≠ none) (hdel h1 L) w' ((frs b).getD i []) := OwK.sl ow2 fun y hy hh => by
      rcases hh with hh | hh
      · exact hd0 y (OwL.there z3 hh) hy
      · exact hd0 y (hg6 y hh) hy
    have F' := (fi_take (b := b) (i + 1) (by omega)).le
    have hsn : (frs b).take (i + 1) = (frs b).take i ++ [(frs b).getD i []] := by
      rw [List.getD_eq_getElem?_getD, List.getElem?_eq_getElem hi]; simp
    have hos : offs ((frs b).take (i + 1)) = offs ((frs b).take i) + (((frs b).getD i []).length + 8) := by rw [hsn, offs_snoc]
    have hfl := offs_ge ((frs b).take i)
    rw [List.length_take] at hfl
    have y1 := z1.trans (E01.mono fun _ h => h.elim)
    have y2 := E01.at z2
    have y3 := z3.ext E01
    have y4 := E01.at z4
    have hxx : hdel h1 L xb = some (.cells #[.slice ba b.length bc, .slice ca cuts.length cc] 43) := y1 _ _ (e6.at qx5) fun hh => hh.elim hxw hxe
    rw [hos] at F'
    generalize (frs b).getD i [] = body at *
    obtain ⟨wa, wc, rfl⟩ := By.len rw2
    simp (disch := omega) only [dm_t, wS, simprocAttr, IntKind.bits, List.zip_cons_cons, List.zip_nil_right, List.cons_append, List.nil_append]
    have hback : ∀ y, hdel h1 L y = none → g6 y = none := fun y hy => y1.back hy fun z hz => hz.elim (fun hz => by rw [hz, y2]; simp) fun hz => by rw [hz, y4]; simp
    generalize hdel h1 L = G at y1 y2 y3 y4 rw2 hxx hback ⊢
    have hvl := y3.len
    rw [List.length_take, Nat.min_eq_left (by omega)] at hvl
    obtain ⟨va, vz, rfl⟩ := hvl
    have x0g : cellAt G ⟨xb, 0, none⟩ = some (.slice ba b.length bc) := by rw [cellAt_of hxx]; rfl
    have w0g : cellAt G ⟨wv, 0, none⟩ = some (.slice va i vz) := by rw [cellAt_of y2]; rfl
    have e0g : cellAt G ⟨ev, 0, none⟩ = some (.int .i64 (offs ((frs b).take i) : Nat)) := by rw [cellAt_of y4]; rfl
    simp (disch := omega) only [dm_t, wS, simprocAttr, IntKind.bits, x0g, w0g, e0g]
    refine OwL.push (bytes := 24) (z := #[.slice none 0 0]) (row := [.slice wa body.length wc]) (x := body) 1 rfl y3 (fun y hy => hback y hy) (repB.2 rw2) (by rfl) (by rw [List.length_take]; omega) (by rw [List.length_take]; omega) ?_
    intro _ s' G2 _ o2 f2
    have hw6 : g6 wv ≠ none := by rw [qw6]; simp
    have he6 : g6 ev ≠ none := by rw [qe6]; simp
    have k2 := f2 _ _ y2 fun hh => hw6 hh.1
    have k4 := f2 _ _ y4 fun hh => he6 hh.1
    have k1 : Fr (fun y => y = wv ∨ y = ev) g6 G2 := fun y o hy hn => f2 _ _ (y1 _ _ hy hn) fun hh => by rw [hh.1] at hy; cases hy
    obtain ⟨sa, sc, rfl⟩ := o2.len
    simp (disch := omega) only [dm_t, wS, simprocAttr, IntKind.bits, storeH_0 k2]
    have q2 : hupd G2 wv (.cells #[.slice sa ((frs b).take i ++ [body]).length sc] 44) wv = some (.cells #[.slice sa ((frs b).take i ++ [body]).length sc] 44) := hupd_same _ _ _
    have q4 : hupd G2 wv (.cells #[.slice sa ((frs b).take i ++ [body]).length sc] 44) ev = some (.cells #[.int .i64 (offs ((frs b).take i) : Nat)] 3) := by rw [hupd_ne _ _ hwe.symm]; exact k4
    have f3 := Fr.upd (h := G2) (b := wv) (S := fun y => y = wv) rfl (.cells #[.slice sa ((frs b).take i ++ [body]).length sc] 44)
    have o3 := o2.fr f3 (fun y hy => by rw [hy]; exact hw6) fun y hy hn => by rw [hy] at hn; exact absurd hn hw6
    generalize hupd G2 wv (.cells #[.slice sa ((frs b).take i ++ [body]).length sc] 44) = G3 at q2 q4 f3 o3 ⊢
    simp (disch := omega) only [dm_t, wS, simprocAttr, IntKind.bits, storeH_0 q4]
    have f4 := Fr.upd (h := G3) (b := ev) (S := fun y => y = ev) rfl (.cells #[.int .i64 ((offs ((frs b).take i) : Int) + 8 + (body.length : Int))] 3)
    intro _
    refine ⟨(k1.trans (f3.mono fun y hy => .inl hy)).trans (f4.mono fun y hy => .inr hy), ⟨_, by rw [hupd_ne _ _ hwe]; exact q2, ?_⟩, ?_⟩
    · rw [hsn]
      exact o3.fr f4 (fun y hy => by rw [hy]; exact he6) fun y hy hn => by rw [hy] at hn; exact absurd hn he6
    · have hnn : ((offs ((frs b).take i) : Int) + 8 + (body.length : Int)) = ((offs ((frs b).take i) + (body.length + 8) : Nat) : Int) := by omega
      rw [hupd_same, hos, hnn]
  · rintro g7 ⟨z1, ⟨vw, z2, z3⟩, z4⟩
    rw [List.take_length] at z3 z4
    have E7 : Ext h g7 := Ext.step' (E2.trans E6) z1 fun y hy => by rcases hy with rfl | rfl <;> assumption
    have A : SB h g7 xb rb wv ev pc (.slice ba b.length bc) (.slice ca cuts.length cc) vw b cuts := by
      refine ⟨E7, z1 _ _ (e6.at qx5) fun hh => hh.elim hxw hxe, z1 _ _ (e6.at qr5) fun hh => hh.elim hrw hre, z2, z4, ?_, ?_, ?_, ?_, hpn, e1.bk hrb, n1, n2, n3, n4, by omega, by omega⟩
      · exact RepL.mono (OwL.repS z3 fun y hy hn => hn hy) fun y o _ hy => by rw [hy, c6.obj]; simp
      · exact SlK.mono (SlK.ext (SlK.old (T := fun y => y = pc) rB fun y hy => by rw [hy]; exact hpn) E7) fun _ _ _ h => h
      · exact (RepL.mono (RepL.fresh rC) fun y o _ hy => by rw [hy]; exact hpn).ext E7
      · exact c6.fr z1 fun y hy hp => by rw [hp] at hy; exact hy.elim (fun h => n3 h.symm) fun h => n4 h.symm
    have x0g : cellAt g7 ⟨xb, 0, none⟩ = some (.slice ba b.length bc) := by rw [cellAt_of A.qx]; rfl
    have e0g : cellAt g7 ⟨ev, 0, none⟩ = some (.int .i64 (offs (frs b) : Nat)) := by rw [cellAt_of A.qe]; rfl
    have hoff : offs (frs b) ≤ b.length := by
      have := (fi_take (b := b) (frs b).length (Nat.le_refl _)).le
      rwa [List.take_length] at this
    obtain ⟨_, _, hbc⟩ := SlK.cap A.rB
    rw [one_len, bvs_len] at hbc
    simp (disch := omega) only [dm_t, wS, simprocAttr, IntKind.bits, x0g, e0g]
    refine By.cutK A.rB (offs (frs b)) b.length bc rfl rfl rfl (by omega) (.inr rfl) ?_
    intro w2 s2
    have hdl : (b.drop (offs (frs b))).take (b.length - offs (frs b)) = b.drop (offs (frs b)) := List.take_of_length_le (by rw [List.length_drop]; omega)
    rw [hdl] at s2
    simp (disch := omega) only [dm_t, wS, simprocAttr, IntKind.bits]
    refine (Split_ok s2 (by rw [List.length_drop]; omega)).k ?_
    rintro _ g8 ⟨hsp, e8⟩
    have t := PS_loop (A.ext e8)
    rcases hsp with ⟨he, wb, rfl, _⟩ | ⟨he, rfl⟩
    · rw [he] at t
      revert t
      simp (disch := omega) only [dm_t, wS, simprocAttr, IntKind.bits]
      exact id
    · revert t
      simp (disch := omega) only [dm_t, wS, simprocAttr, IntKind.bits]
      exact id
theorem PS_ok {h : H} {cs : List Value} {x : strT.D} (hx : Rep nos strT h cs x) (hl1 : x.1.length ≤ 4611686018427387904) (hl2 : x.2.length ≤ 4611686018427387904) : Ok Try.prog 4 #[.agg cs.toArray] h fun v h' => v = .bool true ∧ Ext h h' := by
  obtain ⟨vB, vC, rfl, rB, rC⟩ := rep_str hx
  exact PS_i rB rC hl1 hl2
end Go.Proofs.Ytfeaaliocdkonaa.pr
