/-
  history: Back, its events put to their places.
-/
import Derived.Test.YtmolhemoiplpfaaOd
namespace Go.Proofs.Ytmolhemoiplpfaa.hi
open Go.Proofs.Ytmolhemoiplpfaa
set_option linter.unusedVariables false
set_option linter.unusedSimpArgs false
def zE : List Value := [.int .i64 0, .bool false, .int .i64 0, .int .i64 0, .slice none 0 0, .int .i64 0, .int .i64 0, .int .i64 0, .int .i64 0, .slice none 0 0]
theorem rep_z {S : Nat → Prop} (h : H) : Rep S evT h zE evZ := rep_ev.2 ⟨_, _, rfl, by unfold cB yB inI; decide, RepL.nil, RepL.nil⟩
theorem unsaid0 {r : replyT.D} (h : r = yNil) : unsaidR r = true := by subst h; rfl
theorem BX.ext {h0 g g' : H} {pn pf po : Nat} {vf vo : Value} {fl : List Bool} {os : List evT.D} (B : BX h0 g pn pf po vf vo fl os) (e : Ext g g') : BX h0 g' pn pf po vf vo fl os :=
  ⟨e.at B.n, e.at B.f, e.at B.o, B.fs.ext e, B.outs.ext e, B.len, B.E.trans e⟩
theorem Back_ok {S : Nat → Prop} {h : H} {sv : Value} {l : List evT.D} {os : List opT.D}
    (hs : RepL S opT h sv os.reverse) (h0 : (ofG Hs.new l 0).2.2 = 0) (hos : (ofG Hs.new l 0).1.ops = os) (hn : l.length ≤ 60000) (hl : ∀ x ∈ l, limE x) :
    Ok Try.prog 17 #[sv] h (BkR h l) := by
  obtain ⟨sa, sn, rfl⟩ := hs.len
  have I := OI.all oi0 h0
  have hevs := (ofG_len h0).1
  have T : TI os.reverse l := by have := I.ti; rwa [hos, hevs] at this
  have hlim : ∀ o ∈ os.reverse, limO o := fun o ho => by
    have := ofG_lim (s := Hs.new) (l := l) (n := 0) (by simp [Hs.new]) hl o
    rw [hos] at this
    exact this (List.mem_reverse.1 ho)
  have hcnt := T.cnt
  have hrevl : os.reverse.length = os.length := List.length_reverse
  have hol := (sum_le os.reverse).1
  refine back_n hs (by omega) ?_
  intro g0 pn e0 hpn q0
  rw [hcnt] at q0
  simp (disch := omega) only [dm_t, wS, simprocAttr, IntKind.bits, cellAt_of q0]
  refine ⟨by omega, ?_⟩
  intro b1 hb1 po hpo
  rw [Int.toNat_natCast]
  have hl1 : h b1 = none := e0.bk hb1
  have O0 : OwL (fun _ => True) evT (fun y => h y = none) _ 41 (.slice (some ⟨b1, 0, none⟩) l.length l.length) (List.replicate l.length evZ) := omakeL (S := fun _ => True) (h := g0) (b := b1) (E := 41) (z := zE) (n := l.length) (m := l.length) 10 rfl evZ (fun h => rep_z h) (Nat.le_refl _) hl1
  rw [show zE.toArray = #[.int .i64 0, .bool false, .int .i64 0, .int .i64 0, .slice none 0 0, .int .i64 0, .int .i64 0, .int .i64 0, .int .i64 0, .slice none 0 0] from rfl] at O0
  generalize hG : hupd g0 b1 _ = g1 at hpo O0 ⊢
  obtain ⟨e1, q1⟩ := new_ext hG hb1
  clear hG
  generalize hG : hupd g1 po _ = g2
  obtain ⟨e2, q2⟩ := new_ext hG hpo
  clear hG
  simp (disch := omega) only [dm_t, wS, simprocAttr, IntKind.bits, storeH_0 q2]
  have hpo1 : h po = none := e0.bk (e1.bk hpo)
  generalize hG : hupd g2 po _ = g3
  have q3 : g3 po = some (.cells #[.slice (some ⟨b1, 0, none⟩) l.length l.length] 31) := by rw [← hG, hupd_same]
  have f3 : Fr (fun y => y = po) g2 g3 := hG ▸ Fr.upd (S := fun y => y = po) rfl _
  clear hG
  have E3 : Ext h g3 := Ext.step' ((e0.trans e1).trans e2) f3 fun y hy => by rw [hy]; exact hpo1
  have npo : pn ≠ po := fun h => by rw [h] at q0; rw [e1.bk hpo] at q0; cases q0
  have qn3 := f3 _ _ (e2.at (e1.at q0)) npo
  have O2 := O0.ext e2
  have hpb1 : po ≠ b1 := fun h => (ne_of q1 hpo) h.symm
  have O3 : OwL (fun _ => True) evT (fun y => h y = none) g3 41 (.slice (some ⟨b1, 0, none⟩) l.length l.length) (List.replicate l.length evZ) := O2.fr f3 (fun _ _ => trivial) fun y hy _ ha => by obtain ⟨_, _, _, ha⟩ := ha; simp at ha
  clear O0 O2
  simp (disch := omega) only [dm_t, wS, simprocAttr, IntKind.bits, cellAt_of qn3]
  refine ⟨by omega, ?_⟩
  intro b2 hb2 pf hpf
  rw [Int.toNat_natCast]
  have hl2 : h b2 = none := E3.bk hb2
  have F0 : O1 (fun y => h y = none) _ 4 (.slice (some ⟨b2, 0, none⟩) l.length l.length) (List.replicate l.length (.bool false)) := omake1 (h := g3) (E := 4) (z := .bool false) (n := l.length) (m := l.length) (Nat.le_refl _) hl2
  generalize hG : hupd g3 b2 _ = g4 at hpf F0 ⊢
  obtain ⟨e4, q4⟩ := new_ext hG hb2
  clear hG
  generalize hG : hupd g4 pf _ = g5
  obtain ⟨e5, q5⟩ := new_ext hG hpf
  clear hG
  simp (disch := omega) only [dm_t, wS, simprocAttr, IntKind.bits, storeH_0 q5]
  have hpf1 : h pf = none := E3.bk (e4.bk hpf)
  generalize hG : hupd g5 pf _ = g6
  have q6 : g6 pf = some (.cells #[.slice (some ⟨b2, 0, none⟩) l.length l.length] 72) := by rw [← hG, hupd_same]
  have f6 : Fr (fun y => y = pf) g5 g6 := hG ▸ Fr.upd (S := fun y => y = pf) rfl _
  clear hG
  have E6 : Ext h g6 := Ext.step' ((E3.trans e4).trans e5) f6 fun y hy => by rw [hy]; exact hpf1
  have npf : pn ≠ pf := ne_of (e4.at qn3) hpf
  have ppf : po ≠ pf := ne_of (e4.at (q3)) hpf
  have hpb2 : pf ≠ b2 := fun h => (ne_of q4 hpf) h.symm
  have F5 := OwK.ext F0 e5
  have F6 : O1 (fun y => h y = none) g6 4 (.slice (some ⟨b2, 0, none⟩) l.length l.length) (List.replicate l.length (.bool false)) := OwK.fr F5 f6 fun y hy _ ha => by obtain ⟨_, _, _, ha⟩ := ha; simp at ha
  have O5 := (O3.ext e4).ext e5
  have hb1f : pf ≠ b1 := by
    rintro rfl
    exact O3.there ⟨0, l.length, l.length, rfl⟩ (e4.bk hpf)
  have O6 : OwL (fun _ => True) evT (fun y => h y = none) g6 41 (.slice (some ⟨b1, 0, none⟩) l.length l.length) (List.replicate l.length evZ) := O5.fr f6 (fun _ _ => trivial) fun y hy _ ha => by obtain ⟨_, _, _, ha⟩ := ha; simp at ha
  have B0 : BX h g6 pn pf po (.slice (some ⟨b2, 0, none⟩) l.length l.length) (.slice (some ⟨b1, 0, none⟩) l.length l.length) (List.replicate l.length false) (msk l (List.replicate l.length false)) := by
    rw [msk_0]
    refine ⟨?_, q6, f6 _ _ (e5.at (e4.at q3)) ppf, ?_, O6.subS fun _ _ => trivial, by simp, E6⟩
    · rw [List.length_replicate]; exact f6 _ _ (e5.at (e4.at qn3)) npf
    · rw [List.map_replicate]; exact F6
  simp (disch := omega) only [dm_t, wS, simprocAttr, IntKind.bits]
  refine vc_loop1 (fun vi G => ∃ (i : Nat) (vf vo : Value) (fl : List Bool), vi = .int .i64 (i : Int) ∧ i ≤ os.reverse.length ∧ fl.length = l.length ∧ Mk os.reverse i fl ∧ BX h G pn pf po vf vo fl (msk l fl)) (fun vi _ => os.reverse.length - m1 vi) ?_ ?_
  · simp (disch := omega) only [dm_t, wS, simprocAttr, IntKind.bits]
    exact ⟨0, _, _, _, rfl, by omega, by simp, Mk.zero _ _, B0⟩
  clear B0 O6 O5 F6 F5 O3 F0
  rintro _ G ⟨i, vf, vo, fl, rfl, hi, hfl, M, B⟩
  by_cases hil : i < os.reverse.length
  · have hti : os.reverse[i]? = some os.reverse[i] := List.getElem?_eq_getElem hil
    obtain ⟨k, k1, k2⟩ := T.call i _ hti
    have hkl := lt_of k2
    have hret := T.ret i _ hti
    have hlo := hlim _ (List.getElem_mem hil)
    have hrep := fun (G : H) (e : Ext h G) => hs.ext e
    generalize ho : os.reverse[i] = o at *
    obtain ⟨pb, po', cs, i1, n1, -, n3⟩ := hs.load hil .i64 11 rfl
    rw [ho] at n3
    simp (disch := omega) only [dm_t, wS, simprocAttr, IntKind.bits, i1, cellsAt_ext B.E n1]
    intro b hb
    simp (disch := omega) only [dm_t, wS, simprocAttr, IntKind.bits]
    refine stn_new n3.len (by rfl) n3.cells ?_
    generalize hG : hupd G b _ = G1
    obtain ⟨e', qb⟩ := new_ext hG hb
    clear hG
    obtain ⟨r, q, rfl, hbd, hr, hq⟩ := rep_op.1 n3
    have B1 := B.ext e'
    have x9 : cellAt G1 ⟨b, 9, none⟩ = some (.int .i64 (ob o)) := by rw [cellAt_of qb]; rfl
    have x0 : cellAt G1 ⟨b, 0, none⟩ = some (.int .i64 (oc o)) := by rw [cellAt_of qb]; rfl
    have x1 : cellsAt G1 ⟨b, 1, none⟩ 5 = some (cCs o.2.1 r).toArray := by rw [cellsAt_of qb (by simp)]; rfl
    rw [k1] at x9
    simp (disch := omega) only [dm_t, wS, simprocAttr, IntKind.bits, x9, x0, x1]
    have hx : Rep S evT G1 (eCs (evCa o) r (.slice none 0 0)) (evCa o) := rep_ev.2 ⟨_, _, rfl, ⟨hbd.1, hbd.2.1, show yB yNil by unfold yB inI; decide⟩, hr.ext (B.E.trans e'), RepL.nil⟩
    refine ⟨rfl, (bput_ok B1 (at' := k) (by rw [msk_len hfl]; exact hkl) (by rw [msk_len hfl]; omega) (M.free T hti k1) hx hlo.1 limN).k ?_⟩
    rintro _ G2 ⟨rfl, B2, f2⟩
    rw [msk_set hfl k2] at B2
    have nb : ∀ {G : H} {fl : List Bool}, BX h G pn pf po vf vo fl (msk l fl) → G b = some (.cells (oCs o r q).toArray 43) → ¬ (isAt vf b ∨ isAt vo b) := fun B hq h => h.elim (fun h => OwK.tyno B.fs hq (by decide) h) fun h => B.outs.tyno hq (by decide) h
    have qb2 := f2 _ _ qb (nb B1 qb)
    have hfl2 : (fl.set k true).length = l.length := by rw [List.length_set]; exact hfl
    have y10 : cellAt G2 ⟨b, 10, none⟩ = some (.int .i64 (oe o)) := by rw [cellAt_of qb2]; rfl
    have y9 : cellAt G2 ⟨b, 9, none⟩ = some (.int .i64 (ob o)) := by rw [cellAt_of qb2]; rfl
    have y0 : cellAt G2 ⟨b, 0, none⟩ = some (.int .i64 (oc o)) := by rw [cellAt_of qb2]; rfl
    have y6 : cellsAt G2 ⟨b, 6, none⟩ 3 = some (yCs o.2.2.1 q).toArray := by rw [cellsAt_of qb2 (by simp)]; rfl
    rcases hret with ⟨hm, hy⟩ | ⟨k', hk', hlt, hk2⟩
    · rw [hm] at y10
      simp (disch := omega) only [dm_t, wS, simprocAttr, IntKind.bits, y10, y6]
      have hq2 := hq.ext B2.E
      refine (unsaid_ok (rep_reply.2 ⟨q, rfl, hbd.2.2.1, hq2⟩)).k ?_
      rintro _ G3 ⟨rfl, e3⟩
      rw [unsaid0 hy]
      have B3 := B2.ext e3
      have z10 := cellAt_ext e3 y10
      simp (disch := omega) only [dm_t, wS, simprocAttr, IntKind.bits, z10]
      exact ⟨⟨i + 1, vf, vo, _, by simp, by omega, hfl2, M.one hti (fun k' h => by rw [hfl]; omega) hm k1, B3⟩, by simp [m1]; omega⟩
    · rw [hk'] at y10
      rw [k1] at y9
      simp (disch := omega) only [dm_t, wS, simprocAttr, IntKind.bits, y10, y9, y0, y6]
      have hk'l := lt_of hk2
      have hfree : (fl.set k true).getD k' false = false := by
        rw [getD_set true (by omega), if_neg (by omega)]
        exact M.free2 T hti hk'
      have hx2 : Rep S evT G2 (eCs (evRe o) (.slice none 0 0) q) (evRe o) := rep_ev.2 ⟨_, _, rfl, ⟨hbd.1, show cB cNil by unfold cB inI; decide, hbd.2.2.1⟩, RepL.nil, hq.ext B2.E⟩
      refine ⟨rfl, (bput_ok B2 (at' := k') (by rw [msk_len hfl2]; exact hk'l) (by rw [msk_len hfl2]; omega) hfree hx2 limN hlo.2).k ?_⟩
      rintro _ G3 ⟨rfl, B3, f3⟩
      rw [msk_set hfl2 hk2] at B3
      simp (disch := omega) only [dm_t, wS, simprocAttr, IntKind.bits]
      exact ⟨⟨i + 1, vf, vo, _, by simp, by omega, by rw [List.length_set]; exact hfl2, M.two hti k1 hk' (by omega) (by omega), B3⟩, by simp [m1]; omega⟩
  · obtain rfl : i = os.reverse.length := by omega
    have hmk : msk l fl = l := msk_all hfl (M.all T)
    rw [hmk] at B
    have k := back_tail hs h0 hos hn (by rw [List.length_reverse] at hol; omega) hl I B.E B.o B.outs
    simp (disch := omega) only [dm_t, wS, simprocAttr, IntKind.bits, k]
end Go.Proofs.Ytmolhemoiplpfaa.hi
