/-
  history: Back, from the events found to its end: the operations, sorted, are the same.
-/
import Derived.Test.YtmolhemoiplpfaaOc
import Derived.Test.YtmolhemoiplpfaaSa
namespace Go.Proofs.Ytmolhemoiplpfaa.hi
open Go.Proofs.Ytmolhemoiplpfaa
set_option linter.unusedVariables false
set_option linter.unusedSimpArgs false
/-- What Back answers. -/
def BkR (h : H) (l : List evT.D) (v : Value) (h' : H) : Prop := ∃ vo, v = .tuple #[vo, .int .i64 0] ∧ OwL nos evT (fun y => h y = none) h' 41 vo l ∧ Ext h h'
section
variable {S : Nat → Prop} {h : H} {os : List opT.D} {rows : List (List Value)}
theorem rows_at (hl : rows.length = os.reverse.length) (hr : ∀ (i : Nat) r x, rows[i]? = some r → os.reverse[i]? = some x → Rep S opT h r x) {i : Nat} {o : opT.D} (hi : os[i]? = some o) :
    ∃ r q, rows.reverse[i]? = some (oCs o r q) := by
  have h1 := rev_of hi
  have hlt := lt_of hi
  rw [List.length_reverse] at hl
  obtain ⟨r, hr1⟩ : ∃ r, rows[os.length - 1 - i]? = some r := ⟨_, List.getElem?_eq_getElem (by omega)⟩
  obtain ⟨a, b, rfl, _⟩ := rep_op.1 (hr _ _ _ hr1 h1)
  refine ⟨a, b, ?_⟩
  rw [List.getElem?_reverse (by omega), hl]
  exact hr1
theorem row_good {l : List evT.D} {o : opT.D} {k : Nat} {r q : Value} (hr : isCell r = true) (hq : isCell q = true) (h1 : ob o = k) (h2 : k < l.length) (h3 : l.length ≤ 60000) : so.Good (oCs o r q) := by
  refine ⟨rfl, ?_, rfl, ?_, ?_⟩
  · unfold isCell at hr hq; simp [oCs, isCell, hr, hq]
  · show 0 ≤ ob o; omega
  · show ob o ≤ 4294967295; omega
end
theorem back_tail {S T : Nat → Prop} {h g : H} {sa : Option Addr} {sn po : Nat} {vo : Value} {l : List evT.D} {os : List opT.D}
    (hs : RepL S opT h (.slice sa os.reverse.length sn) os.reverse) (h0 : (ofG Hs.new l 0).2.2 = 0) (hos : (ofG Hs.new l 0).1.ops = os) (hn : l.length ≤ 60000) (hol : os.length ≤ 60000) (hl : ∀ x ∈ l, limE x)
    (I : OI (ofG Hs.new l 0).1)
    (E : Ext h g) (qo : g po = some (.cells #[vo] 31)) (O : OwL T evT (fun y => h y = none) g 41 vo l) :
    vc Try.prog c17_s19 (retQ [2, 3] (okR (BkR h l))) [(0, .slice sa os.reverse.length sn), (7, .pointer (some ⟨po, 0, none⟩))] g := by
  obtain ⟨rows, s1, s2, s3⟩ := repL_iff.1 hs
  replace s1 : SlK so.kR S h (.slice sa os.reverse.length sn) rows := s1
  rw [hos.symm.trans rfl] at s2
  rw [hos] at s2
  have hevs := (ofG_len h0).1
  have hat : ∀ (i : Nat) (o : opT.D), os[i]? = some o → ∃ r q, rows.reverse[i]? = some (oCs o r q) := fun i o hi => rows_at s2 s3 hi
  have hrl : rows.length = os.length := by rw [s2, List.length_reverse]
  have hbeg : ∀ (i : Nat) (o : opT.D), os[i]? = some o → ∃ k : Nat, ob o = k ∧ k < l.length := fun i o hi => by
    obtain ⟨k, k1, k2⟩ := I.call i o (by rw [hos]; exact hi)
    rw [hevs] at k2
    exact ⟨k, k1, lt_of k2⟩
  have hgd : ∀ r ∈ rows, so.Good r := by
    intro r hr
    obtain ⟨i, hi, rfl⟩ := List.getElem_of_mem hr
    have hi2 : i < os.reverse.length := by rw [← s2]; exact hi
    have hrep := s3 i _ _ (List.getElem?_eq_getElem hi) (List.getElem?_eq_getElem hi2)
    have hcell := hrep.cells
    obtain ⟨a, b, he, _⟩ := rep_op.1 hrep
    rw [he] at hcell ⊢
    obtain ⟨_, ho⟩ := rev_at (List.getElem?_eq_getElem hi2)
    obtain ⟨k, k1, k2⟩ := hbeg _ _ ho
    simp only [oCs, List.all_cons, Bool.and_eq_true] at hcell
    exact row_good hcell.2.2.2.1 hcell.2.2.2.2.2.2.2.2.1 k1 k2 hn
  have hz : rows.reverse.Pairwise so.lt := by
    rw [List.pairwise_iff_getElem]
    intro i j hi hj hij
    have hi2 : i < os.length := by simpa [hrl] using hi
    have hj2 : j < os.length := by simpa [hrl] using hj
    obtain ⟨a, b, h1⟩ := hat i _ (List.getElem?_eq_getElem hi2)
    obtain ⟨c, d, h2⟩ := hat j _ (List.getElem?_eq_getElem hj2)
    rw [List.getElem?_eq_getElem hi] at h1
    rw [List.getElem?_eq_getElem hj] at h2
    rw [Option.some.inj h1, Option.some.inj h2]
    exact I.up i j _ _ (by rw [hos]; exact List.getElem?_eq_getElem hi2) (by rw [hos]; exact List.getElem?_eq_getElem hj2) hij
  obtain ⟨oa, oc', rfl⟩ := O.len
  simp (disch := omega) only [dm_t, wS, simprocAttr, IntKind.bits, cellAt_of qo]
  refine (OpsF_ok O.rep (by omega) hl).k ?_
  rintro v g1 ⟨e1, hv⟩
  rcases hv with ⟨_, vq, rfl, o1⟩ | ⟨hb, _⟩
  rotate_left
  · exact absurd h0 hb
  rw [hos] at o1
  obtain ⟨qa, qc, rfl⟩ := o1.len
  simp (disch := omega) only [dm_t, wS, simprocAttr, IntKind.bits]
  refine (so.Values_ok g1 sa os.reverse.length sn).k ?_
  rintro _ g2 ⟨vb, rfl, qv, e2⟩
  have E2 := (E.trans e1).trans e2
  simp (disch := omega) only [dm_t, wS, simprocAttr, IntKind.bits]
  refine (so.SortedF_ok qv (SlK.nos (s1.ext E2)) hgd (by omega) hz (List.reverse_perm rows)).k ?_
  rintro vs g3 ⟨o3, e3⟩
  have E3 := E2.trans e3
  have hrv : rows.reverse.length = os.length := by rw [List.length_reverse, hrl]
  obtain ⟨za, zc, rfl⟩ := o3.s0.len
  have qo3 := e3.at (e2.at (e1.at qo))
  have O3 := ((O.ext e1).ext e2).ext e3
  have o13 := (o1.ext e2).ext e3
  simp (disch := omega) only [dm_t, wS, simprocAttr, IntKind.bits]
  refine vc_loop1 (fun vi G => Ext g3 G ∧ ∃ i : Nat, vi = .int .i64 (i : Int) ∧ i ≤ os.length) (fun vi _ => os.length - m1 vi) ?_ ?_
  · simp (disch := omega) only [dm_t, wS, simprocAttr, IntKind.bits]
    exact ⟨Ext.refl _, 0, rfl, by omega⟩
  rintro _ G ⟨eG, i, rfl, hi⟩
  by_cases hil : i < os.length
  · simp (disch := omega) only [dm_t, wS, simprocAttr, IntKind.bits]
    refine (o13.rep.ext eG).at (by rfl) i rfl hil ?_
    intro pb po' cs k1 k2 k3
    simp (disch := omega) only [dm_t, wS, simprocAttr, IntKind.bits, k1]
    intro b hb
    simp (disch := omega) only [dm_t, wS, simprocAttr, IntKind.bits]
    refine stn_new k3.len (by rfl) k3.cells ?_
    generalize hG : hupd G b _ = G1
    obtain ⟨e', qb⟩ := new_ext hG hb
    clear hG
    obtain ⟨_, _, rfl, _⟩ := rep_op.1 k3
    obtain ⟨r, q, hrow⟩ := hat i _ (List.getElem?_eq_getElem hil)
    have hir : i < rows.reverse.length := by omega
    obtain ⟨zb, zo, z1, z2, z3, -⟩ := (o3.s0.ext (eG.trans e')).row hir .i64
    rw [List.getElem?_eq_getElem hir] at hrow
    rw [Option.some.inj hrow] at z3
    have y0 : cellAt G1 ⟨zb, zo, none⟩ = some (.int .i64 (os[i]).1) := z3 0 (by decide)
    have y10 : cellAt G1 ⟨zb, zo + 10, none⟩ = some (.int .i64 (os[i]).2.2.2.2) := z3 10 (by decide)
    have x0 : cellAt G1 ⟨b, 0, none⟩ = some (.int .i64 (os[i]).1) := by rw [cellAt_of qb]; rfl
    have x10 : cellAt G1 ⟨b, 10, none⟩ = some (.int .i64 (os[i]).2.2.2.2) := by rw [cellAt_of qb]; rfl
    simp (disch := omega) only [dm_t, wS, simprocAttr, IntKind.bits, x0, x10, y0, y10, z1]
    exact ⟨⟨eG.trans e', i + 1, by simp, by omega⟩, by simp [m1]; omega⟩
  · obtain rfl : i = os.length := by omega
    simp (disch := omega) only [dm_t, wS, simprocAttr, IntKind.bits, cellAt_of (eG.at qo3)]
    exact ⟨_, rfl, (O3.ext eG).subS (fun _ h => h.elim), E3.trans eG⟩
end Go.Proofs.Ytmolhemoiplpfaa.hi
namespace Go.Proofs.Ytmolhemoiplpfaa.hi
open Go.Proofs.Ytmolhemoiplpfaa
set_option linter.unusedVariables false
set_option linter.unusedSimpArgs false
theorem cw_pos (o : opT.D) : 1 ≤ cw o ∧ cw o ≤ 2 := by unfold cw; split <;> omega
theorem sum_le : ∀ (l : List opT.D), l.length ≤ (l.map cw).sum ∧ (l.map cw).sum ≤ 2 * l.length
  | [] => by simp
  | o :: t => by have := sum_le t; have := cw_pos o; simp; omega
theorem sum_take (l : List opT.D) (i : Nat) : ((l.take i).map cw).sum ≤ (l.map cw).sum := by
  conv => rhs; rw [← List.take_append_drop i l]
  rw [List.map_append, List.sum_append]; omega
/-- How many events there will be. -/
theorem back_n {S : Nat → Prop} {h : H} {sa : Option Addr} {sn : Nat} {ts : List opT.D} {R : Value → H → Prop} (hs : RepL S opT h (.slice sa ts.length sn) ts) (hn : (ts.map cw).sum ≤ 60000)
    (hk : ∀ g pn, Ext h g → h pn = none → g pn = some (.cells #[.int .i64 (((ts.map cw).sum : Nat) : Int)] 3) → vc Try.prog c17_s8 (retQ [2, 3] (okR R)) [(0, .slice sa ts.length sn), (4, .pointer (some ⟨pn, 0, none⟩))] g) :
    Ok Try.prog 17 #[.slice sa ts.length sn] h R := by
  refine c17_ok (args := [_]) (by simp) ?_
  have hlen := sum_le ts
  simp (disch := omega) only [dm_t, wS, simprocAttr, IntKind.bits]
  intro pn hpn
  simp (disch := omega) only [dm_t, wS, simprocAttr, IntKind.bits]
  generalize hG : hupd h pn _ = g0
  obtain ⟨e0, q0⟩ := new_ext hG hpn
  clear hG
  simp (disch := omega) only [dm_t, wS, simprocAttr, IntKind.bits, storeH_0 q0]
  rw [show hupd g0 pn (.cells #[.int .i64 0] 3) = g0 from hupd_self q0]
  refine vc_loop1 (fun vi G => ∃ i : Nat, vi = .int .i64 (i : Int) ∧ i ≤ ts.length ∧ Ext h G ∧ G pn = some (.cells #[.int .i64 ((((ts.take i).map cw).sum : Nat) : Int)] 3)) (fun vi _ => ts.length - m1 vi) ?_ ?_
  · simp (disch := omega) only [dm_t, wS, simprocAttr, IntKind.bits]
    exact ⟨0, rfl, by omega, e0, q0⟩
  rintro _ G ⟨i, rfl, hi, e, q⟩
  by_cases hil : i < ts.length
  · simp (disch := omega) only [dm_t, wS, simprocAttr, IntKind.bits]
    refine (hs.ext e).at (by rfl) i rfl hil ?_
    intro pb po' cs k1 k2 k3
    simp (disch := omega) only [dm_t, wS, simprocAttr, IntKind.bits, k1]
    intro b hb
    simp (disch := omega) only [dm_t, wS, simprocAttr, IntKind.bits]
    refine stn_new k3.len (by rfl) k3.cells ?_
    generalize hG : hupd G b _ = G1
    obtain ⟨e', qb⟩ := new_ext hG hb
    clear hG
    obtain ⟨_, _, rfl, _⟩ := rep_op.1 k3
    have hcw := cw_pos ts[i]
    have hsp : ((ts.take (i + 1)).map cw).sum = ((ts.take i).map cw).sum + cw ts[i] := by rw [List.take_succ_eq_append_getElem hil, List.map_append, List.sum_append, List.map_cons, List.map_nil, List.sum_cons, List.sum_nil, Nat.add_zero]
    have hle := sum_take ts (i + 1)
    have qn := e'.at q
    have hbn : b ≠ pn := fun h => by rw [h] at hb; rw [hb] at q; cases q
    simp (disch := omega) only [dm_t, wS, simprocAttr, IntKind.bits, cellAt_of qn, storeH_0 qn]
    generalize hG : hupd G1 pn _ = G2
    have q2 : G2 pn = some (.cells #[.int .i64 ((((ts.take i).map cw).sum : Nat) + 1)] 3) := by rw [← hG, hupd_same]
    have f2 : Fr (fun y => y = pn) G1 G2 := hG ▸ Fr.upd (S := fun y => y = pn) rfl _
    have E2 : Ext h G2 := Ext.step' (e.trans e') f2 fun y hy => by rw [hy]; exact hpn
    have qb2 := f2 _ _ qb hbn
    clear hG
    have x10 : cellAt G2 ⟨b, 10, none⟩ = some (.int .i64 (oe ts[i])) := by rw [cellAt_of qb2]; rfl
    by_cases hoe : oe ts[i] = -1
    · have hcw1 : cw ts[i] = 1 := if_pos hoe
      simp (disch := omega) only [dm_t, wS, simprocAttr, IntKind.bits, x10]
      exact ⟨⟨i + 1, by simp, by omega, E2, by rw [hsp, hcw1]; exact q2⟩, by simp [m1]; omega⟩
    · have hcw1 : cw ts[i] = 2 := if_neg hoe
      simp (disch := omega) only [dm_t, wS, simprocAttr, IntKind.bits, x10, cellAt_of q2, storeH_0 q2]
      generalize hG : hupd G2 pn _ = G3
      have q3 : G3 pn = some (.cells #[.int .i64 ((((ts.take i).map cw).sum : Nat) + 1 + 1)] 3) := by rw [← hG, hupd_same]
      have f3 : Fr (fun y => y = pn) G2 G3 := hG ▸ Fr.upd (S := fun y => y = pn) rfl _
      have E3 : Ext h G3 := Ext.step' E2 f3 fun y hy => by rw [hy]; exact hpn
      clear hG
      exact ⟨⟨i + 1, by simp, by omega, E3, by rw [hsp, hcw1]; exact q3⟩, by simp [m1]; omega⟩
  · obtain rfl : i = ts.length := by omega
    rw [List.take_length] at q
    have k := hk G pn e hpn q
    simp (disch := omega) only [dm_t, wS, simprocAttr, IntKind.bits, k]
end Go.Proofs.Ytmolhemoiplpfaa.hi
