/-
  model: ModelPlay; bytes written, four models beside them.
-/
import Derived.Test.YtpgkkpjdajkobaaPb
namespace Go.Proofs.Ytpgkkpjdajkobaa.mo
open Go.Proofs.Ytpgkkpjdajkobaa rr
set_option linter.unusedVariables false
set_option linter.unusedSimpArgs false
/-- A byte written somewhere: a byte slice stays one. -/
theorem poke {O : Nat → Prop} {h : H} {E E' : TypeId} {v : Value} {l : List UInt8} (s : OwB O h E v l) {b o : Nat} {c : Array Value} {fr : Nat × Nat} (hb : h b = some (.cells c E' fr)) (x : UInt8) :
    ∃ l', l'.length = l.length ∧ OwB O (hupd h b (.cells (c.setIfInBounds o (bv x)) E' fr)) E v l' := by
  obtain ⟨hr, ⟨h1, h2⟩ | ⟨b0, o0, cp, c0, fr0, h1, h2, h3, h4, h5, h6, h7⟩⟩ := s
  · exact ⟨l, rfl, hr, .inl ⟨h1, h2⟩⟩
  · rw [one_len, bvs_len] at h1 h4
    by_cases hbb : b0 = b
    · subst hbb
      rw [hb] at h2
      simp only [Option.some.injEq, Obj.cells.injEq] at h2
      obtain ⟨rfl, rfl, rfl⟩ := h2
      obtain ⟨l', hl'⟩ : ∃ l', l' = if o0 ≤ o ∧ o < o0 + l.length then l.set (o - o0) x else l := ⟨_, rfl⟩
      have hlen : l'.length = l.length := by rw [hl']; split <;> simp
      refine ⟨l', hlen, rect_one _, .inr ⟨b0, o0, cp, c.setIfInBounds o (bv x), fr, by rw [h1, one_len, bvs_len, hlen], hupd_same _ _ _, by simpa using h3, by rw [one_len, bvs_len, hlen]; exact h4, ?_, h6, by simpa using h7⟩⟩
      · rw [flat_one] at h5 ⊢
        intro m hm
        have hml : m < l.length := by rw [bvs_len, hlen] at hm; exact hm
        have h8 := h5 m (by rw [bvs_len]; exact hml)
        rw [Array.getElem?_setIfInBounds]
        have hsz := (Array.getElem?_eq_some_iff.1 h8).1
        by_cases ho : o = o0 + m
        · subst ho
          rw [if_pos rfl, if_pos hsz]
          subst hl'
          simp [bvs, hml]
        · rw [if_neg ho, h8]
          congr 1
          subst hl'
          simp only [bvs, List.getElem_map]
          congr 1
          split
          · rw [List.getElem_set_ne (by omega)]
          · rfl
    · refine ⟨l, rfl, hr, .inr ⟨b0, o0, cp, c0, fr0, by rw [h1, one_len, bvs_len], by rw [hupd_ne _ _ hbb]; exact h2, h3, by rw [one_len, bvs_len]; exact h4, h5, h6, h7⟩⟩
theorem WRow.poke {O : Nat → Prop} {h : H} {U E' : TypeId} {r : List Value} (w : WRow U O h r) {b o : Nat} {c : Array Value} {fr : Nat × Nat} (hb : h b = some (.cells c E' fr)) (x : UInt8) : WRow U O (hupd h b (.cells (c.setIfInBounds o (bv x)) E' fr)) r := by
  obtain ⟨t, k, v, lk, lv, rfl, h1, h2, hlb1, hlb2⟩ := w
  obtain ⟨lk', e3, h3⟩ := mo.poke h1 (o := o) hb x
  obtain ⟨lv', e4, h4⟩ := mo.poke h2 (o := o) hb x
  exact ⟨t, k, v, lk', lv', rfl, h3, h4, by omega, by omega⟩
/-- A byte of an own slice: where it stands, and that it may be written. -/
theorem byte_at {O : Nat → Prop} {h : H} {E : TypeId} {v : Value} {l : List UInt8} (s : OwB O h E v l) {i : Nat} (hi : i < l.length) (kk : IntKind) : ∃ b o c fr, idxV1 1 v (.int kk (i : Int)) = some (.pointer (some ⟨b, o, none⟩)) ∧ cellAt h ⟨b, o, none⟩ = some (.int .u8 (l[i].toNat : Int)) ∧ O b ∧ h b = some (.cells c E fr) ∧
    ∀ (x : UInt8) (n : Int) (K : H → Prop), n = (x.toNat : Int) → K (hupd h b (.cells (c.setIfInBounds o (bv x)) E fr)) → storeH h ⟨b, o, none⟩ [.int .u8 n] K := by
  obtain ⟨hr, ⟨rfl, h2⟩ | ⟨b0, o0, cp, c0, fr0, rfl, h2, h3, h4, h5, h6, h7⟩⟩ := s
  · have := congrArg List.length h2
    rw [one_len, bvs_len] at this
    simp at this; subst this; simp at hi
  · have hsl : By nos h (.slice (some ⟨b0, o0, none⟩) (one (bvs l)).length cp) l := ⟨hr, .inr ⟨b0, o0, cp, c0, E, fr0, rfl, h2, h3, h4, h5, id⟩⟩
    obtain ⟨b1, o1, g1, g2⟩ := By.load hsl hi kk
    have hll : (one (bvs l)).length = l.length := by rw [one_len, bvs_len]
    have h9 : idxV1 1 (.slice (some ⟨b0, o0, none⟩) (one (bvs l)).length cp) (.int kk (i : Int)) = some (.pointer (some ⟨b0, o0 + i, none⟩)) := by
      rw [idx_s, chk_pos (by rw [hll]; omega)]
      simp
    rw [h9] at g1
    simp only [Option.some.injEq, Value.pointer.injEq, Addr.mk.injEq, and_true] at g1
    obtain ⟨rfl, rfl⟩ := g1
    refine ⟨b0, o0 + i, c0, fr0, h9, g2, h6, h2, ?_⟩
    rintro x n K rfl hK
    refine storeH_in h2 (by simp; omega) (by simp; omega) rfl ?_
    exact hK
/-- Records whose memory may be written. -/
def WL (O : Nat → Prop) (h : H) (v : Value) (n : Nat) : Prop := ∃ rows, OwK 3 O h 55 v rows ∧ rows.length = n ∧ ∀ r ∈ rows, WRow 5 O h r
theorem wl_poke {O : Nat → Prop} {h : H} {s : Value} {rows : List (List Value)} (ow : OwK 3 O h 55 s rows) (hr : ∀ r ∈ rows, WRow 5 O h r) {b : Nat} {c : Array Value} {fr : Nat × Nat} (hb : h b = some (.cells c 5 fr)) (x : UInt8) (o : Nat) :
    OwK 3 O (hupd h b (.cells (c.setIfInBounds o (bv x)) 5 fr)) 55 s rows ∧ ∀ r ∈ rows, WRow 5 O (hupd h b (.cells (c.setIfInBounds o (bv x)) 5 fr)) r := by
  refine ⟨ow.fr (Fr.upd (S := fun y => y = b) rfl _) ?_, fun r hr' => WRow.poke (hr r hr') hb x⟩
  rintro y rfl _ hy
  obtain ⟨c', fr', h2⟩ := ow.ty hy
  rw [hb] at h2
  simp at h2
theorem wrap8 (z : Int) : ∃ x : UInt8, IntKind.u8.wrap z = (x.toNat : Int) := by
  refine ⟨UInt8.ofNat (z % 256).toNat, ?_⟩
  have e : IntKind.u8.wrap z = z % 256 := by simp [IntKind.wrap, IntKind.bits, IntKind.signed]
  rw [e]
  simp only [UInt8.toNat_ofNat']
  omega

section
variable {A A' B : Nat → Prop} {h g g' : H} {L : List Nat} {p q rp wp : Nat} {pv qv rv wv : Value} {vs ws rs zs : List Value} {ps ps' qs : List (List rc.D)}
/-- Four models, other blocks beside them; the document's may be behind. -/
structure PT (A : Nat → Prop) (h g : H) (p q rp wp : Nat) (pv qv rv wv : Value) (vs ws rs zs : List Value) (ps ps' qs : List (List rc.D)) : Prop where
  X : MX (fun y => MF q qv ws y ∨ A y) h g p pv vs ps
  Y : MX (fun y => MF p pv vs y ∨ A y) h g q qv ws qs
  E : Ext h g
  T : ∀ y, A y → g y ≠ none ∧ h y = none
  R : RY (fun y => MF p pv vs y ∨ MF q qv ws y ∨ A y) g rp rv rs ps'
  W : RY (fun y => MF p pv vs y ∨ MF q qv ws y ∨ A y) g wp wv zs qs
  mr : A rp
  mw : A wp
  ne : rp ≠ wp
theorem PX.pt (P : PX L h g p q rp wp pv qv rv wv vs ws rs zs ps qs) : PT (fun y => y ∈ L) h g p q rp wp pv qv rv wv vs ws rs zs ps ps qs :=
  ⟨P.Z.X, P.Z.Y, P.Z.E, P.Z.T, P.R, P.W, P.mr, P.mw, P.ne⟩
theorem PT.px (P : PT A h g p q rp wp pv qv rv wv vs ws rs zs ps ps qs) (hL : ∀ y ∈ L, A y) (mr : rp ∈ L) (mw : wp ∈ L) : PX L h g p q rp wp pv qv rv wv vs ws rs zs ps qs :=
  ⟨⟨P.X.avoid fun y hy => .inl (hy.imp id (hL y)), P.Y.avoid fun y hy => .inl (hy.imp id (hL y)), P.E, fun y hy => P.T y (hL y hy)⟩, P.R.mono fun y _ _ hy => hy.imp id fun h => h.imp id (hL y), P.W.mono fun y _ _ hy => hy.imp id fun h => h.imp id (hL y), mr, mw, P.ne⟩
theorem PT.ext (P : PT A h g p q rp wp pv qv rv wv vs ws rs zs ps ps' qs) (e : Ext g g') : PT A h g' p q rp wp pv qv rv wv vs ws rs zs ps ps' qs :=
  ⟨P.X.ext e, P.Y.ext e, P.E.trans e, fun y hy => ⟨fun hn => (P.T y hy).1 (e.bk hn), (P.T y hy).2⟩, P.R.ext e, P.W.ext e, P.mr, P.mw, P.ne⟩
/-- New blocks stand beside them. -/
theorem PT.grow (P : PT A h g p q rp wp pv qv rv wv vs ws rs zs ps ps' qs) (e : Ext g g') (hA : ∀ y, A' y → A y ∨ (g y = none ∧ g' y ≠ none)) (mr : A' rp) (mw : A' wp) : PT A' h g' p q rp wp pv qv rv wv vs ws rs zs ps ps' qs := by
  have hA2 : ∀ y, A' y → A y ∨ g y = none := fun y hy => (hA y hy).imp id fun h => h.1
  refine ⟨(P.X.avoid fun y hy => ?_).ext e, (P.Y.avoid fun y hy => ?_).ext e, P.E.trans e, fun y hy => ?_, (P.R.avoid fun y hy => ?_).ext e, (P.W.avoid fun y hy => ?_).ext e, mr, mw, P.ne⟩
  · exact hy.elim (fun h => .inl (.inl h)) fun h => (hA2 y h).imp .inr id
  · exact hy.elim (fun h => .inl (.inl h)) fun h => (hA2 y h).imp .inr id
  · exact (hA y hy).elim (fun h => ⟨fun hn => (P.T y h).1 (e.bk hn), (P.T y h).2⟩) fun h => ⟨h.2, P.E.bk h.1⟩
  · exact hy.elim (fun h => .inl (.inl h)) fun h => h.elim (fun h => .inl (.inr (.inl h))) fun h => (hA2 y h).imp (fun h => .inr (.inr h)) id
  · exact hy.elim (fun h => .inl (.inl h)) fun h => h.elim (fun h => .inl (.inr (.inl h))) fun h => (hA2 y h).imp (fun h => .inr (.inr h)) id
theorem PT.there (P : PT A h g p q rp wp pv qv rv wv vs ws rs zs ps ps' qs) {y : Nat} (hy : MF p pv vs y ∨ MF q qv ws y ∨ A y) : g y ≠ none := hy.elim P.X.there fun h => h.elim P.Y.there fun h => (P.T y h).1
/-- Some of them are written. -/
theorem PT.write (P : PT A h g p q rp wp pv qv rv wv vs ws rs zs ps ps' qs) (f : Fr B g g') (hB : ∀ y, B y → A y) (hA : ∀ y, A' y → A y ∧ (B y → g' y ≠ none)) (mr : A' rp) (mw : A' wp) (nr : ¬ B rp) (nw : ¬ B wp) : PT A' h g' p q rp wp pv qv rv wv vs ws rs zs ps ps' qs := by
  have hA1 : ∀ y, A' y → A y := fun y hy => (hA y hy).1
  refine ⟨(P.X.fr f fun y hy => .inr (hB y hy)).avoid fun y hy => .inl (hy.imp id (hA1 y)), (P.Y.fr f fun y hy => .inr (hB y hy)).avoid fun y hy => .inl (hy.imp id (hA1 y)), Ext.step' P.E f fun y hy => (P.T y (hB y hy)).2, fun y hy => ⟨?_, (P.T y (hA1 y hy)).2⟩, (P.R.fr f (fun y hy => .inr (.inr (hB y hy))) nr).mono fun y _ _ hy => hy.imp id fun h => h.imp id (hA1 y), (P.W.fr f (fun y hy => .inr (.inr (hB y hy))) nw).mono fun y _ _ hy => hy.imp id fun h => h.imp id (hA1 y), mr, mw, P.ne⟩
  by_cases hb : B y
  · exact (hA y hy).2 hb
  · cases hc : g y with
    | none => exact absurd hc (P.T y (hA1 y hy)).1
    | some o => rw [f y o hc hb]; simp
theorem PT.keep (P : PT A h g p q rp wp pv qv rv wv vs ws rs zs ps ps' qs) {y : Nat} (hy : A y) : ¬ MF p pv vs y := fun h => (P.X.own h).2 (.inr hy)
/-- The program's model steps. -/
theorem PT.mstep {vs' : List Value} {ps2 : List (List rc.D)} (P : PT A h g p q rp wp pv qv rv wv vs ws rs zs ps ps' qs) (X' : MX (fun y => MF q qv ws y ∨ A y) h g' p pv vs' ps2) (hM : ∀ y, MF p pv vs' y → MF p pv vs y ∨ g y = none) (f : Fr (MF p pv vs) g g') : PT A h g' p q rp wp pv qv rv wv vs' ws rs zs ps2 ps' qs := by
  have Y1 : MX (fun y => MF p pv vs y ∨ MF p pv vs' y ∨ A y) h g q qv ws qs := P.Y.avoid fun y hy => by
    rcases hy with h | h | h
    · exact .inl (.inl h)
    · exact (hM y h).elim (fun h => .inl (.inl h)) .inr
    · exact .inl (.inr h)
  have Y2 := Y1.fr f fun y hy => .inl hy
  have ry : ∀ {r' : Nat} {rv' : Value} {rs' : List Value} {ls : List (List rc.D)}, A r' → RY (fun y => MF p pv vs y ∨ MF q qv ws y ∨ A y) g r' rv' rs' ls → RY (fun y => MF p pv vs' y ∨ MF q qv ws y ∨ A y) g' r' rv' rs' ls := by
    intro r' rv' rs' ls hr R
    have R1 : RY (fun y => (MF p pv vs y ∨ MF q qv ws y ∨ A y) ∨ g y = none) g r' rv' rs' ls := R.avoid fun y h => h
    refine (R1.fr f (fun y hy => .inl (.inl hy)) (P.keep hr)).mono fun y _ _ h => ?_
    rcases h with h | h
    · exact (hM y h).imp (fun h => .inl h) id
    · exact .inl (.inr h)
  refine ⟨X', Y2.avoid fun y hy => .inl (.inr hy), Ext.step' P.E f fun y hy => (P.X.own hy).1, fun y hy => ⟨?_, (P.T y hy).2⟩, ry P.mr P.R, ry P.mw P.W, P.mr, P.mw, P.ne⟩
  cases hc : g y with
  | none => exact absurd hc (P.T y hy).1
  | some o => rw [f y o hc (P.keep hy)]; simp
/-- The document's. -/
theorem PT.rstep {rv' : Value} {rs' : List Value} {ps2 : List (List rc.D)} (P : PT A h g p q rp wp pv qv rv wv vs ws rs zs ps ps' qs) (R' : RY (fun y => MF p pv vs y ∨ MF q qv ws y ∨ A y) g' rp rv' rs' ps2) (f : Fr (fun y => y = rp) g g') : PT A h g' p q rp wp pv qv rv' wv vs ws rs' zs ps ps2 qs := by
  refine ⟨P.X.fr f fun y hy => .inr (hy ▸ P.mr), P.Y.fr f fun y hy => .inr (hy ▸ P.mr), Ext.step' P.E f fun y hy => hy ▸ (P.T rp P.mr).2, fun y hy => ⟨?_, (P.T y hy).2⟩, R', P.W.fr f (fun y hy => .inr (.inr (hy ▸ P.mr))) fun h => P.ne h.symm, P.mr, P.mw, P.ne⟩
  by_cases hb : y = rp
  · rw [hb, R'.obj]; simp
  · cases hc : g y with
    | none => exact absurd hc (P.T y hy).1
    | some o => rw [f y o hc hb]; simp
end
end Go.Proofs.Ytpgkkpjdajkobaa.mo
namespace Go.Proofs.Ytpgkkpjdajkobaa.mo
open Go.Proofs.Ytpgkkpjdajkobaa rr
set_option linter.unusedVariables false
set_option linter.unusedSimpArgs false
section
variable {g : H} {T : Nat → Prop} {z0 z1 z5 z7 z8 z9 z10 z11 z12 z14 : Value}
theorem pk1 {Q : Post} {cb n cap : Nat} {va : Option Addr} {x : callT.D} (qc : g cb = some (.cells (cCs x (.slice va n cap)).toArray 26)) (hcb : ¬ T cb) (hw : WL T g (.slice va n cap) n) (hn : n ≤ 1000000)
    (hQ : ∀ G, Fr T g G → vc Try.prog c5_s23 Q [(0, z0), (1, z1), (5, z5), (7, z7), (8, z8), (9, z9), (10, z10), (11, z11), (12, z12), (14, z14)] G) : vc Try.prog c5_s16 Q [(0, z0), (1, z1), (5, z5), (7, z7), (8, z8), (9, z9), (10, z10), (11, z11), (12, z12), (13, .pointer (some ⟨cb, 0, none⟩)), (14, z14)] g := by
  have xc : ∀ {h' : H}, Fr T g h' → cellAt h' ⟨cb, 2, none⟩ = some (.slice va n cap) := fun f => by rw [cellAt_of (f _ _ qc hcb)]; rfl
  simp (disch := omega) only [dm_t, wA, wB, wL, wW, wY, Int.fdiv_eq_ediv_of_nonneg, Int.tdiv_eq_ediv_of_nonneg, Int.tmod_eq_emod_of_nonneg, chk_pos, decT, decF, br_pos, br_neg, wX, ↓reduceIte, Nat.reduceEqDiff, Nat.reduceAdd, Nat.reduceSub, Nat.reduceMul, Nat.reduceLeDiff, Nat.reduceLT, Nat.reduceMod, Nat.reduceDiv, Int.reduceToNat, Nat.min_eq_left, IntKind.bits, Int.reducePow, Int.reduceLT, Int.reduceLE, Int.reduceEq, Int.reduceNe, Int.reduceAdd, Int.reduceSub, and_self, reduceCtorEq, decide_eq_true_eq, decide_eq_false_iff_not, eq_self, implies_true, exists_const, Option.isNone_some, Option.isNone_none, Option.isSome_some, Option.isSome_none, Option.getD_some]
  refine vc_loop1 (fun vi h' => ∃ i : Nat, vi = .int .i64 (i : Int) ∧ i ≤ n ∧ WL T h' (.slice va n cap) n ∧ Fr T g h') (fun vi _ => n - m1 vi) ?_ ?_
  · simp (disch := omega) only [dm_t, wA, wB, wL, wW, wY, Int.fdiv_eq_ediv_of_nonneg, Int.tdiv_eq_ediv_of_nonneg, Int.tmod_eq_emod_of_nonneg, chk_pos, decT, decF, br_pos, br_neg, wX, ↓reduceIte, Nat.reduceEqDiff, Nat.reduceAdd, Nat.reduceSub, Nat.reduceMul, Nat.reduceLeDiff, Nat.reduceLT, Nat.reduceMod, Nat.reduceDiv, Int.reduceToNat, Nat.min_eq_left, IntKind.bits, Int.reducePow, Int.reduceLT, Int.reduceLE, Int.reduceEq, Int.reduceNe, Int.reduceAdd, Int.reduceSub, and_self, reduceCtorEq, decide_eq_true_eq, decide_eq_false_iff_not, eq_self, implies_true, exists_const, Option.isNone_some, Option.isNone_none, Option.isSome_some, Option.isSome_none, Option.getD_some]
    exact ⟨0, rfl, by omega, hw, Fr.refl _ _⟩
  rintro _ h1 ⟨i, rfl, hi, hw1, f1⟩
  have x1 := xc f1
  by_cases hil : i < n
  · obtain ⟨rows, ow, hrn, hwr⟩ := hw1
    have hir : i < rows.length := by omega
    obtain ⟨t, kv, vv, lk, lv, hrow, hk0, hv0, hlk, hlv⟩ := hwr rows[i] (List.getElem_mem hir)
    obtain ⟨ka, kc, rfl⟩ := By.len hk0.s0
    have hread : ∀ g, OwK 3 T g 55 (.slice va n cap) rows → ∃ b o, idxV1 3 (.slice va n cap) (.int .i64 (i : Int)) = some (.pointer (some ⟨b, o, none⟩)) ∧ cellAt g ⟨b, o + 1, none⟩ = some (.slice ka lk.length kc) := by
      intro g og
      obtain ⟨b, o, q1, q2, q3, q4⟩ := og.s0.row hir .i64
      have e2 := q3 1 (by omega)
      rw [hrow] at e2
      exact ⟨b, o, q1, e2⟩
    simp (disch := omega) only [dm_t, wA, wB, wL, wW, wY, Int.fdiv_eq_ediv_of_nonneg, Int.tdiv_eq_ediv_of_nonneg, Int.tmod_eq_emod_of_nonneg, chk_pos, decT, decF, br_pos, br_neg, wX, ↓reduceIte, Nat.reduceEqDiff, Nat.reduceAdd, Nat.reduceSub, Nat.reduceMul, Nat.reduceLeDiff, Nat.reduceLT, Nat.reduceMod, Nat.reduceDiv, Int.reduceToNat, Nat.min_eq_left, IntKind.bits, Int.reducePow, Int.reduceLT, Int.reduceLE, Int.reduceEq, Int.reduceNe, Int.reduceAdd, Int.reduceSub, and_self, reduceCtorEq, decide_eq_true_eq, decide_eq_false_iff_not, eq_self, implies_true, exists_const, Option.isNone_some, Option.isNone_none, Option.isSome_some, Option.isSome_none, Option.getD_some, x1]
    refine vc_loop1 (fun vk h' => ∃ k : Nat, vk = .int .i64 (k : Int) ∧ k ≤ lk.length ∧ OwK 3 T h' 55 (.slice va n cap) rows ∧ (∀ r ∈ rows, WRow 5 T h' r) ∧ Fr T g h') (fun vk _ => lk.length - m1 vk) ?_ ?_
    · simp (disch := omega) only [dm_t, wA, wB, wL, wW, wY, Int.fdiv_eq_ediv_of_nonneg, Int.tdiv_eq_ediv_of_nonneg, Int.tmod_eq_emod_of_nonneg, chk_pos, decT, decF, br_pos, br_neg, wX, ↓reduceIte, Nat.reduceEqDiff, Nat.reduceAdd, Nat.reduceSub, Nat.reduceMul, Nat.reduceLeDiff, Nat.reduceLT, Nat.reduceMod, Nat.reduceDiv, Int.reduceToNat, Nat.min_eq_left, IntKind.bits, Int.reducePow, Int.reduceLT, Int.reduceLE, Int.reduceEq, Int.reduceNe, Int.reduceAdd, Int.reduceSub, and_self, reduceCtorEq, decide_eq_true_eq, decide_eq_false_iff_not, eq_self, implies_true, exists_const, Option.isNone_some, Option.isNone_none, Option.isSome_some, Option.isSome_none, Option.getD_some]
      exact ⟨0, rfl, by omega, ow, hwr, f1⟩
    rintro _ h2 ⟨k, rfl, hkl, ow2, hwr2, f2⟩
    obtain ⟨pb, po, gi, g2⟩ := hread h2 ow2
    have x2 := xc f2
    by_cases hkk : k < lk.length
    · obtain ⟨t', kv', vv', lk', lv', hrow', hk2, hv2, hlb⟩ := hwr2 rows[i] (List.getElem_mem hir)
      rw [hrow] at hrow'
      simp only [List.cons.injEq, Value.int.injEq, true_and, and_true] at hrow'
      obtain ⟨rfl, rfl, rfl⟩ := hrow'
      have hll := (SlK.cap hk2.s0).1
      rw [one_len, bvs_len] at hll
      obtain ⟨b, o, c, fr, p1, p2, p3, p4, p5⟩ := byte_at hk2 (i := k) (by omega) .i64
      simp (disch := omega) only [dm_t, wA, wB, wL, wW, wY, Int.fdiv_eq_ediv_of_nonneg, Int.tdiv_eq_ediv_of_nonneg, Int.tmod_eq_emod_of_nonneg, chk_pos, decT, decF, br_pos, br_neg, wX, ↓reduceIte, Nat.reduceEqDiff, Nat.reduceAdd, Nat.reduceSub, Nat.reduceMul, Nat.reduceLeDiff, Nat.reduceLT, Nat.reduceMod, Nat.reduceDiv, Int.reduceToNat, Nat.min_eq_left, IntKind.bits, Int.reducePow, Int.reduceLT, Int.reduceLE, Int.reduceEq, Int.reduceNe, Int.reduceAdd, Int.reduceSub, and_self, reduceCtorEq, decide_eq_true_eq, decide_eq_false_iff_not, eq_self, implies_true, exists_const, Option.isNone_some, Option.isNone_none, Option.isSome_some, Option.isSome_none, Option.getD_some, x2, gi, g2, p1, p2]
      obtain ⟨x, hx⟩ := wrap8 ((lk'[k].toNat : Int) + 1)
      refine p5 x _ _ hx ?_
      simp (disch := omega) only [dm_t, wA, wB, wL, wW, wY, Int.fdiv_eq_ediv_of_nonneg, Int.tdiv_eq_ediv_of_nonneg, Int.tmod_eq_emod_of_nonneg, chk_pos, decT, decF, br_pos, br_neg, wX, ↓reduceIte, Nat.reduceEqDiff, Nat.reduceAdd, Nat.reduceSub, Nat.reduceMul, Nat.reduceLeDiff, Nat.reduceLT, Nat.reduceMod, Nat.reduceDiv, Int.reduceToNat, Nat.min_eq_left, IntKind.bits, Int.reducePow, Int.reduceLT, Int.reduceLE, Int.reduceEq, Int.reduceNe, Int.reduceAdd, Int.reduceSub, and_self, reduceCtorEq, decide_eq_true_eq, decide_eq_false_iff_not, eq_self, implies_true, exists_const, Option.isNone_some, Option.isNone_none, Option.isSome_some, Option.isSome_none, Option.getD_some]
      obtain ⟨w1, w2⟩ := wl_poke ow2 hwr2 p4 x o
      exact ⟨⟨k + 1, by simp, by omega, w1, w2, f2.trans (Fr.upd p3 _)⟩, by simp [m1]; omega⟩
    · simp (disch := omega) only [dm_t, wA, wB, wL, wW, wY, Int.fdiv_eq_ediv_of_nonneg, Int.tdiv_eq_ediv_of_nonneg, Int.tmod_eq_emod_of_nonneg, chk_pos, decT, decF, br_pos, br_neg, wX, ↓reduceIte, Nat.reduceEqDiff, Nat.reduceAdd, Nat.reduceSub, Nat.reduceMul, Nat.reduceLeDiff, Nat.reduceLT, Nat.reduceMod, Nat.reduceDiv, Int.reduceToNat, Nat.min_eq_left, IntKind.bits, Int.reducePow, Int.reduceLT, Int.reduceLE, Int.reduceEq, Int.reduceNe, Int.reduceAdd, Int.reduceSub, and_self, reduceCtorEq, decide_eq_true_eq, decide_eq_false_iff_not, eq_self, implies_true, exists_const, Option.isNone_some, Option.isNone_none, Option.isSome_some, Option.isSome_none, Option.getD_some, x2, gi, g2]
      exact ⟨⟨i + 1, by simp, by omega, ⟨_, ow2, hrn, hwr2⟩, f2⟩, by simp [m1]; omega⟩
  · have k9 := hQ h1 f1
    simp (disch := omega) only [dm_t, wA, wB, wL, wW, wY, Int.fdiv_eq_ediv_of_nonneg, Int.tdiv_eq_ediv_of_nonneg, Int.tmod_eq_emod_of_nonneg, chk_pos, decT, decF, br_pos, br_neg, wX, ↓reduceIte, Nat.reduceEqDiff, Nat.reduceAdd, Nat.reduceSub, Nat.reduceMul, Nat.reduceLeDiff, Nat.reduceLT, Nat.reduceMod, Nat.reduceDiv, Int.reduceToNat, Nat.min_eq_left, IntKind.bits, Int.reducePow, Int.reduceLT, Int.reduceLE, Int.reduceEq, Int.reduceNe, Int.reduceAdd, Int.reduceSub, and_self, reduceCtorEq, decide_eq_true_eq, decide_eq_false_iff_not, eq_self, implies_true, exists_const, Option.isNone_some, Option.isNone_none, Option.isSome_some, Option.isSome_none, Option.getD_some, x1, k9]
theorem pk2 {Q : Post} {cb n cap : Nat} {va : Option Addr} {x : replyT.D} (qc : g cb = some (.cells (yCs x (.slice va n cap)).toArray 36)) (hcb : ¬ T cb) (hw : WL T g (.slice va n cap) n) (hn : n ≤ 1000000)
    (hQ : ∀ G, Fr T g G → ∀ w u, Q .normal ([(0, z0), (1, z1), (5, z5), (7, z7), (8, z8), (9, z9), (10, z10), (11, z11), (12, z12), (14, .pointer (some ⟨cb, 0, none⟩)), (18, w), (163, u)]) G) : vc Try.prog c5_s23 Q [(0, z0), (1, z1), (5, z5), (7, z7), (8, z8), (9, z9), (10, z10), (11, z11), (12, z12), (14, .pointer (some ⟨cb, 0, none⟩))] g := by
  have xc : ∀ {h' : H}, Fr T g h' → cellAt h' ⟨cb, 2, none⟩ = some (.slice va n cap) := fun f => by rw [cellAt_of (f _ _ qc hcb)]; rfl
  simp (disch := omega) only [dm_t, wA, wB, wL, wW, wY, Int.fdiv_eq_ediv_of_nonneg, Int.tdiv_eq_ediv_of_nonneg, Int.tmod_eq_emod_of_nonneg, chk_pos, decT, decF, br_pos, br_neg, wX, ↓reduceIte, Nat.reduceEqDiff, Nat.reduceAdd, Nat.reduceSub, Nat.reduceMul, Nat.reduceLeDiff, Nat.reduceLT, Nat.reduceMod, Nat.reduceDiv, Int.reduceToNat, Nat.min_eq_left, IntKind.bits, Int.reducePow, Int.reduceLT, Int.reduceLE, Int.reduceEq, Int.reduceNe, Int.reduceAdd, Int.reduceSub, and_self, reduceCtorEq, decide_eq_true_eq, decide_eq_false_iff_not, eq_self, implies_true, exists_const, Option.isNone_some, Option.isNone_none, Option.isSome_some, Option.isSome_none, Option.getD_some]
  refine vc_loop1 (fun vi h' => ∃ i : Nat, vi = .int .i64 (i : Int) ∧ i ≤ n ∧ WL T h' (.slice va n cap) n ∧ Fr T g h') (fun vi _ => n - m1 vi) ?_ ?_
  · simp (disch := omega) only [dm_t, wA, wB, wL, wW, wY, Int.fdiv_eq_ediv_of_nonneg, Int.tdiv_eq_ediv_of_nonneg, Int.tmod_eq_emod_of_nonneg, chk_pos, decT, decF, br_pos, br_neg, wX, ↓reduceIte, Nat.reduceEqDiff, Nat.reduceAdd, Nat.reduceSub, Nat.reduceMul, Nat.reduceLeDiff, Nat.reduceLT, Nat.reduceMod, Nat.reduceDiv, Int.reduceToNat, Nat.min_eq_left, IntKind.bits, Int.reducePow, Int.reduceLT, Int.reduceLE, Int.reduceEq, Int.reduceNe, Int.reduceAdd, Int.reduceSub, and_self, reduceCtorEq, decide_eq_true_eq, decide_eq_false_iff_not, eq_self, implies_true, exists_const, Option.isNone_some, Option.isNone_none, Option.isSome_some, Option.isSome_none, Option.getD_some]
    exact ⟨0, rfl, by omega, hw, Fr.refl _ _⟩
  rintro _ h1 ⟨i, rfl, hi, hw1, f1⟩
  have x1 := xc f1
  by_cases hil : i < n
  · obtain ⟨rows, ow, hrn, hwr⟩ := hw1
    have hir : i < rows.length := by omega
    obtain ⟨t, kv, vv, lk, lv, hrow, hk0, hv0, hlk, hlv⟩ := hwr rows[i] (List.getElem_mem hir)
    obtain ⟨ka, kc, rfl⟩ := By.len hk0.s0
    have hread : ∀ g, OwK 3 T g 55 (.slice va n cap) rows → ∃ b o, idxV1 3 (.slice va n cap) (.int .i64 (i : Int)) = some (.pointer (some ⟨b, o, none⟩)) ∧ cellAt g ⟨b, o + 1, none⟩ = some (.slice ka lk.length kc) := by
      intro g og
      obtain ⟨b, o, q1, q2, q3, q4⟩ := og.s0.row hir .i64
      have e2 := q3 1 (by omega)
      rw [hrow] at e2
      exact ⟨b, o, q1, e2⟩
    simp (disch := omega) only [dm_t, wA, wB, wL, wW, wY, Int.fdiv_eq_ediv_of_nonneg, Int.tdiv_eq_ediv_of_nonneg, Int.tmod_eq_emod_of_nonneg, chk_pos, decT, decF, br_pos, br_neg, wX, ↓reduceIte, Nat.reduceEqDiff, Nat.reduceAdd, Nat.reduceSub, Nat.reduceMul, Nat.reduceLeDiff, Nat.reduceLT, Nat.reduceMod, Nat.reduceDiv, Int.reduceToNat, Nat.min_eq_left, IntKind.bits, Int.reducePow, Int.reduceLT, Int.reduceLE, Int.reduceEq, Int.reduceNe, Int.reduceAdd, Int.reduceSub, and_self, reduceCtorEq, decide_eq_true_eq, decide_eq_false_iff_not, eq_self, implies_true, exists_const, Option.isNone_some, Option.isNone_none, Option.isSome_some, Option.isSome_none, Option.getD_some, x1]
    refine vc_loop1 (fun vk h' => ∃ k : Nat, vk = .int .i64 (k : Int) ∧ k ≤ lk.length ∧ OwK 3 T h' 55 (.slice va n cap) rows ∧ (∀ r ∈ rows, WRow 5 T h' r) ∧ Fr T g h') (fun vk _ => lk.length - m1 vk) ?_ ?_
    · simp (disch := omega) only [dm_t, wA, wB, wL, wW, wY, Int.fdiv_eq_ediv_of_nonneg, Int.tdiv_eq_ediv_of_nonneg, Int.tmod_eq_emod_of_nonneg, chk_pos, decT, decF, br_pos, br_neg, wX, ↓reduceIte, Nat.reduceEqDiff, Nat.reduceAdd, Nat.reduceSub, Nat.reduceMul, Nat.reduceLeDiff, Nat.reduceLT, Nat.reduceMod, Nat.reduceDiv, Int.reduceToNat, Nat.min_eq_left, IntKind.bits, Int.reducePow, Int.reduceLT, Int.reduceLE, Int.reduceEq, Int.reduceNe, Int.reduceAdd, Int.reduceSub, and_self, reduceCtorEq, decide_eq_true_eq, decide_eq_false_iff_not, eq_self, implies_true, exists_const, Option.isNone_some, Option.isNone_none, Option.isSome_some, Option.isSome_none, Option.getD_some]
      exact ⟨0, rfl, by omega, ow, hwr, f1⟩
    rintro _ h2 ⟨k, rfl, hkl, ow2, hwr2, f2⟩
    obtain ⟨pb, po, gi, g2⟩ := hread h2 ow2
    have x2 := xc f2
    by_cases hkk : k < lk.length
    · obtain ⟨t', kv', vv', lk', lv', hrow', hk2, hv2, hlb⟩ := hwr2 rows[i] (List.getElem_mem hir)
      rw [hrow] at hrow'
      simp only [List.cons.injEq, Value.int.injEq, true_and, and_true] at hrow'
      obtain ⟨rfl, rfl, rfl⟩ := hrow'
      have hll := (SlK.cap hk2.s0).1
      rw [one_len, bvs_len] at hll
      obtain ⟨b, o, c, fr, p1, p2, p3, p4, p5⟩ := byte_at hk2 (i := k) (by omega) .i64
      simp (disch := omega) only [dm_t, wA, wB, wL, wW, wY, Int.fdiv_eq_ediv_of_nonneg, Int.tdiv_eq_ediv_of_nonneg, Int.tmod_eq_emod_of_nonneg, chk_pos, decT, decF, br_pos, br_neg, wX, ↓reduceIte, Nat.reduceEqDiff, Nat.reduceAdd, Nat.reduceSub, Nat.reduceMul, Nat.reduceLeDiff, Nat.reduceLT, Nat.reduceMod, Nat.reduceDiv, Int.reduceToNat, Nat.min_eq_left, IntKind.bits, Int.reducePow, Int.reduceLT, Int.reduceLE, Int.reduceEq, Int.reduceNe, Int.reduceAdd, Int.reduceSub, and_self, reduceCtorEq, decide_eq_true_eq, decide_eq_false_iff_not, eq_self, implies_true, exists_const, Option.isNone_some, Option.isNone_none, Option.isSome_some, Option.isSome_none, Option.getD_some, x2, gi, g2, p1, p2]
      obtain ⟨x, hx⟩ := wrap8 ((lk'[k].toNat : Int) + 1)
      refine p5 x _ _ hx ?_
      simp (disch := omega) only [dm_t, wA, wB, wL, wW, wY, Int.fdiv_eq_ediv_of_nonneg, Int.tdiv_eq_ediv_of_nonneg, Int.tmod_eq_emod_of_nonneg, chk_pos, decT, decF, br_pos, br_neg, wX, ↓reduceIte, Nat.reduceEqDiff, Nat.reduceAdd, Nat.reduceSub, Nat.reduceMul, Nat.reduceLeDiff, Nat.reduceLT, Nat.reduceMod, Nat.reduceDiv, Int.reduceToNat, Nat.min_eq_left, IntKind.bits, Int.reducePow, Int.reduceLT, Int.reduceLE, Int.reduceEq, Int.reduceNe, Int.reduceAdd, Int.reduceSub, and_self, reduceCtorEq, decide_eq_true_eq, decide_eq_false_iff_not, eq_self, implies_true, exists_const, Option.isNone_some, Option.isNone_none, Option.isSome_some, Option.isSome_none, Option.getD_some]
      obtain ⟨w1, w2⟩ := wl_poke ow2 hwr2 p4 x o
      exact ⟨⟨k + 1, by simp, by omega, w1, w2, f2.trans (Fr.upd p3 _)⟩, by simp [m1]; omega⟩
    · simp (disch := omega) only [dm_t, wA, wB, wL, wW, wY, Int.fdiv_eq_ediv_of_nonneg, Int.tdiv_eq_ediv_of_nonneg, Int.tmod_eq_emod_of_nonneg, chk_pos, decT, decF, br_pos, br_neg, wX, ↓reduceIte, Nat.reduceEqDiff, Nat.reduceAdd, Nat.reduceSub, Nat.reduceMul, Nat.reduceLeDiff, Nat.reduceLT, Nat.reduceMod, Nat.reduceDiv, Int.reduceToNat, Nat.min_eq_left, IntKind.bits, Int.reducePow, Int.reduceLT, Int.reduceLE, Int.reduceEq, Int.reduceNe, Int.reduceAdd, Int.reduceSub, and_self, reduceCtorEq, decide_eq_true_eq, decide_eq_false_iff_not, eq_self, implies_true, exists_const, Option.isNone_some, Option.isNone_none, Option.isSome_some, Option.isSome_none, Option.getD_some, x2, gi, g2]
      exact ⟨⟨i + 1, by simp, by omega, ⟨_, ow2, hrn, hwr2⟩, f2⟩, by simp [m1]; omega⟩
  · have k9 := hQ h1 f1
    simp (disch := omega) only [dm_t, wA, wB, wL, wW, wY, Int.fdiv_eq_ediv_of_nonneg, Int.tdiv_eq_ediv_of_nonneg, Int.tmod_eq_emod_of_nonneg, chk_pos, decT, decF, br_pos, br_neg, wX, ↓reduceIte, Nat.reduceEqDiff, Nat.reduceAdd, Nat.reduceSub, Nat.reduceMul, Nat.reduceLeDiff, Nat.reduceLT, Nat.reduceMod, Nat.reduceDiv, Int.reduceToNat, Nat.min_eq_left, IntKind.bits, Int.reducePow, Int.reduceLT, Int.reduceLE, Int.reduceEq, Int.reduceNe, Int.reduceAdd, Int.reduceSub, and_self, reduceCtorEq, decide_eq_true_eq, decide_eq_false_iff_not, eq_self, implies_true, exists_const, Option.isNone_some, Option.isNone_none, Option.isSome_some, Option.isSome_none, Option.getD_some, x1, k9]
end
end Go.Proofs.Ytpgkkpjdajkobaa.mo
