/-
  history: the document's Put.
-/
import Derived.Test.YtmolhemoiplpfaaHh
namespace Go.Proofs.Ytmolhemoiplpfaa.hi
open Go.Proofs.Ytmolhemoiplpfaa
set_option linter.unusedVariables false
set_option linter.unusedSimpArgs false
/-- A row of cells as a list of one. -/
theorem litRow {S : Nat → Prop} {t : Ty} {h : H} {b : Nat} {row : List Value} {x : t.D} {E : TypeId} {fr : Nat × Nat} (hb : h b = some (.cells row.toArray E fr)) (hr : Rep S t h row x) (hS : ¬ S b) : RepL S t h (.slice (some ⟨b, 0, none⟩) 1 1) [x] := by
  have hrect : Rect t.sz [row] := fun r hr' => by simp at hr'; subst hr'; exact hr.len
  refine repL_iff.2 ⟨[row], ⟨hrect, .inr ⟨b, 0, 1, _, E, fr, rfl, hb, by have := hr.len; simp; omega, by simp, ?_, hS⟩⟩, rfl, ?_⟩
  · have hf : flat [row] = row := by simp [flat]
    rw [hf]
    have := at_arr row #[]
    simpa using this
  · intro i r y hi hy
    cases i with
    | zero =>
      simp only [List.getElem?_cons_zero, Option.some.injEq] at hi hy
      subst hi hy; exact hr
    | succ i => simp at hi
abbrev DO (opn : List Bool) (ve vo : Value) : List Value := ve :: vo :: opn.map Value.bool
structure HD (g : H) (p : Nat) (ve vo : Value) (s : Hs) : Prop where
  obj : g p = some (.cells (DO s.opn ve vo).toArray 56)
  len : s.opn.length = 64
  le : s.ops.length ≤ s.evs.length
  evs : RepL (fun y => y = p) evT g ve s.evs
  ops : RepL (fun y => y = p) opT g vo s.ops
  inv : ∀ i : Nat, i < 64 → s.opn.getD i false = true → ∃ o ∈ s.ops, @Eq Int o.1 (i : Int)
theorem DO_op {opn : List Bool} {ve vo : Value} (hl : opn.length = 64) {i : Nat} (hi : i < 64) : (DO opn ve vo).toArray[2 + i]? = some (.bool (opn.getD i false)) := by
  rw [List.getElem?_toArray, Nat.add_comm, DO, List.getElem?_cons_succ, List.getElem?_cons_succ, List.getElem?_map]
  simp [hl, hi]
theorem DO_set {opn : List Bool} {ve vo : Value} {i : Nat} (b : Bool) : (DO opn ve vo).toArray.setIfInBounds (2 + i) (.bool b) = (DO (opn.set i b) ve vo).toArray := by
  rw [List.setIfInBounds_toArray, Nat.add_comm, DO, List.set_cons_succ, List.set_cons_succ, ← List.map_set]
theorem DO_size {opn : List Bool} {ve vo : Value} (hl : opn.length = 64) : (DO opn ve vo).toArray.size = 66 := by simp [hl]
section
variable {g g' : H} {p : Nat} {ve vo : Value} {s : Hs}
theorem HD.ext (X : HD g p ve vo s) (e : Ext g g') : HD g' p ve vo s := ⟨e.at X.obj, X.len, X.le, X.evs.ext e, X.ops.ext e, X.inv⟩
theorem HD.c0 (X : HD g p ve vo s) : cellAt g ⟨p, 0, none⟩ = some ve := by rw [cellAt_of X.obj]; rfl
theorem HD.c1 (X : HD g p ve vo s) : cellAt g ⟨p, 1, none⟩ = some vo := by rw [cellAt_of X.obj]; rfl
theorem HD.ci (X : HD g p ve vo s) {i : Nat} (hi : i < 64) : cellAt g ⟨p, 2 + i, none⟩ = some (.bool (s.opn.getD i false)) := by rw [cellAt_of X.obj, DO_op X.len hi]
theorem DO_store0 {opn : List Bool} {ve' : Value} {g'' : H} {K : H → Prop} (ho : g p = some (.cells (DO opn ve vo).toArray 56)) (hc : isCell ve' = true) (hG : hupd g p (.cells (DO opn ve' vo).toArray 56) = g'') : storeH g ⟨p, 0, none⟩ [ve'] K = K g'' := by
  rw [storeH_0 ho, ← hG]
  simp [hc]
theorem DO_store1 {opn : List Bool} {vo' : Value} {g'' : H} {K : H → Prop} (ho : g p = some (.cells (DO opn ve vo).toArray 56)) (hc : isCell vo' = true) (hG : hupd g p (.cells (DO opn ve vo').toArray 56) = g'') : storeH g ⟨p, 1, none⟩ [vo'] K = K g'' := by
  rw [storeH_0 ho, ← hG]
  simp [hc]
end
/-- An open client has an operation. -/
theorem inv_put {s : Hs} {x : evT.D} (h64 : s.opn.length = 64) (hT : turnE s x = 0) (inv : ∀ i : Nat, i < 64 → s.opn.getD i false = true → ∃ o ∈ s.ops, @Eq Int o.1 (i : Int)) : ∀ i : Nat, i < 64 → (putS s x).opn.getD i false = true → ∃ o ∈ (putS s x).ops, @Eq Int o.1 (i : Int) := by
  intro i hi ho
  obtain ⟨hb, ⟨c, hc, hc64, hop⟩, hlen⟩ := turn0 hT
  have hti : Int.toNat x.1 = c := by rw [hc, Int.toNat_natCast]
  have ho : (s.opn.set (Int.toNat x.1) (!x.2.1)).getD i false = true := ho
  rw [hti] at ho
  show ∃ o ∈ opsS s x, _
  unfold opsS
  by_cases hr : x.2.1 = false
  · rw [if_pos hr]
    by_cases hci : c = i
    · subst hci
      exact ⟨opN x s.evs.length, by simp, hc⟩
    · simp only [List.getD_eq_getElem?_getD, List.getElem?_set, if_neg hci] at ho
      obtain ⟨o, h1, h2⟩ := inv i hi (by rw [List.getD_eq_getElem?_getD]; exact ho)
      exact ⟨o, by simp [h1], h2⟩
  · rw [if_neg hr]
    have hci : c ≠ i := by
      intro h
      subst h
      simp only [List.getD_eq_getElem?_getD, List.getElem?_set] at ho
      simp only [if_true, if_pos (show c < s.opn.length by omega), Option.getD_some, Bool.not_eq_true'] at ho
      exact hr ho
    simp only [List.getD_eq_getElem?_getD, List.getElem?_set, if_neg hci] at ho
    obtain ⟨o, h1, h2⟩ := inv i hi (by rw [List.getD_eq_getElem?_getD]; exact ho)
    cases hl : lastIx x.1 s.ops with
    | none => exact ⟨o, h1, h2⟩
    | some m =>
      simp only []
      cases hm : s.ops[m]? with
      | none => exact ⟨o, h1, h2⟩
      | some o' =>
        simp only []
        obtain ⟨j, hj, hj2⟩ := List.getElem_of_mem h1
        by_cases hmj : m = j
        · subst hmj
          have hml := (List.getElem?_eq_some_iff.1 hm)
          obtain ⟨hml, hm2⟩ := hml
          exact ⟨clo x s.evs.length o', List.mem_of_getElem? (i := m) (by rw [List.getElem?_set, if_pos rfl, if_pos hml]), by
            show @Eq Int o'.1 _
            rw [← hm2, hj2]; exact h2⟩
        · exact ⟨o, List.mem_of_getElem? (i := j) (by rw [List.getElem?_set, if_neg hmj, List.getElem?_eq_getElem hj, hj2]), h2⟩
/-- What the document's put leaves. -/
def PutD (g : H) (p : Nat) (s : Hs) (x : evT.D) (v : Value) (h' : H) : Prop :=
  v = .int .i64 (turnE s x) ∧ (∃ ve' vo', HD h' p ve' vo' (if turnE s x = 0 then putS s x else s)) ∧ Fr (fun y => y = p) g h'
/-- A list copied. -/
theorem copyApp {t : Ty} {p k bytes : Nat} {h' G : H} {E : TypeId} {src : Value} {xs : List t.D} {z : Array Value} {V : Value → H → Prop} (hk : t.sz = k) (r : RepL (fun y => y = p) t G src xs) (hp : G p ≠ none) (hz : z.size = k) (hlen : 2 * (xs.length * bytes) ≤ 281474976710656) (hlen' : xs.length ≤ 9223372036854775807)
    (hV : ∀ w G2, OwL (fun y => y = p) t (fun y => G y = none) G2 E w xs → Ext G G2 → V w G2) : appM E k bytes z (.slice none 0 0) src G V := by
  refine OwL.app (O := fun y => G y = none) (S := fun y => y = p) (xs := []) k hk OwL.nil (fun y hy => hy) (r.mono fun y _ _ hy => hy.elim (fun h => (no_at h).elim) id) hz (by simpa using hlen) (by simpa using hlen') ?_
  intro w G2 o f _
  exact hV w G2 (by simpa using o) (Ext.step (Ext.refl G) f)
/-- .. and one more. -/
theorem oneApp {t : Ty} {p k bytes b : Nat} {h' G : H} {E : TypeId} {w : Value} {row : List Value} {xs : List t.D} {x : t.D} {z : Array Value} {V : Value → H → Prop} (hk : t.sz = k) (o : OwL (fun y => y = p) t (fun y => h' y = none) G E w xs) (e : Ext h' G) (hb : G b = some (.cells row.toArray E)) (hr : Rep (fun y => y = p) t h' row x) (hbw : ¬ isAt w b) (hbp : b ≠ p) (hz : z.size = k) (hlen : 2 * ((xs.length + 1) * bytes) ≤ 281474976710656) (hlen' : xs.length + 1 ≤ 9223372036854775807)
    (hV : ∀ w2 G2, OwL (fun y => y = p) t (fun y => h' y = none) G2 E w2 (xs ++ [x]) → Ext h' G2 → V w2 G2) : appM E k bytes z w (.slice (some ⟨b, 0, none⟩) 1 1) G V := by
  have hr2 : Rep (fun y => isAt w y ∨ y = p) t G row x := hr.move (e) (fun _ h => h.elim) fun y hy => hy.elim (fun h => .inr (o.own h)) .inl
  refine OwL.app (new := [x]) k hk o (fun y hy => e.bk hy) (litRow hb hr2 fun h => h.elim hbw hbp) hz (by simpa using hlen) (by simpa using hlen') ?_
  intro w2 G2 o2 f _
  exact hV w2 G2 o2 (Ext.step e f)
theorem putD_s11 {g h' : H} {p eb : Nat} {ve vo r q : Value} {s : Hs} {x : evT.D} {opn : List Bool}
    (hT : turnE s x = 0) (ho : h' p = some (.cells (DO opn ve vo).toArray 56)) (h64 : opn.length = 64) (hle : s.ops.length ≤ s.evs.length) (hopn : opn = s.opn.set (Int.toNat x.1) (!x.2.1)) (hlen : s.evs.length < 65536)
    (revs : RepL (fun y => y = p) evT h' ve s.evs) (rops : RepL (fun y => y = p) opT h' vo (opsS s x)) (F : Fr (fun y => y = p) g h') (hinv : ∀ i : Nat, i < 64 → (putS s x).opn.getD i false = true → ∃ o ∈ (putS s x).ops, @Eq Int o.1 (i : Int))
    (qb : h' eb = some (.cells (eCs x r q).toArray 41)) (hx : Rep (fun y => y = p) evT h' (eCs x r q) x) :
    vc Try.prog c27_s11 (retQ [4] (okR (PutD g p s x))) [(0, .pointer (some ⟨p, 0, none⟩)), (3, .pointer (some ⟨eb, 0, none⟩))] h' := by
  obtain ⟨ea, en, rfl⟩ := revs.len
  obtain ⟨oa, on, rfl⟩ := rops.len
  have hpn : h' p ≠ none := by rw [ho]; simp
  -- both appended, whatever the order
  have fin : ∀ (G : H) (w : Value), Ext h' G → OwL (fun y => y = p) evT (fun y => h' y = none) G 41 w (s.evs ++ [x]) → ∃ ve' vo', HD (hupd G p (.cells (DO opn w (.slice oa (opsS s x).length on)).toArray 56)) p ve' vo' (putS s x) := by
    intro G w e o
    have f2 : Fr (fun y => y = p) G (hupd G p (.cells (DO opn w (.slice oa (opsS s x).length on)).toArray 56)) := Fr.upd (S := fun y => y = p) rfl _
    subst hopn
    exact ⟨w, _, ⟨hupd_same _ _ _, h64, by have := opsS_le s x; simp only [putS, List.length_append, List.length_singleton]; omega, (o.repS (S := fun y => y = p) fun y hy hp => hpn (hp ▸ hy)).fr f2 (fun _ h => h), (rops.ext e).fr f2 (fun _ h => h), hinv⟩⟩
  have k := evC qb
  have p0 : ∀ G, Ext h' G → cellAt G ⟨p, 0, none⟩ = some (.slice ea s.evs.length en) := fun G e => by rw [cellAt_of (e.at ho)]; rfl
  have ka : ∀ G, Ext h' G → cellsAt G ⟨eb, 0, none⟩ 10 = some (eCs x r q).toArray := fun G e => (evC (e.at qb)).ca
  have last : ∀ (G : H) (w : Value), Ext h' G → OwL (fun y => y = p) evT (fun y => h' y = none) G 41 w (s.evs ++ [x]) → ∀ (g'' : H), hupd G p (.cells (DO opn w (.slice oa (opsS s x).length on)).toArray 56) = g'' → PutD g p s x (.int .i64 0) g'' := by
    intro G w e o g'' hg
    refine ⟨by rw [hT], ?_, (F.trans (e.mono fun _ h => h.elim)).trans (by rw [← hg]; exact Fr.upd (S := fun y => y = p) rfl _)⟩
    rw [if_pos hT, ← hg]
    exact fin G w e o
  simp (disch := omega) only [dm_t, wA, wB, wL, wW, wY, Int.fdiv_eq_ediv_of_nonneg, Int.tdiv_eq_ediv_of_nonneg, Int.tmod_eq_emod_of_nonneg, chk_pos, decT, decF, br_pos, br_neg, wX, ↓reduceIte, Nat.reduceEqDiff, Nat.reduceAdd, Nat.reduceSub, Nat.reduceMul, Nat.reduceLeDiff, Nat.reduceLT, Nat.reduceMod, Nat.reduceDiv, Int.reduceToNat, Nat.min_eq_left, IntKind.bits, Int.reducePow, Int.reduceLT, Int.reduceLE, Int.reduceEq, Int.reduceNe, Int.reduceAdd, Int.reduceSub, and_self, reduceCtorEq, decide_eq_true_eq, decide_eq_false_iff_not, eq_self, implies_true, exists_const, Option.isNone_some, Option.isNone_none, Option.isSome_some, Option.isSome_none, Option.getD_some, p0 h' (Ext.refl _), ka h' (Ext.refl _)]
  refine ⟨?_, ?_⟩
  · refine copyApp (h' := h') rfl revs hpn (by rfl) (by omega) (by omega) ?_
    intro w G o e
    obtain ⟨wa, wn, rfl⟩ := o.len
    simp (disch := omega) only [dm_t, wA, wB, wL, wW, wY, Int.fdiv_eq_ediv_of_nonneg, Int.tdiv_eq_ediv_of_nonneg, Int.tmod_eq_emod_of_nonneg, chk_pos, decT, decF, br_pos, br_neg, wX, ↓reduceIte, Nat.reduceEqDiff, Nat.reduceAdd, Nat.reduceSub, Nat.reduceMul, Nat.reduceLeDiff, Nat.reduceLT, Nat.reduceMod, Nat.reduceDiv, Int.reduceToNat, Nat.min_eq_left, IntKind.bits, Int.reducePow, Int.reduceLT, Int.reduceLE, Int.reduceEq, Int.reduceNe, Int.reduceAdd, Int.reduceSub, and_self, reduceCtorEq, decide_eq_true_eq, decide_eq_false_iff_not, eq_self, implies_true, exists_const, Option.isNone_some, Option.isNone_none, Option.isSome_some, Option.isSome_none, Option.getD_some, p0 _ e, ka _ e]
    intro b hb
    have e2 : Ext h' _ := e.trans (Ext.new hb (.cells (eCs x r q).toArray 41))
    refine ⟨p0 _ e2, ?_⟩
    refine oneApp (h' := h') (b := b) rfl (o.ext (Ext.new hb _)) e2 (hupd_same _ _ _) hx (fun h => o.there h hb) (fun h => by subst h; exact hpn (e.bk hb)) (by rfl) (by omega) (by omega) ?_
    intro w2 G2 o2 e3
    obtain ⟨wa2, wn2, rfl⟩ := o2.len
    generalize hG' : hupd G2 p (.cells (DO opn (.slice wa2 (s.evs ++ [x]).length wn2) (.slice oa (opsS s x).length on)).toArray 56) = g''
    have hst := fun K => DO_store0 (K := K) (e3.at ho) rfl hG'
    simp (disch := omega) only [dm_t, wA, wB, wL, wW, wY, Int.fdiv_eq_ediv_of_nonneg, Int.tdiv_eq_ediv_of_nonneg, Int.tmod_eq_emod_of_nonneg, chk_pos, decT, decF, br_pos, br_neg, wX, ↓reduceIte, Nat.reduceEqDiff, Nat.reduceAdd, Nat.reduceSub, Nat.reduceMul, Nat.reduceLeDiff, Nat.reduceLT, Nat.reduceMod, Nat.reduceDiv, Int.reduceToNat, Nat.min_eq_left, IntKind.bits, Int.reducePow, Int.reduceLT, Int.reduceLE, Int.reduceEq, Int.reduceNe, Int.reduceAdd, Int.reduceSub, and_self, reduceCtorEq, decide_eq_true_eq, decide_eq_false_iff_not, eq_self, implies_true, exists_const, Option.isNone_some, Option.isNone_none, Option.isSome_some, Option.isSome_none, Option.getD_some, p0 _ e3, ka _ e3, hst]
    exact last G2 _ e3 o2 g'' hG'
  · intro b hb
    have e2 : Ext h' _ := Ext.new hb (.cells (eCs x r q).toArray 41)
    refine ⟨p0 _ e2, ?_⟩
    have hbp : b ≠ p := fun h => by subst h; exact hpn hb
    generalize hG : hupd h' b _ = G at e2 ⊢
    have qG : G b = some (.cells (eCs x r q).toArray 41) := by rw [← hG, hupd_same]
    clear hG
    refine copyApp (h' := h') rfl (revs.ext e2) (by rw [e2.at ho]; simp) (by rfl) (by omega) (by omega) ?_
    intro w G1 o e
    obtain ⟨wa, wn, rfl⟩ := o.len
    have e1 := e2.trans e
    simp (disch := omega) only [dm_t, wA, wB, wL, wW, wY, Int.fdiv_eq_ediv_of_nonneg, Int.tdiv_eq_ediv_of_nonneg, Int.tmod_eq_emod_of_nonneg, chk_pos, decT, decF, br_pos, br_neg, wX, ↓reduceIte, Nat.reduceEqDiff, Nat.reduceAdd, Nat.reduceSub, Nat.reduceMul, Nat.reduceLeDiff, Nat.reduceLT, Nat.reduceMod, Nat.reduceDiv, Int.reduceToNat, Nat.min_eq_left, IntKind.bits, Int.reducePow, Int.reduceLT, Int.reduceLE, Int.reduceEq, Int.reduceNe, Int.reduceAdd, Int.reduceSub, and_self, reduceCtorEq, decide_eq_true_eq, decide_eq_false_iff_not, eq_self, implies_true, exists_const, Option.isNone_some, Option.isNone_none, Option.isSome_some, Option.isSome_none, Option.getD_some, p0 _ e1, ka _ e1]
    refine oneApp (h' := h') (b := b) rfl (o.mono fun y _ _ hy => e2.bk hy) e1 (e.at qG) hx (fun h => by have := o.own h; rw [qG] at this; cases this) hbp (by rfl) (by omega) (by omega) ?_
    intro w2 G2 o2 e3
    obtain ⟨wa2, wn2, rfl⟩ := o2.len
    generalize hG' : hupd G2 p (.cells (DO opn (.slice wa2 (s.evs ++ [x]).length wn2) (.slice oa (opsS s x).length on)).toArray 56) = g''
    have hst := fun K => DO_store0 (K := K) (e3.at ho) rfl hG'
    simp (disch := omega) only [dm_t, wA, wB, wL, wW, wY, Int.fdiv_eq_ediv_of_nonneg, Int.tdiv_eq_ediv_of_nonneg, Int.tmod_eq_emod_of_nonneg, chk_pos, decT, decF, br_pos, br_neg, wX, ↓reduceIte, Nat.reduceEqDiff, Nat.reduceAdd, Nat.reduceSub, Nat.reduceMul, Nat.reduceLeDiff, Nat.reduceLT, Nat.reduceMod, Nat.reduceDiv, Int.reduceToNat, Nat.min_eq_left, IntKind.bits, Int.reducePow, Int.reduceLT, Int.reduceLE, Int.reduceEq, Int.reduceNe, Int.reduceAdd, Int.reduceSub, and_self, reduceCtorEq, decide_eq_true_eq, decide_eq_false_iff_not, eq_self, implies_true, exists_const, Option.isNone_some, Option.isNone_none, Option.isSome_some, Option.isSome_none, Option.getD_some, p0 _ e3, ka _ e3, hst]
    exact last G2 _ e3 o2 g'' hG'
end Go.Proofs.Ytmolhemoiplpfaa.hi
