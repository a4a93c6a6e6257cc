/-
  times: Put.
-/
import Derived.Test.YtmjbgfflbeibnaaTc
namespace Go.Proofs.Ytmjbgfflbeibnaa.ti
open Go.Proofs.Ytmjbgfflbeibnaa
set_option linter.unusedVariables false
set_option linter.unusedSimpArgs false
def may (r : rc.D) : Bool := decide (0 ≤ r.1) && (decide (r.1 ≤ 9007199254740992) && (decide (r.2.1.length ≤ 256) && decide (r.2.2.length ≤ 4096)))
theorem may_t {r : rc.D} (h : may r = true) : @LE.le Int _ 0 r.1 ∧ @LE.le Int _ r.1 9007199254740992 ∧ r.2.1.length ≤ 256 ∧ r.2.2.length ≤ 4096 := by
  simp only [may, Bool.and_eq_true, decide_eq_true_eq] at h
  exact ⟨h.1, h.2.1, h.2.2.1, h.2.2.2⟩
theorem May_ok {S : Nat → Prop} {h : H} {cs : List Value} {x : rc.D} (hx : Rep S rc h cs x) : Ok Try.prog 45 #[.agg cs.toArray] h fun v h' => v = .bool (may x) ∧ Ext h h' := by
  obtain ⟨ka, kc, va, vc, rfl, hbd, hk, hv⟩ := rc_len hx
  refine c45_ok (args := [_]) (by simp) ?_
  simp (disch := omega) only [dm_t, wZ, ↓reduceIte, Nat.reduceEqDiff, Nat.reduceAdd, Nat.reduceSub, Nat.reduceMul, Nat.reduceLeDiff, Nat.reduceLT, Nat.reduceMod, Nat.reduceDiv, Int.reduceToNat, Nat.min_eq_left, IntKind.bits, Int.reducePow, Int.reduceLT, Int.reduceLE, Int.reduceEq, Int.reduceNe, Int.reduceAdd, Int.reduceSub, reduceCtorEq, eq_self, implies_true, exists_const, Option.isNone_some, Option.isNone_none, Option.isSome_some, Option.isSome_none, Option.getD_some]
  intro b hb
  by_cases c1 : 0 ≤ x.1 <;> by_cases c2 : x.1 ≤ 9007199254740992 <;> by_cases c3 : x.2.1.length ≤ 256 <;> by_cases c4 : x.2.2.length ≤ 4096 <;>
    (simp (disch := omega) only [dm_t, wZ, ↓reduceIte, Nat.reduceEqDiff, Nat.reduceAdd, Nat.reduceSub, Nat.reduceMul, Nat.reduceLeDiff, Nat.reduceLT, Nat.reduceMod, Nat.reduceDiv, Int.reduceToNat, Nat.min_eq_left, IntKind.bits, Int.reducePow, Int.reduceLT, Int.reduceLE, Int.reduceEq, Int.reduceNe, Int.reduceAdd, Int.reduceSub, reduceCtorEq, eq_self, implies_true, exists_const, Option.isNone_some, Option.isNone_none, Option.isSome_some, Option.isSome_none, Option.getD_some, cellAt_same]; exact ⟨by simp [may, c1, c2, c3, c4], Ext.new hb _⟩)
theorem Put1_ok {S : Nat → Prop} {h : H} {cs : List Value} {x : rc.D} (hx : Rep S rc h cs x) : Ok Try.prog 44 #[.agg cs.toArray] h fun v h' => v = .bool (!may x) ∧ Ext h h' := by
  obtain ⟨ka, kc, va, vc, rfl, hbd, hk, hv⟩ := rc_len hx
  refine c44_ok (args := [_]) (by simp) ?_
  simp (disch := omega) only [dm_t, wZ, ↓reduceIte, Nat.reduceEqDiff, Nat.reduceAdd, Nat.reduceSub, Nat.reduceMul, Nat.reduceLeDiff, Nat.reduceLT, Nat.reduceMod, Nat.reduceDiv, Int.reduceToNat, Nat.min_eq_left, IntKind.bits, Int.reducePow, Int.reduceLT, Int.reduceLE, Int.reduceEq, Int.reduceNe, Int.reduceAdd, Int.reduceSub, reduceCtorEq, eq_self, implies_true, exists_const, Option.isNone_some, Option.isNone_none, Option.isSome_some, Option.isSome_none, Option.getD_some]
  intro b hb
  have e := Ext.new hb (.cells #[.int .i64 x.1, .slice ka x.2.1.length kc, .slice va x.2.2.length vc] 48)
  simp (disch := omega) only [dm_t, wZ, ↓reduceIte, Nat.reduceEqDiff, Nat.reduceAdd, Nat.reduceSub, Nat.reduceMul, Nat.reduceLeDiff, Nat.reduceLT, Nat.reduceMod, Nat.reduceDiv, Int.reduceToNat, Nat.min_eq_left, IntKind.bits, Int.reducePow, Int.reduceLT, Int.reduceLE, Int.reduceEq, Int.reduceNe, Int.reduceAdd, Int.reduceSub, reduceCtorEq, eq_self, implies_true, exists_const, Option.isNone_some, Option.isNone_none, Option.isSome_some, Option.isSome_none, Option.getD_some, cells3_same]
  refine (May_ok (hx.ext e)).k ?_
  rintro _ g2 ⟨rfl, e2⟩
  simp (disch := omega) only [dm_t, wZ, ↓reduceIte, Nat.reduceEqDiff, Nat.reduceAdd, Nat.reduceSub, Nat.reduceMul, Nat.reduceLeDiff, Nat.reduceLT, Nat.reduceMod, Nat.reduceDiv, Int.reduceToNat, Nat.min_eq_left, IntKind.bits, Int.reducePow, Int.reduceLT, Int.reduceLE, Int.reduceEq, Int.reduceNe, Int.reduceAdd, Int.reduceSub, reduceCtorEq, eq_self, implies_true, exists_const, Option.isNone_some, Option.isNone_none, Option.isSome_some, Option.isSome_none, Option.getD_some]
  exact e.trans e2
section
variable {S T : Nat → Prop} {g g' : H} {p : Nat} {b e : Int} {v w : Value} {l : List Ri} {rs : List rc.D}
theorem rec_load (h : RepL S rc g w rs) {i : Nat} (hi : i < rs.length) : ∃ b o cs, idxV1 3 w (.int .i64 (i : Int)) = some (.pointer (some ⟨b, o, none⟩)) ∧ cellsAt g ⟨b, o, none⟩ 3 = some cs.toArray ∧ cellAt g ⟨b, o, none⟩ = some (.int .i64 rs[i].1) ∧ Rep S rc g cs rs[i] := by
  obtain ⟨b, o, cs, h1, h2, h3, h4⟩ := h.load hi .i64 3 sz_rc
  obtain ⟨k, u, rfl, _⟩ := rep_rc.1 h4
  exact ⟨b, o, _, h1, h2, h3 0 (by omega), h4⟩
theorem IdxF_ok (h : RepL S rc g w rs) (hl : rs.length ≤ 4611686018427387904) : Ok Try.prog 67 #[w, .func (.func 44) #[] #[]] g fun u h' => (∃ k : Int, u = .int .i64 k ∧ (-1 ≤ k) ∧ (0 ≤ k ↔ rs.all may = false)) ∧ Ext g h' := by
  obtain ⟨a, c, rfl⟩ := h.len
  refine c67_ok (args := [_, _]) (by simp) ?_
  simp (disch := omega) only [dm_t, wZ, ↓reduceIte, Nat.reduceEqDiff, Nat.reduceAdd, Nat.reduceSub, Nat.reduceMul, Nat.reduceLeDiff, Nat.reduceLT, Nat.reduceMod, Nat.reduceDiv, Int.reduceToNat, Nat.min_eq_left, IntKind.bits, Int.reducePow, Int.reduceLT, Int.reduceLE, Int.reduceEq, Int.reduceNe, Int.reduceAdd, Int.reduceSub, reduceCtorEq, eq_self, implies_true, exists_const, Option.isNone_some, Option.isNone_none, Option.isSome_some, Option.isSome_none, Option.getD_some]
  refine vc_loop1 (fun vi G => ∃ i : Nat, vi = .int .i64 (i : Int) ∧ i ≤ rs.length ∧ (rs.take i).all may = true ∧ Ext g G) (fun vi _ => rs.length - m1 vi) ?_ ?_
  · simp (disch := omega) only [dm_t, wZ, ↓reduceIte, Nat.reduceEqDiff, Nat.reduceAdd, Nat.reduceSub, Nat.reduceMul, Nat.reduceLeDiff, Nat.reduceLT, Nat.reduceMod, Nat.reduceDiv, Int.reduceToNat, Nat.min_eq_left, IntKind.bits, Int.reducePow, Int.reduceLT, Int.reduceLE, Int.reduceEq, Int.reduceNe, Int.reduceAdd, Int.reduceSub, reduceCtorEq, eq_self, implies_true, exists_const, Option.isNone_some, Option.isNone_none, Option.isSome_some, Option.isSome_none, Option.getD_some]
    exact ⟨0, rfl, by omega, by simp, Ext.refl _⟩
  rintro _ G ⟨i, rfl, hi, hall, E⟩
  by_cases hil : i < rs.length
  · obtain ⟨b1, o1, cs, i1, t1, -, r1⟩ := rec_load (h.ext E) hil
    simp (disch := omega) only [dm_t, wZ, ↓reduceIte, Nat.reduceEqDiff, Nat.reduceAdd, Nat.reduceSub, Nat.reduceMul, Nat.reduceLeDiff, Nat.reduceLT, Nat.reduceMod, Nat.reduceDiv, Int.reduceToNat, Nat.min_eq_left, IntKind.bits, Int.reducePow, Int.reduceLT, Int.reduceLE, Int.reduceEq, Int.reduceNe, Int.reduceAdd, Int.reduceSub, reduceCtorEq, eq_self, implies_true, exists_const, Option.isNone_some, Option.isNone_none, Option.isSome_some, Option.isSome_none, Option.getD_some, i1, t1]
    refine ⟨by rfl, (Put1_ok r1).k ?_⟩
    rintro _ G2 ⟨rfl, e2⟩
    by_cases hm : may rs[i] = true
    · simp (disch := omega) only [dm_t, wZ, ↓reduceIte, Nat.reduceEqDiff, Nat.reduceAdd, Nat.reduceSub, Nat.reduceMul, Nat.reduceLeDiff, Nat.reduceLT, Nat.reduceMod, Nat.reduceDiv, Int.reduceToNat, Nat.min_eq_left, IntKind.bits, Int.reducePow, Int.reduceLT, Int.reduceLE, Int.reduceEq, Int.reduceNe, Int.reduceAdd, Int.reduceSub, reduceCtorEq, eq_self, implies_true, exists_const, Option.isNone_some, Option.isNone_none, Option.isSome_some, Option.isSome_none, Option.getD_some, hm]
      refine ⟨⟨i + 1, by simp, by omega, ?_, E.trans e2⟩, by simp [m1]; omega⟩
      rw [List.take_succ_eq_append_getElem hil, List.all_append, hall]
      simp [hm]
    · have hmf : may rs[i] = false := by simpa using hm
      simp (disch := omega) only [dm_t, wZ, ↓reduceIte, Nat.reduceEqDiff, Nat.reduceAdd, Nat.reduceSub, Nat.reduceMul, Nat.reduceLeDiff, Nat.reduceLT, Nat.reduceMod, Nat.reduceDiv, Int.reduceToNat, Nat.min_eq_left, IntKind.bits, Int.reducePow, Int.reduceLT, Int.reduceLE, Int.reduceEq, Int.reduceNe, Int.reduceAdd, Int.reduceSub, reduceCtorEq, eq_self, implies_true, exists_const, Option.isNone_some, Option.isNone_none, Option.isSome_some, Option.isSome_none, Option.getD_some, hmf]
      refine ⟨⟨_, rfl, by omega, ?_⟩, E.trans e2⟩
      refine ⟨fun _ => ?_, fun _ => by omega⟩
      rw [List.all_eq_false]
      exact ⟨_, List.getElem_mem hil, by simp [hmf]⟩
  · obtain rfl : i = rs.length := by omega
    rw [List.take_length] at hall
    simp (disch := omega) only [dm_t, wZ, ↓reduceIte, Nat.reduceEqDiff, Nat.reduceAdd, Nat.reduceSub, Nat.reduceMul, Nat.reduceLeDiff, Nat.reduceLT, Nat.reduceMod, Nat.reduceDiv, Int.reduceToNat, Nat.min_eq_left, IntKind.bits, Int.reducePow, Int.reduceLT, Int.reduceLE, Int.reduceEq, Int.reduceNe, Int.reduceAdd, Int.reduceSub, reduceCtorEq, eq_self, implies_true, exists_const, Option.isNone_some, Option.isNone_none, Option.isSome_some, Option.isSome_none, Option.getD_some]
    exact ⟨⟨_, rfl, by omega, by simp [hall]⟩, E⟩
theorem ContF_ok (h : RepL S rc g w rs) (hl : rs.length ≤ 4611686018427387904) : Ok Try.prog 43 #[w, .func (.func 44) #[] #[]] g fun u h' => u = .bool (!rs.all may) ∧ Ext g h' := by
  refine c43_ok (args := [_, _]) (by simp) ?_
  simp (disch := omega) only [dm_t, wZ, ↓reduceIte, Nat.reduceEqDiff, Nat.reduceAdd, Nat.reduceSub, Nat.reduceMul, Nat.reduceLeDiff, Nat.reduceLT, Nat.reduceMod, Nat.reduceDiv, Int.reduceToNat, Nat.min_eq_left, IntKind.bits, Int.reducePow, Int.reduceLT, Int.reduceLE, Int.reduceEq, Int.reduceNe, Int.reduceAdd, Int.reduceSub, reduceCtorEq, eq_self, implies_true, exists_const, Option.isNone_some, Option.isNone_none, Option.isSome_some, Option.isSome_none, Option.getD_some]
  refine (IdxF_ok h hl).k ?_
  rintro _ g2 ⟨⟨k, rfl, h1, h2⟩, e2⟩
  by_cases hk : 0 ≤ k
  · simp (disch := omega) only [dm_t, wZ, ↓reduceIte, Nat.reduceEqDiff, Nat.reduceAdd, Nat.reduceSub, Nat.reduceMul, Nat.reduceLeDiff, Nat.reduceLT, Nat.reduceMod, Nat.reduceDiv, Int.reduceToNat, Nat.min_eq_left, IntKind.bits, Int.reducePow, Int.reduceLT, Int.reduceLE, Int.reduceEq, Int.reduceNe, Int.reduceAdd, Int.reduceSub, reduceCtorEq, eq_self, implies_true, exists_const, Option.isNone_some, Option.isNone_none, Option.isSome_some, Option.isSome_none, Option.getD_some]
    exact ⟨by rw [h2.1 hk]; simp [hk], e2⟩
  · have : rs.all may = true := by
      cases hc : rs.all may with
      | true => rfl
      | false => exact absurd (h2.2 hc) hk
    simp (disch := omega) only [dm_t, wZ, ↓reduceIte, Nat.reduceEqDiff, Nat.reduceAdd, Nat.reduceSub, Nat.reduceMul, Nat.reduceLeDiff, Nat.reduceLT, Nat.reduceMod, Nat.reduceDiv, Int.reduceToNat, Nat.min_eq_left, IntKind.bits, Int.reducePow, Int.reduceLT, Int.reduceLE, Int.reduceEq, Int.reduceNe, Int.reduceAdd, Int.reduceSub, reduceCtorEq, eq_self, implies_true, exists_const, Option.isNone_some, Option.isNone_none, Option.isSome_some, Option.isSome_none, Option.getD_some]
    exact ⟨by rw [this]; simp [hk], e2⟩
/-- The rises that records bring. -/
def risesP (top off : Int) : List rc.D → List Ri
  | [] => []
  | r :: t => if @LT.lt Int _ top r.1 then (off, r.1) :: risesP r.1 (off + 1) t else risesP top (off + 1) t
theorem risesP_len (top off : Int) (rs : List rc.D) : (risesP top off rs).length ≤ rs.length := by
  induction rs generalizing top off with
  | nil => simp [risesP]
  | cons r t ih =>
    rw [risesP]
    split
    · simp only [List.length_cons]; have := ih (top := r.1) (off := off + 1); omega
    · have := ih (top := top) (off := off + 1); simp only [List.length_cons]; omega
def topR (top : Int) : List rc.D → Int
  | [] => top
  | r :: t => topR (if @LT.lt Int _ top r.1 then r.1 else top) t
theorem risesP_append (top off : Int) (a c : List rc.D) : risesP top off (a ++ c) = risesP top off a ++ risesP (topR top a) (off + a.length) c := by
  induction a generalizing top off with
  | nil => simp [risesP, topR]
  | cons r t ih =>
    rw [List.cons_append, risesP, risesP, topR]
    split
    · rw [ih, List.cons_append]; congr 3; simp; omega
    · rw [ih]; congr 2; simp; omega
theorem topR_append (top : Int) (a c : List rc.D) : topR top (a ++ c) = topR (topR top a) c := by
  induction a generalizing top with
  | nil => rfl
  | cons r t ih => exact ih _
/-- What Put makes of an index. -/
def outP (l : List Ri) (e : Int) (rs : List rc.D) : List Ri := l ++ risesP (topP l) e rs
def putE (l : List Ri) (e : Int) (rs : List rc.D) : Int := if rs.all may = false then 2 else if 65536 < (outP l e rs).length ∨ 9007199254740993 - e < rs.length then 3 else 0
theorem topR_take {rs : List rc.D} {i : Nat} (hi : i < rs.length) (top : Int) : topR top (rs.take (i + 1)) = if @LT.lt Int _ (topR top (rs.take i)) rs[i].1 then rs[i].1 else topR top (rs.take i) := by
  rw [List.take_succ_eq_append_getElem hi, topR_append]; rfl
theorem risesP_take {rs : List rc.D} {i : Nat} (hi : i < rs.length) (top e : Int) : risesP top e (rs.take (i + 1)) = risesP top e (rs.take i) ++ if @LT.lt Int _ (topR top (rs.take i)) rs[i].1 then [(e + i, rs[i].1)] else [] := by
  have hl : (rs.take i).length = i := by rw [List.length_take]; omega
  rw [List.take_succ_eq_append_getElem hi, risesP_append, hl]
  congr 1
theorem Put_loop {Q : Post} (X : XI S g p b e v l) (hr : RepL nos rc g w rs) (hrl : rs.length ≤ 1000000) (hQ : ∀ G vo, (∃ a c, vo = .slice a (outP l e rs).length c) → ((∃ a, vo = .slice a (outP l e rs).length (outP l e rs).length ∧ SlK 2 S G vo (rrows (outP l e rs))) ∨ OwK 2 (fun y => g y = none) G 50 vo (rrows (outP l e rs))) → Ext g G → vc Try.prog c15_s10 Q [(0, .pointer (some ⟨p, 0, none⟩)), (1, w), (5, vo)] G) :
    vc Try.prog c15_s1 Q [(0, .pointer (some ⟨p, 0, none⟩)), (1, w)] g := by
  obtain ⟨a, c, rfl⟩ := X.slen
  obtain ⟨wa, wc, rfl⟩ := hr.len
  have hl := X.wf.len
  have hbe := X.wf.be
  have hb0 := X.wf.b0
  have hcap := X.lst.cap
  rw [List.length_map] at hcap
  simp (disch := omega) only [dm_t, wZ, ↓reduceIte, Nat.reduceEqDiff, Nat.reduceAdd, Nat.reduceSub, Nat.reduceMul, Nat.reduceLeDiff, Nat.reduceLT, Nat.reduceMod, Nat.reduceDiv, Int.reduceToNat, Nat.min_eq_left, IntKind.bits, Int.reducePow, Int.reduceLT, Int.reduceLE, Int.reduceEq, Int.reduceNe, Int.reduceAdd, Int.reduceSub, reduceCtorEq, eq_self, implies_true, exists_const, Option.isNone_some, Option.isNone_none, Option.isSome_some, Option.isSome_none, Option.getD_some, X.c2]
  refine slc_to l.length rfl rfl (by omega) ?_
  simp (disch := omega) only [dm_t, wZ, ↓reduceIte, Nat.reduceEqDiff, Nat.reduceAdd, Nat.reduceSub, Nat.reduceMul, Nat.reduceLeDiff, Nat.reduceLT, Nat.reduceMod, Nat.reduceDiv, Int.reduceToNat, Nat.min_eq_left, IntKind.bits, Int.reducePow, Int.reduceLT, Int.reduceLE, Int.reduceEq, Int.reduceNe, Int.reduceAdd, Int.reduceSub, reduceCtorEq, eq_self, implies_true, exists_const, Option.isNone_some, Option.isNone_none, Option.isSome_some, Option.isSome_none, Option.getD_some]
  refine (top_ok X).k ?_
  rintro _ _ ⟨rfl, rfl⟩
  simp (disch := omega) only [dm_t, wZ, ↓reduceIte, Nat.reduceEqDiff, Nat.reduceAdd, Nat.reduceSub, Nat.reduceMul, Nat.reduceLeDiff, Nat.reduceLT, Nat.reduceMod, Nat.reduceDiv, Int.reduceToNat, Nat.min_eq_left, IntKind.bits, Int.reducePow, Int.reduceLT, Int.reduceLE, Int.reduceEq, Int.reduceNe, Int.reduceAdd, Int.reduceSub, reduceCtorEq, eq_self, implies_true, exists_const, Option.isNone_some, Option.isNone_none, Option.isSome_some, Option.isSome_none, Option.getD_some]
  refine vc_loop3 (fun vo vt vi G => ∃ i : Nat, vi = .int .i64 (i : Int) ∧ i ≤ rs.length ∧ vt = .int .i64 (topR (topP l) (rs.take i)) ∧ (∃ a c, vo = .slice a (outP l e (rs.take i)).length c) ∧ ((∃ a, vo = .slice a (outP l e (rs.take i)).length (outP l e (rs.take i)).length ∧ SlK 2 S G vo (rrows (outP l e (rs.take i)))) ∨ OwK 2 (fun y => g y = none) G 50 vo (rrows (outP l e (rs.take i)))) ∧ Ext g G) (fun _ _ vi _ => rs.length - m1 vi) ?_ ?_
  · simp (disch := omega) only [dm_t, wZ, ↓reduceIte, Nat.reduceEqDiff, Nat.reduceAdd, Nat.reduceSub, Nat.reduceMul, Nat.reduceLeDiff, Nat.reduceLT, Nat.reduceMod, Nat.reduceDiv, Int.reduceToNat, Nat.min_eq_left, IntKind.bits, Int.reducePow, Int.reduceLT, Int.reduceLE, Int.reduceEq, Int.reduceNe, Int.reduceAdd, Int.reduceSub, reduceCtorEq, eq_self, implies_true, exists_const, Option.isNone_some, Option.isNone_none, Option.isSome_some, Option.isSome_none, Option.getD_some]
    have h0 : outP l e (rs.take 0) = l := by simp [outP, risesP]
    have hf := SlK.full X.lst (Nat.le_refl _)
    rw [List.take_of_length_le (by simp)] at hf
    refine ⟨0, rfl, by omega, by simp [topR], ?_, ?_, Ext.refl _⟩
    · rw [h0]; exact ⟨_, _, rfl⟩
    · rw [h0]; exact .inl ⟨_, rfl, hf⟩
  rintro vo _ _ G ⟨i, rfl, hi, rfl, ⟨oa, oc, hvo⟩, ho, E⟩
  by_cases hil : i < rs.length
  · obtain ⟨b1, o1, cs, i1, t1, t0, r1⟩ := rec_load (hr.ext E) hil
    obtain ⟨ka, kc, va, vc', rfl, hbd, hk1, hv1⟩ := rc_len r1
    have htk := topR_take hil (topP l)
    have hrk := risesP_take hil (topP l) e
    simp (disch := omega) only [dm_t, wZ, ↓reduceIte, Nat.reduceEqDiff, Nat.reduceAdd, Nat.reduceSub, Nat.reduceMul, Nat.reduceLeDiff, Nat.reduceLT, Nat.reduceMod, Nat.reduceDiv, Int.reduceToNat, Nat.min_eq_left, IntKind.bits, Int.reducePow, Int.reduceLT, Int.reduceLE, Int.reduceEq, Int.reduceNe, Int.reduceAdd, Int.reduceSub, reduceCtorEq, eq_self, implies_true, exists_const, Option.isNone_some, Option.isNone_none, Option.isSome_some, Option.isSome_none, Option.getD_some, i1, t1]
    intro rb hrb
    refine storeH_all (vs := [_, _, _]) (hupd_same _ _ _) rfl rfl ?_
    rw [hupd_hupd]
    generalize hG : hupd G rb _ = G1
    obtain ⟨e1, qr⟩ := new_ext hG hrb
    clear hG
    have c0 : cellAt G1 ⟨rb, 0, none⟩ = some (.int .i64 rs[i].1) := by rw [cellAt_of qr]; rfl
    have X1 := X.ext (E.trans e1)
    have hol : (outP l e (rs.take i)).length ≤ 2000000 := by
      have h1 := risesP_len (topP l) e (rs.take i)
      rw [List.length_take] at h1
      rw [outP, List.length_append]; omega
    have ho1 : (∃ a, vo = .slice a (rrows (outP l e (rs.take i))).length (rrows (outP l e (rs.take i))).length ∧ SlK 2 S G1 vo (rrows (outP l e (rs.take i)))) ∨ OwK 2 (fun y => g y = none) G1 50 vo (rrows (outP l e (rs.take i))) := by
      rcases ho with ⟨a, h1, h2⟩ | h2
      · exact .inl ⟨a, by rw [List.length_map]; exact h1, h2.ext e1⟩
      · exact .inr (OwK.ext h2 e1)
    by_cases hgt : @LT.lt Int _ (topR (topP l) (rs.take i)) rs[i].1
    · rw [if_pos hgt] at htk hrk
      have hout : outP l e (rs.take (i + 1)) = outP l e (rs.take i) ++ [(e + i, rs[i].1)] := by rw [outP, hrk, outP, List.append_assoc]
      simp (disch := omega) only [dm_t, wZ, ↓reduceIte, Nat.reduceEqDiff, Nat.reduceAdd, Nat.reduceSub, Nat.reduceMul, Nat.reduceLeDiff, Nat.reduceLT, Nat.reduceMod, Nat.reduceDiv, Int.reduceToNat, Nat.min_eq_left, IntKind.bits, Int.reducePow, Int.reduceLT, Int.reduceLE, Int.reduceEq, Int.reduceNe, Int.reduceAdd, Int.reduceSub, reduceCtorEq, eq_self, implies_true, exists_const, Option.isNone_some, Option.isNone_none, Option.isSome_some, Option.isSome_none, Option.getD_some, c0, X1.c1]
      refine push_any (V := fun _ => _) (bytes := 16) (z := #[.int .i64 0, .int .i64 0]) (row := rrow (e + i, rs[i].1)) ho1 (fun y hy => (E.trans e1).bk hy) rfl rfl rfl (by rw [List.length_map]; omega) (by rw [List.length_map]; omega) ?_
      intro _ vo' G2 hb2 o2 f2
      obtain ⟨oa2, oc2, rfl⟩ := SlK.len o2.s0
      simp (disch := omega) only [dm_t, wZ, ↓reduceIte, Nat.reduceEqDiff, Nat.reduceAdd, Nat.reduceSub, Nat.reduceMul, Nat.reduceLeDiff, Nat.reduceLT, Nat.reduceMod, Nat.reduceDiv, Int.reduceToNat, Nat.min_eq_left, IntKind.bits, Int.reducePow, Int.reduceLT, Int.reduceLE, Int.reduceEq, Int.reduceNe, Int.reduceAdd, Int.reduceSub, reduceCtorEq, eq_self, implies_true, exists_const, Option.isNone_some, Option.isNone_none, Option.isSome_some, Option.isSome_none, Option.getD_some]
      refine ⟨⟨i + 1, by simp, by omega, by rw [htk], ⟨oa2, oc2, by rw [hout]; simp⟩, .inr ?_, Ext.step' (E.trans e1) f2 fun y hy => hy⟩, by simp [m1]; omega⟩
      rw [hout]
      simpa using o2
    · rw [if_neg hgt] at htk hrk
      have hout : outP l e (rs.take (i + 1)) = outP l e (rs.take i) := by rw [outP, hrk, outP, List.append_nil]
      simp (disch := omega) only [dm_t, wZ, ↓reduceIte, Nat.reduceEqDiff, Nat.reduceAdd, Nat.reduceSub, Nat.reduceMul, Nat.reduceLeDiff, Nat.reduceLT, Nat.reduceMod, Nat.reduceDiv, Int.reduceToNat, Nat.min_eq_left, IntKind.bits, Int.reducePow, Int.reduceLT, Int.reduceLE, Int.reduceEq, Int.reduceNe, Int.reduceAdd, Int.reduceSub, reduceCtorEq, eq_self, implies_true, exists_const, Option.isNone_some, Option.isNone_none, Option.isSome_some, Option.isSome_none, Option.getD_some, c0]
      refine ⟨⟨i + 1, by simp, by omega, by rw [htk], ?_, ?_, E.trans e1⟩, by simp [m1]; omega⟩
      · rw [hout]; exact ⟨_, _, hvo⟩
      · rw [hout]
        simpa using ho1
  · obtain rfl : i = rs.length := by omega
    rw [List.take_length] at ho hvo
    have k9 := hQ G vo ⟨_, _, hvo⟩ ho E
    simp (disch := omega) only [dm_t, wZ, ↓reduceIte, Nat.reduceEqDiff, Nat.reduceAdd, Nat.reduceSub, Nat.reduceMul, Nat.reduceLeDiff, Nat.reduceLT, Nat.reduceMod, Nat.reduceDiv, Int.reduceToNat, Nat.min_eq_left, IntKind.bits, Int.reducePow, Int.reduceLT, Int.reduceLE, Int.reduceEq, Int.reduceNe, Int.reduceAdd, Int.reduceSub, reduceCtorEq, eq_self, implies_true, exists_const, Option.isNone_some, Option.isNone_none, Option.isSome_some, Option.isSome_none, Option.getD_some, k9]
theorem rises_rng : ∀ {rs : List rc.D} {top off : Int} {r : Ri}, r ∈ risesP top off rs → off ≤ r.1 ∧ r.1 < off + rs.length ∧ top < r.2 ∧ ∃ x ∈ rs, @Eq Int r.2 x.1
  | [], _, _, _, h => by simp [risesP] at h
  | x :: t, top, off, r, h => by
    rw [risesP] at h
    simp only [List.length_cons]
    split at h
    · rename_i hx
      rcases List.mem_cons.1 h with rfl | h
      · exact ⟨Int.le_refl _, by simp only []; omega, hx, x, List.mem_cons_self, rfl⟩
      · obtain ⟨h1, h2, h3, y, hy, h4⟩ := rises_rng h
        exact ⟨by omega, by omega, Int.lt_trans hx h3, y, List.mem_cons_of_mem _ hy, h4⟩
    · obtain ⟨h1, h2, h3, y, hy, h4⟩ := rises_rng h
      exact ⟨by omega, by omega, h3, y, List.mem_cons_of_mem _ hy, h4⟩
theorem rises_srt : ∀ (rs : List rc.D) (top off : Int), (risesP top off rs).Pairwise fun r s => r.1 < s.1 ∧ r.2 < s.2
  | [], _, _ => List.Pairwise.nil
  | x :: t, top, off => by
    rw [risesP]
    split
    · refine List.Pairwise.cons (fun s hs => ?_) (rises_srt t _ _)
      obtain ⟨h1, h2, h3, _⟩ := rises_rng hs
      exact ⟨by simp only []; omega, h3⟩
    · exact rises_srt t _ _
theorem top_ge {l : List Ri} (h : WF b e l) : ∀ r ∈ l, r.2 ≤ topP l := by
  intro r hr
  obtain ⟨i, hi, rfl⟩ := List.getElem_of_mem hr
  rw [topP_last (by omega)]
  exact (srt2 h hi (by omega) (by omega)).2
theorem wf_put (h : WF b e l) (hm : rs.all may = true) (h1 : (outP l e rs).length ≤ 65536) (h2 : @LE.le Int _ rs.length (9007199254740993 - e)) : WF b (e + rs.length) (outP l e rs) := by
  have hbe := h.be
  have mem : ∀ {x : rc.D}, x ∈ rs → @LE.le Int _ 0 x.1 ∧ @LE.le Int _ x.1 9007199254740992 := fun {x} hx => by
    have := may_t (List.all_eq_true.1 hm x hx)
    exact ⟨this.1, this.2.1⟩
  have ne : rs ≠ [] → outP l e rs ≠ [] := by
    intro hn hh
    have hl : l = [] := (List.append_eq_nil_iff.1 hh).1
    have hr := (List.append_eq_nil_iff.1 hh).2
    subst hl
    cases rs with
    | nil => exact hn rfl
    | cons x t =>
      have := (mem (List.mem_cons_self (a := x) (l := t))).1
      rw [risesP, if_pos (show @LT.lt Int _ (topP []) x.1 by simp only [topP, List.getLast?_nil]; omega)] at hr
      cases hr
  refine ⟨h.b0, ⟨by omega, by omega⟩, h1, ⟨fun hh => ?_, fun hh => ?_⟩, ?_, ?_, ?_⟩
  · have hl : l = [] := (List.append_eq_nil_iff.1 hh).1
    have hr : rs = [] := by
      cases rs with
      | nil => rfl
      | cons x t => exact absurd hh (ne (by simp))
    subst hr
    have := h.nil.1 hl
    simp; omega
  · have hr : rs.length = 0 := by omega
    have hr' := List.length_eq_zero_iff.1 hr
    subst hr'
    have hl := h.nil.2 (by omega)
    subst hl
    rfl
  · intro r hr
    rcases List.mem_append.1 hr with hr | hr
    · have := h.rng r hr; omega
    · obtain ⟨h3, h4, h5, x, hx, h6⟩ := rises_rng hr
      have := mem hx
      omega
  · refine List.pairwise_append.2 ⟨h.srt, rises_srt _ _ _, fun r hr s hs => ?_⟩
    obtain ⟨h3, h4, h5, _⟩ := rises_rng hs
    have := h.rng r hr
    have := top_ge h r hr
    omega
  · intro r hr
    by_cases hl : l = []
    · subst hl
      have hbe' := h.nil.1 rfl
      cases rs with
      | nil => simp [outP, risesP] at hr
      | cons x t =>
        have := (mem (List.mem_cons_self (a := x) (l := t))).1
        rw [outP, List.nil_append, risesP, if_pos (show @LT.lt Int _ (topP []) x.1 by simp only [topP, List.getLast?_nil]; omega)] at hr
        simp only [List.getElem?_cons_zero, Option.some.injEq] at hr
        subst hr
        exact hbe'
    · have hl0 : 0 < l.length := List.length_pos_iff.2 hl
      rw [outP, List.getElem?_append_left hl0] at hr
      exact h.fst r hr
theorem Put_ok (X : XI S g p b e v l) (hSp : S p) (hS : ∀ y, S y → g y ≠ none) (hr : RepL nos rc g w rs) (hrl : rs.length ≤ 1000000) : Ok Try.prog 15 #[.pointer (some ⟨p, 0, none⟩), w] g fun u h' => u = .int .i64 (putE l e rs) ∧ (if putE l e rs = 0 then ∃ v', XI S h' p b (e + rs.length) v' (outP l e rs) ∧ Fr (fun y => y = p) g h' else Ext g h') := by
  have hbe := X.wf.be
  have hb0 := X.wf.b0
  obtain ⟨wa, wc, rfl⟩ := hr.len
  refine c15_ok (args := [_, _]) (by simp) ?_
  simp (disch := omega) only [dm_t, wZ, ↓reduceIte, Nat.reduceEqDiff, Nat.reduceAdd, Nat.reduceSub, Nat.reduceMul, Nat.reduceLeDiff, Nat.reduceLT, Nat.reduceMod, Nat.reduceDiv, Int.reduceToNat, Nat.min_eq_left, IntKind.bits, Int.reducePow, Int.reduceLT, Int.reduceLE, Int.reduceEq, Int.reduceNe, Int.reduceAdd, Int.reduceSub, reduceCtorEq, eq_self, implies_true, exists_const, Option.isNone_some, Option.isNone_none, Option.isSome_some, Option.isSome_none, Option.getD_some]
  refine (none_ok X).k ?_
  rintro _ _ ⟨rfl, rfl⟩
  simp (disch := omega) only [dm_t, wZ, ↓reduceIte, Nat.reduceEqDiff, Nat.reduceAdd, Nat.reduceSub, Nat.reduceMul, Nat.reduceLeDiff, Nat.reduceLT, Nat.reduceMod, Nat.reduceDiv, Int.reduceToNat, Nat.min_eq_left, IntKind.bits, Int.reducePow, Int.reduceLT, Int.reduceLE, Int.reduceEq, Int.reduceNe, Int.reduceAdd, Int.reduceSub, reduceCtorEq, eq_self, implies_true, exists_const, Option.isNone_some, Option.isNone_none, Option.isSome_some, Option.isSome_none, Option.getD_some]
  refine (ContF_ok hr (by omega)).k ?_
  rintro _ g2 ⟨rfl, e2⟩
  by_cases hm : rs.all may = true
  · rw [hm]
    have X2 := X.ext e2
    have k1 := Put_loop (Q := retQ [4] (okR fun u h' => u = .int .i64 (putE l e rs) ∧ (if putE l e rs = 0 then ∃ v', XI S h' p b (e + rs.length) v' (outP l e rs) ∧ Fr (fun y => y = p) g h' else Ext g h'))) X2 (hr.ext e2) hrl fun G vo ⟨oa, oc, hvo⟩ ho E => by
      subst hvo
      have XG := X2.ext E
      have EG := e2.trans E
      have hpE : putE l e rs = if 65536 < (outP l e rs).length ∨ 9007199254740993 - e < rs.length then 3 else 0 := by rw [putE, if_neg (by rw [hm]; simp)]
      by_cases h1 : 65536 < (outP l e rs).length
      · rw [if_pos (.inl h1)] at hpE
        rw [hpE]
        simp (disch := omega) only [dm_t, wZ, ↓reduceIte, Nat.reduceEqDiff, Nat.reduceAdd, Nat.reduceSub, Nat.reduceMul, Nat.reduceLeDiff, Nat.reduceLT, Nat.reduceMod, Nat.reduceDiv, Int.reduceToNat, Nat.min_eq_left, IntKind.bits, Int.reducePow, Int.reduceLT, Int.reduceLE, Int.reduceEq, Int.reduceNe, Int.reduceAdd, Int.reduceSub, reduceCtorEq, eq_self, implies_true, exists_const, Option.isNone_some, Option.isNone_none, Option.isSome_some, Option.isSome_none, Option.getD_some]
        exact EG
      · by_cases h2 : @LT.lt Int _ (9007199254740993 - e) rs.length
        · rw [if_pos (.inr h2)] at hpE
          rw [hpE]
          simp (disch := omega) only [dm_t, wZ, ↓reduceIte, Nat.reduceEqDiff, Nat.reduceAdd, Nat.reduceSub, Nat.reduceMul, Nat.reduceLeDiff, Nat.reduceLT, Nat.reduceMod, Nat.reduceDiv, Int.reduceToNat, Nat.min_eq_left, IntKind.bits, Int.reducePow, Int.reduceLT, Int.reduceLE, Int.reduceEq, Int.reduceNe, Int.reduceAdd, Int.reduceSub, reduceCtorEq, eq_self, implies_true, exists_const, Option.isNone_some, Option.isNone_none, Option.isSome_some, Option.isSome_none, Option.getD_some, XG.c1]
          exact EG
        · rw [if_neg (fun h => h.elim h1 h2)] at hpE
          rw [hpE]
          have hwf := wf_put X.wf hm (by omega) (by omega)
          have hsl : SlK 2 S G (.slice oa (outP l e rs).length oc) (rrows (outP l e rs)) := ho.elim (fun ⟨_, _, h⟩ => h) fun h => OwK.sl h fun y hy hs => hS y hs (e2.bk hy)
          simp (disch := omega) only [dm_t, wZ, ↓reduceIte, Nat.reduceEqDiff, Nat.reduceAdd, Nat.reduceSub, Nat.reduceMul, Nat.reduceLeDiff, Nat.reduceLT, Nat.reduceMod, Nat.reduceDiv, Int.reduceToNat, Nat.min_eq_left, IntKind.bits, Int.reducePow, Int.reduceLT, Int.reduceLE, Int.reduceEq, Int.reduceNe, Int.reduceAdd, Int.reduceSub, reduceCtorEq, eq_self, implies_true, exists_const, Option.isNone_some, Option.isNone_none, Option.isSome_some, Option.isSome_none, Option.getD_some, XG.c1]
          rw [storeH_0 XG.obj]
          refine ⟨by simp, rfl, ?_⟩
          generalize hG : hupd G p _ = G2
          have f2 : Fr (fun y => y = p) G G2 := hG ▸ Fr.upd (S := fun y => y = p) rfl _
          have q2 : G2 p = some (.cells #[.int .i64 b, .int .i64 e, .slice oa (outP l e rs).length oc, .bool true] 72) := by rw [← hG, hupd_same]; rfl
          clear hG
          have d1 : cellAt G2 ⟨p, 1, none⟩ = some (.int .i64 e) := by rw [cellAt_of q2]; rfl
          simp (disch := omega) only [dm_t, wZ, ↓reduceIte, Nat.reduceEqDiff, Nat.reduceAdd, Nat.reduceSub, Nat.reduceMul, Nat.reduceLeDiff, Nat.reduceLT, Nat.reduceMod, Nat.reduceDiv, Int.reduceToNat, Nat.min_eq_left, IntKind.bits, Int.reducePow, Int.reduceLT, Int.reduceLE, Int.reduceEq, Int.reduceNe, Int.reduceAdd, Int.reduceSub, reduceCtorEq, eq_self, implies_true, exists_const, Option.isNone_some, Option.isNone_none, Option.isSome_some, Option.isSome_none, Option.getD_some, d1]
          rw [storeH_0 q2]
          refine ⟨by simp, rfl, ?_⟩
          generalize hG : hupd G2 p _ = G3
          have f3 : Fr (fun y => y = p) G2 G3 := hG ▸ Fr.upd (S := fun y => y = p) rfl _
          have q3 : G3 p = some (.cells #[.int .i64 b, .int .i64 (e + rs.length), .slice oa (outP l e rs).length oc, .bool true] 72) := by rw [← hG, hupd_same]; rfl
          clear hG
          simp (disch := omega) only [dm_t, wZ, ↓reduceIte, Nat.reduceEqDiff, Nat.reduceAdd, Nat.reduceSub, Nat.reduceMul, Nat.reduceLeDiff, Nat.reduceLT, Nat.reduceMod, Nat.reduceDiv, Int.reduceToNat, Nat.min_eq_left, IntKind.bits, Int.reducePow, Int.reduceLT, Int.reduceLE, Int.reduceEq, Int.reduceNe, Int.reduceAdd, Int.reduceSub, reduceCtorEq, eq_self, implies_true, exists_const, Option.isNone_some, Option.isNone_none, Option.isSome_some, Option.isSome_none, Option.getD_some]
          have f := f2.trans f3
          exact ⟨_, ⟨q3, SlK.fr hsl f fun y hy => hy ▸ hSp, hwf⟩, (EG.mono fun _ h => h.elim).trans f⟩
    simp (disch := omega) only [dm_t, wZ, ↓reduceIte, Nat.reduceEqDiff, Nat.reduceAdd, Nat.reduceSub, Nat.reduceMul, Nat.reduceLeDiff, Nat.reduceLT, Nat.reduceMod, Nat.reduceDiv, Int.reduceToNat, Nat.min_eq_left, IntKind.bits, Int.reducePow, Int.reduceLT, Int.reduceLE, Int.reduceEq, Int.reduceNe, Int.reduceAdd, Int.reduceSub, reduceCtorEq, eq_self, implies_true, exists_const, Option.isNone_some, Option.isNone_none, Option.isSome_some, Option.isSome_none, Option.getD_some, k1]
  · have hmf : rs.all may = false := by simpa using hm
    have hpE : putE l e rs = 2 := by rw [putE, if_pos hmf]
    rw [hmf, hpE]
    simp (disch := omega) only [dm_t, wZ, ↓reduceIte, Nat.reduceEqDiff, Nat.reduceAdd, Nat.reduceSub, Nat.reduceMul, Nat.reduceLeDiff, Nat.reduceLT, Nat.reduceMod, Nat.reduceDiv, Int.reduceToNat, Nat.min_eq_left, IntKind.bits, Int.reducePow, Int.reduceLT, Int.reduceLE, Int.reduceEq, Int.reduceNe, Int.reduceAdd, Int.reduceSub, reduceCtorEq, eq_self, implies_true, exists_const, Option.isNone_some, Option.isNone_none, Option.isSome_some, Option.isSome_none, Option.getD_some]
    exact e2
end
end Go.Proofs.Ytmjbgfflbeibnaa.ti
