/-
  times: Cut, Join.
-/
import Derived.Test.YtmjbgfflbeibnaaTd
namespace Go.Proofs.Ytmjbgfflbeibnaa.ti
open Go.Proofs.Ytmjbgfflbeibnaa
set_option linter.unusedVariables false
set_option linter.unusedSimpArgs false
section
variable {S T : Nat → Prop} {g g' : H} {p q : Nat} {b e b2 e2 : Int} {v v2 : Value} {l l2 : List Ri}
def cutP (l : List Ri) (n : Int) : List Ri := l.filter fun r => decide (r.1 < n)
theorem wf_cut {n : Int} (h : WF b e l) (h1 : b ≤ n) (h2 : n ≤ e) : WF b n (cutP l n) := by
  have hbe := h.be
  refine ⟨h.b0, ⟨h1, by omega⟩, Nat.le_trans (List.length_filter_le _ _) h.len, ⟨fun hh => ?_, fun hh => ?_⟩, ?_, h.srt.filter _, ?_⟩
  · by_cases hl : l = []
    · have := h.nil.1 hl; omega
    · have hl0 : 0 < l.length := List.length_pos_iff.2 hl
      have hf := h.fst l[0] (List.getElem?_eq_getElem hl0)
      have := List.filter_eq_nil_iff.1 hh l[0] (List.getElem_mem hl0)
      simp only [decide_eq_true_eq] at this
      omega
  · refine List.filter_eq_nil_iff.2 fun r hr => ?_
    have := h.rng r hr
    simp; omega
  · intro r hr
    obtain ⟨h3, h4⟩ := List.mem_filter.1 hr
    have := h.rng r h3
    simp only [decide_eq_true_eq] at h4
    omega
  · intro r hr
    cases l with
    | nil => simp [cutP] at hr
    | cons x t =>
      have hx := h.fst x rfl
      rw [cutP] at hr
      by_cases hxn : x.1 < n
      · rw [List.filter_cons_of_pos (by simpa using hxn)] at hr
        simp only [List.getElem?_cons_zero, Option.some.injEq] at hr
        rw [← hr]; exact hx
      · have hnb : n = b := by omega
        exfalso
        have : (x :: t).filter (fun r => decide (r.1 < n)) = [] := List.filter_eq_nil_iff.2 fun r hr => by
          have := h.rng r hr
          simp; omega
        rw [this] at hr
        simp at hr
def cutE (b e n : Int) : Int := if n < b ∨ e < n then 4 else 0
theorem Cut_ok {n : Int} (X : XI S g p b e v l) (hSp : S p) (hS : ∀ y, S y → g y ≠ none) : Ok Try.prog 17 #[.pointer (some ⟨p, 0, none⟩), .int .i64 n] g fun u h' => u = .int .i64 (cutE b e n) ∧ if cutE b e n = 0 then ∃ v', XI S h' p b n v' (cutP l n) ∧ Fr (fun y => y = p) g h' else Ext g h' := by
  obtain ⟨a, c, rfl⟩ := X.slen
  have hl := X.wf.len
  refine c17_ok (args := [_, _]) (by simp) ?_
  simp (disch := omega) only [dm_t, wZ, ↓reduceIte, Nat.reduceEqDiff, Nat.reduceAdd, Nat.reduceSub, Nat.reduceMul, Nat.reduceLeDiff, Nat.reduceLT, Nat.reduceMod, Nat.reduceDiv, Int.reduceToNat, Nat.min_eq_left, IntKind.bits, Int.reducePow, Int.reduceLT, Int.reduceLE, Int.reduceEq, Int.reduceNe, Int.reduceAdd, Int.reduceSub, reduceCtorEq, eq_self, implies_true, exists_const, Option.isNone_some, Option.isNone_none, Option.isSome_some, Option.isSome_none, Option.getD_some]
  intro tb htb
  generalize hG : hupd g tb _ = g1
  obtain ⟨e1, qt⟩ := new_ext hG htb
  clear hG
  have X1 := X.ext e1
  have t0 : cellAt g1 ⟨tb, 0, none⟩ = some (.int .i64 n) := by rw [cellAt_of qt]; rfl
  refine (none_ok X1).k ?_
  rintro _ _ ⟨rfl, rfl⟩
  by_cases h1 : n < b
  · have hE : cutE b e n = 4 := if_pos (.inl h1)
    rw [hE]
    simp (disch := omega) only [dm_t, wZ, ↓reduceIte, Nat.reduceEqDiff, Nat.reduceAdd, Nat.reduceSub, Nat.reduceMul, Nat.reduceLeDiff, Nat.reduceLT, Nat.reduceMod, Nat.reduceDiv, Int.reduceToNat, Nat.min_eq_left, IntKind.bits, Int.reducePow, Int.reduceLT, Int.reduceLE, Int.reduceEq, Int.reduceNe, Int.reduceAdd, Int.reduceSub, reduceCtorEq, eq_self, implies_true, exists_const, Option.isNone_some, Option.isNone_none, Option.isSome_some, Option.isSome_none, Option.getD_some, t0, X1.c0]
    exact e1
  by_cases h2 : e < n
  · have hE : cutE b e n = 4 := if_pos (.inr h2)
    rw [hE]
    simp (disch := omega) only [dm_t, wZ, ↓reduceIte, Nat.reduceEqDiff, Nat.reduceAdd, Nat.reduceSub, Nat.reduceMul, Nat.reduceLeDiff, Nat.reduceLT, Nat.reduceMod, Nat.reduceDiv, Int.reduceToNat, Nat.min_eq_left, IntKind.bits, Int.reducePow, Int.reduceLT, Int.reduceLE, Int.reduceEq, Int.reduceNe, Int.reduceAdd, Int.reduceSub, reduceCtorEq, eq_self, implies_true, exists_const, Option.isNone_some, Option.isNone_none, Option.isSome_some, Option.isSome_none, Option.getD_some, t0, X1.c0, X1.c1]
    exact e1
  have hE : cutE b e n = 0 := if_neg fun h => h.elim h1 h2
  rw [hE]
  simp (disch := omega) only [dm_t, wZ, ↓reduceIte, Nat.reduceEqDiff, Nat.reduceAdd, Nat.reduceSub, Nat.reduceMul, Nat.reduceLeDiff, Nat.reduceLT, Nat.reduceMod, Nat.reduceDiv, Int.reduceToNat, Nat.min_eq_left, IntKind.bits, Int.reducePow, Int.reduceLT, Int.reduceLE, Int.reduceEq, Int.reduceNe, Int.reduceAdd, Int.reduceSub, reduceCtorEq, eq_self, implies_true, exists_const, Option.isNone_some, Option.isNone_none, Option.isSome_some, Option.isSome_none, Option.getD_some, t0, X1.c0, X1.c1]
  refine (first_ok (cap := #[.pointer (some ⟨tb, 0, none⟩)]) X1 (by rfl) (fun G r _ E => Cut1_ok r (E.at qt)) fun i j hi hj hij h => ?_).k ?_
  · have := srt2 X.wf hi hj hij
    simp only [decide_eq_true_eq] at h ⊢
    omega
  rintro _ g2 ⟨k, rfl, hk, e2'⟩
  have X2 := X1.ext e2'
  have hkl := hk.1
  have hF : cutP l n = l.take k := by
    rw [← take_first hk, cutP]
    congr 1
    funext r
    by_cases h : r.1 < n
    · simp [h, show ¬ n ≤ r.1 by omega]
    · simp [h, show n ≤ r.1 by omega]
  have hcap := X.lst.cap
  rw [List.length_map] at hcap
  simp (disch := omega) only [dm_t, wZ, ↓reduceIte, Nat.reduceEqDiff, Nat.reduceAdd, Nat.reduceSub, Nat.reduceMul, Nat.reduceLeDiff, Nat.reduceLT, Nat.reduceMod, Nat.reduceDiv, Int.reduceToNat, Nat.min_eq_left, IntKind.bits, Int.reducePow, Int.reduceLT, Int.reduceLE, Int.reduceEq, Int.reduceNe, Int.reduceAdd, Int.reduceSub, reduceCtorEq, eq_self, implies_true, exists_const, Option.isNone_some, Option.isNone_none, Option.isSome_some, Option.isSome_none, Option.getD_some, X2.c2]
  refine slc_to k rfl rfl (by omega) ?_
  have hf := SlK.full X2.lst hkl
  rw [← List.map_take, ← hF] at hf
  have hlen : (cutP l n).length = k := by rw [hF, List.length_take]; omega
  have ht2 := e2'.at qt
  have hpt : p ≠ tb := ne_of X.obj htb
  simp (disch := omega) only [dm_t, wZ, ↓reduceIte, Nat.reduceEqDiff, Nat.reduceAdd, Nat.reduceSub, Nat.reduceMul, Nat.reduceLeDiff, Nat.reduceLT, Nat.reduceMod, Nat.reduceDiv, Int.reduceToNat, Nat.min_eq_left, IntKind.bits, Int.reducePow, Int.reduceLT, Int.reduceLE, Int.reduceEq, Int.reduceNe, Int.reduceAdd, Int.reduceSub, reduceCtorEq, eq_self, implies_true, exists_const, Option.isNone_some, Option.isNone_none, Option.isSome_some, Option.isSome_none, Option.getD_some]
  rw [storeH_0 X2.obj]
  refine ⟨by simp, rfl, ?_⟩
  generalize hG : hupd g2 p _ = G2
  have f2 : Fr (fun y => y = p) g2 G2 := hG ▸ Fr.upd (S := fun y => y = p) rfl _
  have q2 : G2 p = some (.cells #[.int .i64 b, .int .i64 e, .slice a k k, .bool true] 72) := by rw [← hG, hupd_same]; rfl
  clear hG
  have d0 : cellAt G2 ⟨tb, 0, none⟩ = some (.int .i64 n) := by rw [cellAt_of (f2 _ _ ht2 hpt.symm)]; rfl
  simp (disch := omega) only [dm_t, wZ, ↓reduceIte, Nat.reduceEqDiff, Nat.reduceAdd, Nat.reduceSub, Nat.reduceMul, Nat.reduceLeDiff, Nat.reduceLT, Nat.reduceMod, Nat.reduceDiv, Int.reduceToNat, Nat.min_eq_left, IntKind.bits, Int.reducePow, Int.reduceLT, Int.reduceLE, Int.reduceEq, Int.reduceNe, Int.reduceAdd, Int.reduceSub, reduceCtorEq, eq_self, implies_true, exists_const, Option.isNone_some, Option.isNone_none, Option.isSome_some, Option.isSome_none, Option.getD_some, d0]
  rw [storeH_0 q2]
  refine ⟨by simp, rfl, ?_⟩
  generalize hG : hupd G2 p _ = G3
  have f3 : Fr (fun y => y = p) G2 G3 := hG ▸ Fr.upd (S := fun y => y = p) rfl _
  have q3 : G3 p = some (.cells #[.int .i64 b, .int .i64 n, .slice a k k, .bool true] 72) := by rw [← hG, hupd_same]; rfl
  clear hG
  simp (disch := omega) only [dm_t, wZ, ↓reduceIte, Nat.reduceEqDiff, Nat.reduceAdd, Nat.reduceSub, Nat.reduceMul, Nat.reduceLeDiff, Nat.reduceLT, Nat.reduceMod, Nat.reduceDiv, Int.reduceToNat, Nat.min_eq_left, IntKind.bits, Int.reducePow, Int.reduceLT, Int.reduceLE, Int.reduceEq, Int.reduceNe, Int.reduceAdd, Int.reduceSub, reduceCtorEq, eq_self, implies_true, exists_const, Option.isNone_some, Option.isNone_none, Option.isSome_some, Option.isSome_none, Option.getD_some]
  have f := f2.trans f3
  exact ⟨_, ⟨q3, SlK.fr hf f fun y hy => hy ▸ hSp, wf_cut X.wf (by omega) (by omega)⟩, ((e1.trans e2').mono fun _ h => h.elim).trans f⟩
def joinP (l l2 : List Ri) : List Ri := l ++ l2.filter fun r => decide (topP l < r.2)
theorem drop_first {P : Ri → Bool} {k : Nat} (h : IsFirst P l k) : l.filter P = l.drop k := by
  obtain ⟨h1, h2, h3⟩ := h
  have e := List.take_append_drop k l
  conv => lhs; rw [← e]
  rw [List.filter_append]
  have f1 : (l.take k).filter P = [] := List.filter_eq_nil_iff.2 fun r hr => by
    obtain ⟨i, hi, rfl⟩ := List.getElem_of_mem hr
    rw [List.length_take] at hi
    rw [List.getElem_take, h2 i (by omega) (by omega)]; simp
  have f2 : (l.drop k).filter P = l.drop k := List.filter_eq_self.2 fun r hr => by
    obtain ⟨i, hi, rfl⟩ := List.getElem_of_mem hr
    rw [List.length_drop] at hi
    rw [List.getElem_drop, h3 (k + i) (by omega) (by omega)]
  rw [f1, f2, List.nil_append]
theorem wf_join (h : WF b e l) (h' : WF e e2 l2) (hl : (joinP l l2).length ≤ 65536) : WF b e2 (joinP l l2) := by
  have hbe := h.be
  have hbe' := h'.be
  have all0 : l = [] → joinP l l2 = l2 := fun hn => by
    subst hn
    rw [joinP, List.nil_append]
    refine List.filter_eq_self.2 fun r hr => ?_
    have := h'.rng r hr
    have ht : topP ([] : List Ri) = -1 := rfl
    rw [ht]
    simp; omega
  refine ⟨h.b0, ⟨by omega, hbe'.2⟩, hl, ⟨fun hh => ?_, fun hh => ?_⟩, ?_, ?_, ?_⟩
  · have hn : l = [] := (List.append_eq_nil_iff.1 hh).1
    rw [all0 hn] at hh
    have := h.nil.1 hn
    have := h'.nil.1 hh
    omega
  · have hn : l = [] := h.nil.2 (by omega)
    rw [all0 hn]
    exact h'.nil.2 (by omega)
  · intro r hr
    rcases List.mem_append.1 hr with hr | hr
    · have := h.rng r hr; omega
    · have := h'.rng r (List.mem_filter.1 hr).1; omega
  · refine List.pairwise_append.2 ⟨h.srt, h'.srt.filter _, fun r hr s hs => ?_⟩
    obtain ⟨h1, h2⟩ := List.mem_filter.1 hs
    simp only [decide_eq_true_eq] at h2
    have := h.rng r hr
    have := h'.rng s h1
    have := top_ge h r hr
    omega
  · intro r hr
    by_cases hn : l = []
    · rw [all0 hn] at hr
      have := h'.fst r hr
      have := h.nil.1 hn
      omega
    · rw [joinP, List.getElem?_append_left (List.length_pos_iff.2 hn)] at hr
      exact h.fst r hr
def joinE (l : List Ri) (e b2 : Int) (l2 : List Ri) : Int := if b2 ≠ e then 4 else if 65536 < (joinP l l2).length then 3 else 0
theorem Join_ok (X : XI S g p b e v l) (Y : XI T g q b2 e2 v2 l2) (hSp : S p) (hS : ∀ y, S y → g y ≠ none) : Ok Try.prog 23 #[.pointer (some ⟨p, 0, none⟩), .pointer (some ⟨q, 0, none⟩)] g fun u h' => u = .int .i64 (joinE l e b2 l2) ∧ if joinE l e b2 l2 = 0 then ∃ v', XI S h' p b e2 v' (joinP l l2) ∧ Fr (fun y => y = p) g h' else Ext g h' := by
  obtain ⟨a, c, rfl⟩ := X.slen
  obtain ⟨a2, c2, rfl⟩ := Y.slen
  have hl := X.wf.len
  have hl2 := Y.wf.len
  have hcap := X.lst.cap
  have hcap2 := Y.lst.cap
  rw [List.length_map] at hcap hcap2
  refine c23_ok (args := [_, _]) (by simp) ?_
  simp (disch := omega) only [dm_t, wZ, ↓reduceIte, Nat.reduceEqDiff, Nat.reduceAdd, Nat.reduceSub, Nat.reduceMul, Nat.reduceLeDiff, Nat.reduceLT, Nat.reduceMod, Nat.reduceDiv, Int.reduceToNat, Nat.min_eq_left, IntKind.bits, Int.reducePow, Int.reduceLT, Int.reduceLE, Int.reduceEq, Int.reduceNe, Int.reduceAdd, Int.reduceSub, reduceCtorEq, eq_self, implies_true, exists_const, Option.isNone_some, Option.isNone_none, Option.isSome_some, Option.isSome_none, Option.getD_some]
  refine (none_ok X).k ?_
  rintro _ _ ⟨rfl, rfl⟩
  simp (disch := omega) only [dm_t, wZ, ↓reduceIte, Nat.reduceEqDiff, Nat.reduceAdd, Nat.reduceSub, Nat.reduceMul, Nat.reduceLeDiff, Nat.reduceLT, Nat.reduceMod, Nat.reduceDiv, Int.reduceToNat, Nat.min_eq_left, IntKind.bits, Int.reducePow, Int.reduceLT, Int.reduceLE, Int.reduceEq, Int.reduceNe, Int.reduceAdd, Int.reduceSub, reduceCtorEq, eq_self, implies_true, exists_const, Option.isNone_some, Option.isNone_none, Option.isSome_some, Option.isSome_none, Option.getD_some]
  refine (none_ok Y).k ?_
  rintro _ _ ⟨rfl, rfl⟩
  by_cases h1 : b2 = e
  · subst h1
    simp (disch := omega) only [dm_t, wZ, ↓reduceIte, Nat.reduceEqDiff, Nat.reduceAdd, Nat.reduceSub, Nat.reduceMul, Nat.reduceLeDiff, Nat.reduceLT, Nat.reduceMod, Nat.reduceDiv, Int.reduceToNat, Nat.min_eq_left, IntKind.bits, Int.reducePow, Int.reduceLT, Int.reduceLE, Int.reduceEq, Int.reduceNe, Int.reduceAdd, Int.reduceSub, reduceCtorEq, eq_self, implies_true, exists_const, Option.isNone_some, Option.isNone_none, Option.isSome_some, Option.isSome_none, Option.getD_some, Y.c0, X.c1]
    refine (top_ok X).k ?_
    rintro _ _ ⟨rfl, rfl⟩
    simp (disch := omega) only [dm_t, wZ, ↓reduceIte, Nat.reduceEqDiff, Nat.reduceAdd, Nat.reduceSub, Nat.reduceMul, Nat.reduceLeDiff, Nat.reduceLT, Nat.reduceMod, Nat.reduceDiv, Int.reduceToNat, Nat.min_eq_left, IntKind.bits, Int.reducePow, Int.reduceLT, Int.reduceLE, Int.reduceEq, Int.reduceNe, Int.reduceAdd, Int.reduceSub, reduceCtorEq, eq_self, implies_true, exists_const, Option.isNone_some, Option.isNone_none, Option.isSome_some, Option.isSome_none, Option.getD_some]
    intro tb htb
    refine storeH_all (vs := [_]) (hupd_same _ _ _) rfl rfl ?_
    rw [hupd_hupd]
    generalize hG : hupd g tb _ = g1
    obtain ⟨e1, qt⟩ := new_ext hG htb
    clear hG
    simp (disch := omega) only [dm_t, wZ, ↓reduceIte, Nat.reduceEqDiff, Nat.reduceAdd, Nat.reduceSub, Nat.reduceMul, Nat.reduceLeDiff, Nat.reduceLT, Nat.reduceMod, Nat.reduceDiv, Int.reduceToNat, Nat.min_eq_left, IntKind.bits, Int.reducePow, Int.reduceLT, Int.reduceLE, Int.reduceEq, Int.reduceNe, Int.reduceAdd, Int.reduceSub, reduceCtorEq, eq_self, implies_true, exists_const, Option.isNone_some, Option.isNone_none, Option.isSome_some, Option.isSome_none, Option.getD_some]
    refine (first_ok (cap := #[.pointer (some ⟨tb, 0, none⟩)]) (Y.ext e1) (by rfl) (fun G r _ E => Join1_ok r (E.at qt)) fun i j hi hj hij h => ?_).k ?_
    · have := srt2 Y.wf hi hj hij
      simp only [decide_eq_true_eq] at h ⊢
      omega
    rintro _ g2 ⟨k, rfl, hk, e2'⟩
    have E2 := e1.trans e2'
    have X2 := X.ext E2
    have Y2 := Y.ext E2
    have hkl := hk.1
    have hF : joinP l l2 = l ++ l2.drop k := by rw [joinP, drop_first hk]
    have hlen : (joinP l l2).length = l.length + (l2.length - k) := by rw [hF, List.length_append, List.length_drop]
    obtain ⟨w, hw, sw⟩ := SlK.cut (m3 := false) (lo := (k : Int)) (hi := (l2.length : Int)) (mx := (c2 : Int)) (l := k) (u := l2.length) (m := c2) Y2.lst rfl rfl rfl (by omega) (by omega) (by omega) (by omega) (.inr rfl)
    rw [← List.map_drop, ← List.map_take, List.take_of_length_le (by rw [List.length_drop]; omega)] at sw
    obtain ⟨s1, s2⟩ := SlK.src sw
    have s3 := s2 _ (Nat.le_refl _)
    rw [List.take_length] at s3
    have fin : ∀ (G : H) (va : Option Addr) (vn : Nat), SlK 2 S G (.slice va (joinP l l2).length vn) (rrows (joinP l l2)) → Ext g2 G → vc Try.prog c23_s4 (retQ [4] (okR fun u h' => u = .int .i64 (joinE l b2 b2 l2) ∧ if joinE l b2 b2 l2 = 0 then ∃ v', XI S h' p b e2 v' (joinP l l2) ∧ Fr (fun y => y = p) g h' else Ext g h')) [(0, .pointer (some ⟨p, 0, none⟩)), (1, .pointer (some ⟨q, 0, none⟩)), (7, .slice va (joinP l l2).length vn)] G := by
      intro G va vc' sl E
      have XG := X2.ext E
      have YG := Y2.ext E
      have EG := E2.trans E
      have hj : joinE l b2 b2 l2 = if 65536 < (joinP l l2).length then 3 else 0 := by rw [joinE, if_neg (by simp)]
      by_cases h3 : 65536 < (joinP l l2).length
      · rw [if_pos h3] at hj
        rw [hj]
        simp (disch := omega) only [dm_t, wZ, ↓reduceIte, Nat.reduceEqDiff, Nat.reduceAdd, Nat.reduceSub, Nat.reduceMul, Nat.reduceLeDiff, Nat.reduceLT, Nat.reduceMod, Nat.reduceDiv, Int.reduceToNat, Nat.min_eq_left, IntKind.bits, Int.reducePow, Int.reduceLT, Int.reduceLE, Int.reduceEq, Int.reduceNe, Int.reduceAdd, Int.reduceSub, reduceCtorEq, eq_self, implies_true, exists_const, Option.isNone_some, Option.isNone_none, Option.isSome_some, Option.isSome_none, Option.getD_some]
        exact EG
      · rw [if_neg h3] at hj
        rw [hj]
        simp (disch := omega) only [dm_t, wZ, ↓reduceIte, Nat.reduceEqDiff, Nat.reduceAdd, Nat.reduceSub, Nat.reduceMul, Nat.reduceLeDiff, Nat.reduceLT, Nat.reduceMod, Nat.reduceDiv, Int.reduceToNat, Nat.min_eq_left, IntKind.bits, Int.reducePow, Int.reduceLT, Int.reduceLE, Int.reduceEq, Int.reduceNe, Int.reduceAdd, Int.reduceSub, reduceCtorEq, eq_self, implies_true, exists_const, Option.isNone_some, Option.isNone_none, Option.isSome_some, Option.isSome_none, Option.getD_some, YG.c1]
        rw [storeH_0 XG.obj]
        refine ⟨by simp, rfl, ?_⟩
        generalize hG : hupd G p _ = G2
        have f2 : Fr (fun y => y = p) G G2 := hG ▸ Fr.upd (S := fun y => y = p) rfl _
        have q2 : G2 p = some (.cells #[.int .i64 b, .int .i64 b2, .slice va (joinP l l2).length vc', .bool true] 72) := by rw [← hG, hupd_same]; rfl
        clear hG
        simp (disch := omega) only [dm_t, wZ, ↓reduceIte, Nat.reduceEqDiff, Nat.reduceAdd, Nat.reduceSub, Nat.reduceMul, Nat.reduceLeDiff, Nat.reduceLT, Nat.reduceMod, Nat.reduceDiv, Int.reduceToNat, Nat.min_eq_left, IntKind.bits, Int.reducePow, Int.reduceLT, Int.reduceLE, Int.reduceEq, Int.reduceNe, Int.reduceAdd, Int.reduceSub, reduceCtorEq, eq_self, implies_true, exists_const, Option.isNone_some, Option.isNone_none, Option.isSome_some, Option.isSome_none, Option.getD_some]
        rw [storeH_0 q2]
        refine ⟨by simp, rfl, ?_⟩
        generalize hG : hupd G2 p _ = G3
        have f3 : Fr (fun y => y = p) G2 G3 := hG ▸ Fr.upd (S := fun y => y = p) rfl _
        have q3 : G3 p = some (.cells #[.int .i64 b, .int .i64 e2, .slice va (joinP l l2).length vc', .bool true] 72) := by rw [← hG, hupd_same]; rfl
        clear hG
        simp (disch := omega) only [dm_t, wZ, ↓reduceIte, Nat.reduceEqDiff, Nat.reduceAdd, Nat.reduceSub, Nat.reduceMul, Nat.reduceLeDiff, Nat.reduceLT, Nat.reduceMod, Nat.reduceDiv, Int.reduceToNat, Nat.min_eq_left, IntKind.bits, Int.reducePow, Int.reduceLT, Int.reduceLE, Int.reduceEq, Int.reduceNe, Int.reduceAdd, Int.reduceSub, reduceCtorEq, eq_self, implies_true, exists_const, Option.isNone_some, Option.isNone_none, Option.isSome_some, Option.isSome_none, Option.getD_some]
        have f := f2.trans f3
        exact ⟨_, ⟨q3, SlK.fr sl f fun y hy => hy ▸ hSp, wf_join X.wf Y.wf (by omega)⟩, (EG.mono fun _ h => h.elim).trans f⟩
    have hfull := SlK.full X2.lst (Nat.le_refl l.length)
    rw [List.take_of_length_le (by simp)] at hfull
    simp (disch := omega) only [dm_t, wZ, ↓reduceIte, Nat.reduceEqDiff, Nat.reduceAdd, Nat.reduceSub, Nat.reduceMul, Nat.reduceLeDiff, Nat.reduceLT, Nat.reduceMod, Nat.reduceDiv, Int.reduceToNat, Nat.min_eq_left, IntKind.bits, Int.reducePow, Int.reduceLT, Int.reduceLE, Int.reduceEq, Int.reduceNe, Int.reduceAdd, Int.reduceSub, reduceCtorEq, eq_self, implies_true, exists_const, Option.isNone_some, Option.isNone_none, Option.isSome_some, Option.isSome_none, Option.getD_some, X2.c2]
    refine slc_to l.length rfl rfl (by omega) ?_
    simp (disch := omega) only [dm_t, wZ, ↓reduceIte, Nat.reduceEqDiff, Nat.reduceAdd, Nat.reduceSub, Nat.reduceMul, Nat.reduceLeDiff, Nat.reduceLT, Nat.reduceMod, Nat.reduceDiv, Int.reduceToNat, Nat.min_eq_left, IntKind.bits, Int.reducePow, Int.reduceLT, Int.reduceLE, Int.reduceEq, Int.reduceNe, Int.reduceAdd, Int.reduceSub, reduceCtorEq, eq_self, implies_true, exists_const, Option.isNone_some, Option.isNone_none, Option.isSome_some, Option.isSome_none, Option.getD_some, Y2.c2, hw]
    by_cases hn : l2.length = k
    · have hd : l2.drop k = [] := by rw [List.drop_eq_nil_iff]; omega
      have hj : joinP l l2 = l := by rw [hF, hd, List.append_nil]
      rw [hd] at s1 s3
      refine app_nil s1 s3 (Nat.le_refl _) ?_
      have k9 := fin g2 a l.length (by rw [hj]; exact hfull) (Ext.refl _)
      rw [hj] at k9
      rw [hj]
      simp (disch := omega) only [dm_t, wZ, ↓reduceIte, Nat.reduceEqDiff, Nat.reduceAdd, Nat.reduceSub, Nat.reduceMul, Nat.reduceLeDiff, Nat.reduceLT, Nat.reduceMod, Nat.reduceDiv, Int.reduceToNat, Nat.min_eq_left, IntKind.bits, Int.reducePow, Int.reduceLT, Int.reduceLE, Int.reduceEq, Int.reduceNe, Int.reduceAdd, Int.reduceSub, reduceCtorEq, eq_self, implies_true, exists_const, Option.isNone_some, Option.isNone_none, Option.isSome_some, Option.isSome_none, Option.getD_some, X2.c2, Y2.c2, k9]
    · refine app_full (bytes := 16) (z := #[.int .i64 0, .int .i64 0]) (O := fun y => g2 y = none) (rows := rrows l) hfull (by simp) (by simp; omega) (fun _ h => h) (rrows_rect _) s1 s3 (rrows_cells _) (by rfl) (by simp; omega) (by simp; omega) ?_
      intro w' G o' e' hat
      have hrr : rrows l ++ rrows (l2.drop k) = rrows (joinP l l2) := by rw [hF]; simp
      rw [hrr] at o'
      obtain ⟨va, vc', rfl⟩ := SlK.len o'.s0
      have k9 := fin G va vc' (by
        have := OwK.sl o' (S := S) fun y hy hs => hS y hs (E2.bk hy)
        simpa using this) e'
      rw [List.length_map]
      simp (disch := omega) only [dm_t, wZ, ↓reduceIte, Nat.reduceEqDiff, Nat.reduceAdd, Nat.reduceSub, Nat.reduceMul, Nat.reduceLeDiff, Nat.reduceLT, Nat.reduceMod, Nat.reduceDiv, Int.reduceToNat, Nat.min_eq_left, IntKind.bits, Int.reducePow, Int.reduceLT, Int.reduceLE, Int.reduceEq, Int.reduceNe, Int.reduceAdd, Int.reduceSub, reduceCtorEq, eq_self, implies_true, exists_const, Option.isNone_some, Option.isNone_none, Option.isSome_some, Option.isSome_none, Option.getD_some, X2.ext e' |>.c2, k9]
  · have hj : joinE l e b2 l2 = 4 := by rw [joinE, if_pos h1]
    rw [hj]
    simp (disch := omega) only [dm_t, wZ, ↓reduceIte, Nat.reduceEqDiff, Nat.reduceAdd, Nat.reduceSub, Nat.reduceMul, Nat.reduceLeDiff, Nat.reduceLT, Nat.reduceMod, Nat.reduceDiv, Int.reduceToNat, Nat.min_eq_left, IntKind.bits, Int.reducePow, Int.reduceLT, Int.reduceLE, Int.reduceEq, Int.reduceNe, Int.reduceAdd, Int.reduceSub, reduceCtorEq, eq_self, implies_true, exists_const, Option.isNone_some, Option.isNone_none, Option.isSome_some, Option.isSome_none, Option.getD_some, Y.c0, X.c1]
    exact Ext.refl _
end
end Go.Proofs.Ytmjbgfflbeibnaa.ti
