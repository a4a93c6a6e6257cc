/-
  May a step be? The document's answer, the program's.
-/
import Derived.Test.YtooimdgoibdhlaaDoorPb
namespace Go.Proofs.YtooimdgoibdhlaaDoor.sc
open Go Go.Proofs.YtooimdgoibdhlaaDoor
set_option linter.unusedVariables false
set_option linter.unusedSimpArgs false
def inn (n m : Int) : Bool := decide (0 ≤ n) && decide (n ≤ m)
abbrev huge : Int := 2147483647
/-- What a step of its kind bears. -/
def only (x : St) : St := (x.1, if x.1 = 1 ∨ x.1 = 5 then x.2.1 else 0, if x.1 = 1 then x.2.2.1 else [], if x.1 = 2 then x.2.2.2.1 else 0, if x.1 = 3 then x.2.2.2.2.1 else (0, 0), if x.1 = 4 then x.2.2.2.2.2 else [])
def mayS (x : St) : Bool := decide (1 ≤ x.1) && (decide (x.1 ≤ 5) && (decide (x = only x) && (inn x.2.1 63 && (decide (x.2.2.1.length ≤ 1048576) && (inn x.2.2.2.1 huge && (inn x.2.2.2.2.1.1 2 && (inn x.2.2.2.2.1.2 huge && ((decide (¬ x.2.2.2.2.1.1 = 0) || decide (x.2.2.2.2.1.2 = 0)) && (decide (x.2.2.2.2.2.length ≤ 4096) && x.2.2.2.2.2.all (inn · huge))))))))))
theorem In_ok (h : H) (n m : Int) : Ok Tryd.prog 48 #[.int .i64 n, .int .i64 m] h fun v h' => v = .bool (inn n m) ∧ h = h' := by
  refine c48_ok (args := [_, _]) (by simp) ?_
  by_cases h1 : 0 ≤ n
  · by_cases h2 : n ≤ m
    · simp (disch := omega) only [dm_t, wS, simprocAttr, IntKind.bits]
      simp [inn, h1, h2]
    · simp (disch := omega) only [dm_t, wS, simprocAttr, IntKind.bits]
      simp [inn, h1, h2]
  · simp (disch := omega) only [dm_t, wS, simprocAttr, IntKind.bits]
    simp [inn, h1]
theorem DIn_ok (h : H) (n m : Int) : Ok Tryd.prog 47 #[.int .i64 n, .int .i64 m] h fun v h' => v = .bool (inn n m) ∧ h = h' := by
  refine c47_ok (args := [_, _]) (by simp) ?_
  by_cases h1 : 0 ≤ n
  · by_cases h2 : n ≤ m
    · simp (disch := omega) only [dm_t, wS, simprocAttr, IntKind.bits]
      simp [inn, h1, h2]
    · simp (disch := omega) only [dm_t, wS, simprocAttr, IntKind.bits]
      simp [inn, h1, h2]
  · simp (disch := omega) only [dm_t, wS, simprocAttr, IntKind.bits]
    simp [inn, h1]
theorem Num_ok (h : H) (n : Int) : Ok Tryd.prog 18 #[.int .i64 n] h fun v h' => v = .int .i64 n ∧ h = h' := by
  refine c18_ok (args := [_]) (by simp) ?_
  simp (disch := omega) only [dm_t, wS, simprocAttr, IntKind.bits]
theorem C1_ok (h : H) (n : Int) : Ok Tryd.prog 50 #[.int .i64 n] h fun v h' => v = .bool (!inn n huge) ∧ h = h' := by
  refine c50_ok (args := [_]) (by simp) ?_
  simp (disch := omega) only [dm_t, wS, simprocAttr, IntKind.bits]
  refine (In_ok h n huge).k ?_
  rintro _ _ ⟨rfl, rfl⟩
  simp (disch := omega) only [dm_t, wS, simprocAttr, IntKind.bits]
theorem IF_ok {S : Nat → Prop} {h : H} {a : Value} {l : List Int} (ha : RepL S tI h a l) (hl : l.length ≤ 4611686018427387904) : Ok Tryd.prog 70 #[a, .func (.func 50) #[] #[]] h fun v h' => (∃ r : Int, v = .int .i64 r ∧ (0 ≤ r ↔ l.all (inn · huge) = false)) ∧ h = h' := by
  obtain ⟨aa, ac, rfl⟩ := ha.len
  have sa := (repI ha).1
  refine c70_ok (args := [_, _]) (by simp) ?_
  simp (disch := omega) only [dm_t, wS, simprocAttr, IntKind.bits]
  refine vc_loop1 (fun vi h' => h' = h ∧ ∃ i : Nat, vi = .int .i64 (i : Int) ∧ i ≤ l.length ∧ ∀ j (hj : j < l.length), j < i → inn l[j] huge = true) (fun vi _ => l.length - m1 vi) ?_ ?_
  · simp (disch := omega) only [dm_t, wS, simprocAttr, IntKind.bits]
    exact ⟨0, rfl, by omega, fun j hj h => by omega⟩
  rintro _ g ⟨rfl, i, rfl, hi, hall⟩
  by_cases hil : i < l.length
  · obtain ⟨b1, o1, i1, t1⟩ := S1.load sa (i := i) (by simpa using hil) .i64
    rw [List.getElem_map] at t1
    simp (disch := omega) only [dm_t, wS, simprocAttr, IntKind.bits, i1, t1]
    refine ⟨by kernel_rfl, (C1_ok g l[i]).k ?_⟩
    rintro _ _ ⟨rfl, rfl⟩
    cases hc : inn l[i] huge with
    | true =>
      simp (disch := omega) only [dm_t, wS, simprocAttr, IntKind.bits, Bool.not_true]
      refine ⟨⟨i + 1, by simp, by omega, fun j hj hji => ?_⟩, by simp [m1]; omega⟩
      by_cases hji' : j = i
      · subst hji'; exact hc
      · exact hall j hj (by omega)
    | false =>
      simp (disch := omega) only [dm_t, wS, simprocAttr, IntKind.bits, Bool.not_false]
      refine ⟨_, rfl, fun _ => ?_, fun _ => by omega⟩
      rw [List.all_eq_false]
      exact ⟨l[i], List.getElem_mem hil, by rw [hc]; simp⟩
  · simp (disch := omega) only [dm_t, wS, simprocAttr, IntKind.bits]
    refine ⟨_, rfl, fun h => absurd h (by omega), fun h => ?_⟩
    obtain ⟨x, hx, hx2⟩ := List.all_eq_false.1 h
    obtain ⟨j, hj, rfl⟩ := List.getElem_of_mem hx
    exact absurd (hall j hj (by omega)) hx2
theorem CF_ok {S : Nat → Prop} {h : H} {a : Value} {l : List Int} (ha : RepL S tI h a l) (hl : l.length ≤ 4611686018427387904) : Ok Tryd.prog 49 #[a, .func (.func 50) #[] #[]] h fun v h' => v = .bool (!l.all (inn · huge)) ∧ h = h' := by
  refine c49_ok (args := [_, _]) (by simp) ?_
  simp (disch := omega) only [dm_t, wS, simprocAttr, IntKind.bits]
  refine (IF_ok ha hl).k ?_
  rintro _ g ⟨⟨r, rfl, hr⟩, rfl⟩
  cases hb : l.all (inn · huge) with
  | true =>
    have : r < 0 := by
      by_cases h0 : 0 ≤ r
      · rw [hr.1 h0] at hb; cases hb
      · omega
    simp (disch := omega) only [dm_t, wS, simprocAttr, IntKind.bits, Bool.not_true]
  | false =>
    have : 0 ≤ r := hr.2 hb
    simp (disch := omega) only [dm_t, wS, simprocAttr, IntKind.bits, Bool.not_false]

/-! ### The document's May -/
theorem inn_T {n m : Int} (h : inn n m = true) : 0 ≤ n ∧ n ≤ m := by simpa [inn] using h
section
variable {S T : Nat → Prop} {h : H}
theorem DMay_s8 {g : H} {x : St} {pa pb : Nat} {v w v' w' : Value} (A : V7 g pa x v w) (B : V7 g pb (only x) v' w') (hx : sB x) (h1 : 1 ≤ x.1) (h5 : x.1 ≤ 5) (hv : By S g v x.2.2.1) (hw : RepL S tI g w x.2.2.2.2.2) (hv' : By S g v' (only x).2.2.1) (hw' : RepL S tI g w' (only x).2.2.2.2.2)
    (hl : x.2.2.2.2.2.length ≤ 4611686018427387904) (hall : x.2.2.2.2.2.all (inn · huge) = true) (E : Ext h g) :
    vc Tryd.prog c19_s8 (retQ [2] (okR fun v h' => v = .bool (mayS x) ∧ Ext h h')) [(1, .pointer (some ⟨pa, 0, none⟩)), (3, .pointer (some ⟨pb, 0, none⟩))] g := by
  have rx : Rep S stT g (sCs x v w) x := rep_st.2 ⟨v, w, rfl, hx, hv, hw⟩
  have hoB : sB (only x) := by
    obtain ⟨b1, b2, b3, b4, b5⟩ := hx
    refine ⟨b1, ?_, ?_, ?_, ?_⟩ <;> (simp only [only]; split <;> first | assumption | exact ⟨by decide, by decide⟩)
  have ry : Rep S stT g (sCs (only x) v' w') (only x) := rep_st.2 ⟨v', w', rfl, hoB, hv', hw'⟩
  have aa := A.all; have ba := B.all
  simp (disch := omega) only [dm_t, wS, simprocAttr, IntKind.bits, aa, ba]
  refine (DSame_ok rx ry hl).k ?_
  rintro _ g3 ⟨rfl, e3⟩
  have A3 := A.ext e3
  have a1 := A3.c1; have a2 := A3.c2; have a3 := A3.c3; have a4 := A3.c4; have a5 := A3.c5; have a6 := A3.c6
  have hk1 : decide (1 ≤ x.1) = true := decide_eq_true h1
  have hk5 : decide (x.1 ≤ 5) = true := decide_eq_true h5
  obtain ⟨va, vc', rfl⟩ := hv.len
  obtain ⟨wa, wc', rfl⟩ := hw.len
  by_cases hs : x = only x
  case neg =>
    rw [decide_eq_false hs]
    simp (disch := omega) only [dm_t, wS, simprocAttr, IntKind.bits, a1, a2, a3, a4, a5, a6]
    exact ⟨by simp [mayS, hk1, hk5, hs], E.trans e3⟩
  rw [decide_eq_true hs]
  simp (disch := omega) only [dm_t, wS, simprocAttr, IntKind.bits, a1, a2, a3, a4, a5, a6]
  refine (DIn_ok g3 x.2.1 63).k ?_
  rintro _ _ ⟨rfl, rfl⟩
  cases c1 : inn x.2.1 63 with
  | false =>
    simp (disch := omega) only [dm_t, wS, simprocAttr, IntKind.bits, a1, a2, a3, a4, a5, a6]
    exact ⟨by simp [mayS, c1], E.trans e3⟩
  | true =>
    by_cases c2 : x.2.2.1.length ≤ 1048576
    case neg =>
      simp (disch := omega) only [dm_t, wS, simprocAttr, IntKind.bits, a1, a2, a3, a4, a5, a6]
      exact ⟨by simp [mayS, c2], E.trans e3⟩
    simp (disch := omega) only [dm_t, wS, simprocAttr, IntKind.bits, a1, a2, a3, a4, a5, a6]
    refine (DIn_ok g3 x.2.2.2.1 huge).k ?_
    rintro _ _ ⟨rfl, rfl⟩
    cases c3 : inn x.2.2.2.1 huge with
    | false =>
      simp (disch := omega) only [dm_t, wS, simprocAttr, IntKind.bits, a1, a2, a3, a4, a5, a6]
      exact ⟨by simp [mayS, c3], E.trans e3⟩
    | true =>
      simp (disch := omega) only [dm_t, wS, simprocAttr, IntKind.bits, a1, a2, a3, a4, a5, a6]
      refine (DIn_ok g3 x.2.2.2.2.1.1 2).k ?_
      rintro _ _ ⟨rfl, rfl⟩
      cases c4 : inn x.2.2.2.2.1.1 2 with
      | false =>
        simp (disch := omega) only [dm_t, wS, simprocAttr, IntKind.bits, a1, a2, a3, a4, a5, a6]
        exact ⟨by simp [mayS, c4], E.trans e3⟩
      | true =>
        simp (disch := omega) only [dm_t, wS, simprocAttr, IntKind.bits, a1, a2, a3, a4, a5, a6]
        refine (DIn_ok g3 x.2.2.2.2.1.2 huge).k ?_
        rintro _ _ ⟨rfl, rfl⟩
        cases c5 : inn x.2.2.2.2.1.2 huge with
        | false =>
          simp (disch := omega) only [dm_t, wS, simprocAttr, IntKind.bits, a1, a2, a3, a4, a5, a6]
          exact ⟨by simp [mayS, c5], E.trans e3⟩
        | true =>
          by_cases c6 : x.2.2.2.2.1.1 = 0 <;> by_cases c7 : x.2.2.2.2.1.2 = 0 <;> by_cases c8 : x.2.2.2.2.2.length ≤ 4096
          all_goals
            simp (disch := omega) only [dm_t, wS, simprocAttr, IntKind.bits, a1, a2, a3, a4, a5, a6, c6, c7]
            exact ⟨by simp only [mayS, hk1, hk5, decide_eq_true hs, decide_eq_true c2, c1, c3, c4, c5, hall]; simp [c6, c7, c8], E.trans e3⟩
theorem DMay_s4 {g : H} {x : St} {pa pb : Nat} {v w v' w' : Value} (A : V7 g pa x v w) (B : V7 g pb (only x) v' w') (hx : sB x) (h1 : 1 ≤ x.1) (h5 : x.1 ≤ 5) (hv : By S g v x.2.2.1) (hw : RepL S tI g w x.2.2.2.2.2) (hv' : By S g v' (only x).2.2.1) (hw' : RepL S tI g w' (only x).2.2.2.2.2)
    (hl : x.2.2.2.2.2.length ≤ 4611686018427387904) (E : Ext h g) :
    vc Tryd.prog c19_s4 (retQ [2] (okR fun v h' => v = .bool (mayS x) ∧ Ext h h')) [(1, .pointer (some ⟨pa, 0, none⟩)), (3, .pointer (some ⟨pb, 0, none⟩))] g := by
  have a6 := A.c6
  have k8 := DMay_s8 (h := h) A B hx h1 h5 hv hw hv' hw' hl
  have sa := (repI hw).1
  obtain ⟨wa, wc', rfl⟩ := hw.len
  simp (disch := omega) only [dm_t, wS, simprocAttr, IntKind.bits]
  refine vc_loop1 (fun vi h' => h' = g ∧ ∃ i : Nat, vi = .int .i64 (i : Int) ∧ i ≤ x.2.2.2.2.2.length ∧ ∀ j (hj : j < x.2.2.2.2.2.length), j < i → inn x.2.2.2.2.2[j] huge = true) (fun vi _ => x.2.2.2.2.2.length - m1 vi) ?_ ?_
  · simp (disch := omega) only [dm_t, wS, simprocAttr, IntKind.bits]
    exact ⟨0, rfl, by omega, fun j hj h => by omega⟩
  rintro _ g' ⟨rfl, i, rfl, hi, hall⟩
  by_cases hil : i < x.2.2.2.2.2.length
  · obtain ⟨b1, o1, i1, t1⟩ := S1.load sa (i := i) (by simpa using hil) .i64
    rw [List.getElem_map] at t1
    simp (disch := omega) only [dm_t, wS, simprocAttr, IntKind.bits, a6, i1, t1]
    refine (DIn_ok g' x.2.2.2.2.2[i] huge).k ?_
    rintro _ _ ⟨rfl, rfl⟩
    cases hc : inn x.2.2.2.2.2[i] huge with
    | true =>
      simp (disch := omega) only [dm_t, wS, simprocAttr, IntKind.bits]
      refine ⟨⟨i + 1, by simp, by omega, fun j hj hji => ?_⟩, by simp [m1]; omega⟩
      by_cases hji' : j = i
      · subst hji'; exact hc
      · exact hall j hj (by omega)
    | false =>
      have : x.2.2.2.2.2.all (inn · huge) = false := by
        rw [List.all_eq_false]
        exact ⟨x.2.2.2.2.2[i], List.getElem_mem hil, by rw [hc]; simp⟩
      simp (disch := omega) only [dm_t, wS, simprocAttr, IntKind.bits]
      exact ⟨by simp [mayS, this], E⟩
  · have k := k8 (List.all_eq_true.2 fun y hy => by
      obtain ⟨j, hj, rfl⟩ := List.getElem_of_mem hy
      exact hall j hj (by omega)) E
    revert k
    simp (disch := omega) only [dm_t, wS, simprocAttr, IntKind.bits, a6]
    exact id
theorem st2 {h : H} {b : Nat} {E : TypeId} {a0 a1 a2 a3 a4 a5 a6 x y : Value} {K : H → Prop} (hx : isCell x = true) (hy : isCell y = true) (hK : K (hupd h b (.cells #[a0, a1, a2, a3, x, y, a6] E))) : storeH (hupd h b (.cells #[a0, a1, a2, a3, a4, a5, a6] E)) ⟨b, 4, none⟩ [x, y] K := by
  refine storeH_in (hupd_same _ _ _) (.inl (Nat.zero_le _)) (by simp) (by simp [hx, hy]) ?_
  rw [hupd_hupd]
  exact hK
theorem DMay_ok {cs : List Value} {x : St} (hx : Rep S stT h cs x) (hl : x.2.2.2.2.2.length ≤ 4611686018427387904) : Ok Tryd.prog 19 #[.agg cs.toArray] h fun v h' => v = .bool (mayS x) ∧ Ext h h' := by
  obtain ⟨v, w, rfl, hb, hv, hw⟩ := rep_st.1 hx
  have wv := Rep.cells (repB.2 hv)
  have ww := Rep.cells hw
  refine c19_ok (args := [_]) (by simp) ?_
  simp (disch := omega) only [dm_t, wS, simprocAttr, IntKind.bits]
  intro pa hpa
  generalize hG : hupd h pa _ = g1
  obtain ⟨e1, qa⟩ := new_ext hG hpa
  clear hG
  have A := V7.mk' qa
  have A' : ∀ {o : Obj} {pb : Nat}, g1 pb = none → V7 (hupd g1 pb o) pa x v w := fun hp => A.ext (Ext.new hp _)
  have a0 := A.c0
  simp (disch := omega) only [dm_t, wS, simprocAttr, IntKind.bits, a0]
  intro pb hpb
  refine (stn_new rfl (by rfl) (by rfl) ?_).2
  have b0 : ∀ o, cellAt (hupd g1 pb o) ⟨pa, 0, none⟩ = some (.int .i64 x.1) := fun o => (A' hpb).c0
  have b1 : ∀ o, cellAt (hupd g1 pb o) ⟨pa, 1, none⟩ = some (.int .i64 x.2.1) := fun o => (A' hpb).c1
  have b2 : ∀ o, cellAt (hupd g1 pb o) ⟨pa, 2, none⟩ = some v := fun o => (A' hpb).c2
  have b3 : ∀ o, cellAt (hupd g1 pb o) ⟨pa, 3, none⟩ = some (.int .i64 x.2.2.2.1) := fun o => (A' hpb).c3
  have b4 : ∀ o, cellsAt (hupd g1 pb o) ⟨pa, 4, none⟩ 2 = some #[.int .i64 x.2.2.2.2.1.1, .int .i64 x.2.2.2.2.1.2] := fun o => (A' hpb).ft
  have b6 : ∀ o, cellsAt (hupd g1 pb o) ⟨pa, 6, none⟩ 1 = some #[w] := fun o => (A' hpb).pk
  have fin : ∀ {g : H} {cs : List Value} {v' w' : Value}, hupd g1 pb (.cells cs.toArray 31) = g → cs = sCs (only x) v' w' → 1 ≤ x.1 → x.1 ≤ 5 → By S h v' (only x).2.2.1 → RepL S tI h w' (only x).2.2.2.2.2 →
      vc Tryd.prog c19_s4 (retQ [2] (okR fun v h' => v = .bool (mayS x) ∧ Ext h h')) [(1, .pointer (some ⟨pa, 0, none⟩)), (3, .pointer (some ⟨pb, 0, none⟩))] g := by
    rintro g cs v' w' hg rfl h1 h5 hv' hw'
    have e2 : Ext g1 g := hg ▸ Ext.new hpb _
    have E := e1.trans e2
    exact DMay_s4 (A.ext e2) (V7.mk' (by rw [← hg]; exact hupd_same _ _ _)) hb h1 h5 (hv.ext E) (hw.ext E) (hv'.ext E) (hw'.ext E) hl E
  obtain ⟨x1, x2, x3, x4, ⟨x5, x6⟩, x7⟩ := x
  simp only at b0 b1 b2 b3 b4 b6 hv hw fin
  have hnil : ∀ {T : Nat → Prop}, RepL T tI h (.slice none 0 0) [] := fun {T} => iRep (xs := []) By.nil (by simp)
  have cv : isCell v = true := by simpa using wv
  have cw : isCell w = true := by simpa using ww
  by_cases k1 : x1 = 1
  · subst k1
    simp (disch := omega) only [dm_t, wS, simprocAttr, IntKind.bits, storeH_same, hupd_hupd, cv, cw, b0, b1, b2, b3, b4, b6]
    generalize hG : hupd g1 pb _ = g2
    have k := fin (v' := v) (w' := .slice none 0 0) hG (by simp [only, sCs]) (by decide) (by decide) hv hnil
    revert k
    simp (disch := omega) only [dm_t, wS, simprocAttr, IntKind.bits]
    exact id
  by_cases k2 : x1 = 2
  · subst k2
    simp (disch := omega) only [dm_t, wS, simprocAttr, IntKind.bits, storeH_same, hupd_hupd, cv, cw, b0, b1, b2, b3, b4, b6]
    generalize hG : hupd g1 pb _ = g2
    have k := fin (v' := .slice none 0 0) (w' := .slice none 0 0) hG (by simp [only, sCs]) (by decide) (by decide) By.nil hnil
    revert k
    simp (disch := omega) only [dm_t, wS, simprocAttr, IntKind.bits]
    exact id
  by_cases k3 : x1 = 3
  · subst k3
    simp (disch := omega) only [dm_t, wS, simprocAttr, IntKind.bits, storeH_same, hupd_hupd, cv, cw, b0, b1, b2, b3, b4, b6]
    refine st2 rfl rfl ?_
    simp (disch := omega) only [dm_t, wS, simprocAttr, IntKind.bits, b0, b1, b2, b3, b4, b6]
    generalize hG : hupd g1 pb _ = g2
    have k := fin (v' := .slice none 0 0) (w' := .slice none 0 0) hG (by simp [only, sCs]) (by decide) (by decide) By.nil hnil
    revert k
    simp (disch := omega) only [dm_t, wS, simprocAttr, IntKind.bits]
    exact id
  by_cases k4 : x1 = 4
  · subst k4
    simp (disch := omega) only [dm_t, wS, simprocAttr, IntKind.bits, storeH_same, hupd_hupd, cv, cw, b0, b1, b2, b3, b4, b6]
    generalize hG : hupd g1 pb _ = g2
    have k := fin (v' := .slice none 0 0) (w' := w) hG (by simp [only, sCs]) (by decide) (by decide) By.nil hw
    revert k
    simp (disch := omega) only [dm_t, wS, simprocAttr, IntKind.bits]
    exact id
  by_cases k5 : x1 = 5
  · subst k5
    simp (disch := omega) only [dm_t, wS, simprocAttr, IntKind.bits, storeH_same, hupd_hupd, cv, cw, b0, b1, b2, b3, b4, b6]
    generalize hG : hupd g1 pb _ = g2
    have k := fin (v' := .slice none 0 0) (w' := .slice none 0 0) hG (by simp [only, sCs]) (by decide) (by decide) By.nil hnil
    revert k
    simp (disch := omega) only [dm_t, wS, simprocAttr, IntKind.bits]
    exact id
  simp (disch := omega) only [dm_t, wS, simprocAttr, IntKind.bits, b0, b1, b2, b3, b4, b6]
  refine ⟨?_, e1.trans (Ext.new hpb _)⟩
  have : mayS (x1, x2, x3, x4, (x5, x6), x7) = false := by
    by_cases h1 : 1 ≤ x1
    · have : ¬ x1 ≤ 5 := by omega
      simp [mayS, this]
    · simp [mayS, h1]
  rw [this]
end
end Go.Proofs.YtooimdgoibdhlaaDoor.sc
namespace Go.Proofs.YtooimdgoibdhlaaDoor.sc
open Go Go.Proofs.YtooimdgoibdhlaaDoor
set_option linter.unusedVariables false
set_option linter.unusedSimpArgs false
def okK (x : St) : Bool := if x.1 = 3 then inn x.2.2.2.2.1.1 2 && (inn x.2.2.2.2.1.2 huge && (decide (¬ x.2.2.2.2.1.1 = 0) || decide (x.2.2.2.2.1.2 = 0)))
  else if x.1 = 4 then decide (x.2.2.2.2.2.length ≤ 4096) && x.2.2.2.2.2.all (inn · huge) else decide (x.1 = 1 ∨ x.1 = 2 ∨ x.1 = 5)
theorem okK_may (x : St) : (okK x && (decide (x = only x) && (inn x.2.1 63 && (inn x.2.2.2.1 huge && decide (x.2.2.1.length ≤ 1048576))))) = mayS x := by
  by_cases ho : x = only x
  case neg => simp [mayS, ho]
  obtain ⟨x1, x2, x3, x4, ⟨x5, x6⟩, x7⟩ := x
  simp only [only, Prod.mk.injEq, true_and] at ho
  obtain ⟨h2, h3, h4, h5, h7⟩ := ho
  have ho : (x1, x2, x3, x4, (x5, x6), x7) = only (x1, x2, x3, x4, (x5, x6), x7) := by
    simp only [only, Prod.mk.injEq, true_and]
    exact ⟨h2, h3, h4, h5, h7⟩
  have i0 : inn 0 2 = true := by decide
  have i1 : inn 0 huge = true := by decide
  have i2 : inn 0 63 = true := by decide
  simp only [mayS, okK, decide_eq_true ho, Bool.true_and]
  by_cases k1 : x1 = 1
  · subst k1
    simp only [reduceCtorEq, Int.reduceEq, if_false, if_true, or_false, false_or, true_or, or_true] at h2 h3 h4 h5 h7 ⊢
    simp only [Prod.mk.injEq] at h5
    obtain ⟨rfl, rfl⟩ := h5
    subst h4 h7
    simp [i0, i1]
  by_cases k2 : x1 = 2
  · subst k2
    simp only [reduceCtorEq, Int.reduceEq, if_false, if_true, or_false, false_or, true_or, or_true] at h2 h3 h4 h5 h7 ⊢
    simp only [Prod.mk.injEq] at h5
    obtain ⟨rfl, rfl⟩ := h5
    subst h2 h3 h7
    simp [i0, i1, i2]
  by_cases k3 : x1 = 3
  · subst k3
    simp only [reduceCtorEq, Int.reduceEq, if_false, if_true, or_false, false_or, true_or, or_true] at h2 h3 h4 h5 h7 ⊢
    subst h2 h3 h4 h7
    simp [i0, i1, i2]
  by_cases k4 : x1 = 4
  · subst k4
    simp only [reduceCtorEq, Int.reduceEq, if_false, if_true, or_false, false_or, true_or, or_true] at h2 h3 h4 h5 h7 ⊢
    simp only [Prod.mk.injEq] at h5
    obtain ⟨rfl, rfl⟩ := h5
    subst h2 h3 h4
    simp [i0, i1, i2]
  by_cases k5 : x1 = 5
  · subst k5
    simp only [reduceCtorEq, Int.reduceEq, if_false, if_true, or_false, false_or, true_or, or_true] at h2 h3 h4 h5 h7 ⊢
    simp only [Prod.mk.injEq] at h5
    obtain ⟨rfl, rfl⟩ := h5
    subst h3 h4 h7
    simp [i0, i1, i2]
  rw [if_neg k3, if_neg k4, decide_eq_false (by omega), Bool.false_and]
  by_cases l1 : 1 ≤ x1
  · have : ¬ x1 ≤ 5 := by omega
    simp [this]
  · simp [l1]
section
variable {S T : Nat → Prop} {h : H}
theorem Check_s6 {g : H} {x : St} {pa pb : Nat} {v w v' w' : Value} {ok : Bool} (A : V7 g pa x v w) (B : V7 g pb (only x) v' w') (hx : sB x) (hok : ok = okK x) (hv : By S g v x.2.2.1) (hw : RepL S tI g w x.2.2.2.2.2) (hv' : By S g v' (only x).2.2.1) (hw' : RepL S tI g w' (only x).2.2.2.2.2)
    (hl : x.2.2.2.2.2.length ≤ 4611686018427387904) (E : Ext h g) :
    vc Tryd.prog c20_s6 (retQ [2] (okR fun v h' => v = .int .i64 (if mayS x = true then 0 else 2) ∧ Ext h h')) [(1, .pointer (some ⟨pa, 0, none⟩)), (3, .pointer (some ⟨pb, 0, none⟩)), (4, .bool ok)] g := by
  have rx : Rep S stT g (sCs x v w) x := rep_st.2 ⟨v, w, rfl, hx, hv, hw⟩
  have hoB : sB (only x) := by
    obtain ⟨b1, b2, b3, b4, b5⟩ := hx
    refine ⟨b1, ?_, ?_, ?_, ?_⟩ <;> (simp only [only]; split <;> first | assumption | exact ⟨by decide, by decide⟩)
  have ry : Rep S stT g (sCs (only x) v' w') (only x) := rep_st.2 ⟨v', w', rfl, hoB, hv', hw'⟩
  have aa := A.all; have ba := B.all
  rw [← okK_may x, ← hok]
  obtain ⟨va, vc', rfl⟩ := hv.len
  cases ok with
  | false =>
    simp (disch := omega) only [dm_t, wS, simprocAttr, IntKind.bits]
    exact ⟨by simp, E⟩
  | true =>
    simp (disch := omega) only [dm_t, wS, simprocAttr, IntKind.bits, aa, ba]
    refine (Same_ok rx ry hl).k ?_
    rintro _ g3 ⟨rfl, e3⟩
    have A3 := A.ext e3
    have a1 := A3.c1; have a2 := A3.c2; have a3 := A3.c3
    by_cases hs : x = only x
    case neg =>
      rw [decide_eq_false hs]
      simp (disch := omega) only [dm_t, wS, simprocAttr, IntKind.bits, a1, a2, a3]
      exact ⟨by simp [hs], E.trans e3⟩
    rw [decide_eq_true hs]
    simp (disch := omega) only [dm_t, wS, simprocAttr, IntKind.bits, a1, a2, a3]
    refine (In_ok g3 x.2.1 63).k ?_
    rintro _ _ ⟨rfl, rfl⟩
    cases c1 : inn x.2.1 63 with
    | false =>
      simp (disch := omega) only [dm_t, wS, simprocAttr, IntKind.bits, a1, a2, a3]
      exact ⟨by simp, E.trans e3⟩
    | true =>
      simp (disch := omega) only [dm_t, wS, simprocAttr, IntKind.bits, a1, a2, a3]
      refine (In_ok g3 x.2.2.2.1 huge).k ?_
      rintro _ _ ⟨rfl, rfl⟩
      cases c3 : inn x.2.2.2.1 huge with
      | false =>
        simp (disch := omega) only [dm_t, wS, simprocAttr, IntKind.bits, a1, a2, a3]
        exact ⟨by simp, E.trans e3⟩
      | true =>
        by_cases c2 : x.2.2.1.length ≤ 1048576
        · simp (disch := omega) only [dm_t, wS, simprocAttr, IntKind.bits, a1, a2, a3]
          exact ⟨by simp [c2], E.trans e3⟩
        · simp (disch := omega) only [dm_t, wS, simprocAttr, IntKind.bits, a1, a2, a3]
          exact ⟨by simp [c2], E.trans e3⟩
theorem Check_k3 {Q : Post} {g2 : H} {pa pb : Nat} {x5 x6 : Int} (d5 : cellAt g2 ⟨pa, 4, none⟩ = some (.int .i64 x5)) (d7 : cellAt g2 ⟨pa, 5, none⟩ = some (.int .i64 x6))
    (fin : ∀ {ok : Bool}, ok = (inn x5 2 && (inn x6 huge && (decide (¬ x5 = 0) || decide (x6 = 0)))) → vc Tryd.prog c20_s6 Q [(1, .pointer (some ⟨pa, 0, none⟩)), (3, .pointer (some ⟨pb, 0, none⟩)), (4, .bool ok)] g2) :
    vc Tryd.prog c20_s4 (blockQ 0 (seqQ Tryd.prog [1, 3, 4] c20_s6 Q)) [(1, .pointer (some ⟨pa, 0, none⟩)), (3, .pointer (some ⟨pb, 0, none⟩))] g2 := by
  simp (disch := omega) only [dm_t, wS, simprocAttr, IntKind.bits, d5]
  refine (In_ok g2 x5 2).k ?_
  rintro _ _ ⟨rfl, rfl⟩
  cases c4 : inn x5 2 with
  | false =>
    have k := fin (ok := false) (by simp [c4])
    revert k
    simp (disch := omega) only [dm_t, wS, simprocAttr, IntKind.bits]
    exact id
  | true =>
    simp (disch := omega) only [dm_t, wS, simprocAttr, IntKind.bits, d5, d7]
    refine (In_ok g2 x6 huge).k ?_
    rintro _ _ ⟨rfl, rfl⟩
    cases c5 : inn x6 huge with
    | false =>
      have k := fin (ok := false) (by simp [c5])
      revert k
      simp (disch := omega) only [dm_t, wS, simprocAttr, IntKind.bits]
      exact id
    | true =>
      by_cases c6 : x5 = 0
      · by_cases c7 : x6 = 0
        · have k := fin (ok := true) (by rw [c4, c5]; simp [c7])
          revert k
          simp (disch := omega) only [dm_t, wS, simprocAttr, IntKind.bits, d5, d7, c6, c7]
          exact id
        · have k := fin (ok := false) (by rw [c4, c5]; simp [c6, c7])
          revert k
          simp (disch := omega) only [dm_t, wS, simprocAttr, IntKind.bits, d5, d7, c6, c7]
          exact id
      · have k := fin (ok := true) (by rw [c4, c5]; simp [c6])
        revert k
        simp (disch := omega) only [dm_t, wS, simprocAttr, IntKind.bits, d5, d7, c6]
        exact id
theorem Check_ok {cs : List Value} {x : St} (hx : Rep S stT h cs x) (hl : x.2.2.2.2.2.length ≤ 4611686018427387904) : Ok Tryd.prog 20 #[.agg cs.toArray] h fun v h' => v = .int .i64 (if mayS x = true then 0 else 2) ∧ Ext h h' := by
  obtain ⟨v, w, rfl, hb, hv, hw⟩ := rep_st.1 hx
  have wv := Rep.cells (repB.2 hv)
  have ww := Rep.cells hw
  refine c20_ok (args := [_]) (by simp) ?_
  simp (disch := omega) only [dm_t, wS, simprocAttr, IntKind.bits]
  intro pa hpa
  generalize hG : hupd h pa _ = g1
  obtain ⟨e1, qa⟩ := new_ext hG hpa
  clear hG
  have A := V7.mk' qa
  have A' : ∀ {o : Obj} {pb : Nat}, g1 pb = none → V7 (hupd g1 pb o) pa x v w := fun hp => A.ext (Ext.new hp _)
  have a0 := A.c0
  simp (disch := omega) only [dm_t, wS, simprocAttr, IntKind.bits, a0]
  intro pb hpb
  refine (stn_new rfl (by rfl) (by rfl) ?_).2
  have b0 : ∀ o, cellAt (hupd g1 pb o) ⟨pa, 0, none⟩ = some (.int .i64 x.1) := fun o => (A' hpb).c0
  have b1 : ∀ o, cellAt (hupd g1 pb o) ⟨pa, 1, none⟩ = some (.int .i64 x.2.1) := fun o => (A' hpb).c1
  have b2 : ∀ o, cellAt (hupd g1 pb o) ⟨pa, 2, none⟩ = some v := fun o => (A' hpb).c2
  have b3 : ∀ o, cellAt (hupd g1 pb o) ⟨pa, 3, none⟩ = some (.int .i64 x.2.2.2.1) := fun o => (A' hpb).c3
  have b4 : ∀ o, cellsAt (hupd g1 pb o) ⟨pa, 4, none⟩ 2 = some #[.int .i64 x.2.2.2.2.1.1, .int .i64 x.2.2.2.2.1.2] := fun o => (A' hpb).ft
  have b5 : ∀ o, cellAt (hupd g1 pb o) ⟨pa, 4, none⟩ = some (.int .i64 x.2.2.2.2.1.1) := fun o => (A' hpb).c4
  have b7 : ∀ o, cellAt (hupd g1 pb o) ⟨pa, 5, none⟩ = some (.int .i64 x.2.2.2.2.1.2) := fun o => (A' hpb).c5
  have b6 : ∀ o, cellsAt (hupd g1 pb o) ⟨pa, 6, none⟩ 1 = some #[w] := fun o => (A' hpb).pk
  have b8 : ∀ o, cellAt (hupd g1 pb o) ⟨pa, 6, none⟩ = some w := fun o => (A' hpb).c6
  have fin : ∀ {g : H} {cs : List Value} {v' w' : Value} {ok : Bool}, hupd g1 pb (.cells cs.toArray 31) = g → cs = sCs (only x) v' w' → ok = okK x → By S h v' (only x).2.2.1 → RepL S tI h w' (only x).2.2.2.2.2 →
      vc Tryd.prog c20_s6 (retQ [2] (okR fun v h' => v = .int .i64 (if mayS x = true then 0 else 2) ∧ Ext h h')) [(1, .pointer (some ⟨pa, 0, none⟩)), (3, .pointer (some ⟨pb, 0, none⟩)), (4, .bool ok)] g := by
    rintro g cs v' w' ok hg rfl hok hv' hw'
    have e2 : Ext g1 g := hg ▸ Ext.new hpb _
    have E := e1.trans e2
    exact Check_s6 (A.ext e2) (V7.mk' (by rw [← hg]; exact hupd_same _ _ _)) hb hok (hv.ext E) (hw.ext E) (hv'.ext E) (hw'.ext E) hl E
  obtain ⟨x1, x2, x3, x4, ⟨x5, x6⟩, x7⟩ := x
  simp only at b0 b1 b2 b3 b4 b5 b6 b7 b8 hv hw fin
  have hnil : ∀ {T : Nat → Prop}, RepL T tI h (.slice none 0 0) [] := fun {T} => iRep (xs := []) By.nil (by simp)
  have cv : isCell v = true := by simpa using wv
  have cw : isCell w = true := by simpa using ww
  by_cases k1 : x1 = 1
  · subst k1
    simp (disch := omega) only [dm_t, wS, simprocAttr, IntKind.bits, storeH_same, hupd_hupd, cv, cw, b0, b1, b2, b3, b4, b6]
    generalize hG : hupd g1 pb _ = g2
    have k := fin (ok := true) (v' := v) (w' := .slice none 0 0) hG (by simp [only, sCs]) (by simp [okK]) hv hnil
    revert k
    simp (disch := omega) only [dm_t, wS, simprocAttr, IntKind.bits]
    exact id
  by_cases k2 : x1 = 2
  · subst k2
    simp (disch := omega) only [dm_t, wS, simprocAttr, IntKind.bits, storeH_same, hupd_hupd, cv, cw, b0, b1, b2, b3, b4, b6]
    generalize hG : hupd g1 pb _ = g2
    have k := fin (ok := true) (v' := .slice none 0 0) (w' := .slice none 0 0) hG (by simp [only, sCs]) (by simp [okK]) By.nil hnil
    revert k
    simp (disch := omega) only [dm_t, wS, simprocAttr, IntKind.bits]
    exact id
  by_cases k5 : x1 = 5
  · subst k5
    simp (disch := omega) only [dm_t, wS, simprocAttr, IntKind.bits, storeH_same, hupd_hupd, cv, cw, b0, b1, b2, b3, b4, b6]
    generalize hG : hupd g1 pb _ = g2
    have k := fin (ok := true) (v' := .slice none 0 0) (w' := .slice none 0 0) hG (by simp [only, sCs]) (by simp [okK]) By.nil hnil
    revert k
    simp (disch := omega) only [dm_t, wS, simprocAttr, IntKind.bits]
    exact id
  by_cases k3 : x1 = 3
  · subst k3
    simp (disch := omega) only [dm_t, wS, simprocAttr, IntKind.bits, storeH_same, hupd_hupd, cv, cw, b0, b1, b2, b3, b4, b6]
    refine st2 rfl rfl ?_
    simp (disch := omega) only [dm_t, wS, simprocAttr, IntKind.bits, b5, b7]
    generalize hG : hupd g1 pb _ = g2
    have k := Check_k3 (Q := retQ [2] (okR fun v h' => v = .int .i64 (if mayS (3, x2, x3, x4, (x5, x6), x7) = true then 0 else 2) ∧ Ext h h')) (pb := pb) (g2 := g2) (hG ▸ b5 _) (hG ▸ b7 _) fun {ok} hok => fin (ok := ok) (v' := .slice none 0 0) (w' := .slice none 0 0) hG (by simp [only, sCs]) (by rw [hok]; simp [okK]) By.nil hnil
    have d5 : cellAt g2 ⟨pa, 4, none⟩ = some (.int .i64 x5) := hG ▸ b5 _
    revert k
    simp (disch := omega) only [dm_t, wS, simprocAttr, IntKind.bits, d5]
    exact id
  by_cases k4 : x1 = 4
  · subst k4
    obtain ⟨wa, wc', rfl⟩ := hw.len
    have hG0 : ∀ o, RepL S tI (hupd g1 pb o) (.slice wa x7.length wc') x7 := fun o => hw.ext (e1.trans (Ext.new hpb _))
    by_cases c8 : x7.length ≤ 4096
    · simp (disch := omega) only [dm_t, wS, simprocAttr, IntKind.bits, storeH_same, hupd_hupd, cv, cw, b0, b1, b2, b3, b4, b6, b8]
      refine (CF_ok (hG0 _) hl).k ?_
      rintro _ _ ⟨rfl, rfl⟩
      generalize hG : hupd g1 pb _ = g2
      have fin2 : ∀ {ok : Bool}, ok = okK (4, x2, x3, x4, (x5, x6), x7) → _ := fun h => fin (v' := .slice none 0 0) (w' := .slice wa x7.length wc') hG (by simp [only, sCs]) h By.nil hw
      have k := fin2 rfl
      simp only [okK, Int.reduceEq, if_false, if_true, decide_eq_true c8, Bool.true_and] at k
      cases hc : x7.all (inn · huge) with
      | true =>
        rw [hc] at k
        revert k
        simp (disch := omega) only [dm_t, wS, simprocAttr, IntKind.bits, Bool.not_true, Bool.not_false]
        exact id
      | false =>
        rw [hc] at k
        revert k
        simp (disch := omega) only [dm_t, wS, simprocAttr, IntKind.bits, Bool.not_true, Bool.not_false]
        exact id
    · simp (disch := omega) only [dm_t, wS, simprocAttr, IntKind.bits, storeH_same, hupd_hupd, cv, cw, b0, b1, b2, b3, b4, b6, b8]
      generalize hG : hupd g1 pb _ = g2
      have k := fin (ok := false) (v' := .slice none 0 0) (w' := .slice wa x7.length wc') hG (by simp [only, sCs]) (by simp [okK, c8]) By.nil hw
      revert k
      simp (disch := omega) only [dm_t, wS, simprocAttr, IntKind.bits]
      exact id
  have : mayS (x1, x2, x3, x4, (x5, x6), x7) = false := by
    by_cases h1 : 1 ≤ x1
    · have : ¬ x1 ≤ 5 := by omega
      simp [mayS, this]
    · simp [mayS, h1]
  rw [this]
  simp (disch := omega) only [dm_t, wS, simprocAttr, IntKind.bits, b0, b1, b2, b3, b4, b6]
  exact e1.trans (Ext.new hpb _)
end
end Go.Proofs.YtooimdgoibdhlaaDoor.sc
