/-
  Lines of a text, plain.
-/
import Derived.Test.YtooimdgoibdhlaaDoorPt
import Derived.Test.YtooimdgoibdhlaaDoorPz
namespace Go.Proofs.YtooimdgoibdhlaaDoor.sc
open Go Go.Proofs.YtooimdgoibdhlaaDoor Go.RowKit
set_option linter.unusedVariables false
set_option linter.unusedSimpArgs false
abbrev no10 (l : List UInt8) : Prop := ∀ c ∈ l, c.toNat ≠ 10
def cut10 : List UInt8 → Option (List UInt8 × List UInt8)
  | [] => none
  | c :: r => if c.toNat = 10 then some ([], r) else (cut10 r).map fun p => (c :: p.1, p.2)
theorem cut10_app : ∀ {a b : List UInt8}, no10 a → cut10 (a ++ 10 :: b) = some (a, b)
  | [], b, _ => by simp [cut10]
  | c :: a, b, h => by
    have hc := h c (by simp)
    rw [List.cons_append, cut10, if_neg hc, cut10_app fun x hx => h x (by simp [hx])]; rfl
theorem cut10_no : ∀ {t : List UInt8}, no10 t → cut10 t = none
  | [], _ => rfl
  | c :: t, h => by rw [cut10, if_neg (h c (by simp)), cut10_no fun x hx => h x (by simp [hx])]; rfl
theorem cut10_none : ∀ {t : List UInt8}, cut10 t = none → no10 t
  | [], _ => fun c hc => absurd hc List.not_mem_nil
  | c :: t, h => by
    rw [cut10] at h
    split at h
    · cases h
    · rename_i hc
      have := cut10_none (t := t) (by simpa using h)
      intro x hx
      rcases List.mem_cons.1 hx with rfl | hx
      · exact hc
      · exact this x hx
theorem cut10_some : ∀ {t a b : List UInt8}, cut10 t = some (a, b) → no10 a ∧ t = a ++ 10 :: b
  | [], a, b, h => by cases h
  | c :: t, a, b, h => by
    rw [cut10] at h
    split at h
    · rename_i hc
      simp only [Option.some.injEq, Prod.mk.injEq] at h
      obtain ⟨rfl, rfl⟩ := h
      exact ⟨fun c hc => absurd hc List.not_mem_nil, by rw [List.nil_append, show c = 10 from UInt8.toNat_inj.1 hc]⟩
    · rename_i hc
      rw [Option.map_eq_some_iff] at h
      obtain ⟨⟨x, y⟩, h1, h2⟩ := h
      simp only [Prod.mk.injEq] at h2
      obtain ⟨rfl, rfl⟩ := h2
      obtain ⟨h3, h4⟩ := cut10_some h1
      refine ⟨fun z hz => ?_, by rw [h4]; rfl⟩
      rcases List.mem_cons.1 hz with rfl | hz
      · exact hc
      · exact h3 z hz
theorem cut10_len {t a b : List UInt8} (h : cut10 t = some (a, b)) : t.length = a.length + 1 + b.length := by
  rw [(cut10_some h).2]; simp; omega
theorem index10 : ∀ t : List UInt8, Lib.index t [10] = match cut10 t with | none => -1 | some p => (p.1.length : Int)
  | [] => rfl
  | c :: t => by
    rw [Lib.index, cut10]
    by_cases hc : c.toNat = 10
    · have : c = 10 := UInt8.toNat_inj.1 hc
      subst this
      simp
    · have hc' : c ≠ 10 := fun h => hc (by rw [h]; rfl)
      have h1 : ([10] : List UInt8).isPrefixOf (c :: t) = false := by
        simp only [List.isPrefixOf, Bool.and_true, beq_eq_false_iff_ne]; exact fun h => hc' h.symm
      rw [h1, if_neg hc, index10 t]
      simp only [Bool.false_eq_true, if_false]
      cases h : cut10 t with
      | none => simp
      | some p =>
        simp only [Option.map_some]
        have : ((p.1.length : Int) == -1) = false := by rw [beq_eq_false_iff_ne]; omega
        rw [this]; simp
theorem cut_lib (t : List UInt8) : Lib.cut t [10] = match cut10 t with | none => (t, [], false) | some p => (p.1, p.2, true) := by
  unfold Lib.cut
  rw [index10]
  cases h : cut10 t with
  | none => rfl
  | some p =>
    obtain ⟨a, b⟩ := p
    obtain ⟨h1, rfl⟩ := cut10_some h
    simp only
    rw [if_pos (by omega), Int.toNat_natCast]
    simp
/-- How many lines. -/
def nls (t : List UInt8) : Nat := t.count 10 + (if t = [] ∨ t.getLast? = some 10 then 0 else 1)
theorem nls_nil : nls [] = 0 := by simp [nls]
theorem count_no {t : List UInt8} (h : no10 t) : t.count 10 = 0 := List.count_eq_zero.2 fun hm => h 10 hm rfl
theorem nls_no {t : List UInt8} (h : no10 t) (hn : t ≠ []) : nls t = 1 := by
  unfold nls
  rw [count_no h, if_neg]
  rintro (h1 | h1)
  · exact hn h1
  · exact h 10 (List.mem_of_getLast? h1) rfl
theorem nls_cut {a b : List UInt8} (h : no10 a) : nls (a ++ 10 :: b) = 1 + nls b := by
  unfold nls
  rw [List.count_append, count_no h, List.count_cons_self]
  cases b with
  | nil => simp
  | cons c r =>
    rw [List.getLast?_append, List.getLast?_cons_cons]
    have : (c :: r).getLast?.isSome := by simp
    obtain ⟨z, hz⟩ := Option.isSome_iff_exists.1 this
    rw [hz]
    simp
    omega
theorem nls_zero {t : List UInt8} (h : nls t = 0) : t = [] := by
  unfold nls at h
  by_cases ht : t = []
  · exact ht
  · by_cases hl : t.getLast? = some 10
    · have := List.count_pos_iff.2 (List.mem_of_getLast? hl)
      omega
    · rw [if_neg (by simp [ht, hl])] at h
      omega
theorem nls_le : ∀ t : List UInt8, nls t ≤ t.length := by
  suffices H : ∀ n (t : List UInt8), t.length ≤ n → nls t ≤ t.length from fun t => H _ t (Nat.le_refl _)
  intro n
  induction n with
  | zero => intro t ht; have : t = [] := List.length_eq_zero_iff.1 (by omega); rw [this, nls_nil]; exact Nat.zero_le _
  | succ n ih =>
    intro t ht
    cases h : cut10 t with
    | none =>
      by_cases hn : t = []
      · rw [hn, nls_nil]; exact Nat.zero_le _
      · rw [nls_no (cut10_none h) hn]; exact List.length_pos_iff.2 hn
    | some p =>
      obtain ⟨a, b⟩ := p
      have hl := cut10_len h
      obtain ⟨h1, h2⟩ := cut10_some h
      have := ih b (by omega)
      rw [hl, h2, nls_cut h1]; omega
/-- The steps with which a text begins, at most k; what is left. -/
noncomputable def scn : Nat → List UInt8 → List St × List UInt8
  | 0, t => ([], t)
  | k + 1, t => match cut10 t with
    | none => ([], t)
    | some p => if (rdS p.1).2 = 0 then ((rdS p.1).1 :: (scn k p.2).1, (scn k p.2).2) else ([], t)
theorem scn_no {k : Nat} {t : List UInt8} (h : cut10 t = none) : scn k t = ([], t) := by
  cases k with
  | zero => rfl
  | succ k => rw [scn, h]
theorem scn_bad {k : Nat} {t : List UInt8} {p : List UInt8 × List UInt8} (h : cut10 t = some p) (he : (rdS p.1).2 ≠ 0) : scn k t = ([], t) := by
  cases k with
  | zero => rfl
  | succ k => rw [scn, h]; simp only; rw [if_neg he]
theorem scn_yes {k : Nat} {t : List UInt8} {p : List UInt8 × List UInt8} (h : cut10 t = some p) (he : (rdS p.1).2 = 0) : scn (k + 1) t = ((rdS p.1).1 :: (scn k p.2).1, (scn k p.2).2) := by
  rw [scn, h]; simp only; rw [if_pos he]
theorem scn_len : ∀ (k : Nat) (t : List UInt8), (scn k t).1.length ≤ k ∧ (scn k t).1.length + (scn k t).2.length ≤ t.length
  | 0, t => by simp [scn]
  | k + 1, t => by
    cases h : cut10 t with
    | none => rw [scn_no h]; simp
    | some p =>
      by_cases he : (rdS p.1).2 = 0
      · have hl := cut10_len h
        obtain ⟨h1, h2⟩ := scn_len k p.2
        rw [scn_yes h he]
        simp only [List.length_cons]
        omega
      · rw [scn_bad h he]; simp
theorem scn_nls : ∀ (k : Nat) (t : List UInt8), nls t ≤ k → (scn k t).1.length ≤ nls t ∧ ((scn k t).2 = [] ↔ (scn k t).1.length = nls t)
  | 0, t, h => by
    have := nls_zero (t := t) (by omega)
    subst this
    simp [scn, nls_nil]
  | k + 1, t, h => by
    cases hc : cut10 t with
    | none =>
      rw [scn_no hc]
      by_cases hn : t = []
      · subst hn; simp [nls_nil]
      · rw [nls_no (cut10_none hc) hn]; simp [hn]
    | some p =>
      obtain ⟨a, b⟩ := p
      obtain ⟨h1, h2⟩ := cut10_some hc
      have hn : nls t = 1 + nls b := by rw [h2, nls_cut h1]
      by_cases he : (rdS a).2 = 0
      · obtain ⟨h3, h4⟩ := scn_nls k b (by omega)
        rw [scn_yes hc he, hn]
        simp only [List.length_cons]
        refine ⟨by omega, h4.trans ⟨fun h => by omega, fun h => by omega⟩⟩
      · rw [scn_bad hc he, hn]
        simp only [List.length_nil]
        refine ⟨by omega, fun h => ?_, fun h => by omega⟩
        rw [h] at hc; cases hc
/-- The steps a going over tells; what Parse answers. -/
noncomputable def goS (t : List UInt8) : List St := if 1048576 < t.length then [] else (scn 65536 t).1
noncomputable def prs (t : List UInt8) : List St × Int × Int :=
  if 1048576 < t.length ∨ 65536 < nls t then ([], 0, 3) else
  if (scn 65536 t).2 = [] then ((scn 65536 t).1, ((scn 65536 t).1.length : Int), 0) else ([], ((scn 65536 t).1.length : Int), 390)
/-- Behind the first l. -/
def Wk (t : List UInt8) (l : List St) (r : List UInt8) : Prop := l.length ≤ 65536 ∧ scn 65536 t = (l ++ (scn (65536 - l.length) r).1, (scn (65536 - l.length) r).2) ∧ r.length ≤ t.length
theorem wk0 (t : List UInt8) : Wk t [] t := ⟨by decide, by simp, Nat.le_refl _⟩
theorem Wk.end_no {t r : List UInt8} {l : List St} (w : Wk t l r) (h : cut10 r = none) : scn 65536 t = (l, r) := by rw [w.2.1, scn_no h]; simp
theorem Wk.end_bad {t r : List UInt8} {l : List St} (w : Wk t l r) {p : List UInt8 × List UInt8} (h : cut10 r = some p) (he : (rdS p.1).2 ≠ 0) : scn 65536 t = (l, r) := by rw [w.2.1, scn_bad h he]; simp
theorem Wk.end_max {t r : List UInt8} {l : List St} (w : Wk t l r) (h : l.length = 65536) : scn 65536 t = (l, r) := by rw [w.2.1, h]; simp [scn]
theorem Wk.step {t r : List UInt8} {l : List St} (w : Wk t l r) (hl : l.length < 65536) {p : List UInt8 × List UInt8} (h : cut10 r = some p) (he : (rdS p.1).2 = 0) : Wk t (l ++ [(rdS p.1).1]) p.2 := by
  obtain ⟨h1, h2, h3⟩ := w
  have hk : 65536 - l.length = (65536 - (l.length + 1)) + 1 := by omega
  refine ⟨by rw [List.length_append, List.length_singleton]; omega, ?_, by have := cut10_len h; omega⟩
  rw [h2, hk, scn_yes h he, List.length_append, List.length_singleton]
  simp
end Go.Proofs.YtooimdgoibdhlaaDoor.sc
namespace Go.Proofs.YtooimdgoibdhlaaDoor.sc
open Go Go.Proofs.YtooimdgoibdhlaaDoor Go.RowKit
set_option linter.unusedVariables false
set_option linter.unusedSimpArgs false
theorem drew_hp (w : World) (n : Nat) : hp (w.drewN n) = hp w := rfl
theorem Count_ok (h : H) (t : List UInt8) : Ok Tryd.prog 52 #[sv t, sv [10]] h fun v h' => v = .int .i64 ((t.count 10 : Nat) : Int) ∧ h = h' := by
  refine ok_below fun w hw => ?_
  subst hw
  refine (Tryd.strings_Count_one ⟨t.toArray⟩ 10 w).mono ?_
  rintro e w' ⟨rfl, rfl⟩
  exact ⟨_, rfl, Below.refl _ _, rfl, rfl⟩
theorem Suf_ok (h : H) (t : List UInt8) (hl : t.length ≤ 9223372036854775807) : Ok Tryd.prog 53 #[sv t, sv [10]] h fun v h' => v = .bool (decide (t.getLast? = some 10)) ∧ h = h' := by
  refine ok_below fun w hw => ?_
  subst hw
  refine (Tryd.strings_HasSuffix ⟨t.toArray⟩ ⟨#[10]⟩ w hl).mono ?_
  rintro e w' ⟨rfl, rfl⟩
  refine ⟨_, rfl, Below.refl _ _, ?_, rfl⟩
  have : Lib.hasSuffix t [10] = decide (t.getLast? = some 10) := by
    unfold Lib.hasSuffix
    rw [Bool.eq_iff_iff, List.isSuffixOf_iff_suffix, decide_eq_true_iff]
    constructor
    · rintro ⟨a, rfl⟩; simp
    · intro h
      obtain ⟨a, ha⟩ := List.getLast?_eq_some_iff.1 h
      exact ⟨a, ha.symm⟩
  show Value.bool (Lib.hasSuffix t [10]) = _
  rw [this]
theorem Cut_ok {h : H} (G : GL h) (t : List UInt8) (hl : t.length < 4294967281) : Ok Tryd.prog 55 #[sv t, sv [10]] h fun v h' => (v = match cut10 t with | none => .tuple #[sv t, sv [], .bool false] | some p => .tuple #[sv p.1, sv p.2, .bool true]) ∧ h = h' := by
  obtain ⟨m, hm⟩ := G.mx
  refine ok_below fun w hw => ?_
  subst hw
  refine (Tryd.strings_Cut ⟨t.toArray⟩ ⟨#[10]⟩ m w hl ((cellAt_hp w _).symm.trans hm)).mono ?_
  rintro e w' ⟨rfl, n, rfl⟩
  refine ⟨_, rfl, ⟨rfl, rfl, rfl, Nat.le_refl _, fun b hb => rfl⟩, ?_, rfl⟩
  show Value.tuple #[sv (Lib.cut t [10]).1, sv (Lib.cut t [10]).2.1, .bool (Lib.cut t [10]).2.2] = _
  rw [cut_lib]
  cases cut10 t <;> rfl

/-! ### Lists -/
section
variable {S T : Nat → Prop} {h : H}
theorem lists_ok {v w : Value} {l : List St} (r : RepL S stT h v l) (q : RepL T stT h w l) (hl : l.length ≤ 4611686018427387904) (hp : ∀ x ∈ l, x.2.2.2.2.2.length ≤ 4611686018427387904) :
    Ok Tryd.prog 24 #[v, w] h fun v h' => v = .bool true ∧ Ext h h' := by
  obtain ⟨va, vc', rfl⟩ := r.len
  obtain ⟨wa, wc', rfl⟩ := q.len
  refine c24_ok (args := [_, _]) (by simp) ?_
  simp (disch := omega) only [dm_t, wS, simprocAttr, IntKind.bits]
  refine vc_loop1 (fun vi h' => Ext h h' ∧ ∃ i : Nat, vi = .int .i64 (i : Int) ∧ i ≤ l.length) (fun vi _ => l.length - m1 vi) ?_ ?_
  · simp (disch := omega) only [dm_t, wS, simprocAttr, IntKind.bits]
    exact ⟨Ext.refl _, 0, rfl, by omega⟩
  rintro _ g ⟨e, i, rfl, hi⟩
  by_cases hil : i < l.length
  · obtain ⟨b, o, vb, vp, i1, -, t1, hs, hb, hpk⟩ := step_at (r.ext e) hil .i64
    obtain ⟨b', o', vb', vp', i1', -, t1', hs', hb', hpk'⟩ := step_at (q.ext e) hil .i64
    simp (disch := omega) only [dm_t, wS, simprocAttr, IntKind.bits, i1, t1, i1', t1']
    refine (DSame_ok (rep_st.2 ⟨_, _, rfl, hs, hb, hpk⟩) (rep_st.2 ⟨_, _, rfl, hs', hb', hpk'⟩) (hp _ (List.getElem_mem hil))).k ?_
    rintro _ g2 ⟨rfl, e2⟩
    rw [decide_eq_true rfl]
    simp (disch := omega) only [dm_t, wS, simprocAttr, IntKind.bits]
    exact ⟨⟨e.trans e2, i + 1, by simp, by omega⟩, by simp [m1] <;> omega⟩
  · simp (disch := omega) only [dm_t, wS, simprocAttr, IntKind.bits]
    exact e
end

/-! ### The document's All -/
theorem drop_len {t : List UInt8} {f : Nat} (h : f ≤ t.length) : (t.drop f).length = t.length - f := List.length_drop
theorem pls_scn : ∀ (k : Nat) (t : List UInt8), ∀ x ∈ (scn k t).1, x.2.2.2.2.2.length ≤ 4096
  | 0, t, x, hx => by simp [scn] at hx
  | k + 1, t, x, hx => by
    cases h : cut10 t with
    | none => rw [scn_no h] at hx; simp at hx
    | some p =>
      by_cases he : (rdS p.1).2 = 0
      · rw [scn_yes h he] at hx
        rcases List.mem_cons.1 hx with rfl | hx
        · exact rdS_pl _
        · exact pls_scn k _ x hx
      · rw [scn_bad h he] at hx; simp at hx
theorem DAll_ok {h : H} (G : GL h) (t : List UInt8) (hl : t.length ≤ 9223372036854775807) :
    Ok Tryd.prog 26 #[sv t] h fun r h' => ∃ v, r = .tuple #[v, .int .i64 (if 1048576 < t.length then 0 else ((t.length - (scn 65536 t).2.length : Nat) : Int))] ∧ RepL nos stT h' v (goS t) ∧ Ext h h' := by
  refine c26_ok (args := [_]) (by simp) ?_
  simp (disch := omega) only [dm_t, wS, simprocAttr, IntKind.bits]
  by_cases hbig : 1048576 < t.length
  · have hg : goS t = [] := if_pos hbig
    rw [hg, if_pos hbig]
    simp (disch := omega) only [dm_t, wS, simprocAttr, IntKind.bits, size_mk]
    exact ⟨_, rfl, RepL.nil, Ext.refl _⟩
  have hg : goS t = (scn 65536 t).1 := if_neg hbig
  rw [hg, if_neg hbig]
  simp (disch := omega) only [dm_t, wS, simprocAttr, IntKind.bits, size_mk]
  refine vc_loop3 (fun vl vf vi h' => ∃ (i f : Nat) (l : List St), vi = .int .i64 (i : Int) ∧ vf = .int .i64 (f : Int) ∧ f ≤ i ∧ i ≤ t.length ∧ Wk t l (t.drop f) ∧ no10 ((t.drop f).take (i - f)) ∧
      OwL (fun y => h y ≠ none) stT (fun y => h y = none) h' 31 vl l ∧ Ext h h') (fun _ _ vi _ => t.length - m1 vi) ?_ ?_
  · simp (disch := omega) only [dm_t, wS, simprocAttr, IntKind.bits]
    exact ⟨0, 0, [], by simp, by simp, by omega, by omega, wk0 t, fun c hc => by simp at hc, OwL.nil, Ext.refl _⟩
  rintro vl _ _ g ⟨i, f, l, rfl, rfl, hfi, hit, W, hno, ho, e⟩
  obtain ⟨la, lc, rfl⟩ := ho.len
  have hll := W.1
  by_cases hil : i < t.length
  case neg =>
    obtain rfl : i = t.length := by omega
    rw [List.take_of_length_le (by simp)] at hno
    have hend := W.end_no (cut10_no hno)
    have hf : ((t.length - (t.drop f).length : Nat) : Int) = (f : Int) := by rw [List.length_drop]; omega
    rw [hend, hf]
    simp (disch := omega) only [dm_t, wS, simprocAttr, IntKind.bits, size_mk]
    exact ⟨_, rfl, ho.rep, e⟩
  by_cases hmax : l.length < 65536
  case neg =>
    have hend := W.end_max (by omega)
    have hf : ((t.length - (t.drop f).length : Nat) : Int) = (f : Int) := by rw [List.length_drop]; omega
    rw [hend, hf]
    simp (disch := omega) only [dm_t, wS, simprocAttr, IntKind.bits, size_mk]
    exact ⟨_, rfl, ho.rep, e⟩
  have x1 := get_mk t hil
  by_cases hc : t[i].toNat = 10
  case neg =>
    simp (disch := omega) only [dm_t, wS, simprocAttr, IntKind.bits, size_mk, x1, Option.map_some]
    refine ⟨⟨i + 1, f, l, by simp, rfl, by omega, by omega, W, ?_, ho, e⟩, by simp [m1] <;> omega⟩
    have hk : (t.drop f).take (i + 1 - f) = (t.drop f).take (i - f) ++ [t[i]] := by
      have h1 : i + 1 - f = (i - f) + 1 := by omega
      have h2 : i - f < (t.drop f).length := by simp; omega
      rw [h1, List.take_succ_eq_append_getElem h2]
      congr 2
      simp only [List.getElem_drop]
      congr 1; omega
    rw [hk]
    intro c hcm
    rcases List.mem_append.1 hcm with hcm | hcm
    · exact hno c hcm
    · rw [List.mem_singleton.1 hcm]; exact hc
  have hcut : cut10 (t.drop f) = some ((t.take i).drop f, t.drop (i + 1)) := by
    have h0 : t.drop f = (t.drop f).take (i - f) ++ t.drop i := by
      have h2 := (List.take_append_drop (i - f) (t.drop f)).symm
      rw [List.drop_drop, show f + (i - f) = i by omega] at h2
      exact h2
    have h1 : t.drop i = 10 :: t.drop (i + 1) := by
      rw [List.drop_eq_getElem_cons hil, show t[i] = 10 from UInt8.toNat_inj.1 hc]
    rw [h0, h1, cut10_app hno, List.drop_take]
  have hrl : ((t.take i).drop f).length ≤ 9223372036854775807 := by simp; omega
  simp (disch := omega) only [dm_t, wS, simprocAttr, IntKind.bits, size_mk, x1, hc, Option.map_some, ext_mk]
  refine (DRead_ok (G.ext e) ((t.take i).drop f) hrl).k ?_
  rintro _ g2 hrd
  obtain ⟨vb, vp, rfl, cb, cp, hB, ob, op, hi, e2⟩ := hrd.cells
  simp (disch := omega) only [dm_t, wS, simprocAttr, IntKind.bits]
  intro xb hxb
  simp (disch := omega) only [dm_t, wS, simprocAttr, IntKind.bits]
  refine storeH_all (vs := sCs (rdS ((t.take i).drop f)).1 vb vp) (hupd_same _ _ _) rfl (cells_sCs cb cp) ?_
  rw [hupd_hupd]
  generalize hG : hupd g2 xb _ = g3
  obtain ⟨e3, qx⟩ := new_ext hG hxb
  clear hG
  by_cases he : (rdS ((t.take i).drop f)).2 = 0
  case neg =>
    have hend := W.end_bad hcut he
    have hf : ((t.length - (t.drop f).length : Nat) : Int) = (f : Int) := by rw [List.length_drop]; omega
    rw [hend, hf]
    simp (disch := omega) only [dm_t, wS, simprocAttr, IntKind.bits, he]
    exact ⟨_, rfl, ho.rep.ext (e2.trans e3), e.trans (e2.trans e3)⟩
  have W2 := W.step hmax hcut he
  have e23 := e2.trans e3
  have hrow : Rep (fun y => isAt (.slice la l.length lc) y ∨ h y ≠ none) stT g3 (sCs (rdS ((t.take i).drop f)).1 vb vp) (rdS ((t.take i).drop f)).1 := by
    have s0 : ∀ y, g y = none → ¬ (isAt (.slice la l.length lc) y ∨ h y ≠ none) := fun y hy hs => hs.elim (fun hs => ho.there hs hy) fun hs => hs (e.bk hy)
    exact rep_st.2 ⟨vb, vp, rfl, hB, (OwK.ext ob e3).sl s0, iRep ((OwK.ext op e3).sl s0) hi⟩
  simp (disch := omega) only [dm_t, wS, simprocAttr, IntKind.bits, he, cellsAt_all qx 7 rfl]
  intro bl hbl
  simp (disch := omega) only [dm_t, wS, simprocAttr, IntKind.bits]
  refine OwL.push (V := fun _ => _) (bytes := 88) (z := z7.toArray) 7 rfl (ho.ext e23) (fun y hy => (e.trans e23).bk hy) hrow (by rfl) (by omega) (by omega) ?_ bl hbl
  intro _ s' g6 _ o6 f6
  simp (disch := omega) only [dm_t, wS, simprocAttr, IntKind.bits]
  refine ⟨⟨i + 1, i + 1, l ++ [(rdS ((t.take i).drop f)).1], by simp, by simp, by omega, by omega, W2, fun c hc => by simp at hc, o6, Ext.step (e.trans e23) f6⟩, by simp [m1] <;> omega⟩

/-! ### The document's Parse -/
theorem nls_at {t : List UInt8} {i : Nat} (h : i < t.length) (k : Nat) (hk : k = (if i < t.length then (t.take i).count 10 else nls t)) :
    k + (if t[i].toNat = 10 ∨ i = t.length - 1 then 1 else 0) = (if i + 1 < t.length then (t.take (i + 1)).count 10 else nls t) := by
  rw [if_pos h] at hk
  have h1 : (t.take (i + 1)).count 10 = (t.take i).count 10 + (if t[i].toNat = 10 then 1 else 0) := by
    rw [List.take_succ_eq_append_getElem h, List.count_append, List.count_singleton]
    congr 1
    by_cases hc : t[i].toNat = 10
    · rw [if_pos hc, if_pos (by rw [show t[i] = 10 from UInt8.toNat_inj.1 hc]; rfl)]
    · rw [if_neg hc, if_neg (by intro h; exact hc (by rw [beq_iff_eq.1 h]; rfl))]
  by_cases hi : i + 1 < t.length
  · rw [if_pos hi, h1, hk]
    congr 1
    have : ¬ i = t.length - 1 := by omega
    simp only [this, or_false]
  · have he : i = t.length - 1 := by omega
    rw [if_neg hi, if_pos (.inr he), hk]
    rw [List.take_of_length_le (by omega)] at h1
    have hl : t.getLast? = some t[i] := by rw [List.getLast?_eq_getElem?, ← he, List.getElem?_eq_getElem h]
    have hne : t ≠ [] := fun hn => by rw [hn] at h; simp at h
    unfold nls
    rw [h1, hl]
    by_cases hc : t[i].toNat = 10
    · have hc' : t[i] = 10 := UInt8.toNat_inj.1 hc
      rw [if_pos hc, if_pos (.inr (by rw [hc']))]
    · rw [if_neg hc, if_neg (by
        rintro (h | h)
        · exact hne h
        · rw [Option.some.injEq] at h; exact hc (by rw [h]; rfl))]
theorem DParse_ok {h : H} (G : GL h) (t : List UInt8) (hl : t.length ≤ 9223372036854775807) :
    Ok Tryd.prog 23 #[sv t] h fun r h' => ∃ v, r = .tuple #[v, .int .i64 (prs t).2.1, .int .i64 (prs t).2.2] ∧ RepL nos stT h' v (prs t).1 ∧ Ext h h' := by
  refine c23_ok (args := [_]) (by simp) ?_
  simp (disch := omega) only [dm_t, wS, simprocAttr, IntKind.bits]
  refine vc_loop2 (fun vk vi h' => h' = h ∧ ∃ i : Nat, vi = .int .i64 (i : Int) ∧ i ≤ t.length ∧ vk = .int .i64 ((if i < t.length then (t.take i).count 10 else nls t : Nat) : Int)) (fun _ vi _ => t.length - m1 vi) ?_ ?_
  · simp (disch := omega) only [dm_t, wS, simprocAttr, IntKind.bits]
    refine ⟨0, rfl, by omega, ?_⟩
    by_cases h0 : 0 < t.length
    · rw [if_pos h0]; rfl
    · have : t = [] := List.length_eq_zero_iff.1 (by omega)
      rw [this]; simp [nls_nil]
  rintro _ _ g ⟨rfl, i, rfl, hi, rfl⟩
  have hnl := nls_le t
  by_cases hil : i < t.length
  case pos =>
    have x1 := get_mk t hil
    have hk := nls_at hil _ rfl
    have hcl : (if i < t.length then (t.take i).count 10 else nls t) ≤ i := by
      rw [if_pos hil]; exact Nat.le_trans List.count_le_length (by rw [List.length_take]; omega)
    generalize (if i < t.length then (t.take i).count 10 else nls t) = k at hk hcl ⊢
    by_cases hc : t[i].toNat = 10
    · rw [if_pos (.inl hc)] at hk
      simp (disch := omega) only [dm_t, wS, simprocAttr, IntKind.bits, size_mk, x1, hc, Option.map_some]
      exact ⟨⟨i + 1, by simp, by omega, by rw [← hk]; simp⟩, by simp [m1] <;> omega⟩
    · by_cases he : i = t.length - 1
      · rw [if_pos (.inr he)] at hk
        have he' : (t.length : Int) - 1 = (i : Int) := by omega
        simp (disch := omega) only [dm_t, wS, simprocAttr, IntKind.bits, size_mk, x1, hc, Option.map_some, he']
        exact ⟨⟨i + 1, by simp, by omega, by rw [← hk]; simp⟩, by simp [m1] <;> omega⟩
      · rw [if_neg (by simp [hc, he])] at hk
        have he' : ¬ (i : Int) = (t.length : Int) - 1 := by omega
        simp (disch := omega) only [dm_t, wS, simprocAttr, IntKind.bits, size_mk, x1, hc, Option.map_some, he']
        exact ⟨⟨i + 1, by simp, by omega, by rw [← hk]; simp⟩, by simp [m1] <;> omega⟩
  rw [if_neg hil]
  by_cases hbig : 1048576 < t.length
  · have hp : prs t = ([], 0, 3) := if_pos (.inl hbig)
    rw [hp]
    simp (disch := omega) only [dm_t, wS, simprocAttr, IntKind.bits, size_mk]
    exact ⟨_, rfl, RepL.nil, Ext.refl _⟩
  by_cases hmany : 65536 < nls t
  · have hp : prs t = ([], 0, 3) := if_pos (.inr hmany)
    rw [hp]
    simp (disch := omega) only [dm_t, wS, simprocAttr, IntKind.bits, size_mk]
    exact ⟨_, rfl, RepL.nil, Ext.refl _⟩
  have hp : prs t = if (scn 65536 t).2 = [] then ((scn 65536 t).1, ((scn 65536 t).1.length : Int), 0) else ([], ((scn 65536 t).1.length : Int), 390) := if_neg (by omega)
  rw [hp]
  simp (disch := omega) only [dm_t, wS, simprocAttr, IntKind.bits, size_mk]
  refine (DAll_ok G t hl).k ?_
  rintro _ g2 ⟨v, rfl, r, e⟩
  have hg : goS t = (scn 65536 t).1 := if_neg hbig
  rw [hg] at r
  rw [if_neg hbig]
  obtain ⟨va, vc', rfl⟩ := r.len
  have hsl := scn_len 65536 t
  by_cases hr : (scn 65536 t).2 = []
  · rw [if_pos hr]
    have hz : (scn 65536 t).2.length = 0 := by rw [hr]; rfl
    simp (disch := omega) only [dm_t, wS, simprocAttr, IntKind.bits, size_mk]
    exact ⟨_, rfl, r, e⟩
  · rw [if_neg hr]
    have hz : 0 < (scn 65536 t).2.length := List.length_pos_iff.2 hr
    simp (disch := omega) only [dm_t, wS, simprocAttr, IntKind.bits, size_mk]
    exact ⟨_, rfl, RepL.nil, e⟩
end Go.Proofs.YtooimdgoibdhlaaDoor.sc
namespace Go.Proofs.YtooimdgoibdhlaaDoor.sc
open Go Go.Proofs.YtooimdgoibdhlaaDoor Go.RowKit
set_option linter.unusedVariables false
set_option linter.unusedSimpArgs false
/-- What All tells in round i. -/
def itA (t : List UInt8) (i : Nat) (h0 h : H) (args : List Value) : Prop :=
  ∃ x vb vp, (goS t)[i]? = some x ∧ args = [.int .i64 (i : Int), .agg (sCs x vb vp).toArray] ∧ isCell vb = true ∧ isCell vp = true ∧ sB x ∧ OwB (fun y => h0 y = none) h 5 vb x.2.2.1 ∧
    O1 (fun y => h0 y = none) h 3 vp (x.2.2.2.2.2.map (.int .i64)) ∧ (∀ n ∈ x.2.2.2.2.2, inI n)
theorem All_it {b : Nat} {t : List UInt8} (hl : t.length ≤ 9223372036854775807) :
    RngA Tryd.prog 54 #[.pointer (some ⟨b, 0, none⟩)] (goS t).length (itA t) (fun h => GL h ∧ h b = some (.cells #[sv t] 9)) := by
  intro L J Jx h X hJ hE hy h0
  have key : Ok Tryd.prog 54 #[.func (.yield L) #[] #[], .pointer (some ⟨b, 0, none⟩)] h fun _ h' => J (goS t).length h' ∨ ∃ i, i < (goS t).length ∧ Jx (i + 1) h' := by
    obtain ⟨G, qb⟩ := hJ _ _ h0
    refine c54_ok (args := [_, _]) (by simp) ?_
    have cb := cellAt_of qb 0
    by_cases hbig : 1048576 < t.length
    · have hg : goS t = [] := if_pos hbig
      simp (disch := omega) only [dm_t, wS, simprocAttr, IntKind.bits, cb, size_mk]
      rw [hg]
      exact .inl h0
    have hg : goS t = (scn 65536 t).1 := if_neg hbig
    rw [hg] at hy ⊢
    simp (disch := omega) only [dm_t, wS, simprocAttr, IntKind.bits, cb, size_mk]
    refine vc_loop2 (fun vr vn h' => ∃ (l : List St) (r : List UInt8), vr = sv r ∧ vn = .int .i64 (l.length : Int) ∧ Wk t l r ∧ J l.length h') (fun _ vn _ => 65536 - m1 vn) ?_ ?_
    · simp (disch := omega) only [dm_t, wS, simprocAttr, IntKind.bits]
      exact ⟨[], t, rfl, rfl, wk0 t, h0⟩
    rintro _ _ g ⟨l, r, rfl, rfl, W, hj⟩
    obtain ⟨G1, qb1⟩ := hJ _ _ hj
    have hll := W.1
    have hrl := W.2.2
    by_cases hmax : l.length < 65536
    case neg =>
      have hend := W.end_max (by omega)
      simp (disch := omega) only [dm_t, wS, simprocAttr, IntKind.bits]
      rw [hend]
      exact .inl hj
    simp (disch := omega) only [dm_t, wS, simprocAttr, IntKind.bits]
    refine (Cut_ok G1 r (by omega)).k ?_
    rintro _ _ ⟨rfl, rfl⟩
    cases hcut : cut10 r with
    | none =>
      have hend := W.end_no hcut
      simp (disch := omega) only [dm_t, wS, simprocAttr, IntKind.bits]
      rw [hend]
      exact .inl hj
    | some p =>
      have hpl := cut10_len hcut
      simp (disch := omega) only [dm_t, wS, simprocAttr, IntKind.bits]
      refine (Read_ok G1 p.1 (by omega)).k ?_
      rintro _ g2 hrd
      obtain ⟨vb, vp, rfl, cb, cp, hB, ob, op, hi, e2⟩ := hrd.cells
      simp (disch := omega) only [dm_t, wS, simprocAttr, IntKind.bits]
      intro xb hxb
      simp (disch := omega) only [dm_t, wS, simprocAttr, IntKind.bits]
      refine storeH_all (vs := sCs (rdS p.1).1 vb vp) (hupd_same _ _ _) rfl (cells_sCs cb cp) ?_
      rw [hupd_hupd]
      generalize hG : hupd g2 xb _ = g3
      obtain ⟨e3, qx⟩ := new_ext hG hxb
      clear hG
      by_cases he : (rdS p.1).2 = 0
      case neg =>
        have hend := W.end_bad hcut he
        simp (disch := omega) only [dm_t, wS, simprocAttr, IntKind.bits, he]
        rw [hend]
        exact .inl (hE _ _ _ hj (e2.trans e3))
      have W2 := W.step hmax hcut he
      have hall := W2.2.1
      have hN : l.length < (scn 65536 t).1.length := by rw [hall]; simp
      have hx : (scn 65536 t).1[l.length]? = some (rdS p.1).1 := by rw [hall]; simp
      have hA : itA t l.length g g3 [.int .i64 (l.length : Int), .agg (sCs (rdS p.1).1 vb vp).toArray] :=
        ⟨_, vb, vp, by rw [hg]; exact hx, rfl, cb, cp, hB, OwK.ext ob e3, OwK.ext op e3, hi⟩
      have hy1 := hy l.length hN g g3 _ hj (e2.trans e3) hA
      simp (disch := omega) only [dm_t, wS, simprocAttr, IntKind.bits, he, cellsAt_all qx 7 rfl]
      refine hy1.k ?_
      rintro (_ | _) h2 hj3
      · simp (disch := omega) only [dm_t, wS, simprocAttr, IntKind.bits]
        exact .inr ⟨l.length, hN, by simpa using hj3⟩
      · simp (disch := omega) only [dm_t, wS, simprocAttr, IntKind.bits]
        exact ⟨⟨l ++ [(rdS p.1).1], p.2, rfl, by simp, W2, by simpa using hj3⟩, by simp [m1] <;> omega⟩
  exact key.k fun _ _ h => h
end Go.Proofs.YtooimdgoibdhlaaDoor.sc
namespace Go.Proofs.YtooimdgoibdhlaaDoor.sc
open Go Go.Proofs.YtooimdgoibdhlaaDoor Go.RowKit
set_option linter.unusedVariables false
set_option linter.unusedSimpArgs false
theorem hdel_fr {h1 : H} (L : Nat) : Fr (fun y => y = L) h1 (hdel h1 L) := fun x o hx hn => by
  show (if x = L then none else h1 x) = _; rw [if_neg hn]; exact hx
theorem hdel_there {h : H} {L y : Nat} (hy : hdel h L y ≠ none) : h y ≠ none := fun hn => hy (by
  show (if y = L then none else h y) = _; split
  · rfl
  · exact hn)
theorem goS_len (t : List UInt8) : (goS t).length ≤ 65536 ∧ (goS t).length ≤ t.length := by
  unfold goS
  split
  · simp
  · have := scn_len 65536 t; omega
abbrev Qp (h : H) (t : List UInt8) : Post := retQ [2, 3, 4] (okR fun r h' => ∃ v, r = .tuple #[v, .int .i64 (prs t).2.1, .int .i64 (prs t).2.2] ∧ RepL nos stT h' v (prs t).1 ∧ Ext h h')
section
variable {h : H}
theorem Parse_s2 (G : GL h) (t : List UInt8) (hl : t.length ≤ 9223372036854775807) :
    vc Tryd.prog c22_s2 (Qp h t) [(0, sv t), (2, .slice none 0 0), (3, .int .i64 0), (4, .int .i64 0), (5, .int .i64 ((nls t : Nat) : Int))] h := by
  have hnl := nls_le t
  by_cases hbig : 1048576 < t.length
  · have hp : prs t = ([], 0, 3) := if_pos (.inl hbig)
    simp (disch := omega) only [dm_t, wS, simprocAttr, IntKind.bits, size_mk]
    rw [hp]
    exact ⟨_, rfl, RepL.nil, Ext.refl _⟩
  by_cases hmany : 65536 < nls t
  · have hp : prs t = ([], 0, 3) := if_pos (.inr hmany)
    simp (disch := omega) only [dm_t, wS, simprocAttr, IntKind.bits, size_mk]
    rw [hp]
    exact ⟨_, rfl, RepL.nil, Ext.refl _⟩
  have hp : prs t = if (scn 65536 t).2 = [] then ((scn 65536 t).1, ((scn 65536 t).1.length : Int), 0) else ([], ((scn 65536 t).1.length : Int), 390) := if_neg (by omega)
  have hg : goS t = (scn 65536 t).1 := if_neg hbig
  have hgl := goS_len t
  simp (disch := omega) only [dm_t, wS, simprocAttr, IntKind.bits, size_mk]
  intro lb hlb
  generalize hG : hupd h lb _ = g1
  obtain ⟨e1, ql⟩ := new_ext hG hlb
  clear hG
  simp (disch := omega) only [dm_t, wS, simprocAttr, IntKind.bits]
  refine (All_ok g1 t).k ?_
  rintro _ g2 ⟨⟨b, rfl, hb, qb⟩, e2⟩
  simp (disch := omega) only [dm_t, wS, simprocAttr, IntKind.bits]
  have hlbb : lb ≠ b := fun h => by subst h; rw [ql] at hb; cases hb
  have hb0 : h b = none := e1.bk hb
  refine vc_rngA rfl (by kernel_rfl) (All_it (b := b) (t := t) hl) ?_
    (fun i g => (∃ v, g lb = some (.cells #[v] 48) ∧ OwL (fun y => y = lb ∨ h y ≠ none) stT (fun y => h y = none) g 31 v ((goS t).take i)) ∧ g b = some (.cells #[sv t] 9) ∧ Ext h g)
    (fun _ => False) (fun _ _ => False) ?_ ?_ ?_ ?_ ?_ ?_ (fun _ h => h.elim) (fun _ _ h => h.elim)
  · rintro h b o hb ⟨h1, h2⟩
    exact ⟨h1.ext (Ext.new hb o), (Ext.new hb o).at h2⟩
  · rintro i h' ⟨-, z2, z3⟩
    exact ⟨G.ext z3, z2⟩
  · rintro i h' h'' ⟨⟨v, z1, z2⟩, z3, z4⟩ e
    exact ⟨⟨v, e.at z1, z2.ext e⟩, e.at z3, z4.trans e⟩
  · refine ⟨⟨_, e2.at ql, ?_⟩, qb, e1.trans e2⟩
    rw [List.take_zero]
    exact OwL.nil
  · rintro i h0 h' args hi ⟨x, vb, vp, -, rfl, -⟩; rfl
  · rintro L i h0 h1 args hi ⟨r, hr⟩ ⟨⟨v, z1, z2⟩, z3, z4⟩ e0 ⟨x, vb, vp, hx, rfl, cb, cp, hB, ob, op, hin⟩
    simp (disch := omega) only [dm_t, wS, simprocAttr, IntKind.bits, List.zip_cons_cons, List.zip_nil_right, List.cons_append, List.nil_append]
    intro cb2 hcb
    have hcL : cb2 ≠ L := fun h => by subst h; rw [e0.at hr] at hcb; cases hcb
    simp (disch := omega) only [dm_t, wS, simprocAttr, IntKind.bits]
    refine storeH_all (vs := sCs x vb vp) (hupd_same _ _ _) rfl (cells_sCs cb cp) ?_
    rw [hupd_hupd]
    simp (disch := omega) only [dm_t, wS, simprocAttr, IntKind.bits]
    refine ⟨hupd_ne _ _ hcL.symm, ?_⟩
    have e5 := hdel_mono L (Ext.new hcb (.cells (sCs x vb vp).toArray 31))
    have q0 : hdel (hupd h1 cb2 (.cells (sCs x vb vp).toArray 31)) L cb2 = some (.cells (sCs x vb vp).toArray 31) := by
      rw [hdel_hupd_ne hcL, hupd_same]
    generalize hdel (hupd h1 cb2 (.cells (sCs x vb vp).toArray 31)) L = g at e5 q0 ⊢
    have e05 := (hdel_mono L e0).trans e5
    have f1 := hdel_fr (h1 := h1) L
    have ob2 := (OwK.fr ob f1 fun y hy ho _ => by rw [hy, hr] at ho; cases ho).ext e5
    have op2 := (OwK.fr op f1 fun y hy ho _ => by rw [hy, hr] at ho; cases ho).ext e5
    obtain ⟨la, lc, rfl⟩ := z2.len
    have hln : ((goS t).take i).length = i := by rw [List.length_take]; omega
    have s0 : ∀ y, h0 y = none → ¬ (isAt (.slice la ((goS t).take i).length lc) y ∨ (y = lb ∨ h y ≠ none)) := fun y hy hs => by
      rcases hs with hs | rfl | hs
      · exact hdel_there (z2.there hs) hy
      · exact hdel_there (by rw [z1]; simp) hy
      · exact hs (by
          cases hh : h y with
          | none => rfl
          | some o => exact absurd hy (hdel_there (L := L) (by rw [z4.at hh]; simp)))
    have hrow : Rep (fun y => isAt (.slice la ((goS t).take i).length lc) y ∨ (y = lb ∨ h y ≠ none)) stT g (sCs x vb vp) x :=
      rep_st.2 ⟨vb, vp, rfl, hB, ob2.sl s0, iRep (op2.sl s0) hin⟩
    have y1 := e05.at z1
    have y2 := z2.ext e05
    have y3 := e05.at z3
    have y4 := z4.trans e05
    have htk : (goS t).take (i + 1) = (goS t).take i ++ [x] := by
      rw [List.take_add_one, hx]; rfl
    simp (disch := omega) only [dm_t, wS, simprocAttr, IntKind.bits, cellAt_of y1, cellsAt_all q0 7 rfl]
    intro bl hbl
    simp (disch := omega) only [dm_t, wS, simprocAttr, IntKind.bits]
    refine OwL.push (V := fun _ => _) (bytes := 88) (z := z7.toArray) 7 rfl y2 (fun y hy => y4.bk hy) hrow (by rfl) (by rw [hln]; omega) (by rw [hln]; omega) ?_ bl hbl
    intro _ s' g6 _ o6 f6
    rw [← htk] at o6
    obtain ⟨sa, sc, rfl⟩ := o6.len
    have hv1 : ¬ isAt (.slice la ((goS t).take i).length lc) lb := y2.tyno y1 (by decide)
    have qlb := f6 _ _ y1 fun h => hv1 h.2
    have qb6 := f6 _ _ y3 fun h => y2.tyno y3 (by decide) h.2
    have hx6 : Ext h g6 := Ext.step y4 f6
    simp (disch := omega) only [dm_t, wS, simprocAttr, IntKind.bits]
    refine storeH_all (vs := [.slice sa ((goS t).take (i + 1)).length sc]) qlb rfl rfl ?_
    generalize hG : hupd g6 lb _ = g7
    have q7 := (hG ▸ hupd_same _ _ _ : g7 lb = _)
    have f7 : Fr (fun y => y = lb) g6 g7 := (hG ▸ Fr.upd (S := fun y => y = lb) rfl _)
    clear hG
    simp (disch := omega) only [dm_t, wS, simprocAttr, IntKind.bits]
    intro hL
    rw [rY_normal]
    refine ⟨⟨_, q7, o6.fr f7 (fun y hy => .inl hy) fun y hy _ => by rw [hy]; exact o6.tyno qlb (by decide)⟩, f7 _ _ qb6 hlbb.symm, Ext.step' hx6 f7 fun y hy => by rw [hy]; exact hlb⟩
  · rintro g ⟨⟨v, z1, z2⟩, z3, z4⟩
    rw [List.take_length] at z2
    obtain ⟨la, lc, rfl⟩ := z2.len
    have hgs := scn_nls 65536 t (by omega)
    rw [hg] at z2 z1
    by_cases hr : (scn 65536 t).2 = []
    · rw [if_pos hr] at hp
      have hlen := hgs.2.1 hr
      simp (disch := omega) only [dm_t, wS, simprocAttr, IntKind.bits, cellAt_of z1]
      rw [hp]
      exact ⟨_, rfl, z2.rep, z4⟩
    · rw [if_neg hr] at hp
      have hlen : (scn 65536 t).1.length < nls t := by
        have := mt hgs.2.2 hr; omega
      simp (disch := omega) only [dm_t, wS, simprocAttr, IntKind.bits, cellAt_of z1]
      rw [hp]
      exact ⟨_, rfl, RepL.nil, z4⟩
end
end Go.Proofs.YtooimdgoibdhlaaDoor.sc
