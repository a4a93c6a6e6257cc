/-
  Steps counted; what comes on a connection; slices copied.
-/
import Derived.Test.YtooimdgoibdhlaaDoorQi
namespace Go.Proofs.YtooimdgoibdhlaaDoor.sc
open Go Go.Proofs.YtooimdgoibdhlaaDoor Go.RowKit
set_option linter.unusedVariables false
set_option linter.unusedSimpArgs false
def cntK (k : Int) (l : List St) : Nat := l.countP fun x => decide (x.1 = k)
theorem cntK_le (k : Int) (l : List St) : cntK k l ≤ l.length := List.countP_le_length
theorem cntK_app (k : Int) (l m : List St) : cntK k (l ++ m) = cntK k l + cntK k m := List.countP_append
theorem cntK_snoc (k : Int) (l : List St) (x : St) : cntK k (l ++ [x]) = cntK k l + (if x.1 = k then 1 else 0) := by
  rw [cntK_app]; congr 1; simp [cntK, List.countP_cons]
def bys (c : Int) (l : List St) : List UInt8 := (l.filter fun x => decide (x.1 = 1 ∧ x.2.1 = c)).flatMap (·.2.2.1)
theorem bys_app (c : Int) (l m : List St) : bys c (l ++ m) = bys c l ++ bys c m := by simp [bys]
theorem bys_snoc (c : Int) (l : List St) (x : St) : bys c (l ++ [x]) = bys c l ++ (if x.1 = 1 ∧ x.2.1 = c then x.2.2.1 else []) := by
  rw [bys_app]; congr 1
  by_cases h : x.1 = 1 ∧ x.2.1 = c
  · rw [if_pos h]; simp [bys, h]
  · rw [if_neg h]
    have : ¬ (x.1 = 1 ∧ x.2.1 = c) := h
    simp [bys, List.filter_cons, this]
theorem bys_len (c : Int) {B : Nat} : ∀ {l : List St}, (∀ x ∈ l, x.2.2.1.length ≤ B) → (bys c l).length ≤ l.length * B
  | [], _ => by simp [bys]
  | x :: l, h => by
    have ih := bys_len c (l := l) fun y hy => h y (by simp [hy])
    have hx := h x (by simp)
    rw [show x :: l = [x] ++ l from rfl, bys_app, List.length_append, List.length_append]
    have h1 : (bys c [x]).length ≤ B := by
      have := bys_snoc c [] x
      rw [List.nil_append] at this
      rw [this, show bys c [] = [] from rfl, List.nil_append]
      split
      · exact hx
      · simp
    have h2 : ([x].length + l.length) * B = B + l.length * B := by rw [Nat.add_mul]; simp
    omega
section
variable {S : Nat → Prop} {h : H}
theorem Cnt_ok {v : Value} {l : List St} (r : RepL S stT h v l) (hl : l.length ≤ 4611686018427387904) (k : Int) : Ok Tryd.prog 30 #[.int .i64 k, v] h fun v h' => v = .int .i64 (cntK k l : Int) ∧ Ext h h' := by
  obtain ⟨va, vc', rfl⟩ := r.len
  refine c30_ok (args := [_, _]) (by simp) ?_
  simp (disch := omega) only [dm_t, wS, simprocAttr, IntKind.bits]
  refine vc_loop2 (fun vn vi g => ∃ i : Nat, vn = .int .i64 (cntK k (l.take i) : Int) ∧ vi = .int .i64 (i : Int) ∧ i ≤ l.length ∧ Ext h g) (fun _ vi _ => l.length - m1 vi) ?_ ?_
  · simp (disch := omega) only [dm_t, wS, simprocAttr, IntKind.bits]
    exact ⟨0, by simp [cntK], by simp, by omega, Ext.refl _⟩
  rintro _ _ g ⟨i, rfl, rfl, hi, e⟩
  have hc := cntK_le k (l.take i)
  rw [List.length_take] at hc
  by_cases hil : i < l.length
  case neg =>
    obtain rfl : i = l.length := by omega
    simp (disch := omega) only [dm_t, wS, simprocAttr, IntKind.bits, List.take_length]
    exact e
  obtain ⟨b, o, vb, vp, i1, -, t1, hs, hbb, hpk⟩ := step_at (r.ext e) hil .i64
  have hcells := Rep.cells (rep_st.2 ⟨vb, vp, rfl, hs, hbb, hpk⟩ : Rep S stT g (sCs l[i] vb vp) l[i])
  have hsn := cntK_snoc k (l.take i) l[i]
  rw [← List.take_succ_eq_append_getElem hil] at hsn
  simp (disch := omega) only [dm_t, wS, simprocAttr, IntKind.bits, i1, t1]
  intro sb hsb
  simp (disch := omega) only [dm_t, wS, simprocAttr, IntKind.bits]
  refine storeH_all (vs := sCs l[i] vb vp) (hupd_same _ _ _) rfl hcells ?_
  rw [hupd_hupd]
  generalize hG : hupd g sb _ = g3
  obtain ⟨e3, q3⟩ := new_ext hG hsb
  clear hG
  have c0 : cellAt g3 ⟨sb, 0, none⟩ = some (.int .i64 l[i].1) := by rw [cellAt_of q3]; rfl
  by_cases hk : l[i].1 = k
  · rw [if_pos hk] at hsn
    simp (disch := omega) only [dm_t, wS, simprocAttr, IntKind.bits, c0, hk]
    exact ⟨⟨i + 1, by rw [hsn]; simp, by simp, by omega, e.trans e3⟩, by simp [m1] <;> omega⟩
  · rw [if_neg hk] at hsn
    simp (disch := omega) only [dm_t, wS, simprocAttr, IntKind.bits, c0, hk]
    exact ⟨⟨i + 1, by rw [hsn]; simp, by simp, by omega, e.trans e3⟩, by simp [m1] <;> omega⟩
theorem SBy_ok {v : Value} {l : List St} (r : RepL S stT h v l) (hl : l.length ≤ 200) (hb : ∀ x ∈ l, x.2.2.1.length ≤ 20000) (c : Int) : Ok Tryd.prog 32 #[.int .i64 c, v] h fun v h' => OwB (fun y => h y = none) h' 5 v (bys c l) ∧ Ext h h' := by
  obtain ⟨va, vc', rfl⟩ := r.len
  refine c32_ok (args := [_, _]) (by simp) ?_
  simp (disch := omega) only [dm_t, wS, simprocAttr, IntKind.bits]
  refine vc_loop2 (fun vn vi g => ∃ i : Nat, OwB (fun y => h y = none) g 5 vn (bys c (l.take i)) ∧ vi = .int .i64 (i : Int) ∧ i ≤ l.length ∧ Ext h g) (fun _ vi _ => l.length - m1 vi) ?_ ?_
  · simp (disch := omega) only [dm_t, wS, simprocAttr, IntKind.bits]
    exact ⟨0, OwK.nil, by simp, by omega, Ext.refl _⟩
  rintro vn _ g ⟨i, ho, rfl, hi, e⟩
  have hbl := bys_len c (l := l.take i) fun x hx => hb x (List.mem_of_mem_take hx)
  have h200 : (l.take i).length * 20000 ≤ 4000000 := by rw [List.length_take]; omega
  by_cases hil : i < l.length
  case neg =>
    obtain rfl : i = l.length := by omega
    rw [List.take_length] at ho
    simp (disch := omega) only [dm_t, wS, simprocAttr, IntKind.bits]
    exact ⟨ho, e⟩
  obtain ⟨b, o, vb, vp, i1, -, t1, hs, hbb, hpk⟩ := step_at (r.ext e) hil .i64
  have hx := hb _ (List.getElem_mem hil)
  have hcells := Rep.cells (rep_st.2 ⟨vb, vp, rfl, hs, hbb, hpk⟩ : Rep S stT g (sCs l[i] vb vp) l[i])
  have hsn := bys_snoc c (l.take i) l[i]
  rw [← List.take_succ_eq_append_getElem hil] at hsn
  simp (disch := omega) only [dm_t, wS, simprocAttr, IntKind.bits, i1, t1]
  intro sb hsb
  simp (disch := omega) only [dm_t, wS, simprocAttr, IntKind.bits]
  refine storeH_all (vs := sCs l[i] vb vp) (hupd_same _ _ _) rfl hcells ?_
  rw [hupd_hupd]
  generalize hG : hupd g sb _ = g3
  obtain ⟨e3, q3⟩ := new_ext hG hsb
  clear hG
  have c0 : cellAt g3 ⟨sb, 0, none⟩ = some (.int .i64 l[i].1) := by rw [cellAt_of q3]; rfl
  have c1 : cellAt g3 ⟨sb, 1, none⟩ = some (.int .i64 l[i].2.1) := by rw [cellAt_of q3]; rfl
  have c2 : cellAt g3 ⟨sb, 2, none⟩ = some vb := by rw [cellAt_of q3]; rfl
  by_cases hk : l[i].1 = 1
  · by_cases hc : l[i].2.1 = c
    · rw [if_pos ⟨hk, hc⟩] at hsn
      simp (disch := omega) only [dm_t, wS, simprocAttr, IntKind.bits, c0, c1, c2, hk, hc]
      refine appB (OwK.ext ho e3) (fun y hy => (e.trans e3).bk hy) (SlK.ext hbb e3) (by omega) ?_
      intro v2 g4 o4 f4
      rw [← hsn] at o4
      simp (disch := omega) only [dm_t, wS, simprocAttr, IntKind.bits]
      exact ⟨⟨i + 1, o4, by simp, by omega, Ext.step (e.trans e3) f4⟩, by simp [m1] <;> omega⟩
    · rw [if_neg (fun h => hc h.2), List.append_nil] at hsn
      rw [← hsn] at ho
      simp (disch := omega) only [dm_t, wS, simprocAttr, IntKind.bits, c0, c1, c2, hk, hc]
      exact ⟨⟨i + 1, OwK.ext ho e3, by simp, by omega, e.trans e3⟩, by simp [m1] <;> omega⟩
  · rw [if_neg (fun h => hk h.1), List.append_nil] at hsn
    rw [← hsn] at ho
    simp (disch := omega) only [dm_t, wS, simprocAttr, IntKind.bits, c0, c1, c2, hk]
    exact ⟨⟨i + 1, OwK.ext ho e3, by simp, by omega, e.trans e3⟩, by simp [m1] <;> omega⟩
theorem CB_ok {v : Value} {l : List UInt8} (r : By S h v l) (hl : l.length ≤ 1000000) : Ok Tryd.prog 61 #[v] h fun v h' => OwB (fun y => h y = none) h' 5 v l ∧ Ext h h' := by
  obtain ⟨va, vc', rfl⟩ := r.len
  refine c61_ok (args := [_]) (by simp) ?_
  cases va with
  | none =>
    have : l = [] := by
      obtain ⟨hr, ⟨a, h1, h2⟩ | ⟨b, o, cp, c, E, fr, h1, _⟩⟩ := r
      · have := congrArg List.length h2
        rw [one_len, bvs_len] at this
        exact List.length_eq_zero_iff.1 this
      · simp at h1
    subst this
    simp (disch := omega) only [dm_t, wS, simprocAttr, IntKind.bits]
    exact ⟨OwK.nil, Ext.refl _⟩
  | some a =>
    simp (disch := omega) only [dm_t, wS, simprocAttr, IntKind.bits]
    intro bl hbl
    refine appB (O := fun y => h y = none) (xs := []) (OwK.lit (rows := []) (fun r h => by simp at h) rfl (by simp) (Nat.le_refl _) (fun m hm => by simp [flat] at hm) hbl (.inl rfl)) (fun y hy => (Ext.new hbl _).bk hy) (SlK.ext r (Ext.new hbl _)) (by simp; omega) ?_
    intro w h3 ho hf
    simp (disch := omega) only [dm_t, wS, simprocAttr, IntKind.bits]
    exact ⟨ho, (Ext.new hbl _).step hf⟩
theorem CI_ok {v : Value} {l : List Int} (r : S1 S h v (l.map (.int .i64))) (hl : l.length ≤ 1000000) : Ok Tryd.prog 62 #[v] h fun v h' => O1 (fun y => h y = none) h' 3 v (l.map (.int .i64)) ∧ Ext h h' := by
  obtain ⟨va, vc', rfl⟩ := S1.len r
  refine c62_ok (args := [_]) (by simp) ?_
  cases va with
  | none =>
    have : l = [] := by
      obtain ⟨hr, ⟨a, h1, h2⟩ | ⟨b, o, cp, c, E, fr, h1, _⟩⟩ := r
      · have := congrArg List.length h2
        rw [one_len, List.length_map] at this
        exact List.length_eq_zero_iff.1 this
      · simp at h1
    subst this
    simp (disch := omega) only [dm_t, wS, simprocAttr, IntKind.bits]
    exact ⟨OwK.nil, Ext.refl _⟩
  | some a =>
    simp (disch := omega) only [dm_t, wS, simprocAttr, IntKind.bits]
    intro bl hbl
    refine appI (O := fun y => h y = none) (xs := []) (OwK.lit (rows := []) (fun r h => by simp at h) rfl (by simp) (Nat.le_refl _) (fun m hm => by simp [flat] at hm) hbl (.inl rfl)) (fun y hy => (Ext.new hbl _).bk hy) (new := l) (SlK.ext r (Ext.new hbl _)) (by simp; omega) ?_
    intro w h3 ho hf
    simp (disch := omega) only [dm_t, wS, simprocAttr, IntKind.bits]
    exact ⟨ho, (Ext.new hbl _).step hf⟩
end
end Go.Proofs.YtooimdgoibdhlaaDoor.sc
