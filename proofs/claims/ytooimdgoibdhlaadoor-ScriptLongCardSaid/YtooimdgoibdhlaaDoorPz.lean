/-
  A step of a list; is a step too long to be worked out?
-/
import Derived.Test.YtooimdgoibdhlaaDoorPt
namespace Go.Proofs.YtooimdgoibdhlaaDoor.sc
open Go Go.Proofs.YtooimdgoibdhlaaDoor Go.RowKit
set_option linter.unusedVariables false
set_option linter.unusedSimpArgs false
theorem sz_st : stT.sz = 7 := rfl
theorem step_at {S : Nat → Prop} {h : H} {v : Value} {l : List St} (r : RepL S stT h v l) {i : Nat} (hi : i < l.length) (kk : IntKind) : ∃ b o vb vp, idxV1 7 v (.int kk (i : Int)) = some (.pointer (some ⟨b, o, none⟩)) ∧
    (∀ j (hj : j < 7), cellAt h ⟨b, o + j, none⟩ = (sCs l[i] vb vp)[j]?) ∧ cellsAt h ⟨b, o, none⟩ 7 = some (sCs l[i] vb vp).toArray ∧ sB l[i] ∧ By S h vb l[i].2.2.1 ∧ RepL S tI h vp l[i].2.2.2.2.2 := by
  obtain ⟨rows, h1, h2, h3⟩ := repL_iff.1 r
  rw [sz_st] at h1
  have hi' : i < rows.length := by omega
  obtain ⟨b, o, k1, k2, k3, k4⟩ := SlK.row h1 hi' kk
  obtain ⟨vb, vp, q1, q2, q3, q4⟩ := rep_st.1 (h3 i _ _ (List.getElem?_eq_getElem hi') (List.getElem?_eq_getElem hi))
  rw [q1] at k3 k4
  exact ⟨b, o, vb, vp, k1, k3, k4, q2, q3, q4⟩
/-- More than is worked out. -/
def lng (x : St) : Bool := decide (20000 < x.2.2.1.length) || decide (500 < x.2.2.2.2.2.length)
section
variable {S : Nat → Prop} {h : H}
theorem long_ok {v : Value} {l : List St} (r : RepL S stT h v l) (hl : l.length ≤ 4611686018427387904) : Ok Tryd.prog 9 #[v] h fun v h' => v = .bool (l.any lng) ∧ h = h' := by
  obtain ⟨va, vc', rfl⟩ := r.len
  refine c9_ok (args := [_]) (by simp) ?_
  simp (disch := omega) only [dm_t, wS, simprocAttr, IntKind.bits]
  refine vc_loop1 (fun vi h' => h' = h ∧ ∃ i : Nat, vi = .int .i64 (i : Int) ∧ i ≤ l.length ∧ ∀ j (hj : j < l.length), j < i → lng l[j] = false) (fun vi _ => l.length - m1 vi) ?_ ?_
  · simp (disch := omega) only [dm_t, wS, simprocAttr, IntKind.bits]
    exact ⟨0, rfl, by omega, fun j hj h => by omega⟩
  rintro _ g ⟨rfl, i, rfl, hi, hall⟩
  by_cases hil : i < l.length
  · obtain ⟨b, o, vb, vp, i1, t1, -, -, hb, hp⟩ := step_at r hil .i64
    obtain ⟨ba, bc, rfl⟩ := hb.len
    obtain ⟨pa, pc, rfl⟩ := hp.len
    have t2 : cellAt g ⟨b, o + 2, none⟩ = some (.slice ba l[i].2.2.1.length bc) := t1 2 (by omega)
    have t6 : cellAt g ⟨b, o + 6, none⟩ = some (.slice pa l[i].2.2.2.2.2.length pc) := t1 6 (by omega)
    have hyes : lng l[i] = true → l.any lng = true := fun h => List.any_eq_true.2 ⟨l[i], List.getElem_mem hil, h⟩
    by_cases c1 : 20000 < l[i].2.2.1.length
    · have hy := hyes (by simp [lng, c1])
      simp (disch := omega) only [dm_t, wS, simprocAttr, IntKind.bits, i1, t2, t6]
      rw [hy]
    · by_cases c2 : 500 < l[i].2.2.2.2.2.length
      · have hy := hyes (by simp [lng, c2])
        simp (disch := omega) only [dm_t, wS, simprocAttr, IntKind.bits, i1, t2, t6]
        rw [hy]
      · simp (disch := omega) only [dm_t, wS, simprocAttr, IntKind.bits, i1, t2, t6]
        refine ⟨⟨i + 1, by simp, by omega, fun j hj hji => ?_⟩, by simp [m1] <;> omega⟩
        by_cases hji' : j = i
        · subst hji'; simp [lng, c1, c2]
        · exact hall j hj (by omega)
  · have : l.any lng = false := by
      rw [List.any_eq_false]
      intro x hx
      obtain ⟨j, hj, rfl⟩ := List.getElem_of_mem hx
      rw [hall j hj (by omega)]; simp
    simp (disch := omega) only [dm_t, wS, simprocAttr, IntKind.bits]
    rw [this]
theorem rdS_pl (line : List UInt8) : (rdS line).1.2.2.2.2.2.length ≤ 4096 := by
  by_cases hl : line.length ≤ 1048576
  · by_cases he : ∃ t, May t ∧ ln t = line
    · obtain ⟨t, m, ht⟩ := he
      rw [rdS_yes hl m ht]; exact m.pl
    · rw [rdS_no hl fun t m ht => he ⟨t, m, ht⟩]; simp
  · rw [rdS_long (by omega)]; simp
end
theorem not_long {l : List St} (h : l.any lng = false) : ∀ x ∈ l, x.2.2.1.length ≤ 20000 ∧ x.2.2.2.2.2.length ≤ 500 := by
  intro x hx
  have := List.any_eq_false.1 h x hx
  simp only [lng, Bool.or_eq_true, decide_eq_true_eq, not_or] at this
  omega
theorem appI {O : Nat → Prop} {h : H} {E : TypeId} {z s x : Value} {xs new : List Int} {V : Value → H → Prop} (hs : O1 O h E s (xs.map (.int .i64))) (hO : ∀ b, h b = none → O b)
    {S : Nat → Prop} (hx : S1 S h x (new.map (.int .i64))) (hlen : xs.length + new.length ≤ 1000000)
    (hk : ∀ v h', O1 O h' E v ((xs ++ new).map (.int .i64)) → Fr (fun y => O y ∧ isAt s y) h h' → V v h') : appM E 1 8 #[z] s x h V := by
  refine app1 hs hO hx (cells_ints _ _) (by rw [List.length_map, List.length_map]; omega) (by rw [List.length_map, List.length_map]; omega) ?_
  intro v h' ho hf
  rw [← List.map_append] at ho
  exact hk v h' ho hf
theorem pushI {O : Nat → Prop} {h : H} {E : TypeId} {z s : Value} {n : Int} {xs : List Int} {V : Nat → Value → H → Prop} (hs : O1 O h E s (xs.map (.int .i64))) (hO : ∀ b, h b = none → O b) (hlen : xs.length + 1 ≤ 1000000)
    (hk : ∀ (y0 : Nat) v h', h y0 = none → O1 O h' E v ((xs ++ [n]).map (.int .i64)) → Fr (fun y => O y ∧ isAt s y) h h' → V y0 v h') :
    ∀ b, h b = none → appM E 1 8 #[z] s (.slice (some ⟨b, 0, none⟩) 1 1) (hupd h b (.cells #[.int .i64 n] E)) (V b) := by
  refine push1 hs hO rfl (by rw [List.length_map]; omega) (by rw [List.length_map]; omega) ?_
  intro c v h' hc ho hf
  refine hk c v h' hc ?_ hf
  rw [List.map_append]; exact ho
theorem ints_in {S : Nat → Prop} {h : H} {w : Value} {l : List Int} (r : RepL S tI h w l) : ∀ n ∈ l, inI n := (repI r).2
end Go.Proofs.YtooimdgoibdhlaaDoor.sc
