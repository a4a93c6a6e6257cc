/-
  A line read: the program's answer.
-/
import Derived.Test.YtooimdgoibdhlaaDoorPo
namespace Go.Proofs.YtooimdgoibdhlaaDoor.sc
open Go Go.Proofs.YtooimdgoibdhlaaDoor Go.RowKit
set_option linter.unusedVariables false
set_option linter.unusedSimpArgs false
section
variable {h : H}
theorem told_eq : c13_s21 = c13_j1 := rfl
theorem Read_j1 {T : List (Nat × List Nat × LC)} {g : H} {x : St} {line : List UInt8} {p2 ps : Nat} {vb vp : Value} (G : GL h) (E : Ext h g) (hl : line.length ≤ 1048576) (q2 : g p2 = some (.cells z7.toArray 31)) (qs : g ps = some (.cells (sCs x vb vp).toArray 31))
    (hp2 : h p2 = none) (hb : sB x) (ob : OwB (fun y => h y = none) g 5 vb x.2.2.1) (op : O1 (fun y => h y = none) g 3 vp (x.2.2.2.2.2.map (.int .i64))) (hi : ∀ n ∈ x.2.2.2.2.2, inI n) (hpl : x.2.2.2.2.2.length ≤ 4611686018427387904)
    (cand : ∀ t, May t → ln t = line → x = t) :
    vc Tryd.prog c13_j1 (jQ Tryd.prog T (retC [.cn 2 7 31, .t 3] (okR (RD h line)))) [(0, sv line), (2, .pointer (some ⟨p2, 0, none⟩)), (4, .pointer (some ⟨ps, 0, none⟩))] g := by
  have A := V7.mk' qs
  have rx : Rep nos stT g (sCs x vb vp) x := rep_st.2 ⟨vb, vp, rfl, hb, ob.s0, iRep op.s0 hi⟩
  have aa := A.all
  have cvb : isCell vb = true := by obtain ⟨a, c, e⟩ := By.len ob.s0; rw [e]; rfl
  have cvp : isCell vp = true := by obtain ⟨a, c, e⟩ := S1.len op.s0; rw [e]; rfl
  simp (disch := omega) only [dm_t, wS, simprocAttr, IntKind.bits, aa]
  refine (Line_ok (G.ext E) rx hpl).k ?_
  rintro _ g3 ⟨rfl, e3⟩
  have E3 := E.trans e3
  have aa3 := (A.ext e3).all
  have q23 := e3.at q2
  have bad : rdS line = (z0, 390) → ∀ {K : H → Prop}, K (hupd g3 p2 (.cells z7.toArray 31)) → storeH g3 ⟨p2, 0, none⟩ z7 K := fun _ K hK => storeH_all q23 rfl rfl hK
  have k0 : cellsAt (hupd g3 p2 (.cells z7.toArray 31)) ⟨p2, 0, none⟩ 7 = some z7.toArray := cellsAt_all (hupd_same _ _ _) 7 rfl
  have Ez : Ext h (hupd g3 p2 (.cells z7.toArray 31)) := Ext.step' E3 (Fr.upd (S := fun y => y = p2) rfl _) fun y hy => by rw [hy]; exact hp2
  cases hm : mayS x with
  | false =>
    have hr : rdS line = (z0, 390) := rdS_no hl fun t mt ht => by
      have := (may_iff t).2 mt
      rw [← cand t mt ht, hm] at this; cases this
    simp only [Bool.false_eq_true, if_false]
    simp (disch := omega) only [dm_t, wS, simprocAttr, IntKind.bits]
    refine bad hr ?_
    simp (disch := omega) only [dm_t, wS, simprocAttr, IntKind.bits, k0, jQ_ret]
    exact RD_zero Ez hr
  | true =>
    have m := (may_iff x).1 hm
    simp only [if_true]
    by_cases hln : ln x = line
    · have hr : rdS line = (x, 0) := rdS_yes hl m hln
      simp (disch := omega) only [dm_t, wS, simprocAttr, IntKind.bits, toList_mk, hln, aa3]
      refine storeH_all q23 rfl (by simp only [List.all_cons, List.all_nil, cvb, cvp, Bool.and_true]; rfl) ?_
      have f : Fr (fun y => y = p2) g3 (hupd g3 p2 (.cells (sCs x vb vp).toArray 31)) := Fr.upd (S := fun y => y = p2) rfl _
      have k : cellsAt (hupd g3 p2 (.cells (sCs x vb vp).toArray 31)) ⟨p2, 0, none⟩ 7 = some (sCs x vb vp).toArray := cellsAt_all (hupd_same _ _ _) 7 rfl
      have ob3 := ob.ext e3
      have op3 := op.ext e3
      have n1 : ¬ isAt vb p2 := OwK.tyno ob3 q23 (by decide)
      have n2 : ¬ isAt vp p2 := OwK.tyno op3 q23 (by decide)
      simp (disch := omega) only [dm_t, wS, simprocAttr, IntKind.bits, k, jQ_ret]
      refine ⟨vb, vp, by rw [hr], by rw [hr]; exact hb, by rw [hr]; exact OwK.fr ob3 f (fun y hy _ hat => n1 (by rw [← hy]; exact hat)), by rw [hr]; exact OwK.fr op3 f (fun y hy _ hat => n2 (by rw [← hy]; exact hat)), by rw [hr]; exact hi, ?_⟩
      exact Ext.step' E3 f fun y hy => by rw [hy]; exact hp2
    · have hr : rdS line = (z0, 390) := rdS_no hl fun t mt ht => hln (by rw [cand t mt ht]; exact ht)
      simp (disch := omega) only [dm_t, wS, simprocAttr, IntKind.bits, toList_mk, hln, aa3]
      refine bad hr ?_
      simp (disch := omega) only [dm_t, wS, simprocAttr, IntKind.bits, k0, jQ_ret]
      exact RD_zero Ez hr
end
end Go.Proofs.YtooimdgoibdhlaaDoor.sc
