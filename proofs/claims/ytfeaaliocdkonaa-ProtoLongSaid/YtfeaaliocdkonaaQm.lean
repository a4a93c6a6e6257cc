/-
  proto: ProtoLong walked.
-/
import Derived.Test.YtfeaaliocdkonaaPr
import Derived.Test.YtfeaaliocdkonaaPv
namespace Go.Proofs.Ytfeaaliocdkonaa.pr
open Go.Proofs.Ytfeaaliocdkonaa rr wi
set_option linter.unusedVariables false
set_option linter.unusedSimpArgs false
def rV (V : List UInt8) : rc.D := ((0 : Int), ([] : List UInt8), V)
theorem may_rV {V : List UInt8} (hV : V.length = 4096) : may (rV V) = true := by
  simp [may, rV, hV]
theorem all_rV {V : List UInt8} {ls : List rc.D} (hV : V.length = 4096) (h : ∀ x ∈ ls, x = rV V) : ls.all may = true :=
  List.all_eq_true.2 fun x hx => by rw [h x hx]; exact may_rV hV
theorem sz_rV {V : List UInt8} : ∀ {ls : List rc.D} (hV : V.length = 4096) (h : ∀ x ∈ ls, x = rV V), szR ls = 4112 * ls.length
  | [], hV, h => by simp [szR]
  | r :: t, hV, h => by
    have h1 := h r (by simp)
    have h2 := sz_rV (ls := t) hV fun x hx => h x (by simp [hx])
    rw [show r :: t = [r] ++ t from rfl, szR_app, szR_one, h2, h1]
    simp only [rV, List.length_nil, hV, List.length_append, List.length_cons]
    omega
theorem ck_long {V : List UInt8} {ls : List rc.D} (hV : V.length = 4096) (h : ∀ x ∈ ls, x = rV V) (hl : ls.length = 300) : ckQ ((1 : Int), (0 : Int), (0 : Int), ls, (0 : Int), (0 : Int)) = 8 ∧ ckA ((2 : Int), (0 : Int), (0 : Int), (0 : Int), ls, []) = 8 := by
  have hc : carryP ls = true := by rw [carryP, all_rV hV h, hl]; rfl
  have hs : szR ls = 4112 * 300 := by rw [sz_rV hV h, hl]
  constructor
  · rw [ckQ, if_pos ⟨by simp [okQ, hc], by simp, by simp⟩, if_pos ⟨rfl, by show 1048576 < 19 + szR ls; omega⟩]
  · rw [ckA, if_pos (by simp [okA, okA4, okA3, okA2, okA1, hc]), if_pos ⟨rfl, by show 1048576 < 27 + szR ls; omega⟩]
set_option maxRecDepth 100000 in
theorem PL_ok (h : H) : Ok Try.prog 6 #[] h fun v h' => v = .bool true ∧ Ext h h' := by
  refine c6_ok (args := []) (by simp) ?_
  simp (disch := omega) only [dm_t, wS, simprocAttr, IntKind.bits]
  intro bb hbb
  have hB : By nos (hupd h bb (.cells (Builtin.zeroCells #[.int .u8 0] 1048569) 5)) (.slice (some ⟨bb, 0, none⟩) 1048569 1048569) (List.replicate 1048569 0) := (omakeB (O := fun _ => True) (n := 1048569) (m := 1048569) (Nat.le_refl _) trivial).s0
  obtain ⟨B, hBl, hB⟩ : ∃ B : List UInt8, B.length = 1048569 ∧ By nos (hupd h bb (.cells (Builtin.zeroCells #[.int .u8 0] 1048569) 5)) (.slice (some ⟨bb, 0, none⟩) 1048569 1048569) B := ⟨_, List.length_replicate, hB⟩
  generalize hG : hupd h bb _ = g1 at hB ⊢
  obtain ⟨e1, q1⟩ := new_ext hG hbb
  clear hG q1
  refine slc_pre 1048568 (by rfl) (by rfl) (by omega) ?_
  have hB1 := By.pre hB (m := 1048568) (by omega)
  have hl1 : (B.take 1048568).length = 1048568 := by rw [List.length_take]; omega
  have hB2 := By.pre hB (m := 4096) (by omega)
  have hl2 : (B.take 4096).length = 4096 := by rw [List.length_take]; omega
  generalize B.take 1048568 = X at hB1 hl1
  generalize B.take 4096 = V at hB2 hl2
  simp (disch := omega) only [dm_t, wS, simprocAttr, IntKind.bits]
  refine (Seal_ok hB1 (by omega) (by omega)).k ?_
  rintro _ g2 ⟨f, rfl, o2, e2⟩
  have hfl := sealB_len X
  obtain ⟨sp1, sp2, sp3⟩ := split_seal (b := X) (c := []) (by omega) (by omega)
  rw [List.append_nil] at sp1 sp2 sp3
  rw [hl1] at hfl sp2
  generalize sealB X = F at o2 hfl sp1 sp2 sp3
  obtain ⟨fa, fc, rfl⟩ := By.len o2.s0
  simp (disch := omega) only [dm_t, wS, simprocAttr, IntKind.bits]
  refine (Seal_big (hB.ext e2) (by omega)).k ?_
  rintro _ _ ⟨rfl, rfl⟩
  simp (disch := omega) only [dm_t, wS, simprocAttr, IntKind.bits]
  refine (Split_ok o2.s0 (by omega)).k ?_
  rintro _ g3 ⟨hsp, e3⟩
  rcases hsp with ⟨_, x, rfl, ox⟩ | ⟨he, _⟩
  case inr => exact absurd sp1 he
  rw [sp2, sp3] at *
  obtain ⟨xa, xc, rfl⟩ := By.len ox.s0
  have E3 := (e1.trans e2).trans e3
  simp (disch := omega) only [dm_t, wS, simprocAttr, IntKind.bits]
  intro lb hlb
  have o4 : OwL nos rc (fun y => g3 y = none) (hupd g3 lb (.cells (Builtin.zeroCells #[.int .i64 0, .slice none 0 0, .slice none 0 0] 300) 32)) 32 (.slice (some ⟨lb, 0, none⟩) 300 300) (List.replicate 300 (rV [])) :=
    omakeL (z := [.int .i64 0, .slice none 0 0, .slice none 0 0]) 3 sz_rc (rV []) (fun h => rep_rc0 h) (Nat.le_refl _) hlb
  obtain ⟨ls0, hls, hall0, o4⟩ : ∃ ls : List rc.D, ls.length = 300 ∧ (∀ x ∈ ls, x.1 = 0 ∧ x.2.1 = []) ∧ OwL nos rc (fun y => g3 y = none) (hupd g3 lb (.cells (Builtin.zeroCells #[.int .i64 0, .slice none 0 0, .slice none 0 0] 300) 32)) 32 (.slice (some ⟨lb, 0, none⟩) 300 300) ls :=
    ⟨_, List.length_replicate, fun x hx => by rw [List.eq_of_mem_replicate hx]; exact ⟨rfl, rfl⟩, o4⟩
  have hlb' := hlb
  generalize hG : hupd g3 lb _ = g4 at o4 ⊢
  obtain ⟨e4, q4⟩ := new_ext hG hlb
  clear hG q4
  have hVo : By (fun y => g3 y = none) g3 (.slice (some ⟨bb, 0, none⟩) 4096 1048569) V := SlK.old (SlK.ext hB2 (e2.trans e3)) fun _ h => h
  refine vc_loop1 (fun vk g' => ∃ (k : Nat) (ls : List rc.D), vk = .int .i64 (k : Int) ∧ k ≤ 300 ∧ ls.length = 300 ∧ (∀ x ∈ ls, x.1 = 0 ∧ x.2.1 = []) ∧ (∀ j (hj : j < ls.length), j < k → ls[j] = rV V) ∧ OwL nos rc (fun y => g3 y = none) g' 32 (.slice (some ⟨lb, 0, none⟩) 300 300) ls ∧ Ext g3 g') (fun vk _ => 300 - m1 vk) ?_ ?_
  · simp (disch := omega) only [dm_t, wS, simprocAttr, IntKind.bits]
    exact ⟨0, ls0, rfl, by omega, hls, hall0, fun j _ hj => by omega, o4, e4⟩
  rintro _ g5 ⟨k, ls, rfl, hk, hl5, ha5, hj5, o5, e5⟩
  by_cases hkl : k < 300
  · obtain ⟨pb, po, cs, i1, hat, hO, hc, hr, hst⟩ := OwL.set o5 (i := k) (by omega) .i64 3 sz_rc
    obtain ⟨ka, va, rfl, hbd, hk1, hv1⟩ := rep_rc.1 hr
    have hVx : By (fun y => isAt (.slice (some ⟨lb, 0, none⟩) 300 300) y ∨ nos y) g5 (.slice (some ⟨bb, 0, none⟩) 4096 1048569) V := SlK.mono (SlK.ext hVo e5) fun y o _ hy => by
      rcases hy with hy | hy
      · rw [show y = lb from hasAt hy]; exact hlb'
      · exact hy.elim
    simp (disch := omega) only [dm_t, wS, simprocAttr, IntKind.bits]
    refine slc_pre (h := g5) (a := some ⟨bb, 0, none⟩) (n := 1048569) (c := 1048569) 4096 (by omega) (by omega) (by omega) ?_
    simp (disch := omega) only [dm_t, wS, simprocAttr, IntKind.bits, i1]
    have hx0 := ha5 _ (List.getElem_mem (show k < ls.length by omega))
    have hrep : Rep (fun y => isAt (.slice (some ⟨lb, 0, none⟩) 300 300) y ∨ nos y) rc g5 [.int .i64 (ls[k]'(by omega)).1, ka, .slice (some ⟨bb, 0, none⟩) 4096 1048569] (rV V) := rep_rc.2 ⟨ka, _, by rw [hx0.1]; rfl, ⟨by simp [rV], by simp [rV]⟩, by rw [hx0.2] at hk1; exact hk1, hVx⟩
    refine hst 2 [.slice (some ⟨bb, 0, none⟩) 4096 1048569] (rV V) _ (by simp) rfl hrep ?_
    intro g6 o6 f6
    simp (disch := omega) only [dm_t, wS, simprocAttr, IntKind.bits]
    refine ⟨⟨k + 1, _, by simp, by omega, by rw [List.length_set]; exact hl5, ?_, ?_, o6, Ext.step' e5 f6 fun y hy => by rw [hy]; exact hO⟩, by simp [m1]; omega⟩
    · intro x hx
      rcases List.mem_or_eq_of_mem_set hx with hx | hx
      · exact ha5 x hx
      · rw [hx]; exact ⟨rfl, rfl⟩
    · intro j hj hjk
      rw [List.getElem_set]
      split
      · rfl
      · rw [List.length_set] at hj
        exact hj5 j hj (by omega)
  · have hk300 : k = 300 := by omega
    have hall : ∀ x ∈ ls, x = rV V := fun x hx => by
      obtain ⟨j, hj, rfl⟩ := List.mem_iff_getElem.1 hx
      exact hj5 j hj (by omega)
    obtain ⟨cq, cA⟩ := ck_long hl2 hall hl5
    have i0 : inI 0 := ⟨by decide, by decide⟩
    have i1 : inI 1 := ⟨by decide, by decide⟩
    have i2 : inI 2 := ⟨by decide, by decide⟩
    have u0 : inU 0 := ⟨by decide, by decide⟩
    have hr5 : RepL nos rc g5 (.slice (some ⟨lb, 0, none⟩) 300 300) ls := OwL.rep o5
    have hQ : Rep nos reqT g5 (qCs ((1 : Int), (0 : Int), (0 : Int), ls, (0 : Int), (0 : Int)) (.slice (some ⟨lb, 0, none⟩) 300 300)) ((1 : Int), (0 : Int), (0 : Int), ls, (0 : Int), (0 : Int)) := rep_req.2 ⟨_, rfl, ⟨i1, u0, i0, i0, i0⟩, hr5⟩
    simp (disch := omega) only [dm_t, wS, simprocAttr, IntKind.bits]
    refine (Ask_no hQ (by rw [cq]; decide)).k ?_
    rintro _ g6 ⟨rfl, e6⟩
    rw [cq]
    have hA : Rep nos ansT g6 (aCs ((2 : Int), (0 : Int), (0 : Int), (0 : Int), ls, []) (.slice (some ⟨lb, 0, none⟩) 300 300) (.slice none 0 0)) ((2 : Int), (0 : Int), (0 : Int), (0 : Int), ls, []) := rep_ans.2 ⟨_, _, rfl, ⟨i2, u0, i0, i0⟩, hr5.ext e6, RepL.nil⟩
    simp (disch := omega) only [dm_t, wS, simprocAttr, IntKind.bits]
    refine (Tell_no hA (by simp) (by rw [cA]; decide)).k ?_
    rintro _ g7 ⟨rfl, e7⟩
    rw [cA]
    simp (disch := omega) only [dm_t, wS, simprocAttr, IntKind.bits, hfl]
    refine (num_ok _ _).k ?_
    rintro _ _ ⟨rfl, rfl⟩
    simp (disch := omega) only [dm_t, wS, simprocAttr, IntKind.bits]
    refine (num_ok _ _).k ?_
    rintro _ _ ⟨rfl, rfl⟩
    simp (disch := omega) only [dm_t, wS, simprocAttr, IntKind.bits, hl1]
    refine (num_ok _ _).k ?_
    rintro _ _ ⟨rfl, rfl⟩
    simp (disch := omega) only [dm_t, wS, simprocAttr, IntKind.bits]
    refine (num_ok _ _).k ?_
    rintro _ _ ⟨rfl, rfl⟩
    simp (disch := omega) only [dm_t, wS, simprocAttr, IntKind.bits]
    refine (num_ok _ _).k ?_
    rintro _ _ ⟨rfl, rfl⟩
    simp (disch := omega) only [dm_t, wS, simprocAttr, IntKind.bits]
    refine works_k fun g8 e8 => ?_
    simp (disch := omega) only [dm_t, wS, simprocAttr, IntKind.bits]
    exact (((E3.trans e5).trans e6).trans e7).trans e8
end Go.Proofs.Ytfeaaliocdkonaa.pr
