/-
  groups: GroupsApart: the plain law.
-/
import Derived.Test.YthhofmjhnjkcfaaGr
namespace Go.Proofs.Ythhofmjhnjkcfaa.gr
open Go.Proofs.Ythhofmjhnjkcfaa wi
set_option linter.unusedVariables false
set_option linter.unusedSimpArgs false
theorem lst_app (k : Ky) : ∀ (A B : List rc.D), lst k (A ++ B) = match lst k B with | some o => some o | none => lst k A
  | [], B => by rw [List.nil_append]; cases lst k B <;> rfl
  | x :: A, B => by
    rw [List.cons_append, lst, lst_app k A B]
    cases lst k B with
    | some o => rfl
    | none => rw [lst]
theorem lst_swap (k : Ky) {x y : rc.D} (h : x.2.1 ≠ y.2.1) (A B : List rc.D) : lst k (A ++ x :: y :: B) = lst k (A ++ y :: x :: B) := by
  rw [lst_app, lst_app]
  have : lst k (x :: y :: B) = lst k (y :: x :: B) := by
    rw [lst, lst, lst, lst]
    cases lst k B with
    | some o => rfl
    | none =>
      simp only
      by_cases hx : rdE x = 0 ∧ key (rdP x) = k
      · by_cases hy : rdE y = 0 ∧ key (rdP y) = k
        · exact absurd ((key_same hx.1 hy.1).1 (hx.2.trans hy.2.symm)) h
        · rw [if_pos hx, if_neg hy]
      · rw [if_neg hx]
        by_cases hy : rdE y = 0 ∧ key (rdP y) = k
        · rw [if_pos hy]
        · rw [if_neg hy]
  rw [this]
theorem fold_swap {x y : rc.D} (h : x.2.1 ≠ y.2.1) (A B : List rc.D) : (A ++ x :: y :: B).foldl stp [] = (A ++ y :: x :: B).foldl stp [] :=
  same_fnd (fold_srt List.Pairwise.nil) (fold_srt List.Pairwise.nil) fun k => by
    rw [fnd_fold List.Pairwise.nil, fnd_fold List.Pairwise.nil, lst_swap k h]
theorem set_swap (A B : List rc.D) (x y : rc.D) : ((A ++ x :: y :: B).set A.length y).set (A.length + 1) x = A ++ y :: x :: B := by
  simp [List.set_append]
theorem parts {l : List rc.D} {k : Nat} (hk : k + 1 < l.length) : ∃ A B, A.length = k ∧ l = A ++ l[k] :: l[k + 1] :: B := by
  refine ⟨l.take k, l.drop (k + 2), by rw [List.length_take]; omega, ?_⟩
  rw [← List.drop_eq_getElem_cons hk, ← List.drop_eq_getElem_cons (show k < l.length by omega), List.take_append_drop]
theorem fold_set {l : List rc.D} {k : Nat} (hk : k + 1 < l.length) (h : l[k].2.1 ≠ l[k + 1].2.1) : ((l.set k l[k + 1]).set (k + 1) l[k]).foldl stp [] = l.foldl stp [] := by
  obtain ⟨A, B, hA, hl⟩ := parts hk
  generalize l[k] = x at *
  generalize l[k + 1] = y at *
  subst hA hl
  rw [set_swap, fold_swap h.symm]
theorem fold_len {l : List rc.D} : ∀ {L : List Pl}, L.Pairwise lp → (l.foldl stp L).length ≤ L.length + l.length := by
  induction l with
  | nil => intro L s; exact Nat.le_refl _
  | cons x r ih =>
    intro L s
    have h1 := ih (stp_srt s x)
    have h2 := stp_len s x
    rw [List.foldl_cons, List.length_cons]; omega
/-! ### Lags -/
theorem lagA_of {L : List Pl} {g : List UInt8} {j : Nat} (hj : (fnd (g, (j : Int)) L).isSome = true) : ∀ {n}, j < n → lagA L g n = true
  | 0, h => by omega
  | n + 1, h => by
    rw [lagA]
    by_cases hn : j = n
    · subst hn; rw [hj, Bool.or_true]
    · rw [lagA_of hj (show j < n by omega), Bool.true_or]
theorem lagA_name {L : List Pl} (hm : ∀ p ∈ L, mayP p = true) (u : Uq L) {g : List UInt8} (h : g ∈ nm L) : lagA L g 16 = true ∧ grp g = true := by
  have h1 := nk_mem (by rw [List.length_map]; exact Nat.le_refl _) h
  obtain ⟨p, hp, rfl⟩ := List.mem_map.1 h1
  have hmp := hm p hp
  obtain ⟨-, m2, -, -⟩ := mayP_iff.1 hmp
  refine ⟨lagA_of (j := p.2.1.toNat) ?_ (by omega), ?_⟩
  · rw [show ((p.2.1.toNat : Nat) : Int) = p.2.1 by omega, show (p.1, p.2.1) = key p from rfl, fnd_mem u hp rfl]; rfl
  · rw [mayP, Bool.and_eq_true, Bool.and_eq_true, Bool.and_eq_true] at hmp
    exact hmp.1.1.1
def offL (L : List Pl) (g : List UInt8) (p : Nat) : Int := match fnd (g, (p : Int)) L with
  | some x => x.2.2.1
  | none => 0
def ownL (L : List Pl) (g : List UInt8) (n : Nat) : List Int := (List.range 16).map fun p => if p < n then offL L g p else 0
theorem own_len (L : List Pl) (g : List UInt8) (n : Nat) : (ownL L g n).length = 16 := by simp [ownL]
theorem own_set (L : List Pl) (g : List UInt8) {n : Nat} (hn : n < 16) : (ownL L g n).set n (offL L g n) = ownL L g (n + 1) := by
  apply List.ext_getElem?
  intro i
  rw [List.getElem?_set]
  by_cases hi : i < 16
  · by_cases hni : n = i
    · subst hni
      rw [if_pos rfl, if_pos (by rw [own_len]; exact hn)]
      simp [ownL, hi]
    · rw [if_neg hni]
      simp only [ownL, List.getElem?_map, List.getElem?_range hi, Option.map_some]
      congr 1
      by_cases h2 : i < n
      · rw [if_pos h2, if_pos (by omega)]
      · rw [if_neg h2, if_neg (by omega)]
  · rw [if_neg (by omega), List.getElem?_eq_none (by rw [own_len]; omega), List.getElem?_eq_none (by rw [own_len]; omega)]
theorem own_none {L : List Pl} {g : List UInt8} {n : Nat} (hn : n < 16) (h : offL L g n = 0) : ownL L g n = ownL L g (n + 1) := by
  rw [← own_set L g hn, h]
  apply List.ext_getElem?
  intro i
  rw [List.getElem?_set]
  split
  · rename_i hni; subst hni
    rw [if_pos (by rw [own_len]; exact hn)]
    simp [ownL, hn]
  · rfl
theorem offL_bd {L : List Pl} (hm : ∀ p ∈ L, mayP p = true) (g : List UInt8) (n : Nat) : tm (offL L g n) = true := by
  unfold offL
  split
  · rename_i x hx
    have := (mayP_iff.1 (hm x (fnd_some hx).1)).2.2.1
    exact tm_iff.2 this
  · decide
theorem lag_own {L : List Pl} (hm : ∀ p ∈ L, mayP p = true) {g : List UInt8} (hA : lagA L g 16 = true) (hg : grp g = true) : lagE L g (ownL L g 16) = 0 ∧ lagV L g (ownL L g 16) = 0 := by
  have hall : (ownL L g 16).all tm = true := by
    rw [List.all_eq_true]
    intro x hx
    obtain ⟨p, _, rfl⟩ := List.mem_map.1 hx
    split
    · exact offL_bd hm g p
    · decide
  have hE : lagE L g (ownL L g 16) = 0 := by rw [lagE, if_pos ⟨hg, by rw [own_len]; exact Nat.le_refl _, hall⟩, if_pos hA]
  refine ⟨hE, ?_⟩
  rw [lagV, if_pos hE]
  have hT : ∀ n, n < 16 → lagT L g (ownL L g 16) n = 0 := by
    intro n hn
    unfold lagT
    have ho : offL L g n = match fnd (g, (n : Int)) L with | some x => x.2.2.1 | none => 0 := rfl
    cases hf : fnd (g, (n : Int)) L with
    | none => rfl
    | some x =>
      simp only
      rw [hf] at ho
      simp only at ho
      rw [if_pos (by rw [own_len]; exact hn)]
      have : (ownL L g 16).getD n 0 = x.2.2.1 := by simp [ownL, hn, ho]
      rw [this]; omega
  have hS : ∀ n, n ≤ 16 → lagS L g (ownL L g 16) n = 0 := by
    intro n
    induction n with
    | zero => intro _; rfl
    | succ n ih => intro h; rw [lagS, ih (by omega), hT n (by omega)]; rfl
  exact hS 16 (Nat.le_refl _)
def inc (x : Int) : Int := if x < 9007199254740992 then x + 1 else x
theorem lagT_inc {L : List Pl} {g : List UInt8} {ms : List Int} (n : Nat) : lagT L g ms n ≤ lagT L g (ms.map inc) n ∧ lagT L g (ms.map inc) n ≤ lagT L g ms n + (if n < ms.length then 1 else 0) := by
  unfold lagT
  cases fnd (g, (n : Int)) L with
  | none => simp only; split <;> omega
  | some x =>
    simp only [List.length_map]
    by_cases hn : n < ms.length
    · rw [if_pos hn, if_pos hn, if_pos hn]
      have h1 : ms.getD n 0 = ms[n] := by simp [hn]
      have h2 : (ms.map inc).getD n 0 = inc ms[n] := by simp [hn]
      rw [h1, h2]
      unfold inc
      split <;> omega
    · rw [if_neg hn, if_neg hn, if_neg hn]; omega
theorem lagS_inc {L : List Pl} {g : List UInt8} {ms : List Int} : ∀ (n : Nat), lagS L g ms n ≤ lagS L g (ms.map inc) n ∧ lagS L g (ms.map inc) n ≤ lagS L g ms n + (min n ms.length : Nat)
  | 0 => by simp [lagS]
  | n + 1 => by
    have h1 := lagS_inc (L := L) (g := g) (ms := ms) n
    have h2 := lagT_inc (L := L) (g := g) (ms := ms) n
    rw [lagS, lagS]
    constructor
    · omega
    · split at h2 <;> omega
theorem lag_two {L : List Pl} {g : List UInt8} {ms : List Int} (hA : lagA L g 16 = true) : lagE L g ms = 0 ∨ lagE L g ms = 2 := by
  unfold lagE
  by_cases hc : grp g = true ∧ ms.length ≤ 16 ∧ ms.all tm = true
  · left; rw [if_pos hc, if_pos hA]
  · right; rw [if_neg hc]
theorem lag_inc {L : List Pl} {g : List UInt8} {ms : List Int} (hA : lagA L g 16 = true) (hE : lagE L g ms = 0) : lagE L g (ms.map inc) = 0 ∧ lagV L g ms ≤ lagV L g (ms.map inc) ∧ lagV L g (ms.map inc) ≤ lagV L g ms + ms.length := by
  have hc : grp g = true ∧ ms.length ≤ 16 ∧ ms.all tm = true := by
    by_cases h : grp g = true ∧ ms.length ≤ 16 ∧ ms.all tm = true
    · exact h
    · rw [lagE, if_neg h] at hE; cases hE
  have hall : (ms.map inc).all tm = true := by
    rw [List.all_eq_true]
    intro x hx
    obtain ⟨y, hy, rfl⟩ := List.mem_map.1 hx
    have := tm_iff.1 (List.all_eq_true.1 hc.2.2 y hy)
    rw [tm_iff]; unfold inc; split <;> omega
  have hE2 : lagE L g (ms.map inc) = 0 := by rw [lagE, if_pos ⟨hc.1, by rw [List.length_map]; exact hc.2.1, hall⟩, if_pos hA]
  refine ⟨hE2, ?_⟩
  rw [lagV, lagV, if_pos hE, if_pos hE2]
  have := lagS_inc (L := L) (g := g) (ms := ms) 16
  omega
end Go.Proofs.Ythhofmjhnjkcfaa.gr
namespace Go.Proofs.Ythhofmjhnjkcfaa.gr
open Go.Proofs.Ythhofmjhnjkcfaa wi
set_option linter.unusedVariables false
set_option linter.unusedSimpArgs false
theorem fits' {l : List rc.D} (h : Ty.fit (.sl rc) l) : ∀ x ∈ l, x.2.1.length ≤ 140737488351232 := fun x hx => by
  have := (h.2 x hx).2.1.1
  rw [show Ty.by .byte = 1 from rfl, Nat.mul_one] at this
  exact this
def curI (ms : List Int) (k : Nat) : List Int := (ms.take k).map inc ++ ms.drop k
theorem curI_len (ms : List Int) (k : Nat) : (curI ms k).length = ms.length := by
  rw [curI, List.length_append, List.length_map, List.length_take, List.length_drop]; omega
theorem curI_at {ms : List Int} {k : Nat} (hk : k < ms.length) : (curI ms k)[k]'(by rw [curI_len]; exact hk) = ms[k] := by
  have hl : ((ms.take k).map inc).length = k := by rw [List.length_map, List.length_take]; omega
  simp only [curI]
  rw [List.getElem_append_right (by omega)]
  have e : k + (k - min k ms.length) = k := by omega
  simp [hl, e]
theorem curI_set {ms : List Int} {k : Nat} (hk : k < ms.length) : (curI ms k).set k (inc ms[k]) = curI ms (k + 1) := by
  have hl : ((ms.take k).map inc).length = k := by rw [List.length_map, List.length_take]; omega
  rw [curI, List.set_append_right _ _ (by omega), hl, Nat.sub_self, List.drop_eq_getElem_cons hk, List.set_cons_zero, curI, List.take_succ_eq_append_getElem hk, List.map_append, List.append_assoc]
  rfl
theorem curI_end (ms : List Int) : curI ms ms.length = ms.map inc := by
  rw [curI, List.take_length, List.drop_length, List.append_nil]
theorem lagV_bd {L : List Pl} {ms : List Int} (hm : ∀ p ∈ L, mayP p = true) (g : List UInt8) : 0 ≤ lagV L g ms ∧ lagV L g ms ≤ 144115188075855872 := by
  unfold lagV
  split
  · rename_i hE
    have hc : ms.all tm = true := by
      by_cases h : grp g = true ∧ ms.length ≤ 16 ∧ ms.all tm = true
      · exact h.2.2
      · rw [lagE, if_neg h] at hE; cases hE
    have := lagS_bd hm hc (g := g) 16
    omega
  · omega
theorem own_zero (L : List Pl) (g : List UInt8) : (ownL L g 0).map (Value.int .i64) = List.replicate 16 (Value.int .i64 0) := rfl
/-- The lags of each group. -/
theorem GA_s11 {h g : H} {ba ma : Nat} {M : List Pl} {wa : Option Addr} {wc' : Nat} {ms : List Int} (A : GB g ba ma M) (E : Ext h g) (hm : IL nos h (.slice wa ms.length wc') ms) (h16 : ms.length ≤ 16) (hmb : ∀ x ∈ ms, -9223372036854775808 ≤ x ∧ x ≤ 9223372036854775807) :
    vc Try.prog c6_s11 (retQ [6] (okR fun r h' => r = .bool true ∧ Ext h h')) [(2, .slice wa ms.length wc'), (7, .pointer (some ⟨ba, 0, none⟩))] g := by
  simp (disch := omega) only [dm_t, wS, simprocAttr, IntKind.bits]
  refine (Names_ok A).k ?_
  rintro nv g1 ⟨no, e1⟩
  obtain ⟨na, nc, hnv⟩ := no.s0.len
  rw [one_len, List.length_map] at hnv
  subst hnv
  have hA := A.ext e1
  have hS := no.s0
  have hnl : (nm M).length ≤ 4096 := Nat.le_trans (nk_len _ _) A.len
  simp (disch := omega) only [dm_t, wS, simprocAttr, IntKind.bits]
  refine vc_loop1 (fun vi g2 => ∃ (i : Nat), vi = .int .i64 (i : Int) ∧ i ≤ (nm M).length ∧ GB g2 ba ma M ∧ S1 nos g2 (.slice na (nm M).length nc) (sL (nm M)) ∧ Ext h g2) (fun vi _ => (nm M).length - m1 vi) ?_ ?_
  · simp (disch := omega) only [dm_t, wS, simprocAttr, IntKind.bits]
    exact ⟨0, rfl, by omega, hA, hS, E.trans e1⟩
  clear hA hS no e1 g1
  rintro _ g1 ⟨i, rfl, hi, A1, s1, E1⟩
  by_cases hil : i < (nm M).length
  · obtain ⟨nb, nof, i1, c1⟩ := ss_at s1 hil
    obtain ⟨hLA, hgr⟩ := lagA_name A.may (uq_of A.srt) (List.getElem_mem hil)
    generalize hnm : (nm M)[i] = nam at *
    have hnam : nam.length ≤ 9223372036854775807 := by
      have := hgr
      simp only [grp, Bool.and_eq_true, decide_eq_true_eq] at this
      omega
    obtain ⟨hown1, hown2⟩ := lag_own A.may hLA hgr
    simp (disch := omega) only [dm_t, wS, simprocAttr, IntKind.bits, i1, c1]
    intro ob hob
    have oinit : O1 (fun y => g1 y = none) (hupd g1 ob (.cells (Builtin.zeroCells #[Value.int IntKind.i64 0] 16) 2)) 2 (.slice (some ⟨ob, 0, none⟩) 16 16) ((ownL M nam 0).map (.int .i64)) := by
      rw [own_zero]; exact omake1 (Nat.le_refl _) hob
    have einit : Ext g1 (hupd g1 ob (.cells (Builtin.zeroCells #[Value.int IntKind.i64 0] 16) 2)) := Ext.new hob _
    generalize hupd g1 ob (.cells (Builtin.zeroCells #[Value.int IntKind.i64 0] 16) 2) = g2 at oinit einit ⊢
    refine vc_loop1 (fun vp g3 => ∃ (n : Nat), vp = .int .i64 (n : Int) ∧ n ≤ 16 ∧ O1 (fun y => g1 y = none) g3 2 (.slice (some ⟨ob, 0, none⟩) 16 16) ((ownL M nam n).map (.int .i64)) ∧ Ext g1 g3) (fun vp _ => 16 - m1 vp) ?_ ?_
    · simp (disch := omega) only [dm_t, wS, simprocAttr, IntKind.bits]
      exact ⟨0, rfl, by omega, oinit, einit⟩
    clear oinit einit g2
    rintro _ g2 ⟨n, rfl, hn, o2, e2⟩
    by_cases hn16 : n < 16
    · have c1' := cellAt_ext e2 c1
      have A2 := A1.ext e2
      have hp1 : (grp (nam, (n : Int)).1 && prt (nam, (n : Int)).2) = true := by
        rw [hgr, Bool.true_and]; simp only [prt, Bool.and_eq_true, decide_eq_true_eq]; omega
      have hlet : letE M (nam, (n : Int)) = if (fnd (nam, (n : Int)) M).isSome = true then 0 else 360 := by rw [letE, if_pos hp1]
      simp (disch := omega) only [dm_t, wS, simprocAttr, IntKind.bits, i1, c1']
      refine (At_ok A2 (nam, (n : Int)) hnam).k ?_
      rintro _ g3 ⟨rfl, e3⟩
      have ho : offL M nam n = match fnd (nam, (n : Int)) M with | some x => x.2.2.1 | none => 0 := rfl
      simp (disch := omega) only [dm_t, wS, simprocAttr, IntKind.bits]
      intro b6 hb6
      simp (disch := omega) only [dm_t, wS, simprocAttr, IntKind.bits]
      refine storeH_all (hupd_same _ _ _) rfl rfl ?_
      rw [hupd_hupd]
      generalize hG : hupd g3 b6 _ = g4
      obtain ⟨e4, q6⟩ := new_ext hG hb6
      clear hG
      have e14 := (e2.trans e3).trans e4
      have o4 := OwK.ext o2 (e3.trans e4)
      simp (disch := omega) only [dm_t, wS, simprocAttr, IntKind.bits]
      refine (num_ok g4 (letE M (nam, (n : Int)))).k ?_
      rintro _ _ ⟨rfl, rfl⟩
      cases hf : fnd (nam, (n : Int)) M with
      | none =>
        rw [hf] at hlet ho
        simp only [Option.isSome_none, Bool.false_eq_true, if_false] at hlet
        simp only at ho
        rw [own_none hn16 ho] at o4
        simp (disch := omega) only [dm_t, wS, simprocAttr, IntKind.bits, hlet]
        exact ⟨⟨n + 1, by simp, by omega, o4, e14⟩, by simp [m1]; omega⟩
      | some x =>
        rw [hf] at hlet ho
        simp only [Option.isSome_some, if_true] at hlet
        simp only at ho
        have hat : atP M (nam, (n : Int)) = x := by rw [atP, if_pos hlet, hf]; rfl
        rw [hat] at q6
        have d2 : cellAt g4 ⟨b6, 2, none⟩ = some (.int .i64 x.2.2.1) := by rw [cellAt_of q6]; rfl
        obtain ⟨tb, to1, ti1, tat, tc, tst⟩ := O1.put o4 (i := n) (by rw [List.length_map, own_len]; exact hn16) .i64
        simp (disch := omega) only [dm_t, wS, simprocAttr, IntKind.bits, hlet, d2, ti1]
        refine tst _ _ rfl ?_
        intro g5 o5 f5
        rw [← List.map_set, ← ho, own_set M nam hn16] at o5
        simp (disch := omega) only [dm_t, wS, simprocAttr, IntKind.bits]
        exact ⟨⟨n + 1, by simp, by omega, o5, Ext.step' e14 f5 fun y hy => by rw [hy]; exact o4.own tat⟩, by simp [m1]; omega⟩
    · obtain rfl : n = 16 := by omega
      have c1' := cellAt_ext e2 c1
      have A2 := A1.ext e2
      simp (disch := omega) only [dm_t, wS, simprocAttr, IntKind.bits, i1, c1']
      refine (Lag_ok A2 nam hnam o2.s0 (by rw [own_len]; omega)).k ?_
      rintro _ g3 ⟨rfl, e3⟩
      rw [hown1, hown2]
      have e13 := e2.trans e3
      have c13 := cellAt_ext e13 c1
      simp (disch := omega) only [dm_t, wS, simprocAttr, IntKind.bits, i1, c13]
      have hm3 : IL nos g3 (.slice wa ms.length wc') ms := SlK.ext hm (E1.trans e13)
      refine (Lag_ok (A1.ext e13) nam hnam hm3 (by omega)).k ?_
      rintro _ g4 ⟨rfl, e4⟩
      have e14 := e13.trans e4
      simp (disch := omega) only [dm_t, wS, simprocAttr, IntKind.bits]
      refine (num_ok g4 0).k ?_
      rintro _ _ ⟨rfl, rfl⟩
      simp (disch := omega) only [dm_t, wS, simprocAttr, IntKind.bits]
      refine (num_ok g4 (lagE M nam ms)).k ?_
      rintro _ _ ⟨rfl, rfl⟩
      rcases lag_two (ms := ms) hLA with hE | hE
      · rw [hE]
        simp (disch := omega) only [dm_t, wS, simprocAttr, IntKind.bits]
        intro qb hqb
        have qinit : O1 (fun y => g1 y = none) (hupd g4 qb (.cells #[] 2)) 2 (.slice (some ⟨qb, 0, none⟩) 0 0) [] := OwK.lit (fun r hr => by simp [one] at hr) rfl (by simp) (Nat.le_refl _) (fun m hm => absurd hm (by rw [flat_one]; exact Nat.not_lt_zero _)) (e14.bk hqb) (.inl rfl)
        have eq4 : Ext g4 (hupd g4 qb (.cells #[] 2)) := Ext.new hqb _
        generalize hupd g4 qb (.cells #[] 2) = g5 at qinit eq4 ⊢
        have e15 := e14.trans eq4
        have hm5 : IL nos g5 (.slice wa ms.length wc') ms := SlK.ext hm (E1.trans e15)
        refine app1 qinit (fun y hy => e15.bk hy) hm5 (by rw [List.all_eq_true]; intro y hy; obtain ⟨z, _, rfl⟩ := List.mem_map.1 hy; rfl) (by rw [List.length_map, List.length_nil]; omega) (by rw [List.length_map, List.length_nil]; omega) ?_
        intro qv g6 o6 f6
        rw [List.nil_append] at o6
        have e16 : Ext g1 g6 := Ext.step' e15 f6 fun y hy => hy.1
        obtain ⟨qa, qc, hqv⟩ := o6.s0.len
        rw [one_len, List.length_map] at hqv
        subst hqv
        simp (disch := omega) only [dm_t, wS, simprocAttr, IntKind.bits]
        refine vc_loop1 (fun vk g7 => ∃ (k : Nat), vk = .int .i64 (k : Int) ∧ k ≤ ms.length ∧ O1 (fun y => g1 y = none) g7 2 (.slice qa ms.length qc) ((curI ms k).map (.int .i64)) ∧ Ext g1 g7) (fun vk _ => ms.length - m1 vk) ?_ ?_
        · simp (disch := omega) only [dm_t, wS, simprocAttr, IntKind.bits]
          exact ⟨0, rfl, by omega, o6, e16⟩
        clear o6 e16 f6 g6
        rintro _ g6 ⟨k, rfl, hk, o6, e16⟩
        by_cases hkl : k < ms.length
        · obtain ⟨tb, to1, ti1, tat, tc, tst⟩ := O1.put o6 (i := k) (by rw [List.length_map, curI_len]; exact hkl) .i64
          rw [List.getElem_map, curI_at hkl] at tc
          have hbd := hmb _ (List.getElem_mem hkl)
          by_cases hlt : ms[k] < 9007199254740992
          · simp (disch := omega) only [dm_t, wS, simprocAttr, IntKind.bits, ti1, tc]
            refine tst _ _ rfl ?_
            intro g7 o7 f7
            rw [← List.map_set, show ms[k] + 1 = inc ms[k] by rw [inc, if_pos hlt], curI_set hkl] at o7
            simp (disch := omega) only [dm_t, wS, simprocAttr, IntKind.bits]
            exact ⟨⟨k + 1, by simp, by omega, o7, Ext.step' e16 f7 fun y hy => by rw [hy]; exact o6.own tat⟩, by simp [m1]; omega⟩
          · have hcs := curI_set hkl
            have hsame : (curI ms k).set k (inc ms[k]) = curI ms k := by
              rw [inc, if_neg hlt, ← curI_at hkl]; simp
            rw [hsame] at hcs
            rw [hcs] at o6
            simp (disch := omega) only [dm_t, wS, simprocAttr, IntKind.bits, ti1, tc]
            exact ⟨⟨k + 1, by simp, by omega, o6, e16⟩, by simp [m1]; omega⟩
        · obtain rfl : k = ms.length := by omega
          rw [curI_end] at o6
          have hlm : (ms.map inc).length = ms.length := List.length_map ..
          simp (disch := omega) only [dm_t, wS, simprocAttr, IntKind.bits, i1, cellAt_ext e16 c1]
          refine (Lag_ok (A1.ext e16) nam hnam (show IL nos g6 (.slice qa ms.length qc) (ms.map inc) from o6.s0) (by rw [hlm]; omega)).k ?_
          rintro _ g7 ⟨rfl, e7⟩
          simp (disch := omega) only [dm_t, wS, simprocAttr, IntKind.bits]
          refine (num_ok g7 0).k ?_
          rintro _ _ ⟨rfl, rfl⟩
          obtain ⟨hi1, hi2, hi3⟩ := lag_inc hLA hE
          rw [hi1]
          simp (disch := omega) only [dm_t, wS, simprocAttr, IntKind.bits]
          refine (num_ok g7 0).k ?_
          rintro _ _ ⟨rfl, rfl⟩
          have hb1 := lagV_bd (ms := ms) A.may nam
          have hb2 := lagV_bd (ms := ms.map inc) A.may nam
          simp (disch := omega) only [dm_t, wS, simprocAttr, IntKind.bits]
          have e17 := e16.trans e7
          exact ⟨⟨i + 1, by simp, by omega, A1.ext e17, SlK.ext s1 e17, E1.trans e17⟩, by simp [m1]; omega⟩

      · rw [hE]
        simp (disch := omega) only [dm_t, wS, simprocAttr, IntKind.bits]
        refine (num_ok g4 2).k ?_
        rintro _ _ ⟨rfl, rfl⟩
        simp (disch := omega) only [dm_t, wS, simprocAttr, IntKind.bits]
        intro qb hqb
        have qinit : O1 (fun y => g1 y = none) (hupd g4 qb (.cells #[] 2)) 2 (.slice (some ⟨qb, 0, none⟩) 0 0) [] := OwK.lit (fun r hr => by simp [one] at hr) rfl (by simp) (Nat.le_refl _) (fun m hm => absurd hm (by rw [flat_one]; exact Nat.not_lt_zero _)) (e14.bk hqb) (.inl rfl)
        have eq4 : Ext g4 (hupd g4 qb (.cells #[] 2)) := Ext.new hqb _
        generalize hupd g4 qb (.cells #[] 2) = g5 at qinit eq4 ⊢
        have e15 := e14.trans eq4
        have hm5 : IL nos g5 (.slice wa ms.length wc') ms := SlK.ext hm (E1.trans e15)
        refine app1 qinit (fun y hy => e15.bk hy) hm5 (by rw [List.all_eq_true]; intro y hy; obtain ⟨z, _, rfl⟩ := List.mem_map.1 hy; rfl) (by rw [List.length_map, List.length_nil]; omega) (by rw [List.length_map, List.length_nil]; omega) ?_
        intro qv g6 o6 f6
        rw [List.nil_append] at o6
        have e16 : Ext g1 g6 := Ext.step' e15 f6 fun y hy => hy.1
        obtain ⟨qa, qc, hqv⟩ := o6.s0.len
        rw [one_len, List.length_map] at hqv
        subst hqv
        simp (disch := omega) only [dm_t, wS, simprocAttr, IntKind.bits]
        refine vc_loop1 (fun vk g7 => ∃ (k : Nat), vk = .int .i64 (k : Int) ∧ k ≤ ms.length ∧ O1 (fun y => g1 y = none) g7 2 (.slice qa ms.length qc) ((curI ms k).map (.int .i64)) ∧ Ext g1 g7) (fun vk _ => ms.length - m1 vk) ?_ ?_
        · simp (disch := omega) only [dm_t, wS, simprocAttr, IntKind.bits]
          exact ⟨0, rfl, by omega, o6, e16⟩
        clear o6 e16 f6 g6
        rintro _ g6 ⟨k, rfl, hk, o6, e16⟩
        by_cases hkl : k < ms.length
        · obtain ⟨tb, to1, ti1, tat, tc, tst⟩ := O1.put o6 (i := k) (by rw [List.length_map, curI_len]; exact hkl) .i64
          rw [List.getElem_map, curI_at hkl] at tc
          have hbd := hmb _ (List.getElem_mem hkl)
          by_cases hlt : ms[k] < 9007199254740992
          · simp (disch := omega) only [dm_t, wS, simprocAttr, IntKind.bits, ti1, tc]
            refine tst _ _ rfl ?_
            intro g7 o7 f7
            rw [← List.map_set, show ms[k] + 1 = inc ms[k] by rw [inc, if_pos hlt], curI_set hkl] at o7
            simp (disch := omega) only [dm_t, wS, simprocAttr, IntKind.bits]
            exact ⟨⟨k + 1, by simp, by omega, o7, Ext.step' e16 f7 fun y hy => by rw [hy]; exact o6.own tat⟩, by simp [m1]; omega⟩
          · have hcs := curI_set hkl
            have hsame : (curI ms k).set k (inc ms[k]) = curI ms k := by
              rw [inc, if_neg hlt, ← curI_at hkl]; simp
            rw [hsame] at hcs
            rw [hcs] at o6
            simp (disch := omega) only [dm_t, wS, simprocAttr, IntKind.bits, ti1, tc]
            exact ⟨⟨k + 1, by simp, by omega, o6, e16⟩, by simp [m1]; omega⟩
        · obtain rfl : k = ms.length := by omega
          rw [curI_end] at o6
          have hlm : (ms.map inc).length = ms.length := List.length_map ..
          simp (disch := omega) only [dm_t, wS, simprocAttr, IntKind.bits, i1, cellAt_ext e16 c1]
          refine (Lag_ok (A1.ext e16) nam hnam (show IL nos g6 (.slice qa ms.length qc) (ms.map inc) from o6.s0) (by rw [hlm]; omega)).k ?_
          rintro _ g7 ⟨rfl, e7⟩
          simp (disch := omega) only [dm_t, wS, simprocAttr, IntKind.bits]
          refine (num_ok g7 2).k ?_
          rintro _ _ ⟨rfl, rfl⟩
          simp (disch := omega) only [dm_t, wS, simprocAttr, IntKind.bits]
          have e17 := e16.trans e7
          exact ⟨⟨i + 1, by simp, by omega, A1.ext e17, SlK.ext s1 e17, E1.trans e17⟩, by simp [m1]; omega⟩
  · simp (disch := omega) only [dm_t, wS, simprocAttr, IntKind.bits]
    refine (works_ok g1).k ?_
    rintro _ g2 ⟨rfl, e2⟩
    simp (disch := omega) only [dm_t, wS, simprocAttr, IntKind.bits]
    exact E1.trans e2
end Go.Proofs.Ythhofmjhnjkcfaa.gr
namespace Go.Proofs.Ythhofmjhnjkcfaa.gr
open Go.Proofs.Ythhofmjhnjkcfaa wi
set_option linter.unusedVariables false
set_option linter.unusedSimpArgs false
theorem k_of (a : Int) (n : Nat) : ∃ k : Nat, (Int.tmod a ((n : Int) + 1) + n + 1) % ((n : Int) + 1) = k ∧ k ≤ n ∧ -((n : Int) + 1) < Int.tmod a ((n : Int) + 1) ∧ Int.tmod a ((n : Int) + 1) < (n : Int) + 1 := by
  have h1 := Int.tmod_lt_of_pos a (show (0 : Int) < (n : Int) + 1 by omega)
  have h2 := Int.lt_tmod_of_pos a (show (0 : Int) < (n : Int) + 1 by omega)
  generalize Int.tmod a ((n : Int) + 1) = r at h1 h2
  have h3 := Int.emod_lt_of_pos (r + n + 1) (show (0 : Int) < (n : Int) + 1 by omega)
  have h4 := Int.emod_nonneg (r + n + 1) (show ((n : Int) + 1) ≠ 0 by omega)
  exact ⟨((r + n + 1) % ((n : Int) + 1)).toNat, by omega, by omega, h2, h1⟩
theorem GB.offrec {S O : Nat → Prop} {t : Ty} {g g' : H} {b m sb : Nat} {L : List Pl} {v : Value} {xs : List t.D} (G : GB g b m L) (o : OwL S t O g 26 v xs) (f : Fr (fun y => y = sb) g g') (hat : isAt v sb) : GB g' b m L := by
  refine G.fr f (fun h => o.tyno G.obj (by decide) (h ▸ hat)) fun h => ?_
  obtain ⟨rows, orow⟩ := o.k
  obtain ⟨c, fr, hc⟩ := orow.ty hat
  exact G.nocell hc h.symm
theorem GA_ok {h : H} {v w : Value} {l : List rc.D} {at' : Int} {ms : List Int} (hl : RepL nos rc h v l) (hk : ∀ x ∈ l, x.2.1.length ≤ 140737488351232) (hm : IL nos h w ms) (hmb : ∀ x ∈ ms, -9223372036854775808 ≤ x ∧ x ≤ 9223372036854775807) : Ok Try.prog 6 #[v, .int .i64 at', w] h fun r h' => r = .bool true ∧ Ext h h' := by
  obtain ⟨va, vc', rfl⟩ := hl.len
  obtain ⟨wa, wc', rfl⟩ := il_len hm
  refine c6_ok (args := [_, _, _]) (by simp) ?_
  by_cases h200 : 200 < l.length
  · simp (disch := omega) only [dm_t, wS, simprocAttr, IntKind.bits]
    refine (works_ok h).k ?_
    rintro _ g1 ⟨rfl, e1⟩
    simp (disch := omega) only [dm_t, wS, simprocAttr, IntKind.bits]
    exact e1
  by_cases h16 : 16 < ms.length
  · simp (disch := omega) only [dm_t, wS, simprocAttr, IntKind.bits]
    refine (works_ok h).k ?_
    rintro _ g1 ⟨rfl, e1⟩
    simp (disch := omega) only [dm_t, wS, simprocAttr, IntKind.bits]
    exact e1
  obtain ⟨k, hkk, hkl, hr1, hr2⟩ := k_of at' l.length
  have hlo : RepL (fun y => h y = none) rc h (.slice va l.length vc') l := hl.fresh
  simp (disch := omega) only [dm_t, wS, simprocAttr, IntKind.bits]
  refine (GNew_ok h).k ?_
  rintro _ g1 ⟨ba, ma, rfl, hba, hma, A1, e1⟩
  simp (disch := omega) only [dm_t, wS, simprocAttr, IntKind.bits]
  refine (GNew_ok g1).k ?_
  rintro _ g2 ⟨bb, mb, rfl, hbb, hmb', B2, e2⟩
  simp (disch := omega) only [dm_t, wS, simprocAttr, IntKind.bits]
  refine (GNew_ok g2).k ?_
  rintro _ g3 ⟨bc, mc, rfl, hbc, hmc, C3, e3⟩
  have E3 := (e1.trans e2).trans e3
  simp (disch := omega) only [dm_t, wS, simprocAttr, IntKind.bits]
  rw [hkk]
  intro b0 hb0
  have hb0h : h b0 = none := E3.bk hb0
  generalize hG : hupd g3 b0 _ = g4
  obtain ⟨e4, q0⟩ := new_ext hG hb0
  have o0 : OwL (fun y => h y = none) rc (fun y => h y = none) g4 26 (.slice (some ⟨b0, 0, none⟩) 0 0) [] := by
    rw [← hG]
    exact ⟨[], OwK.lit (fun r hr => by simp at hr) rfl (by simp) (Nat.le_refl _) (fun m hm => absurd hm (by rw [flat_nil]; exact Nat.not_lt_zero _)) hb0h (.inl rfl), rfl, fun i r x hr => by simp at hr⟩
  clear hG
  have E4 := E3.trans e4
  have r4 : RepL (fun y => isAt (.slice (some ⟨b0, 0, none⟩) 0 0) y ∨ h y = none) rc g4 (.slice va l.length vc') l := (hlo.ext E4).mono fun y o _ hy => hy.elim (fun h => o0.own h) id
  refine OwL.app 3 sz_rc o0 (fun y hy => E4.bk hy) r4 (by rfl) (by rw [List.length_nil]; omega) (by rw [List.length_nil]; omega) ?_
  intro mv g5 o5 f5 at5
  rw [List.nil_append] at o5
  have E5 : Ext h g5 := Ext.step' E4 f5 fun y hy => hy.1
  have nT : ∀ y, g3 y ≠ none → ¬ (h y = none ∧ isAt (.slice (some ⟨b0, 0, none⟩) 0 0) y) := fun y hy hT => hy (hasAt hT.2 ▸ hb0)
  have A3 := (A1.ext e2).ext e3
  have B3 := B2.ext e3
  have A5 := (A3.ext e4).fr f5 (nT _ A3.nb) (nT _ A3.nm)
  have B5 := (B3.ext e4).fr f5 (nT _ B3.nb) (nT _ B3.nm)
  have C5 := (C3.ext e4).fr f5 (nT _ C3.nb) (nT _ C3.nm)
  have hdis : (¬ bb = ma ∧ ¬ mb = ma) ∧ (¬ ba = mb ∧ ¬ bc = ma) ∧ (¬ mc = ma ∧ ¬ ba = mc) ∧ (¬ bc = mb ∧ ¬ mc = mb) ∧ ¬ bb = mc :=
    ⟨⟨fun h => A1.nm (h ▸ hbb), fun h => A1.nm (h ▸ hmb')⟩, ⟨fun h => A1.nb (h.symm ▸ hmb'), fun h => (A1.ext e2).nm (h ▸ hbc)⟩, ⟨fun h => (A1.ext e2).nm (h ▸ hmc), fun h => (A1.ext e2).nb (h.symm ▸ hmc)⟩, ⟨fun h => B2.nm (h ▸ hbc), fun h => B2.nm (h ▸ hmc)⟩, fun h => B2.nb (h.symm ▸ hmc)⟩
  have fin : ∀ (g : H) (m : List rc.D), Ext h g → GB g ba ma [] → GB g bb mb [] → GB g bc mc [] → RepL nos rc g mv m → m.length = l.length → (∀ x ∈ m, x ∈ l) → m.foldl stp [] = l.foldl stp [] → vc Try.prog c6_s6 (retQ [6] (okR fun r h' => r = .bool true ∧ Ext h h')) [(0, .slice va l.length vc'), (2, .slice wa ms.length wc'), (7, .pointer (some ⟨ba, 0, none⟩)), (8, .pointer (some ⟨bb, 0, none⟩)), (9, .pointer (some ⟨bc, 0, none⟩)), (10, .int .i64 (k : Int)), (11, mv)] g := by
    clear o0 o5 f5 at5 A5 B5 C5 r4 E5
    intro g m E A B C hm' hml hmm hmf
    obtain ⟨ma', mc', rfl⟩ := hm'.len
    obtain ⟨⟨d1, d2⟩, ⟨d3, d4⟩, ⟨d5, d6⟩, ⟨d7, d8⟩, d9⟩ := hdis
    have hF1 := foldG_eq (l := l) 0 List.Pairwise.nil (by simp; omega)
    have hF2 := foldG_eq (l := m) 0 List.Pairwise.nil (by simp; omega)
    have hF3 := foldG_eq (l := l.take k) 0 List.Pairwise.nil (by simp; omega)
    have hfl := fold_len (l := l.take k) List.Pairwise.nil
    have hF4 := foldG_eq (l := l.drop k) 0 (fold_srt (l := l.take k) List.Pairwise.nil) (by rw [List.length_drop]; rw [List.length_take, List.length_nil] at hfl; omega)
    rw [← List.foldl_append, List.take_append_drop] at hF4
    rw [hmf] at hF2
    rw [Nat.zero_add] at hF1 hF2 hF3 hF4
    generalize hM : l.foldl stp [] = M at *
    have hcap := hl.cap
    simp (disch := omega) only [dm_t, wS, simprocAttr, IntKind.bits]
    refine (Fold_ok A (hl.ext E) (by omega) hk).k ?_
    rintro _ g6 ⟨rfl, A6, f6⟩
    rw [hF1] at A6 ⊢
    have B6 := B.fr f6 d1 d2
    have C6 := C.fr f6 d4 d5
    have hm6 := A.rep hm' f6
    have E6 : Ext h g6 := Ext.step' E f6 fun y hy => by rw [hy]; exact hma
    simp (disch := omega) only [dm_t, wS, simprocAttr, IntKind.bits]
    refine (Fold_ok B6 hm6 (by omega) (fun x hx => hk x (hmm x hx))).k ?_
    rintro _ g7 ⟨rfl, B7, f7⟩
    rw [hF2] at B7 ⊢
    have A7 := A6.fr f7 d3 (fun h => d2 h.symm)
    have C7 := C6.fr f7 d7 d8
    have E7 : Ext h g7 := Ext.step' E6 f7 fun y hy => by rw [hy]; exact e1.bk hmb'
    obtain ⟨lv1, s1, t1⟩ := (hl.ext E7).cut 3 sz_rc (m3 := false) (lo := 0) (hi := k) (mx := vc') (l := 0) (u := k) (m := vc') rfl rfl rfl (by omega) (by omega) (by omega) (Nat.le_refl _) (.inr rfl)
    obtain ⟨lv2, s2, t2⟩ := (hl.ext E7).cut 3 sz_rc (m3 := false) (lo := k) (hi := l.length) (mx := vc') (l := k) (u := l.length) (m := vc') rfl rfl rfl (by omega) (by omega) (by omega) (Nat.le_refl _) (.inr rfl)
    rw [List.drop_zero, Nat.sub_zero] at t1
    rw [show l.length - k = (l.drop k).length by rw [List.length_drop], List.take_length] at t2
    simp (disch := omega) only [dm_t, wS, simprocAttr, IntKind.bits, s1]
    refine (Fold_ok C7 t1 (by rw [List.length_take]; omega) (fun x hx => hk x (List.mem_of_mem_take hx))).k ?_
    rintro _ g8 ⟨rfl, C8, f8⟩
    rw [hF3] at C8 ⊢
    have A8 := A7.fr f8 d6 (fun h => d5 h.symm)
    have B8 := B7.fr f8 d9 (fun h => d8 h.symm)
    have t2' := C7.rep t2 f8
    have E8 : Ext h g8 := Ext.step' E7 f8 fun y hy => by rw [hy]; exact e1.bk (e2.bk hmc)
    simp (disch := omega) only [dm_t, wS, simprocAttr, IntKind.bits, s2]
    refine (Fold_ok C8 t2' (by rw [List.length_drop]; omega) (fun x hx => hk x (List.mem_of_mem_drop hx))).k ?_
    rintro _ g9 ⟨rfl, C9, f9⟩
    rw [hF4] at C9 ⊢
    have A9 := A8.fr f9 d6 (fun h => d5 h.symm)
    have B9 := B8.fr f9 d9 (fun h => d8 h.symm)
    have E9 : Ext h g9 := Ext.step' E8 f9 fun y hy => by rw [hy]; exact e1.bk (e2.bk hmc)
    have hlt : (l.take k).length = k := by rw [List.length_take]; omega
    have hld : (l.drop k).length = l.length - k := List.length_drop ..
    simp only [hlt, hld, hml]
    simp (disch := omega) only [dm_t, wS, simprocAttr, IntKind.bits]
    refine (num_ok g9 0).k ?_
    rintro _ _ ⟨rfl, rfl⟩
    simp (disch := omega) only [dm_t, wS, simprocAttr, IntKind.bits]
    refine (num_ok g9 0).k ?_
    rintro _ _ ⟨rfl, rfl⟩
    simp (disch := omega) only [dm_t, wS, simprocAttr, IntKind.bits]
    refine (num_ok g9 0).k ?_
    rintro _ _ ⟨rfl, rfl⟩
    simp (disch := omega) only [dm_t, wS, simprocAttr, IntKind.bits]
    refine (num_ok g9 0).k ?_
    rintro _ _ ⟨rfl, rfl⟩
    simp (disch := omega) only [dm_t, wS, simprocAttr, IntKind.bits]
    refine (GSame_ok A9 B9).k ?_
    rintro _ g10 ⟨rfl, e10⟩
    rw [decide_eq_true rfl]
    simp (disch := omega) only [dm_t, wS, simprocAttr, IntKind.bits, Bool.not_true]
    refine (GSame_ok (A9.ext e10) (C9.ext e10)).k ?_
    rintro _ g11 ⟨rfl, e11⟩
    rw [decide_eq_true rfl]
    have kf := GA_s11 ((A9.ext e10).ext e11) ((E9.trans e10).trans e11) hm (by omega) hmb
    simp (disch := omega) only [dm_t, wS, simprocAttr, IntKind.bits, Bool.not_true, kf]
  simp (disch := omega) only [dm_t, wS, simprocAttr, IntKind.bits]
  by_cases hk1 : k + 1 < l.length
  · obtain ⟨b1, o1, cs, i1, c1, -, r1⟩ := hlo.load (i := k) (by omega) .i64 3 sz_rc
    obtain ⟨b2, o2, ds, i2, c2, -, r2⟩ := hlo.load hk1 .i64 3 sz_rc
    rw [show ((k + 1 : Nat) : Int) = (k : Int) + 1 by omega] at i2
    simp (disch := omega) only [dm_t, wS, simprocAttr, IntKind.bits, i1, cellsAt_ext E5 c1, i2, cellsAt_ext E5 c2]
    refine (key_ok (Rep.ext r1 E5) (Rep.ext r2 E5)).k ?_
    rintro _ g6 ⟨rfl, e6⟩
    have E6 := E5.trans e6
    have o6 := o5.ext e6
    have A6 := A5.ext e6
    have B6 := B5.ext e6
    have C6 := C5.ext e6
    by_cases hne : (l[k]).2.1 = (l[k + 1]).2.1
    · rw [decide_eq_true hne]
      have kf := fin g6 l E6 A6 B6 C6 o6.rep rfl (fun _ h => h) rfl
      simp (disch := omega) only [dm_t, wS, simprocAttr, IntKind.bits, i1, cellsAt_ext E6 c1, i2, cellsAt_ext E6 c2, Bool.not_true, kf]
    · rw [decide_eq_false hne]
      have hcl : cs.length = 3 := r1.len.trans sz_rc
      have hdl : ds.length = 3 := r2.len.trans sz_rc
      obtain ⟨sb, so1, cs1, si1, sat1, sO1, -, srep1, sst1⟩ := OwL.set o6 (i := k) (by omega) .i64 3 sz_rc
      have hc1l : cs1.length = 3 := srep1.len.trans sz_rc
      have r2' : Rep (fun y => isAt mv y ∨ h y = none) rc g6 (cs1.take 0 ++ ds ++ cs1.drop (0 + ds.length)) l[k + 1] := by
        rw [List.take_zero, List.nil_append, hdl, List.drop_eq_nil_of_le (by omega), List.append_nil]
        exact (r2.ext E6).mono fun y o _ hy => hy.elim (fun h => o6.own h) id
      simp (disch := omega) only [dm_t, wS, simprocAttr, IntKind.bits, i1, cellsAt_ext E6 c1, i2, cellsAt_ext E6 c2, Bool.not_false, si1]
      refine ⟨hdl, sst1 0 ds l[k + 1] _ (by omega) r2.cells r2' ?_⟩
      intro g7 o7 f7
      have E7 : Ext h g7 := Ext.step' E6 f7 fun y hy => hy ▸ sO1
      have A7 := A6.offrec o6 f7 sat1
      have B7 := B6.offrec o6 f7 sat1
      have C7 := C6.offrec o6 f7 sat1
      obtain ⟨tb, to1, cs2, ti1, tat1, tO1, -, trep1, tst1⟩ := OwL.set o7 (i := k + 1) (by rw [List.length_set]; omega) .i64 3 sz_rc
      rw [show ((k + 1 : Nat) : Int) = (k : Int) + 1 by omega] at ti1
      have hc2l : cs2.length = 3 := trep1.len.trans sz_rc
      have r1' : Rep (fun y => isAt mv y ∨ h y = none) rc g7 (cs2.take 0 ++ cs ++ cs2.drop (0 + cs.length)) l[k] := by
        rw [List.take_zero, List.nil_append, hcl, List.drop_eq_nil_of_le (by omega), List.append_nil]
        exact (r1.ext E7).mono fun y o _ hy => hy.elim (fun h => o7.own h) id
      simp (disch := omega) only [dm_t, wS, simprocAttr, IntKind.bits, i1, cellsAt_ext E7 c1, i2, cellsAt_ext E7 c2, si1, ti1]
      refine ⟨hcl, tst1 0 cs l[k] _ (by omega) r1.cells r1' ?_⟩
      intro g8 o8 f8
      have E8 : Ext h g8 := Ext.step' E7 f8 fun y hy => hy ▸ tO1
      have A8 := A7.offrec o7 f8 tat1
      have B8 := B7.offrec o7 f8 tat1
      have C8 := C7.offrec o7 f8 tat1
      have kf := fin g8 ((l.set k l[k + 1]).set (k + 1) l[k]) E8 A8 B8 C8 o8.rep (by rw [List.length_set, List.length_set]) (fun x hx => by
        rcases List.mem_or_eq_of_mem_set hx with hx | rfl
        · rcases List.mem_or_eq_of_mem_set hx with hx | rfl
          · exact hx
          · exact List.getElem_mem _
        · exact List.getElem_mem _) (fold_set hk1 hne)
      simp (disch := omega) only [dm_t, wS, simprocAttr, IntKind.bits, i1, cellsAt_ext E8 c1, i2, cellsAt_ext E8 c2, si1, ti1, kf]
  · have kf := fin g5 l E5 A5 B5 C5 o5.rep rfl (fun _ h => h) rfl
    simp (disch := omega) only [dm_t, wS, simprocAttr, IntKind.bits, kf]
end Go.Proofs.Ythhofmjhnjkcfaa.gr
