/-
  The board in company: what a worker's Load and CompareAndSwap do.
-/
import Derived.Test.YtojhnclkhiffkaaQ10
/-
  The board in company: what a worker's Load and CompareAndSwap do.
-/
namespace Go.Proofs.Ytojhnclkhiffkaa.mk
open Go.Proofs.Ytojhnclkhiffkaa
set_option linter.unusedVariables false
set_option linter.unusedSimpArgs false
section
variable {n : Nat} {xss : Nat → List Int} {post : Value → H → Prop} {fin : Value → H → Prop} {h : H} {M k : Nat} {L : List Value} {K : Value → H → Prop}
theorem hst_head {pr : Pro} {e0 : Value} {γ : List Value} (h : pr.Hst e0 γ) : ∃ r, γ = e0 :: r := by
  induction h with
  | one => exact ⟨[], rfl⟩
  | snoc hg hok ih => obtain ⟨r, rfl⟩ := ih; exact ⟨_, rfl⟩
theorem bh_of {γ : List Value} (hL : ∃ r, L = e00 :: r) (hx : (bpr n xss post fin).Ext k L γ) (hH : ∃ e0, (bpr n xss post fin).Hst e0 γ) : (bpr n xss post fin).Hst e00 γ := by
  obtain ⟨e0, hH⟩ := hH
  obtain ⟨r, rfl⟩ := hst_head hH
  obtain ⟨r1, rfl⟩ := hL
  obtain ⟨r2, h2, _⟩ := hx
  injection h2 with h2
  rw [h2] at hH
  exact h2 ▸ hH
theorem bext_head {γ : List Value} (hL : ∃ r, L = e00 :: r) (hx : (bpr n xss post fin).Ext k L γ) : ∃ r, γ = e00 :: r := by
  obtain ⟨r1, rfl⟩ := hL
  obtain ⟨r2, rfl, _⟩ := hx
  exact ⟨_, rfl⟩
theorem bext_cnt {γ : List Value} (hx : (bpr n xss post fin).Ext k L γ) : cntB k γ = cntB k L := by
  obtain ⟨r, rfl, hr⟩ := hx
  unfold cntB
  have : r.countP (fun v => decide (byE v = k)) = 0 := List.countP_eq_zero.2 fun v hv => by
    have h1 : ¬ byE v = k := hr v hv
    simpa using h1
  rw [List.countP_append, this]
  rfl
theorem bext_trans {γ γ' : List Value} (h1 : (bpr n xss post fin).Ext k L γ) (h2 : (bpr n xss post fin).Ext k γ γ') : (bpr n xss post fin).Ext k L γ' := by
  obtain ⟨r, rfl, hr⟩ := h1
  obtain ⟨r', rfl, hr'⟩ := h2
  refine ⟨r ++ r', by simp, fun v hv => ?_⟩
  rcases List.mem_append.1 hv with hv | hv
  · exact hr v hv
  · exact hr' v hv
theorem bptr (γ : List Value) : ∃ p, (bpr n xss post fin).val γ = .pointer p := by
  rcases valE_of (γ := γ) with ⟨h, _⟩ | ⟨e, _, h, _⟩
  · exact ⟨_, h⟩
  · exact ⟨_, h⟩
/-- What is seen of what is published. -/
def Seen (γ : List Value) (h : H) : Prop := ∀ b c E, pubE γ b = some (c, E) → ∃ fr, h b = some (.cells c E fr)
theorem Seen.fr {γ : List Value} {h h' : H} {T : Nat → Prop} (s : Seen γ h) (f : Fr T h h') (hT : ∀ b c E, pubE γ b = some (c, E) → ¬ T b) : Seen γ h' := fun b c E hb => let ⟨fr, h1⟩ := s b c E hb; ⟨fr, f _ _ h1 (hT b c E hb)⟩
theorem pub_neM {γ : List Value} {b : Nat} {c : Array Value} {E : TypeId} (hM : h M = some ((nM (bpr n xss post fin)) k L)) (hp : PubRo (bpr n xss post fin) γ h) (hb : pubE γ b = some (c, E)) : b ≠ M := by
  rintro rfl
  obtain ⟨fr, h1, _⟩ := hp b c E hb _ hM
  cases h1
theorem see_seen {γ : List Value} (hM : h M = some ((nM (bpr n xss post fin)) k L)) (hp : PubRo (bpr n xss post fin) γ h) : Seen γ (seeH (bpr n xss post fin) M k γ h) := by
  intro b c E hb
  have hne := pub_neM hM hp hb
  cases ho : h b with
  | none => exact ⟨_, seeH_new ho hne hb⟩
  | some o =>
    obtain ⟨fr, rfl, _⟩ := hp b c E hb o ho
    exact ⟨fr, seeH_old ho hne⟩
theorem see_fr {γ : List Value} : Fr (fun y => y = M) h (seeH (bpr n xss post fin) M k γ h) := fun b o hb hn => seeH_old hb hn
theorem bpload_ok (hM : h M = some ((nM (bpr n xss post fin)) k L)) (hL : ∃ r, L = e00 :: r) : Ok (CW (bpr n xss post fin) Try.prog) 27 #[.pointer (some ⟨M, 0, none⟩)] h fun v h' => ∃ γ, v = valE γ ∧ (bpr n xss post fin).Ext k L γ ∧ (bpr n xss post fin).Hst e00 γ ∧ h' M = some ((nM (bpr n xss post fin)) k γ) ∧ Fr (fun y => y = M) h h' ∧ Seen γ h' := by
  refine c27_ok (args := [_]) (by simp) ?_
  simp (disch := omega) only [dm_t, wA, wB, wL, wW, wY, Int.fdiv_eq_ediv_of_nonneg, Int.tdiv_eq_ediv_of_nonneg, Int.tmod_eq_emod_of_nonneg, chk_pos, decT, decF, br_pos, br_neg, wX, ↓reduceIte, Nat.reduceEqDiff, Nat.reduceAdd, Nat.reduceSub, Nat.reduceMul, Nat.reduceLeDiff, Nat.reduceLT, Nat.reduceMod, Nat.reduceDiv, Int.reduceToNat, Nat.min_eq_left, IntKind.bits, Int.reducePow, Int.reduceLT, Int.reduceLE, Int.reduceEq, Int.reduceNe, Int.reduceAdd, Int.reduceSub, and_self, reduceCtorEq, decide_eq_true_eq, decide_eq_false_iff_not, eq_self, implies_true, exists_const, Option.isNone_some, Option.isNone_none, Option.isSome_some, Option.isSome_none, Option.getD_some]
  refine sh_loadp Try.func42 (by kernel_rfl) (by kernel_rfl) (by kernel_rfl) (by kernel_rfl) hM (fun γ _ => bptr γ) (fun γ hx hH hp => ?_)
  have hH' := bh_of hL hx hH
  have hs := see_seen hM hp
  have hv : (bpr n xss post fin).val γ = valE γ := rfl
  rw [hv]
  rcases valE_of (γ := γ) with ⟨h1, h2, h3⟩ | ⟨e, h1, h2, h3⟩
  · rw [h1]
    refine raw_cv (X := fun _ _ => True) ?_
    refine cv_nil_from (by kernel_rfl) Try.underlying47 ?_
    simp (disch := omega) only [dm_t, wA, wB, wL, wW, wY, Int.fdiv_eq_ediv_of_nonneg, Int.tdiv_eq_ediv_of_nonneg, Int.tmod_eq_emod_of_nonneg, chk_pos, decT, decF, br_pos, br_neg, wX, ↓reduceIte, Nat.reduceEqDiff, Nat.reduceAdd, Nat.reduceSub, Nat.reduceMul, Nat.reduceLeDiff, Nat.reduceLT, Nat.reduceMod, Nat.reduceDiv, Int.reduceToNat, Nat.min_eq_left, IntKind.bits, Int.reducePow, Int.reduceLT, Int.reduceLE, Int.reduceEq, Int.reduceNe, Int.reduceAdd, Int.reduceSub, and_self, reduceCtorEq, decide_eq_true_eq, decide_eq_false_iff_not, eq_self, implies_true, exists_const, Option.isNone_some, Option.isNone_none, Option.isSome_some, Option.isSome_none, Option.getD_some]
    exact ⟨γ, h1.symm, hx, hH', seeH_M, see_fr, hs⟩
  · rw [h2]
    obtain ⟨v, hv1, hv2⟩ := lastE_mem h1
    obtain ⟨_, I⟩ := bh_is hH' v hv1 e hv2
    obtain ⟨fr, hb⟩ := hs _ _ _ I.pg
    refine raw_cv (X := fun _ _ => True) ?_
    refine cv_from (by kernel_rfl) Try.underlying47 (i := (Try.prog.info? 78).getD default) (by kernel_rfl) (by decide +kernel) hb (by kernel_rfl) ?_
    simp (disch := omega) only [dm_t, wA, wB, wL, wW, wY, Int.fdiv_eq_ediv_of_nonneg, Int.tdiv_eq_ediv_of_nonneg, Int.tmod_eq_emod_of_nonneg, chk_pos, decT, decF, br_pos, br_neg, wX, ↓reduceIte, Nat.reduceEqDiff, Nat.reduceAdd, Nat.reduceSub, Nat.reduceMul, Nat.reduceLeDiff, Nat.reduceLT, Nat.reduceMod, Nat.reduceDiv, Int.reduceToNat, Nat.min_eq_left, IntKind.bits, Int.reducePow, Int.reduceLT, Int.reduceLE, Int.reduceEq, Int.reduceNe, Int.reduceAdd, Int.reduceSub, and_self, reduceCtorEq, decide_eq_true_eq, decide_eq_false_iff_not, eq_self, implies_true, exists_const, Option.isNone_some, Option.isNone_none, Option.isSome_some, Option.isSome_none, Option.getD_some]
    exact ⟨γ, h2.symm, hx, hH', seeH_M, see_fr, hs⟩
/-- What a worker has made ready to publish, on top of what it knows. -/
structure Ready (n : Nat) (xss : Nat → List Int) (k : Nat) (γ0 : List Value) (e : Ent) (h : H) : Prop where
  ver : e.ver = verOf γ0 + 1
  ek : e.k = k
  k1 : 1 ≤ k
  kn : k ≤ n
  cnt : cntB k γ0 < (xss (k - 1)).length
  len : e.len = cntB k γ0 + 1
  cp : e.len ≤ e.cp ∧ e.cp = e.c.size
  at_ : ∀ i (hi : i < e.len), e.c[i]? = some (.int .i64 (((xss (k - 1))[i]?).getD 0))
  ne : e.pg ≠ e.lb
  pg : h e.pg = some (.cells e.pc 78)
  lb : h e.lb = some (.cells e.c 2)
theorem own_nopub {γ : List Value} {b : Nat} {c : Array Value} {E : TypeId} (hb : h b = some (.cells c E)) (hp : PubRo (bpr n xss post fin) γ h) : pubE γ b = none := by
  cases hq : pubE γ b with
  | none => rfl
  | some x =>
    exfalso
    obtain ⟨c', E'⟩ := x
    obtain ⟨fr, h1, h2⟩ := hp b c' E' hq _ hb
    injection h1 with h1 _ h3
    subst h1 h3
    exact not_isRo0 _ h2
theorem is_ver {γ0 γ : List Value} (hx : (bpr n xss post fin).Ext k γ0 γ) (hH : (bpr n xss post fin).Hst e00 γ) {p : Option Addr} (h0 : valE γ0 = .pointer p) (h1 : valE γ = .pointer p) : verOf γ = verOf γ0 := by
  rcases valE_of (γ := γ0) with ⟨a1, a2, a3⟩ | ⟨e, a1, a2, a3⟩
  · rw [h0] at a1
    rw [a1] at h1
    rcases valE_of (γ := γ) with ⟨_, _, b3⟩ | ⟨e, b1, b2, b3⟩
    · rw [a3, b3]
    · rw [h1] at b2; cases b2
  · rw [h0] at a2
    rw [a2] at h1
    rcases valE_of (γ := γ) with ⟨b1, _, b3⟩ | ⟨e', b1, b2, b3⟩
    · rw [h1] at b1; cases b1
    · rw [h1] at b2
      simp only [Value.pointer.injEq, Option.some.injEq, Addr.mk.injEq, and_true] at b2
      obtain ⟨v, v1, v2⟩ := lastE_mem a1
      obtain ⟨v', w1, w2⟩ := lastE_mem b1
      obtain ⟨r, rfl, _⟩ := hx
      have I := (bh_is hH v (List.mem_append_left _ v1) e v2).2
      have I' := (bh_is hH v' w1 e' w2).2
      have e1 := I.pg
      rw [b2, I'.pg] at e1
      simp only [Option.some.injEq, Prod.mk.injEq, and_true, Ent.pc] at e1
      have e2 := congrArg (fun a : Array Value => a[0]?) e1
      simp at e2
      rw [a3, b3]
      omega
theorem bpcas_ok {e : Ent} (hM : h M = some ((nM (bpr n xss post fin)) k L)) (hL : ∃ r, L = e00 :: r) (hH0 : (bpr n xss post fin).Hst e00 L) (hs : Seen L h) (R : Ready n xss k L e h) : Ok (CW (bpr n xss post fin) Try.prog) 41 #[.pointer (some ⟨M, 0, none⟩), valE L, .pointer (some ⟨e.pg, 0, none⟩)] h fun v h' =>
    (v = .bool true ∧ ∃ γ, (bpr n xss post fin).Ext k L γ ∧ (bpr n xss post fin).Hst e00 (γ ++ [encE e]) ∧ h' M = some ((nM (bpr n xss post fin)) k (γ ++ [encE e])) ∧ h' e.pg = some (.cells e.pc 78 (roO e.pc)) ∧ h' e.lb = some (.cells e.c 2 (roO e.c)) ∧ Fr (fun y => y = M ∨ y = e.pg ∨ y = e.lb) h h') ∨
    (v = .bool false ∧ ∃ γ, (bpr n xss post fin).Ext k L γ ∧ (bpr n xss post fin).Hst e00 γ ∧ L.length < γ.length ∧ h' M = some ((nM (bpr n xss post fin)) k γ) ∧ Fr (fun y => y = M) h h') := by
  have pM : e.pg ≠ M := by intro h; have := R.pg; rw [h, hM] at this; cases this
  have lM : e.lb ≠ M := by intro h; have := R.lb; rw [h, hM] at this; cases this
  obtain ⟨p, hp⟩ := bptr (post := post) (fin := fin) (n := n) (xss := xss) L
  have hp0 : valE L = .pointer p := hp
  have lastIs : ∀ e1, lastE L = some e1 → e1.Is L := fun e1 h1 => by
    obtain ⟨v, v1, v2⟩ := lastE_mem h1
    exact (bh_is hH0 v v1 e1 v2).2
  refine c41_ok (args := [_, _, _]) (by simp) ?_
  have key : ∀ (K' : Value → H → Prop), (∀ γ, (bpr n xss post fin).Ext k L γ → (bpr n xss post fin).Hst e00 (γ ++ [encE e]) → PubRo (bpr n xss post fin) γ h → (∀ b c E, pubE (γ ++ [encE e]) b = some (c, E) → pubE γ b = none → h b = some (.cells c E) ∧ b ≠ M) → K' (.bool true) (pubH (bpr n xss post fin) M k γ (γ ++ [encE e]) h)) →
      (∀ γ, (bpr n xss post fin).Ext k L γ → (bpr n xss post fin).Hst e00 γ → L.length < γ.length → K' (.bool false) (seeH (bpr n xss post fin) M k γ h)) → xcM (CW (bpr n xss post fin) Try.prog) 51 #[.pointer (some ⟨M, 0, none⟩), .pointer p, .pointer (some ⟨e.pg, 0, none⟩)] h K' := by
    intro K' k1 k2
    refine sh_casp Try.func51 (by kernel_rfl) (by kernel_rfl) (by kernel_rfl) (by kernel_rfl) hM (fun γ _ => bptr γ) (q := p) (y := some ⟨e.pg, 0, none⟩) ?_ ?_ ?_
    · intro w γ p2 hh ha hx hH hpr hv hne
      have hH' := bh_of hL hx hH
      have hv' : valE γ = .pointer p2 := hv
      have blk : ∀ e2, lastE γ = some e2 → ∃ c E, Blk w e2.pg c E := fun e2 h2 => by
        obtain ⟨v, v1, v2⟩ := lastE_mem h2
        exact ⟨_, _, ha.2 _ _ _ (bh_is hH' v v1 e2 v2).2.pg⟩
      have blk0 : ∀ e2, lastE L = some e2 → ∃ c E, Blk w e2.pg c E := fun e2 h2 => by
        obtain ⟨v, v1, v2⟩ := lastE_mem h2
        obtain ⟨r, rfl, _⟩ := hx
        exact ⟨_, _, ha.2 _ _ _ (bh_is hH' v (List.mem_append_left _ v1) e2 v2).2.pg⟩
      rcases valE_of (γ := γ) with ⟨a1, _, _⟩ | ⟨e2, a1, a2, _⟩
      · rw [hv'] at a1
        simp only [Value.pointer.injEq] at a1
        subst a1
        rcases valE_of (γ := L) with ⟨b1, _, _⟩ | ⟨e3, b1, b2, _⟩
        · rw [hp0] at b1
          simp only [Value.pointer.injEq] at b1
          exact absurd b1.symm hne
        · rw [hp0] at b2
          simp only [Value.pointer.injEq] at b2
          subst b2
          exact run_nonep _
      · rw [hv'] at a2
        simp only [Value.pointer.injEq] at a2
        subst a2
        rcases valE_of (γ := L) with ⟨b1, _, _⟩ | ⟨e3, b1, b2, _⟩
        · rw [hp0] at b1
          simp only [Value.pointer.injEq] at b1
          subst b1
          exact run_pnone _
        · rw [hp0] at b2
          simp only [Value.pointer.injEq] at b2
          subst b2
          obtain ⟨_, _, x1⟩ := blk e2 a1
          obtain ⟨_, _, x2⟩ := blk0 e3 b1
          exact run_unlikep x1 x2 fun h => hne (by rw [h])
    · intro w γ hh ha hx hH hpr hv
      have hH' := bh_of hL hx hH
      have hc := bext_cnt hx
      have n1 := own_nopub R.pg hpr
      have n2 := own_nopub R.lb hpr
      have N : NextE n xss γ e := ⟨by rw [R.ver, is_ver hx hH' hp0 hv], by rw [R.ek]; exact R.k1, by rw [R.ek]; exact R.kn, by rw [R.ek, hc]; exact R.cnt, by rw [R.ek, hc]; exact R.len, R.cp, fun i hi => by rw [R.ek]; exact R.at_ i hi, R.ne, n1, n2⟩
      have hok : (bpr n xss post fin).ok γ (encE e) := ⟨e, rfl, N⟩
      have hnew : ∀ b c E, pubE (γ ++ [encE e]) b = some (c, E) → pubE γ b = none → h b = some (.cells c E) ∧ b ≠ M := by
        intro b c E hb hb0
        rw [pubE_snoc, hb0] at hb
        simp only [pub1_enc] at hb
        by_cases b1 : b = e.pg
        · subst b1; rw [if_pos rfl] at hb; cases hb; exact ⟨R.pg, pM⟩
        · rw [if_neg b1] at hb
          by_cases b2 : b = e.lb
          · subst b2; rw [if_pos rfl] at hb; cases hb; exact ⟨R.lb, lM⟩
          · rw [if_neg b2] at hb; cases hb
      exact ⟨encE e, by show byE (encE e) = k; rw [byE_enc, R.ek], hok, valE_snoc γ e, fun b x hb => pubE_grow e hb, hnew, k1 γ hx (.snoc hH' hok) hpr hnew⟩
    · intro γ hx hH hpr hv
      have hH' := bh_of hL hx hH
      refine k2 γ hx hH' ?_
      obtain ⟨r, rfl, hr⟩ := hx
      cases r with
      | nil => exfalso; rw [List.append_nil] at hv; exact hv hp
      | cons x r => simp
  have fin1 : ∀ γ, (bpr n xss post fin).Ext k L γ → (bpr n xss post fin).Hst e00 (γ ++ [encE e]) → PubRo (bpr n xss post fin) γ h → (∀ b c E, pubE (γ ++ [encE e]) b = some (c, E) → pubE γ b = none → h b = some (.cells c E) ∧ b ≠ M) → 
      (pubH (bpr n xss post fin) M k γ (γ ++ [encE e]) h) M = some ((nM (bpr n xss post fin)) k (γ ++ [encE e])) ∧ (pubH (bpr n xss post fin) M k γ (γ ++ [encE e]) h) e.pg = some (.cells e.pc 78 (roO e.pc)) ∧ (pubH (bpr n xss post fin) M k γ (γ ++ [encE e]) h) e.lb = some (.cells e.c 2 (roO e.c)) ∧
      Fr (fun y => y = M ∨ y = e.pg ∨ y = e.lb) h (pubH (bpr n xss post fin) M k γ (γ ++ [encE e]) h) := by
    intro γ hx hH hpr hnew
    have n1 := own_nopub R.pg hpr
    have n2 := own_nopub R.lb hpr
    refine ⟨pubH_M, pubH_new pM n1 ?_, pubH_new lM n2 ?_, fun y o hy hn => ?_⟩
    · show pubE (γ ++ [encE e]) e.pg = _
      rw [pubE_snoc, n1, pub1_enc, if_pos rfl]
    · show pubE (γ ++ [encE e]) e.lb = _
      rw [pubE_snoc, n2, pub1_enc, if_neg (Ne.symm R.ne), if_pos rfl]
    · simp only [not_or] at hn
      rw [pubH_old hn.1, hy]
      by_cases hq : pubE γ y = none
      · left
        show pubE (γ ++ [encE e]) y = none
        rw [pubE_snoc, hq, pub1_enc, if_neg hn.2.1, if_neg hn.2.2]
      · exact .inr hq
  have c1 : cellAt h ⟨e.pg, 0, none⟩ = some (.int .i64 (e.ver : Int)) := by rw [cellAt_of R.pg]; rfl
  rw [hp0]
  simp (disch := omega) only [dm_t, wA, wB, wL, wW, wY, Int.fdiv_eq_ediv_of_nonneg, Int.tdiv_eq_ediv_of_nonneg, Int.tmod_eq_emod_of_nonneg, chk_pos, decT, decF, br_pos, br_neg, wX, ↓reduceIte, Nat.reduceEqDiff, Nat.reduceAdd, Nat.reduceSub, Nat.reduceMul, Nat.reduceLeDiff, Nat.reduceLT, Nat.reduceMod, Nat.reduceDiv, Int.reduceToNat, Nat.min_eq_left, IntKind.bits, Int.reducePow, Int.reduceLT, Int.reduceLE, Int.reduceEq, Int.reduceNe, Int.reduceAdd, Int.reduceSub, and_self, reduceCtorEq, decide_eq_true_eq, decide_eq_false_iff_not, eq_self, implies_true, exists_const, Option.isNone_some, Option.isNone_none, Option.isSome_some, Option.isSome_none, Option.getD_some]
  refine raw_cv ?_
  cases p with
  | none =>
    simp (disch := omega) only [dm_t, wA, wB, wL, wW, wY, Int.fdiv_eq_ediv_of_nonneg, Int.tdiv_eq_ediv_of_nonneg, Int.tmod_eq_emod_of_nonneg, chk_pos, decT, decF, br_pos, br_neg, wX, ↓reduceIte, Nat.reduceEqDiff, Nat.reduceAdd, Nat.reduceSub, Nat.reduceMul, Nat.reduceLeDiff, Nat.reduceLT, Nat.reduceMod, Nat.reduceDiv, Int.reduceToNat, Nat.min_eq_left, IntKind.bits, Int.reducePow, Int.reduceLT, Int.reduceLE, Int.reduceEq, Int.reduceNe, Int.reduceAdd, Int.reduceSub, and_self, reduceCtorEq, decide_eq_true_eq, decide_eq_false_iff_not, eq_self, implies_true, exists_const, Option.isNone_some, Option.isNone_none, Option.isSome_some, Option.isSome_none, Option.getD_some]
    refine cv_nil_to Try.underlying47 (by kernel_rfl) ?_
    simp (disch := omega) only [dm_t, wA, wB, wL, wW, wY, Int.fdiv_eq_ediv_of_nonneg, Int.tdiv_eq_ediv_of_nonneg, Int.tmod_eq_emod_of_nonneg, chk_pos, decT, decF, br_pos, br_neg, wX, ↓reduceIte, Nat.reduceEqDiff, Nat.reduceAdd, Nat.reduceSub, Nat.reduceMul, Nat.reduceLeDiff, Nat.reduceLT, Nat.reduceMod, Nat.reduceDiv, Int.reduceToNat, Nat.min_eq_left, IntKind.bits, Int.reducePow, Int.reduceLT, Int.reduceLE, Int.reduceEq, Int.reduceNe, Int.reduceAdd, Int.reduceSub, and_self, reduceCtorEq, decide_eq_true_eq, decide_eq_false_iff_not, eq_self, implies_true, exists_const, Option.isNone_some, Option.isNone_none, Option.isSome_some, Option.isSome_none, Option.getD_some]
    refine raw_cv ?_
    simp (disch := omega) only [dm_t, wA, wB, wL, wW, wY, Int.fdiv_eq_ediv_of_nonneg, Int.tdiv_eq_ediv_of_nonneg, Int.tmod_eq_emod_of_nonneg, chk_pos, decT, decF, br_pos, br_neg, wX, ↓reduceIte, Nat.reduceEqDiff, Nat.reduceAdd, Nat.reduceSub, Nat.reduceMul, Nat.reduceLeDiff, Nat.reduceLT, Nat.reduceMod, Nat.reduceDiv, Int.reduceToNat, Nat.min_eq_left, IntKind.bits, Int.reducePow, Int.reduceLT, Int.reduceLE, Int.reduceEq, Int.reduceNe, Int.reduceAdd, Int.reduceSub, and_self, reduceCtorEq, decide_eq_true_eq, decide_eq_false_iff_not, eq_self, implies_true, exists_const, Option.isNone_some, Option.isNone_none, Option.isSome_some, Option.isSome_none, Option.getD_some]
    refine cv_to Try.underlying47 (by kernel_rfl) (by kernel_rfl) c1 ?_
    simp (disch := omega) only [dm_t, wA, wB, wL, wW, wY, Int.fdiv_eq_ediv_of_nonneg, Int.tdiv_eq_ediv_of_nonneg, Int.tmod_eq_emod_of_nonneg, chk_pos, decT, decF, br_pos, br_neg, wX, ↓reduceIte, Nat.reduceEqDiff, Nat.reduceAdd, Nat.reduceSub, Nat.reduceMul, Nat.reduceLeDiff, Nat.reduceLT, Nat.reduceMod, Nat.reduceDiv, Int.reduceToNat, Nat.min_eq_left, IntKind.bits, Int.reducePow, Int.reduceLT, Int.reduceLE, Int.reduceEq, Int.reduceNe, Int.reduceAdd, Int.reduceSub, and_self, reduceCtorEq, decide_eq_true_eq, decide_eq_false_iff_not, eq_self, implies_true, exists_const, Option.isNone_some, Option.isNone_none, Option.isSome_some, Option.isSome_none, Option.getD_some]
    refine key _ (fun γ hx hH hpr hnew => ?_) (fun γ hx hH hl => ?_)
    · obtain ⟨f1, f2, f3, f4⟩ := fin1 γ hx hH hpr hnew
      simp (disch := omega) only [dm_t, wA, wB, wL, wW, wY, Int.fdiv_eq_ediv_of_nonneg, Int.tdiv_eq_ediv_of_nonneg, Int.tmod_eq_emod_of_nonneg, chk_pos, decT, decF, br_pos, br_neg, wX, ↓reduceIte, Nat.reduceEqDiff, Nat.reduceAdd, Nat.reduceSub, Nat.reduceMul, Nat.reduceLeDiff, Nat.reduceLT, Nat.reduceMod, Nat.reduceDiv, Int.reduceToNat, Nat.min_eq_left, IntKind.bits, Int.reducePow, Int.reduceLT, Int.reduceLE, Int.reduceEq, Int.reduceNe, Int.reduceAdd, Int.reduceSub, and_self, reduceCtorEq, decide_eq_true_eq, decide_eq_false_iff_not, eq_self, implies_true, exists_const, Option.isNone_some, Option.isNone_none, Option.isSome_some, Option.isSome_none, Option.getD_some]
      exact .inl ⟨γ, hx, hH, f1, f2, f3, f4⟩
    · simp (disch := omega) only [dm_t, wA, wB, wL, wW, wY, Int.fdiv_eq_ediv_of_nonneg, Int.tdiv_eq_ediv_of_nonneg, Int.tmod_eq_emod_of_nonneg, chk_pos, decT, decF, br_pos, br_neg, wX, ↓reduceIte, Nat.reduceEqDiff, Nat.reduceAdd, Nat.reduceSub, Nat.reduceMul, Nat.reduceLeDiff, Nat.reduceLT, Nat.reduceMod, Nat.reduceDiv, Int.reduceToNat, Nat.min_eq_left, IntKind.bits, Int.reducePow, Int.reduceLT, Int.reduceLE, Int.reduceEq, Int.reduceNe, Int.reduceAdd, Int.reduceSub, and_self, reduceCtorEq, decide_eq_true_eq, decide_eq_false_iff_not, eq_self, implies_true, exists_const, Option.isNone_some, Option.isNone_none, Option.isSome_some, Option.isSome_none, Option.getD_some]
      exact .inr ⟨γ, hx, hH, hl, seeH_M, see_fr⟩
  | some a =>
    rcases valE_of (γ := L) with ⟨b1, _, _⟩ | ⟨e3, b1, b2, _⟩
    · rw [hp0] at b1; cases b1
    rw [hp0] at b2
    simp only [Value.pointer.injEq, Option.some.injEq] at b2
    subst b2
    obtain ⟨fr, hb3⟩ := hs _ _ _ (lastIs e3 b1).pg
    have c3 : cellAt h ⟨e3.pg, 0, none⟩ = some (.int .i64 (e3.ver : Int)) := by rw [cellAt_of hb3]; rfl
    simp (disch := omega) only [dm_t, wA, wB, wL, wW, wY, Int.fdiv_eq_ediv_of_nonneg, Int.tdiv_eq_ediv_of_nonneg, Int.tmod_eq_emod_of_nonneg, chk_pos, decT, decF, br_pos, br_neg, wX, ↓reduceIte, Nat.reduceEqDiff, Nat.reduceAdd, Nat.reduceSub, Nat.reduceMul, Nat.reduceLeDiff, Nat.reduceLT, Nat.reduceMod, Nat.reduceDiv, Int.reduceToNat, Nat.min_eq_left, IntKind.bits, Int.reducePow, Int.reduceLT, Int.reduceLE, Int.reduceEq, Int.reduceNe, Int.reduceAdd, Int.reduceSub, and_self, reduceCtorEq, decide_eq_true_eq, decide_eq_false_iff_not, eq_self, implies_true, exists_const, Option.isNone_some, Option.isNone_none, Option.isSome_some, Option.isSome_none, Option.getD_some]
    refine cv_to Try.underlying47 (by kernel_rfl) (by kernel_rfl) c3 ?_
    simp (disch := omega) only [dm_t, wA, wB, wL, wW, wY, Int.fdiv_eq_ediv_of_nonneg, Int.tdiv_eq_ediv_of_nonneg, Int.tmod_eq_emod_of_nonneg, chk_pos, decT, decF, br_pos, br_neg, wX, ↓reduceIte, Nat.reduceEqDiff, Nat.reduceAdd, Nat.reduceSub, Nat.reduceMul, Nat.reduceLeDiff, Nat.reduceLT, Nat.reduceMod, Nat.reduceDiv, Int.reduceToNat, Nat.min_eq_left, IntKind.bits, Int.reducePow, Int.reduceLT, Int.reduceLE, Int.reduceEq, Int.reduceNe, Int.reduceAdd, Int.reduceSub, and_self, reduceCtorEq, decide_eq_true_eq, decide_eq_false_iff_not, eq_self, implies_true, exists_const, Option.isNone_some, Option.isNone_none, Option.isSome_some, Option.isSome_none, Option.getD_some]
    refine raw_cv ?_
    simp (disch := omega) only [dm_t, wA, wB, wL, wW, wY, Int.fdiv_eq_ediv_of_nonneg, Int.tdiv_eq_ediv_of_nonneg, Int.tmod_eq_emod_of_nonneg, chk_pos, decT, decF, br_pos, br_neg, wX, ↓reduceIte, Nat.reduceEqDiff, Nat.reduceAdd, Nat.reduceSub, Nat.reduceMul, Nat.reduceLeDiff, Nat.reduceLT, Nat.reduceMod, Nat.reduceDiv, Int.reduceToNat, Nat.min_eq_left, IntKind.bits, Int.reducePow, Int.reduceLT, Int.reduceLE, Int.reduceEq, Int.reduceNe, Int.reduceAdd, Int.reduceSub, and_self, reduceCtorEq, decide_eq_true_eq, decide_eq_false_iff_not, eq_self, implies_true, exists_const, Option.isNone_some, Option.isNone_none, Option.isSome_some, Option.isSome_none, Option.getD_some]
    refine cv_to Try.underlying47 (by kernel_rfl) (by kernel_rfl) c1 ?_
    simp (disch := omega) only [dm_t, wA, wB, wL, wW, wY, Int.fdiv_eq_ediv_of_nonneg, Int.tdiv_eq_ediv_of_nonneg, Int.tmod_eq_emod_of_nonneg, chk_pos, decT, decF, br_pos, br_neg, wX, ↓reduceIte, Nat.reduceEqDiff, Nat.reduceAdd, Nat.reduceSub, Nat.reduceMul, Nat.reduceLeDiff, Nat.reduceLT, Nat.reduceMod, Nat.reduceDiv, Int.reduceToNat, Nat.min_eq_left, IntKind.bits, Int.reducePow, Int.reduceLT, Int.reduceLE, Int.reduceEq, Int.reduceNe, Int.reduceAdd, Int.reduceSub, and_self, reduceCtorEq, decide_eq_true_eq, decide_eq_false_iff_not, eq_self, implies_true, exists_const, Option.isNone_some, Option.isNone_none, Option.isSome_some, Option.isSome_none, Option.getD_some]
    refine key _ (fun γ hx hH hpr hnew => ?_) (fun γ hx hH hl => ?_)
    · obtain ⟨f1, f2, f3, f4⟩ := fin1 γ hx hH hpr hnew
      simp (disch := omega) only [dm_t, wA, wB, wL, wW, wY, Int.fdiv_eq_ediv_of_nonneg, Int.tdiv_eq_ediv_of_nonneg, Int.tmod_eq_emod_of_nonneg, chk_pos, decT, decF, br_pos, br_neg, wX, ↓reduceIte, Nat.reduceEqDiff, Nat.reduceAdd, Nat.reduceSub, Nat.reduceMul, Nat.reduceLeDiff, Nat.reduceLT, Nat.reduceMod, Nat.reduceDiv, Int.reduceToNat, Nat.min_eq_left, IntKind.bits, Int.reducePow, Int.reduceLT, Int.reduceLE, Int.reduceEq, Int.reduceNe, Int.reduceAdd, Int.reduceSub, and_self, reduceCtorEq, decide_eq_true_eq, decide_eq_false_iff_not, eq_self, implies_true, exists_const, Option.isNone_some, Option.isNone_none, Option.isSome_some, Option.isSome_none, Option.getD_some]
      exact .inl ⟨γ, hx, hH, f1, f2, f3, f4⟩
    · simp (disch := omega) only [dm_t, wA, wB, wL, wW, wY, Int.fdiv_eq_ediv_of_nonneg, Int.tdiv_eq_ediv_of_nonneg, Int.tmod_eq_emod_of_nonneg, chk_pos, decT, decF, br_pos, br_neg, wX, ↓reduceIte, Nat.reduceEqDiff, Nat.reduceAdd, Nat.reduceSub, Nat.reduceMul, Nat.reduceLeDiff, Nat.reduceLT, Nat.reduceMod, Nat.reduceDiv, Int.reduceToNat, Nat.min_eq_left, IntKind.bits, Int.reducePow, Int.reduceLT, Int.reduceLE, Int.reduceEq, Int.reduceNe, Int.reduceAdd, Int.reduceSub, and_self, reduceCtorEq, decide_eq_true_eq, decide_eq_false_iff_not, eq_self, implies_true, exists_const, Option.isNone_some, Option.isNone_none, Option.isSome_some, Option.isSome_none, Option.getD_some]
      exact .inr ⟨γ, hx, hH, hl, seeH_M, see_fr⟩
end
end Go.Proofs.Ytojhnclkhiffkaa.mk

/-
  The board in company: Publish, Get.
-/
namespace Go.Proofs.Ytojhnclkhiffkaa.mk
open Go.Proofs.Ytojhnclkhiffkaa
set_option linter.unusedVariables false
set_option linter.unusedSimpArgs false
section
variable {n : Nat} {xss : Nat → List Int} {post : Value → H → Prop} {fin : Value → H → Prop} {h : H} {M k : Nat} {L : List Value} {K : Value → H → Prop}
theorem clone2_ok {PX : Cx Try.prog} {h : H} {v : Value} {xs : List Value} (hs : Sl h v xs) (hc : xs.all isCell = true) (hl : xs.length ≤ 1099511627776) : Ok PX 28 #[v] h fun v h' => Own h h' 2 v xs ∧ Ext h h' := by
  refine c28_ok (args := [_]) (by simp) ?_
  obtain ⟨a, c, rfl⟩ := hs.len
  cases a with
  | none =>
    simp (disch := omega) only [dm_t, wA, wB, wL, wW, wY, Int.fdiv_eq_ediv_of_nonneg, Int.tdiv_eq_ediv_of_nonneg, Int.tmod_eq_emod_of_nonneg, chk_pos, decT, decF, br_pos, br_neg, wX, ↓reduceIte, Nat.reduceEqDiff, Nat.reduceAdd, Nat.reduceSub, Nat.reduceMul, Nat.reduceLeDiff, Nat.reduceLT, Nat.reduceMod, Nat.reduceDiv, Int.reduceToNat, Nat.min_eq_left, IntKind.bits, Int.reducePow, Int.reduceLT, Int.reduceLE, Int.reduceEq, Int.reduceNe, Int.reduceAdd, Int.reduceSub, and_self, reduceCtorEq, decide_eq_true_eq, decide_eq_false_iff_not, eq_self, implies_true, exists_const, Option.isNone_some, Option.isNone_none, Option.isSome_some, Option.isSome_none, Option.getD_some]
    have : xs = [] := by
      rcases hs with ⟨_, h1, h2⟩ | ⟨b, o, cp, c, E, fr, h1, _⟩
      · exact h2
      · simp at h1
    subst this
    exact ⟨.inl ⟨rfl, rfl⟩, Fr.refl _ _⟩
  | some a =>
    simp (disch := omega) only [dm_t, wA, wB, wL, wW, wY, Int.fdiv_eq_ediv_of_nonneg, Int.tdiv_eq_ediv_of_nonneg, Int.tmod_eq_emod_of_nonneg, chk_pos, decT, decF, br_pos, br_neg, wX, ↓reduceIte, Nat.reduceEqDiff, Nat.reduceAdd, Nat.reduceSub, Nat.reduceMul, Nat.reduceLeDiff, Nat.reduceLT, Nat.reduceMod, Nat.reduceDiv, Int.reduceToNat, Nat.min_eq_left, IntKind.bits, Int.reducePow, Int.reduceLT, Int.reduceLE, Int.reduceEq, Int.reduceNe, Int.reduceAdd, Int.reduceSub, and_self, reduceCtorEq, decide_eq_true_eq, decide_eq_false_iff_not, eq_self, implies_true, exists_const, Option.isNone_some, Option.isNone_none, Option.isSome_some, Option.isSome_none, Option.getD_some]
    rintro la hla
    have hs2 := srcCells_sl (hs.ext (Ext.new hla (.cells #[] 2)))
    refine app_own (new := xs) (xs := []) (h0 := h) (.inr ⟨la, 0, #[], rfl, hupd_same _ _ _, rfl, by simp, fun i hi => by simp at hi, hla⟩) (fun y hy => (Ext.new hla _).back hy (fun _ h => h.elim)) hs2.1 hs2.2 hc rfl (by simp; omega) (by simp; omega) ?_
    intro v' h' ho h1 h2
    simp (disch := omega) only [dm_t, wA, wB, wL, wW, wY, Int.fdiv_eq_ediv_of_nonneg, Int.tdiv_eq_ediv_of_nonneg, Int.tmod_eq_emod_of_nonneg, chk_pos, decT, decF, br_pos, br_neg, wX, ↓reduceIte, Nat.reduceEqDiff, Nat.reduceAdd, Nat.reduceSub, Nat.reduceMul, Nat.reduceLeDiff, Nat.reduceLT, Nat.reduceMod, Nat.reduceDiv, Int.reduceToNat, Nat.min_eq_left, IntKind.bits, Int.reducePow, Int.reduceLT, Int.reduceLE, Int.reduceEq, Int.reduceNe, Int.reduceAdd, Int.reduceSub, and_self, reduceCtorEq, decide_eq_true_eq, decide_eq_false_iff_not, eq_self, implies_true, exists_const, Option.isNone_some, Option.isNone_none, Option.isSome_some, Option.isSome_none, Option.getD_some]
    exact ⟨ho, fun y o hy _ => h2 y o hy (Ext.new hla _ |>.at hy)⟩
theorem hst_inv {pr : Pro} {e0 : Value} {δ : List Value} (h : pr.Hst e0 δ) : ∀ γ v, δ = γ ++ [v] → γ ≠ [] → pr.ok γ v ∧ pr.Hst e0 γ := by
  cases h with
  | one =>
    intro γ v e hn
    cases γ with
    | nil => exact absurd rfl hn
    | cons x r => simp at e
  | snoc hg hok =>
    intro γ v e _
    obtain ⟨rfl, e2⟩ := List.append_inj' e rfl
    cases e2
    exact ⟨hok, hg⟩
theorem enc_inj {e e' : Ent} (h : encE e = encE e') : e = e' := by
  have := congrArg decE h
  rw [dec_enc, dec_enc] at this
  exact Option.some.inj this
theorem next_of {γ : List Value} {e : Ent} (h : (bpr n xss post fin).Hst e00 (γ ++ [encE e])) (hn : γ ≠ []) : NextE n xss γ e := by
  obtain ⟨e', h1, h2⟩ := (hst_inv h _ _ rfl hn).1
  rw [enc_inj h1]
  exact h2
/-- Each entry's list is a beginning of its writer's row. -/
theorem bh_row {γ : List Value} (h : (bpr n xss post fin).Hst e00 γ) : ∀ v ∈ γ, ∀ e, decE v = some e → 1 ≤ e.k ∧ e.k ≤ n ∧ e.len ≤ (xss (e.k - 1)).length ∧ ∀ i, i < e.len → e.c[i]? = some (.int .i64 (((xss (e.k - 1))[i]?).getD 0)) := by
  induction h with
  | one => intro v hv e he; simp at hv; subst hv; cases he
  | snoc hg hok ih =>
    obtain ⟨e', rfl, N⟩ := hok
    intro v hv e he
    rcases List.mem_append.1 hv with hv | hv
    · exact ih v hv e he
    · simp at hv; subst hv
      rw [dec_enc] at he; cases he
      exact ⟨N.k1, N.kn, by rw [N.len]; exact N.cnt, N.at_⟩
/-- The list of an entry that is seen. -/
theorem ent_sl {γ : List Value} {e : Ent} {g : H} (I : e.Is γ) (s : Seen γ g) : Sl g e.l (e.c.toList.take e.len) ∧ (e.c.toList.take e.len).length = e.len ∧ (e.c.toList.take e.len).all isCell = true := by
  obtain ⟨fr, hb⟩ := s _ _ _ I.lb
  have hlen : (e.c.toList.take e.len).length = e.len := by
    rw [List.length_take, Array.length_toList]
    have := I.cp
    omega
  refine ⟨.inr ⟨e.lb, 0, e.cp, e.c, _, fr, by rw [hlen]; rfl, hb, by have := I.cp; omega, by rw [hlen]; exact I.cp.1, fun i hi => ?_⟩, hlen, ?_⟩
  · rw [Nat.zero_add, List.getElem_take, Array.getElem_toList]
    rw [Array.getElem?_eq_getElem]
  · refine List.all_eq_true.2 fun x hx => ?_
    obtain ⟨i, hi, rfl⟩ := List.getElem_of_mem hx
    obtain ⟨y, hy⟩ := I.ints i (by omega)
    rw [List.getElem_take, Array.getElem_toList]
    rw [Array.getElem?_eq_getElem (by have := I.cp; omega)] at hy
    rw [Option.some.inj hy]
    rfl
theorem hisOf_at {pr : Pro} {γ : List Value} (hM : h M = some (nM pr k γ)) : hisOf h M = γ := by
  unfold hisOf
  rw [hM]
  rfl
/-- What a worker that publishes answers. -/
def PubA (n : Nat) (xss : Nat → List Int) (post fin : Value → H → Prop) (M k : Nat) (L : List Value) (h : H) (ver : Nat) (h' : H) : Prop :=
  ∃ γ e, e.ver = ver ∧ e.k = k ∧ (bpr n xss post fin).Ext k L γ ∧ (bpr n xss post fin).Hst e00 (γ ++ [encE e]) ∧ NextE n xss γ e ∧ h' M = some ((nM (bpr n xss post fin)) k (γ ++ [encE e])) ∧ Fr (fun y => y = M) h h'
theorem bturn_ok {c : Nat} {l : Value} (hM : h M = some ((nM (bpr n xss post fin)) k L)) (hL : ∃ r, L = e00 :: r) (hH0 : (bpr n xss post fin).Hst e00 L) (k1 : 1 ≤ k) (kn : k ≤ n) (hcnt : cntB k L < (xss (k - 1)).length) (hbig : sumL xss n ≤ 4611686018427387904) (hrow : ∀ i, i < n → (xss i).length ≤ 1099511627776)
    (hc : h c = some (.cells #[l] 22)) (hl : Sl h l (((xss (k - 1)).take (cntB k L + 1)).map (.int .i64))) :
    Ok (CW (bpr n xss post fin) Try.prog) 25 #[.pointer (some ⟨M, 0, none⟩), .func (.func 26) #[] #[.pointer (some ⟨c, 0, none⟩)]] h fun v h' => ∃ ver : Nat, v = .int .i64 (ver : Int) ∧ PubA n xss post fin M k L h ver h' := by
  refine c25_ok (args := [_, _]) (by simp) ?_
  simp (disch := omega) only [dm_t, wA, wB, wL, wW, wY, Int.fdiv_eq_ediv_of_nonneg, Int.tdiv_eq_ediv_of_nonneg, Int.tmod_eq_emod_of_nonneg, chk_pos, decT, decF, br_pos, br_neg, wX, ↓reduceIte, Nat.reduceEqDiff, Nat.reduceAdd, Nat.reduceSub, Nat.reduceMul, Nat.reduceLeDiff, Nat.reduceLT, Nat.reduceMod, Nat.reduceDiv, Int.reduceToNat, Nat.min_eq_left, IntKind.bits, Int.reducePow, Int.reduceLT, Int.reduceLE, Int.reduceEq, Int.reduceNe, Int.reduceAdd, Int.reduceSub, and_self, reduceCtorEq, decide_eq_true_eq, decide_eq_false_iff_not, eq_self, implies_true, exists_const, Option.isNone_some, Option.isNone_none, Option.isSome_some, Option.isSome_none, Option.getD_some]
  refine vc_loop0 (fun h' => ∃ γ, h' M = some ((nM (bpr n xss post fin)) k γ) ∧ (bpr n xss post fin).Ext k L γ ∧ (bpr n xss post fin).Hst e00 γ ∧ Fr (fun y => y = M) h h') (fun h' => sumL xss n + 1 - (hisOf h' M).length) ⟨L, hM, ⟨[], by simp, by simp⟩, hH0, Fr.refl _ _⟩ ?_
  rintro g ⟨γ0, gM, gx, gH, gf⟩
  rw [hisOf_at gM]
  generalize hQ0 : lq0 _ _ _ _ _ _ = Q0
  simp (disch := omega) only [dm_t, wA, wB, wL, wW, wY, Int.fdiv_eq_ediv_of_nonneg, Int.tdiv_eq_ediv_of_nonneg, Int.tmod_eq_emod_of_nonneg, chk_pos, decT, decF, br_pos, br_neg, wX, ↓reduceIte, Nat.reduceEqDiff, Nat.reduceAdd, Nat.reduceSub, Nat.reduceMul, Nat.reduceLeDiff, Nat.reduceLT, Nat.reduceMod, Nat.reduceDiv, Int.reduceToNat, Nat.min_eq_left, IntKind.bits, Int.reducePow, Int.reduceLT, Int.reduceLE, Int.reduceEq, Int.reduceNe, Int.reduceAdd, Int.reduceSub, and_self, reduceCtorEq, decide_eq_true_eq, decide_eq_false_iff_not, eq_self, implies_true, exists_const, Option.isNone_some, Option.isNone_none, Option.isSome_some, Option.isSome_none, Option.getD_some]
  refine (bpload_ok gM (bext_head hL gx)).k ?_
  rintro _ g1 ⟨γ, rfl, x1, H1, M1, f1, s1⟩
  have gx1 := bext_trans gx x1
  have hcn := bext_cnt gx1
  have hfr1 := gf.trans f1
  have hcM : c ≠ M := by rintro rfl; rw [hM] at hc; cases hc
  have hlen0 : ((((xss (k - 1)).take (cntB k L + 1)).map (Value.int .i64))).length = cntB k L + 1 := by simp; omega
  have hver := bh_bound H1
  rw [bh_len H1] at hver
  have hslM : ∀ {g2 : H}, Fr (fun y => y = M) h g2 → Sl g2 l (((xss (k - 1)).take (cntB k L + 1)).map (.int .i64)) := fun f => slFr2 hl f fun b cc E fr hb => by rintro rfl; rw [hM] at hb; cases hb
  have nop : ∀ {b}, g1 b = none → pubE γ b = none := fun {b} hb => by
    cases hq : pubE γ b with
    | none => rfl
    | some x => obtain ⟨fr, hw⟩ := s1 b x.1 x.2 hq; rw [hb] at hw; cases hw
  have hrk := hrow (k - 1) (by omega)
  have tail : ∀ (g3 : H) (nw : Nat) (old : Value), g3 M = some ((nM (bpr n xss post fin)) k γ) → Seen γ g3 → g3 nw = some (.cells #[.int .i64 ((verOf γ : Int) + 1), .slice none 0 0] 78) → Fr (fun y => y = M) h g3 → h nw = none → pubE γ nw = none →
      vc (CW (bpr n xss post fin) Try.prog) c25_s5 (blockQ 1 Q0) [(0, .pointer (some ⟨M, 0, none⟩)), (1, .func (.func 26) #[] #[.pointer (some ⟨c, 0, none⟩)]), (5, valE γ), (6, .pointer (some ⟨nw, 0, none⟩)), (7, old)] g3 := by
    intro g3 nw old m3 s3 n3 f3 z3 zn
    simp (disch := omega) only [dm_t, wA, wB, wL, wW, wY, Int.fdiv_eq_ediv_of_nonneg, Int.tdiv_eq_ediv_of_nonneg, Int.tmod_eq_emod_of_nonneg, chk_pos, decT, decF, br_pos, br_neg, wX, ↓reduceIte, Nat.reduceEqDiff, Nat.reduceAdd, Nat.reduceSub, Nat.reduceMul, Nat.reduceLeDiff, Nat.reduceLT, Nat.reduceMod, Nat.reduceDiv, Int.reduceToNat, Nat.min_eq_left, IntKind.bits, Int.reducePow, Int.reduceLT, Int.reduceLE, Int.reduceEq, Int.reduceNe, Int.reduceAdd, Int.reduceSub, and_self, reduceCtorEq, decide_eq_true_eq, decide_eq_false_iff_not, eq_self, implies_true, exists_const, Option.isNone_some, Option.isNone_none, Option.isSome_some, Option.isSome_none, Option.getD_some]
    refine ⟨by kernel_rfl, (pub1_ok old (f3 _ _ hc hcM)).k ?_⟩
    rintro _ _ ⟨rfl, rfl⟩
    simp (disch := omega) only [dm_t, wA, wB, wL, wW, wY, Int.fdiv_eq_ediv_of_nonneg, Int.tdiv_eq_ediv_of_nonneg, Int.tmod_eq_emod_of_nonneg, chk_pos, decT, decF, br_pos, br_neg, wX, ↓reduceIte, Nat.reduceEqDiff, Nat.reduceAdd, Nat.reduceSub, Nat.reduceMul, Nat.reduceLeDiff, Nat.reduceLT, Nat.reduceMod, Nat.reduceDiv, Int.reduceToNat, Nat.min_eq_left, IntKind.bits, Int.reducePow, Int.reduceLT, Int.reduceLE, Int.reduceEq, Int.reduceNe, Int.reduceAdd, Int.reduceSub, and_self, reduceCtorEq, decide_eq_true_eq, decide_eq_false_iff_not, eq_self, implies_true, exists_const, Option.isNone_some, Option.isNone_none, Option.isSome_some, Option.isSome_none, Option.getD_some]
    refine (clone2_ok (hslM f3) (by rw [List.all_map]; exact List.all_eq_true.2 fun _ _ => rfl) (by rw [hlen0]; omega)).k ?_
    rintro l3 h3 ⟨ho3, he3⟩
    rcases ho3 with ⟨_, hnil⟩ | ⟨lb, cp, cc, rfl, b1, b2, b3, b4, b5⟩
    · rw [hnil] at hlen0; simp at hlen0
    rw [hlen0] at b3 ⊢
    have hnw3 := he3.at n3
    simp (disch := omega) only [dm_t, wA, wB, wL, wW, wY, Int.fdiv_eq_ediv_of_nonneg, Int.tdiv_eq_ediv_of_nonneg, Int.tmod_eq_emod_of_nonneg, chk_pos, decT, decF, br_pos, br_neg, wX, ↓reduceIte, Nat.reduceEqDiff, Nat.reduceAdd, Nat.reduceSub, Nat.reduceMul, Nat.reduceLeDiff, Nat.reduceLT, Nat.reduceMod, Nat.reduceDiv, Int.reduceToNat, Nat.min_eq_left, IntKind.bits, Int.reducePow, Int.reduceLT, Int.reduceLE, Int.reduceEq, Int.reduceNe, Int.reduceAdd, Int.reduceSub, and_self, reduceCtorEq, decide_eq_true_eq, decide_eq_false_iff_not, eq_self, implies_true, exists_const, Option.isNone_some, Option.isNone_none, Option.isSome_some, Option.isSome_none, Option.getD_some, storeH_0 hnw3]
    generalize hG : hupd h3 nw _ = g4
    have f4 : Fr (fun y => y = nw) h3 g4 := hG ▸ Fr.upd (S := fun y => y = nw) rfl _
    have n4 : g4 nw = some (.cells #[.int .i64 ((verOf γ : Int) + 1), .slice (some ⟨lb, 0, none⟩) (cntB k L + 1) cp] 78) := by rw [← hG, hupd_same]
    clear hG
    have nwM : nw ≠ M := by rintro rfl; rw [hM] at z3; cases z3
    have lbn : lb ≠ nw := by rintro rfl; rw [b5] at n3; cases n3
    have R : Ready n xss k γ ⟨verOf γ + 1, k, nw, lb, cp, cntB k L + 1, cc⟩ g4 := by
      refine ⟨rfl, rfl, k1, kn, by rw [hcn]; exact hcnt, by rw [hcn], ⟨b3, b2.symm⟩, fun i hi => ?_, fun h => lbn h.symm, ?_, f4 _ _ b1 lbn⟩
      · have hi' : i < cntB k L + 1 := hi
        have q := b4 i (by omega)
        show cc[i]? = _
        rw [q]
        have hi2 : i < (xss (k - 1)).length := by omega
        simp [hi2]
      · rw [n4]
        simp [Ent.pc, Ent.l]
    have m4 : g4 M = some ((nM (bpr n xss post fin)) k γ) := f4 _ _ (he3.at m3) (Ne.symm nwM)
    have s4 : Seen γ g4 := (s3.fr he3 fun _ _ _ _ h => h).fr f4 fun b c' E hb hq => by
      subst hq
      rw [zn] at hb; cases hb
    refine (bpcas_ok m4 (bext_head hL gx1) H1 s4 R).k ?_
    rintro _ h5 (⟨rfl, γ2, x2, H2, M2, p2, l2, f5⟩ | ⟨rfl, γ2, x2, H2, lt2, M2, f5⟩)
    · have cv : cellAt h5 ⟨nw, 0, none⟩ = some (.int .i64 (((verOf γ + 1 : Nat) : Int))) := by rw [cellAt_of p2]; rfl
      simp (disch := omega) only [dm_t, wA, wB, wL, wW, wY, Int.fdiv_eq_ediv_of_nonneg, Int.tdiv_eq_ediv_of_nonneg, Int.tmod_eq_emod_of_nonneg, chk_pos, decT, decF, br_pos, br_neg, wX, ↓reduceIte, Nat.reduceEqDiff, Nat.reduceAdd, Nat.reduceSub, Nat.reduceMul, Nat.reduceLeDiff, Nat.reduceLT, Nat.reduceMod, Nat.reduceDiv, Int.reduceToNat, Nat.min_eq_left, IntKind.bits, Int.reducePow, Int.reduceLT, Int.reduceLE, Int.reduceEq, Int.reduceNe, Int.reduceAdd, Int.reduceSub, and_self, reduceCtorEq, decide_eq_true_eq, decide_eq_false_iff_not, eq_self, implies_true, exists_const, Option.isNone_some, Option.isNone_none, Option.isSome_some, Option.isSome_none, Option.getD_some, cv]
      rw [← hQ0]
      simp (disch := omega) only [dm_t, wA, wB, wL, wW, wY, Int.fdiv_eq_ediv_of_nonneg, Int.tdiv_eq_ediv_of_nonneg, Int.tmod_eq_emod_of_nonneg, chk_pos, decT, decF, br_pos, br_neg, wX, ↓reduceIte, Nat.reduceEqDiff, Nat.reduceAdd, Nat.reduceSub, Nat.reduceMul, Nat.reduceLeDiff, Nat.reduceLT, Nat.reduceMod, Nat.reduceDiv, Int.reduceToNat, Nat.min_eq_left, IntKind.bits, Int.reducePow, Int.reduceLT, Int.reduceLE, Int.reduceEq, Int.reduceNe, Int.reduceAdd, Int.reduceSub, and_self, reduceCtorEq, decide_eq_true_eq, decide_eq_false_iff_not, eq_self, implies_true, exists_const, Option.isNone_some, Option.isNone_none, Option.isSome_some, Option.isSome_none, Option.getD_some]
      refine ⟨verOf γ + 1, rfl, γ2, _, rfl, rfl, bext_trans gx1 x2, H2, next_of H2 (fun h => by obtain ⟨r, hr⟩ := bext_head (bext_head hL gx1) x2; rw [h] at hr; cases hr), M2, ?_⟩
      have fa : Fr (fun y => y = M ∨ (y = nw ∨ y = lb)) h h5 := (((f3.trans (he3.mono fun _ h => h.elim)).mono fun y hy => .inl hy).trans (f4.mono fun y hy => .inr (.inl hy))).trans (f5.mono fun y hy => hy)
      refine fa.less ?_
      rintro y (hy | rfl | rfl)
      · exact .inl hy
      · exact .inr z3
      · exact .inr (f3.back b5 fun y hy => by rw [hy, m3]; simp)
    · rw [← hQ0]
      simp (disch := omega) only [dm_t, wA, wB, wL, wW, wY, Int.fdiv_eq_ediv_of_nonneg, Int.tdiv_eq_ediv_of_nonneg, Int.tmod_eq_emod_of_nonneg, chk_pos, decT, decF, br_pos, br_neg, wX, ↓reduceIte, Nat.reduceEqDiff, Nat.reduceAdd, Nat.reduceSub, Nat.reduceMul, Nat.reduceLeDiff, Nat.reduceLT, Nat.reduceMod, Nat.reduceDiv, Int.reduceToNat, Nat.min_eq_left, IntKind.bits, Int.reducePow, Int.reduceLT, Int.reduceLE, Int.reduceEq, Int.reduceNe, Int.reduceAdd, Int.reduceSub, and_self, reduceCtorEq, decide_eq_true_eq, decide_eq_false_iff_not, eq_self, implies_true, exists_const, Option.isNone_some, Option.isNone_none, Option.isSome_some, Option.isSome_none, Option.getD_some]
      have fa : Fr (fun y => y = M ∨ y = nw) h h5 := (((f3.trans (he3.mono fun _ h => h.elim)).mono fun y hy => .inl hy).trans (f4.mono fun y hy => .inr hy)).trans (f5.mono fun y hy => .inl hy)
      refine ⟨⟨γ2, M2, bext_trans gx1 x2, H2, fa.less ?_⟩, ?_⟩
      · rintro y (hy | rfl)
        · exact .inl hy
        · exact .inr z3
      · rw [hisOf_at M2]
        have := bh_bound H2
        have hle : γ0.length ≤ γ.length := by obtain ⟨r, rfl, _⟩ := x1; simp
        omega
  rcases valE_of (γ := γ) with ⟨v1, v2, v3⟩ | ⟨e1, v1, v2, v3⟩
  · have t := fun g3 nw => tail g3 nw (.slice none 0 0)
    rw [v1, v3] at t
    rw [v1]
    simp (disch := omega) only [dm_t, wA, wB, wL, wW, wY, Int.fdiv_eq_ediv_of_nonneg, Int.tdiv_eq_ediv_of_nonneg, Int.tmod_eq_emod_of_nonneg, chk_pos, decT, decF, br_pos, br_neg, wX, ↓reduceIte, Nat.reduceEqDiff, Nat.reduceAdd, Nat.reduceSub, Nat.reduceMul, Nat.reduceLeDiff, Nat.reduceLT, Nat.reduceMod, Nat.reduceDiv, Int.reduceToNat, Nat.min_eq_left, IntKind.bits, Int.reducePow, Int.reduceLT, Int.reduceLE, Int.reduceEq, Int.reduceNe, Int.reduceAdd, Int.reduceSub, and_self, reduceCtorEq, decide_eq_true_eq, decide_eq_false_iff_not, eq_self, implies_true, exists_const, Option.isNone_some, Option.isNone_none, Option.isSome_some, Option.isSome_none, Option.getD_some]
    intro nw hnw
    have t' := t (hupd g1 nw (.cells #[.int .i64 1, .slice none 0 0] 78)) nw ((hupd_ne _ _ (ne_of M1 hnw)).trans M1) (s1.fr (Ext.new hnw _) fun _ _ _ _ h => h) (hupd_same _ _ _) (hfr1.trans ((Ext.new hnw _).mono fun _ h => h.elim)) (hfr1.back hnw fun y hy => by rw [hy, M1]; simp) (nop hnw)
    revert t'
    simp (disch := omega) only [dm_t, wA, wB, wL, wW, wY, Int.fdiv_eq_ediv_of_nonneg, Int.tdiv_eq_ediv_of_nonneg, Int.tmod_eq_emod_of_nonneg, chk_pos, decT, decF, br_pos, br_neg, wX, ↓reduceIte, Nat.reduceEqDiff, Nat.reduceAdd, Nat.reduceSub, Nat.reduceMul, Nat.reduceLeDiff, Nat.reduceLT, Nat.reduceMod, Nat.reduceDiv, Int.reduceToNat, Nat.min_eq_left, IntKind.bits, Int.reducePow, Int.reduceLT, Int.reduceLE, Int.reduceEq, Int.reduceNe, Int.reduceAdd, Int.reduceSub, and_self, reduceCtorEq, decide_eq_true_eq, decide_eq_false_iff_not, eq_self, implies_true, exists_const, Option.isNone_some, Option.isNone_none, Option.isSome_some, Option.isSome_none, Option.getD_some]
    exact id
  · obtain ⟨ev, w1, w2⟩ := lastE_mem v1
    have I := (bh_is H1 ev w1 e1 w2).2
    have hrw := bh_row H1 ev w1 e1 w2
    have hrl := hrow (e1.k - 1) (by omega)
    rw [v2]
    simp (disch := omega) only [dm_t, wA, wB, wL, wW, wY, Int.fdiv_eq_ediv_of_nonneg, Int.tdiv_eq_ediv_of_nonneg, Int.tmod_eq_emod_of_nonneg, chk_pos, decT, decF, br_pos, br_neg, wX, ↓reduceIte, Nat.reduceEqDiff, Nat.reduceAdd, Nat.reduceSub, Nat.reduceMul, Nat.reduceLeDiff, Nat.reduceLT, Nat.reduceMod, Nat.reduceDiv, Int.reduceToNat, Nat.min_eq_left, IntKind.bits, Int.reducePow, Int.reduceLT, Int.reduceLE, Int.reduceEq, Int.reduceNe, Int.reduceAdd, Int.reduceSub, and_self, reduceCtorEq, decide_eq_true_eq, decide_eq_false_iff_not, eq_self, implies_true, exists_const, Option.isNone_some, Option.isNone_none, Option.isSome_some, Option.isSome_none, Option.getD_some]
    intro nw hnw
    have s2 := s1.fr (Ext.new hnw (.cells #[.int .i64 1, .slice none 0 0] 78)) fun _ _ _ _ h => h
    obtain ⟨fr, hp2⟩ := s2 _ _ _ I.pg
    have c1 : cellAt (hupd g1 nw (.cells #[.int .i64 1, .slice none 0 0] 78)) ⟨e1.pg, 0, none⟩ = some (.int .i64 (e1.ver : Int)) := by rw [cellAt_of hp2]; rfl
    have hne : e1.pg ≠ nw := by
      intro h
      have := nop hnw
      rw [← h, I.pg] at this; cases this
    simp (disch := omega) only [dm_t, wA, wB, wL, wW, wY, Int.fdiv_eq_ediv_of_nonneg, Int.tdiv_eq_ediv_of_nonneg, Int.tmod_eq_emod_of_nonneg, chk_pos, decT, decF, br_pos, br_neg, wX, ↓reduceIte, Nat.reduceEqDiff, Nat.reduceAdd, Nat.reduceSub, Nat.reduceMul, Nat.reduceLeDiff, Nat.reduceLT, Nat.reduceMod, Nat.reduceDiv, Int.reduceToNat, Nat.min_eq_left, IntKind.bits, Int.reducePow, Int.reduceLT, Int.reduceLE, Int.reduceEq, Int.reduceNe, Int.reduceAdd, Int.reduceSub, and_self, reduceCtorEq, decide_eq_true_eq, decide_eq_false_iff_not, eq_self, implies_true, exists_const, Option.isNone_some, Option.isNone_none, Option.isSome_some, Option.isSome_none, Option.getD_some, c1, storeH_same]
    generalize hG : hupd g1 nw _ = g2
    have f2 : Ext g1 g2 := hG ▸ Ext.new hnw _
    have n2 : g2 nw = some (.cells #[.int .i64 ((verOf γ : Int) + 1), .slice none 0 0] 78) := by rw [← hG, hupd_same, v3]
    clear hG
    have s3 := s1.fr f2 fun _ _ _ _ h => h
    obtain ⟨fr3, hp3⟩ := s3 _ _ _ I.pg
    have c3 : cellAt g2 ⟨e1.pg, 1, none⟩ = some e1.l := by rw [cellAt_of hp3]; rfl
    obtain ⟨t1, t2, t3⟩ := ent_sl I s3
    simp (disch := omega) only [dm_t, wA, wB, wL, wW, wY, Int.fdiv_eq_ediv_of_nonneg, Int.tdiv_eq_ediv_of_nonneg, Int.tmod_eq_emod_of_nonneg, chk_pos, decT, decF, br_pos, br_neg, wX, ↓reduceIte, Nat.reduceEqDiff, Nat.reduceAdd, Nat.reduceSub, Nat.reduceMul, Nat.reduceLeDiff, Nat.reduceLT, Nat.reduceMod, Nat.reduceDiv, Int.reduceToNat, Nat.min_eq_left, IntKind.bits, Int.reducePow, Int.reduceLT, Int.reduceLE, Int.reduceEq, Int.reduceNe, Int.reduceAdd, Int.reduceSub, and_self, reduceCtorEq, decide_eq_true_eq, decide_eq_false_iff_not, eq_self, implies_true, exists_const, Option.isNone_some, Option.isNone_none, Option.isSome_some, Option.isSome_none, Option.getD_some, c3]
    refine (clone2_ok t1 t3 (by rw [t2]; omega)).k ?_
    rintro old g3 ⟨_, e3⟩
    have t := tail g3 nw old (e3.at (f2.at M1)) (s3.fr e3 fun _ _ _ _ h => h) (e3.at n2) (hfr1.trans ((f2.trans e3).mono fun _ h => h.elim)) (hfr1.back hnw fun y hy => by rw [hy, M1]; simp) (nop hnw)
    rw [v2] at t
    revert t
    simp (disch := omega) only [dm_t, wA, wB, wL, wW, wY, Int.fdiv_eq_ediv_of_nonneg, Int.tdiv_eq_ediv_of_nonneg, Int.tmod_eq_emod_of_nonneg, chk_pos, decT, decF, br_pos, br_neg, wX, ↓reduceIte, Nat.reduceEqDiff, Nat.reduceAdd, Nat.reduceSub, Nat.reduceMul, Nat.reduceLeDiff, Nat.reduceLT, Nat.reduceMod, Nat.reduceDiv, Int.reduceToNat, Nat.min_eq_left, IntKind.bits, Int.reducePow, Int.reduceLT, Int.reduceLE, Int.reduceEq, Int.reduceNe, Int.reduceAdd, Int.reduceSub, and_self, reduceCtorEq, decide_eq_true_eq, decide_eq_false_iff_not, eq_self, implies_true, exists_const, Option.isNone_some, Option.isNone_none, Option.isSome_some, Option.isSome_none, Option.getD_some]
    exact id
theorem bpublish_ok {l : Value} (hM : h M = some ((nM (bpr n xss post fin)) k L)) (hL : ∃ r, L = e00 :: r) (hH0 : (bpr n xss post fin).Hst e00 L) (k1 : 1 ≤ k) (kn : k ≤ n) (hcnt : cntB k L < (xss (k - 1)).length) (hbig : sumL xss n ≤ 4611686018427387904) (hrow : ∀ i, i < n → (xss i).length ≤ 1099511627776)
    (hl : Sl h l (((xss (k - 1)).take (cntB k L + 1)).map (.int .i64))) :
    Ok (CW (bpr n xss post fin) Try.prog) 13 #[.pointer (some ⟨M, 0, none⟩), l] h fun v h' => ∃ ver : Nat, v = .tuple #[.int .i64 (ver : Int), .int .i64 0] ∧ PubA n xss post fin M k L h ver h' := by
  obtain ⟨la, lc, rfl⟩ := hl.len
  refine c13_ok (args := [_, _]) (by simp) ?_
  simp (disch := omega) only [dm_t, wA, wB, wL, wW, wY, Int.fdiv_eq_ediv_of_nonneg, Int.tdiv_eq_ediv_of_nonneg, Int.tmod_eq_emod_of_nonneg, chk_pos, decT, decF, br_pos, br_neg, wX, ↓reduceIte, Nat.reduceEqDiff, Nat.reduceAdd, Nat.reduceSub, Nat.reduceMul, Nat.reduceLeDiff, Nat.reduceLT, Nat.reduceMod, Nat.reduceDiv, Int.reduceToNat, Nat.min_eq_left, IntKind.bits, Int.reducePow, Int.reduceLT, Int.reduceLE, Int.reduceEq, Int.reduceNe, Int.reduceAdd, Int.reduceSub, and_self, reduceCtorEq, decide_eq_true_eq, decide_eq_false_iff_not, eq_self, implies_true, exists_const, Option.isNone_some, Option.isNone_none, Option.isSome_some, Option.isSome_none, Option.getD_some]
  rintro c hc
  simp (disch := omega) only [dm_t, wA, wB, wL, wW, wY, Int.fdiv_eq_ediv_of_nonneg, Int.tdiv_eq_ediv_of_nonneg, Int.tmod_eq_emod_of_nonneg, chk_pos, decT, decF, br_pos, br_neg, wX, ↓reduceIte, Nat.reduceEqDiff, Nat.reduceAdd, Nat.reduceSub, Nat.reduceMul, Nat.reduceLeDiff, Nat.reduceLT, Nat.reduceMod, Nat.reduceDiv, Int.reduceToNat, Nat.min_eq_left, IntKind.bits, Int.reducePow, Int.reduceLT, Int.reduceLE, Int.reduceEq, Int.reduceNe, Int.reduceAdd, Int.reduceSub, and_self, reduceCtorEq, decide_eq_true_eq, decide_eq_false_iff_not, eq_self, implies_true, exists_const, Option.isNone_some, Option.isNone_none, Option.isSome_some, Option.isSome_none, Option.getD_some]
  have hMc := ne_of hM hc
  refine (bturn_ok ((hupd_ne _ _ hMc).trans hM) hL hH0 k1 kn hcnt hbig hrow (hupd_same _ _ _) (hl.ext (Ext.new hc _))).k ?_
  rintro _ h' ⟨ver, rfl, γ, e, A1, A0, A2, A3, A4, A5, A6⟩
  simp (disch := omega) only [dm_t, wA, wB, wL, wW, wY, Int.fdiv_eq_ediv_of_nonneg, Int.tdiv_eq_ediv_of_nonneg, Int.tmod_eq_emod_of_nonneg, chk_pos, decT, decF, br_pos, br_neg, wX, ↓reduceIte, Nat.reduceEqDiff, Nat.reduceAdd, Nat.reduceSub, Nat.reduceMul, Nat.reduceLeDiff, Nat.reduceLT, Nat.reduceMod, Nat.reduceDiv, Int.reduceToNat, Nat.min_eq_left, IntKind.bits, Int.reducePow, Int.reduceLT, Int.reduceLE, Int.reduceEq, Int.reduceNe, Int.reduceAdd, Int.reduceSub, and_self, reduceCtorEq, decide_eq_true_eq, decide_eq_false_iff_not, eq_self, implies_true, exists_const, Option.isNone_some, Option.isNone_none, Option.isSome_some, Option.isSome_none, Option.getD_some]
  refine ⟨ver, rfl, γ, e, A1, A0, A2, A3, A4, A5, ?_⟩
  have fa : Fr (fun y => y = M ∨ y = c) h h' := ((Ext.new hc _).mono fun _ h => h.elim).trans (A6.mono fun y hy => .inl hy)
  refine fa.less ?_
  rintro y (hy | rfl)
  · exact .inl hy
  · exact .inr hc
/-- The list that stands. -/
def valsE (γ : List Value) : List Value := match lastE γ with
  | some e => e.c.toList.take e.len
  | none => []
theorem bbget_ok (hM : h M = some ((nM (bpr n xss post fin)) k L)) (hL : ∃ r, L = e00 :: r) (hbig : sumL xss n ≤ 4611686018427387904) (hrow : ∀ i, i < n → (xss i).length ≤ 1099511627776) :
    Ok (CW (bpr n xss post fin) Try.prog) 14 #[.pointer (some ⟨M, 0, none⟩)] h fun v h' => ∃ γ l, v = .tuple #[l, .int .i64 (verOf γ : Int)] ∧ (bpr n xss post fin).Ext k L γ ∧ (bpr n xss post fin).Hst e00 γ ∧ h' M = some ((nM (bpr n xss post fin)) k γ) ∧ Fr (fun y => y = M) h h' ∧ Own h h' 2 l (valsE γ) := by
  refine c14_ok (args := [_]) (by simp) ?_
  simp (disch := omega) only [dm_t, wA, wB, wL, wW, wY, Int.fdiv_eq_ediv_of_nonneg, Int.tdiv_eq_ediv_of_nonneg, Int.tmod_eq_emod_of_nonneg, chk_pos, decT, decF, br_pos, br_neg, wX, ↓reduceIte, Nat.reduceEqDiff, Nat.reduceAdd, Nat.reduceSub, Nat.reduceMul, Nat.reduceLeDiff, Nat.reduceLT, Nat.reduceMod, Nat.reduceDiv, Int.reduceToNat, Nat.min_eq_left, IntKind.bits, Int.reducePow, Int.reduceLT, Int.reduceLE, Int.reduceEq, Int.reduceNe, Int.reduceAdd, Int.reduceSub, and_self, reduceCtorEq, decide_eq_true_eq, decide_eq_false_iff_not, eq_self, implies_true, exists_const, Option.isNone_some, Option.isNone_none, Option.isSome_some, Option.isSome_none, Option.getD_some]
  refine (bpload_ok hM hL).k ?_
  rintro _ g1 ⟨γ, rfl, x1, H1, M1, f1, s1⟩
  rcases valE_of (γ := γ) with ⟨v1, v2, v3⟩ | ⟨e1, v1, v2, v3⟩
  · rw [v1]
    simp (disch := omega) only [dm_t, wA, wB, wL, wW, wY, Int.fdiv_eq_ediv_of_nonneg, Int.tdiv_eq_ediv_of_nonneg, Int.tmod_eq_emod_of_nonneg, chk_pos, decT, decF, br_pos, br_neg, wX, ↓reduceIte, Nat.reduceEqDiff, Nat.reduceAdd, Nat.reduceSub, Nat.reduceMul, Nat.reduceLeDiff, Nat.reduceLT, Nat.reduceMod, Nat.reduceDiv, Int.reduceToNat, Nat.min_eq_left, IntKind.bits, Int.reducePow, Int.reduceLT, Int.reduceLE, Int.reduceEq, Int.reduceNe, Int.reduceAdd, Int.reduceSub, and_self, reduceCtorEq, decide_eq_true_eq, decide_eq_false_iff_not, eq_self, implies_true, exists_const, Option.isNone_some, Option.isNone_none, Option.isSome_some, Option.isSome_none, Option.getD_some]
    exact ⟨γ, _, by rw [v3]; rfl, x1, H1, M1, f1, .inl ⟨rfl, by unfold valsE; rw [v2]⟩⟩
  · obtain ⟨ev, w1, w2⟩ := lastE_mem v1
    have I := (bh_is H1 ev w1 e1 w2).2
    have hrw := bh_row H1 ev w1 e1 w2
    have hrl := hrow (e1.k - 1) (by omega)
    obtain ⟨fr, hp⟩ := s1 _ _ _ I.pg
    have c0 : cellAt g1 ⟨e1.pg, 0, none⟩ = some (.int .i64 (e1.ver : Int)) := by rw [cellAt_of hp]; rfl
    have c1 : cellAt g1 ⟨e1.pg, 1, none⟩ = some e1.l := by rw [cellAt_of hp]; rfl
    obtain ⟨t1, t2, t3⟩ := ent_sl I s1
    rw [v2]
    simp (disch := omega) only [dm_t, wA, wB, wL, wW, wY, Int.fdiv_eq_ediv_of_nonneg, Int.tdiv_eq_ediv_of_nonneg, Int.tmod_eq_emod_of_nonneg, chk_pos, decT, decF, br_pos, br_neg, wX, ↓reduceIte, Nat.reduceEqDiff, Nat.reduceAdd, Nat.reduceSub, Nat.reduceMul, Nat.reduceLeDiff, Nat.reduceLT, Nat.reduceMod, Nat.reduceDiv, Int.reduceToNat, Nat.min_eq_left, IntKind.bits, Int.reducePow, Int.reduceLT, Int.reduceLE, Int.reduceEq, Int.reduceNe, Int.reduceAdd, Int.reduceSub, and_self, reduceCtorEq, decide_eq_true_eq, decide_eq_false_iff_not, eq_self, implies_true, exists_const, Option.isNone_some, Option.isNone_none, Option.isSome_some, Option.isSome_none, Option.getD_some, c0, c1]
    refine (clone2_ok t1 t3 (by rw [t2]; omega)).k ?_
    rintro l g3 ⟨o3, e3⟩
    obtain ⟨la, lc, rfl⟩ := o3.sl.len
    have c0' := cellAt_ext e3 c0
    have c1' := cellAt_ext e3 c1
    simp (disch := omega) only [dm_t, wA, wB, wL, wW, wY, Int.fdiv_eq_ediv_of_nonneg, Int.tdiv_eq_ediv_of_nonneg, Int.tmod_eq_emod_of_nonneg, chk_pos, decT, decF, br_pos, br_neg, wX, ↓reduceIte, Nat.reduceEqDiff, Nat.reduceAdd, Nat.reduceSub, Nat.reduceMul, Nat.reduceLeDiff, Nat.reduceLT, Nat.reduceMod, Nat.reduceDiv, Int.reduceToNat, Nat.min_eq_left, IntKind.bits, Int.reducePow, Int.reduceLT, Int.reduceLE, Int.reduceEq, Int.reduceNe, Int.reduceAdd, Int.reduceSub, and_self, reduceCtorEq, decide_eq_true_eq, decide_eq_false_iff_not, eq_self, implies_true, exists_const, Option.isNone_some, Option.isNone_none, Option.isSome_some, Option.isSome_none, Option.getD_some, c0', c1']
    refine ⟨γ, _, by rw [v3], x1, H1, e3.at M1, f1.trans (e3.mono fun _ h => h.elim), ?_⟩
    have ov : valsE γ = e1.c.toList.take e1.len := by unfold valsE; rw [v1]
    rw [ov]
    rcases o3 with o3 | ⟨b, cp, c, q1, q2, q3, q4, q5, q6⟩
    · exact .inl o3
    · exact .inr ⟨b, cp, c, q1, q2, q3, q4, q5, f1.back q6 fun y hy => by rw [hy, M1]; simp⟩
end
end Go.Proofs.Ytojhnclkhiffkaa.mk

/-
  What a writer of boards does.
-/
namespace Go.Proofs.Ytojhnclkhiffkaa.mk
open Go.Proofs.Ytojhnclkhiffkaa
set_option linter.unusedVariables false
set_option linter.unusedSimpArgs false
theorem Sl.pre {h : H} {a : Option Addr} {n c m : Nat} {xs : List Value} (s : Sl h (.slice a n c) xs) (hm : m ≤ n) : Sl h (.slice a m c) (xs.take m) ∧ n ≤ c := by
  rcases s with ⟨a', s1, rfl⟩ | ⟨b, o, cp, cc, E, fr, s1, s2, s3, s4, s5⟩
  · simp only [Value.slice.injEq] at s1
    obtain ⟨rfl, rfl, rfl⟩ := s1
    obtain rfl : m = 0 := by omega
    exact ⟨.inl ⟨_, rfl, rfl⟩, Nat.le_refl _⟩
  · simp only [Value.slice.injEq] at s1
    obtain ⟨rfl, rfl, rfl⟩ := s1
    have hl : (xs.take m).length = m := by rw [List.length_take]; omega
    exact ⟨.inr ⟨b, o, _, cc, E, fr, by rw [hl], s2, s3, by omega, fun i hi => by rw [List.getElem_take]; exact s5 i (by omega)⟩, s4⟩
/-- A slice of a block of this type. -/
def SlY (E : TypeId) (h : H) (v : Value) (xs : List Value) : Prop :=
  ∃ b cp c, v = .slice (some ⟨b, 0, none⟩) xs.length cp ∧ h b = some (.cells c E) ∧ c.size = cp ∧ xs.length ≤ cp ∧ ∀ i (hi : i < xs.length), c[i]? = some xs[i]
def SlX (E : TypeId) (h : H) (v : Value) (xs : List Value) : Prop := (v = .slice none 0 0 ∧ xs = []) ∨ SlY E h v xs
theorem SlX.of {E : TypeId} {h0 h : H} {v : Value} {xs : List Value} (s : Own h0 h E v xs) : SlX E h v xs := by
  rcases s with s | ⟨b, cp, c, h1, h2, h3, h4, h5, h6⟩
  · exact .inl s
  · exact .inr ⟨b, cp, c, h1, h2, h3, h4, h5⟩
theorem SlX.fr {E : TypeId} {T : Nat → Prop} {h h' : H} {v : Value} {xs : List Value} (s : SlX E h v xs) (f : Fr T h h') (hT : ∀ b c, h b = some (.cells c E) → ¬ T b) : SlX E h' v xs := by
  rcases s with s | ⟨b, cp, c, h1, h2, h3⟩
  · exact .inl s
  · exact .inr ⟨b, cp, c, h1, f _ _ h2 (hT b c h2), h3⟩
theorem SlX.sl {E : TypeId} {h : H} {v : Value} {xs : List Value} (s : SlX E h v xs) : Sl h v xs := by
  rcases s with ⟨rfl, h2⟩ | ⟨b, cp, c, h1, h2, h3, h4, h5⟩
  · exact .inl ⟨_, rfl, h2⟩
  · exact .inr ⟨b, 0, cp, c, E, _, h1, h2, by omega, h4, fun i hi => by rw [Nat.zero_add]; exact h5 i hi⟩
theorem SlX.cell {E : TypeId} {h : H} {v : Value} {xs : List Value} (s : SlX E h v xs) : isCell v = true := by
  rcases s with ⟨rfl, h2⟩ | ⟨b, cp, c, rfl, _⟩ <;> rfl
def rowsV (vers : List Nat) (ls : List Value) : List (List Value) := List.zipWith (fun (v : Nat) (l : Value) => [Value.int .i64 (v : Int), l]) vers ls
theorem rowsV_snoc {vers : List Nat} {ls : List Value} (h : vers.length = ls.length) (v : Nat) (l : Value) : rowsV (vers ++ [v]) (ls ++ [l]) = rowsV vers ls ++ [[.int .i64 (v : Int), l]] := by
  unfold rowsV
  rw [List.zipWith_append h]
  rfl
theorem rowsV_len {vers : List Nat} {ls : List Value} (h : vers.length = ls.length) : (rowsV vers ls).length = vers.length := by
  simp [rowsV, h]
def verV (v : Value) : Nat := match decE v with
  | some e => e.ver
  | none => 0
def ownV (k : Nat) (γ : List Value) : List Nat := (γ.filter fun v => decide (byE v = k)).map verV
theorem ownV_len (k : Nat) (γ : List Value) : (ownV k γ).length = cntB k γ := by
  simp [ownV, cntB, List.countP_eq_length_filter]
theorem ownV_snoc {k : Nat} {γ : List Value} {e : Ent} (h : e.k = k) : ownV k (γ ++ [encE e]) = ownV k γ ++ [e.ver] := by
  unfold ownV
  rw [List.filter_append, List.map_append]
  congr 1
  rw [List.filter_cons_of_pos (by rw [byE_enc]; simpa using h)]
  simp [verV, dec_enc]
section
variable {n : Nat} {xss : Nat → List Int} {post : Value → H → Prop} {fin : Value → H → Prop}
theorem ownV_ext {k : Nat} {L γ : List Value} (h : (bpr n xss post fin).Ext k L γ) : ownV k γ = ownV k L := by
  obtain ⟨r, rfl, hr⟩ := h
  unfold ownV
  have : r.filter (fun v => decide (byE v = k)) = [] := List.filter_eq_nil_iff.2 fun v hv => by
    have h1 : ¬ byE v = k := hr v hv
    simpa using h1
  rw [List.filter_append, this, List.append_nil]
/-- What a writer has done so far. -/
structure WB (h : H) (M A i m k : Nat) (L : List Value) (row : List Int) (j : Nat) (h' : H) (γ : List Value) (vers : List Nat) (ls : List Value) (u : Value) : Prop where
  mm : h' M = some ((nM (bpr n xss post fin)) k γ)
  aa : h' A = some (oneO i u m 67)
  o : OwK 2 (fun b => h b = none) h' 71 u (rowsV vers ls)
  fr : Fr (fun y => y = A ∨ y = M) h h'
  hd : ∃ r, γ = e00 :: r
  hst : (bpr n xss post fin).Hst e00 γ
  own : ownV k γ = vers
  lv : vers.length = j
  ll : ls.length = j
  lst : ∀ t l, ls[t]? = some l → SlX 2 h' l ((row.take (t + 1)).map (.int .i64))
theorem bwr_ok {h : H} {R S Bv A M i m k : Nat} {L : List Value} {wv rdv lk rv : Value} {ws : List Value} {row : List Int} {fR fS fV : Nat × Nat} (hR : h R = some (.cells #[wv, rdv, lk] 56 fR)) (hS : h S = some (.cells #[.slice (some ⟨A, 0, none⟩) m m] 66 fS))
    (hV : h Bv = some (.cells #[.pointer (some ⟨M, 0, none⟩)] 37 fV)) (hA : h A = some (oneO i (.slice none 0 0) m 67)) (hM : h M = some ((nM (bpr n xss post fin)) k L)) (hL : ∃ r, L = e00 :: r) (hH0 : (bpr n xss post fin).Hst e00 L) (k1 : 1 ≤ k) (kn : k ≤ n) (hxr : xss (k - 1) = row) (h0 : ownV k L = []) (hin : i < m) (hW : Sl h wv ws) (hi : i < ws.length) (hrow : Sl h ws[i] (row.map (.int .i64)))
    (hbig : sumL xss n ≤ 1099511627776) (hrows : ∀ i, i < n → (xss i).length ≤ 1099511627776) :
    Ok (CW (bpr n xss post fin) Try.prog) 33 #[.int .i64 (i : Int), .pointer (some ⟨R, 0, none⟩), .pointer (some ⟨Bv, 0, none⟩), .pointer (some ⟨S, 0, none⟩)] h fun v h' => v = .tuple #[] ∧ ∃ γ vers ls u, WB (n := n) (xss := xss) (post := post) (fin := fin) h M A i m k L row row.length h' γ vers ls u := by
  have hrl := hrows (k - 1) (by omega)
  rw [hxr] at hrl
  refine c33_ok (args := [_, _, _, _]) (by simp) ?_
  have c0 : cellAt h ⟨R, 0, none⟩ = some wv := by rw [cellAt_of hR]; rfl
  obtain ⟨p, hp, hpc⟩ := hW.load hi .i64
  obtain ⟨ra, rc, hrv⟩ := hrow.len
  rw [hrv] at hpc hrow
  rw [List.length_map] at hpc hrow
  simp (disch := omega) only [dm_t, wA, wB, wL, wW, wY, Int.fdiv_eq_ediv_of_nonneg, Int.tdiv_eq_ediv_of_nonneg, Int.tmod_eq_emod_of_nonneg, chk_pos, decT, decF, br_pos, br_neg, wX, ↓reduceIte, Nat.reduceEqDiff, Nat.reduceAdd, Nat.reduceSub, Nat.reduceMul, Nat.reduceLeDiff, Nat.reduceLT, Nat.reduceMod, Nat.reduceDiv, Int.reduceToNat, Nat.min_eq_left, IntKind.bits, Int.reducePow, Int.reduceLT, Int.reduceLE, Int.reduceEq, Int.reduceNe, Int.reduceAdd, Int.reduceSub, and_self, reduceCtorEq, decide_eq_true_eq, decide_eq_false_iff_not, eq_self, implies_true, exists_const, Option.isNone_some, Option.isNone_none, Option.isSome_some, Option.isSome_none, Option.getD_some, c0, hp, hpc]
  refine vc_loop1 (fun v h' => ∃ (j : Nat) (γ : List Value) (vers : List Nat) (ls : List Value) (u : Value), v = .int .i64 (j : Int) ∧ j ≤ row.length ∧ WB (n := n) (xss := xss) (post := post) (fin := fin) h M A i m k L row j h' γ vers ls u) (fun v _ => match v with | .int _ m => row.length - m.toNat | _ => 0) ?_ ?_
  · simp (disch := omega) only [dm_t, wA, wB, wL, wW, wY, Int.fdiv_eq_ediv_of_nonneg, Int.tdiv_eq_ediv_of_nonneg, Int.tmod_eq_emod_of_nonneg, chk_pos, decT, decF, br_pos, br_neg, wX, ↓reduceIte, Nat.reduceEqDiff, Nat.reduceAdd, Nat.reduceSub, Nat.reduceMul, Nat.reduceLeDiff, Nat.reduceLT, Nat.reduceMod, Nat.reduceDiv, Int.reduceToNat, Nat.min_eq_left, IntKind.bits, Int.reducePow, Int.reduceLT, Int.reduceLE, Int.reduceEq, Int.reduceNe, Int.reduceAdd, Int.reduceSub, and_self, reduceCtorEq, decide_eq_true_eq, decide_eq_false_iff_not, eq_self, implies_true, exists_const, Option.isNone_some, Option.isNone_none, Option.isSome_some, Option.isSome_none, Option.getD_some]
    exact ⟨0, L, [], [], .slice none 0 0, rfl, by omega, ⟨hM, hA, .nil, Fr.refl _ _, hL, hH0, h0, rfl, rfl, by simp⟩⟩
  rintro _ h1 ⟨j, γ, vers, ls, u, rfl, hj, I⟩
  by_cases hlt : j < row.length
  · have nT : ∀ b c E fr, h b = some (.cells c E fr) → ¬ (b = A ∨ b = M) := by
      rintro b c E fr hb (rfl | rfl)
      · rw [hA] at hb; cases hb
      · rw [hM] at hb; cases hb
    have q1 := I.fr _ _ hR (nT _ _ _ _ hR)
    have q2 := I.fr _ _ hS (nT _ _ _ _ hS)
    have q3 := I.fr _ _ hV (nT _ _ _ _ hV)
    have w1 := slFr2 hW I.fr nT
    have r1 := slFr2 hrow I.fr nT
    obtain ⟨p1, hp1, hpc1⟩ := w1.load (k := i) hi .i64
    rw [hrv, List.length_map] at hpc1
    obtain ⟨r2, r3⟩ := Sl.pre r1 (m := j + 1) (by omega)
    have d0 : cellAt h1 ⟨R, 0, none⟩ = some wv := by rw [cellAt_of q1]; rfl
    have hcut := slcV_pre 1 ra row.length rc (j + 1) (by omega)
    have hcut' : slcV 1 ra row.length rc false ((0 : Nat) : Int) ((j : Int) + 1) (rc : Int) = some (.slice ra (j + 1) rc) := by rw [← hcut]; simp
    simp (disch := omega) only [dm_t, wA, wB, wL, wW, wY, Int.fdiv_eq_ediv_of_nonneg, Int.tdiv_eq_ediv_of_nonneg, Int.tmod_eq_emod_of_nonneg, chk_pos, decT, decF, br_pos, br_neg, wX, ↓reduceIte, Nat.reduceEqDiff, Nat.reduceAdd, Nat.reduceSub, Nat.reduceMul, Nat.reduceLeDiff, Nat.reduceLT, Nat.reduceMod, Nat.reduceDiv, Int.reduceToNat, Nat.min_eq_left, IntKind.bits, Int.reducePow, Int.reduceLT, Int.reduceLE, Int.reduceEq, Int.reduceNe, Int.reduceAdd, Int.reduceSub, and_self, reduceCtorEq, decide_eq_true_eq, decide_eq_false_iff_not, eq_self, implies_true, exists_const, Option.isNone_some, Option.isNone_none, Option.isSome_some, Option.isSome_none, Option.getD_some, d0, hp1, hpc1, hcut']
    have hlp : ((row.map (Value.int .i64)).take (j + 1)).length = j + 1 := by simp; omega
    refine (clone2_ok r2 (by rw [← List.map_take, List.all_map]; exact List.all_eq_true.2 fun _ _ => rfl) (by rw [hlp]; omega)).k ?_
    rintro l g2 ⟨ol, e2⟩
    obtain ⟨la, lc, hlv⟩ := ol.sl.len
    rw [hlp] at hlv
    subst hlv
    have q33 := e2.at q3
    have d1 : cellAt g2 ⟨Bv, 0, none⟩ = some (.pointer (some ⟨M, 0, none⟩)) := by rw [cellAt_of q33]; rfl
    simp (disch := omega) only [dm_t, wA, wB, wL, wW, wY, Int.fdiv_eq_ediv_of_nonneg, Int.tdiv_eq_ediv_of_nonneg, Int.tmod_eq_emod_of_nonneg, chk_pos, decT, decF, br_pos, br_neg, wX, ↓reduceIte, Nat.reduceEqDiff, Nat.reduceAdd, Nat.reduceSub, Nat.reduceMul, Nat.reduceLeDiff, Nat.reduceLT, Nat.reduceMod, Nat.reduceDiv, Int.reduceToNat, Nat.min_eq_left, IntKind.bits, Int.reducePow, Int.reduceLT, Int.reduceLE, Int.reduceEq, Int.reduceNe, Int.reduceAdd, Int.reduceSub, and_self, reduceCtorEq, decide_eq_true_eq, decide_eq_false_iff_not, eq_self, implies_true, exists_const, Option.isNone_some, Option.isNone_none, Option.isSome_some, Option.isSome_none, Option.getD_some, d1]
    have hc : cntB k γ = j := by rw [← ownV_len, I.own, I.lv]
    refine (bpublish_ok (n := n) (xss := xss) (post := post) (fin := fin) (e2.at I.mm) I.hd I.hst k1 kn (by rw [hc, hxr]; exact hlt) (by omega) hrows (by rw [hc, hxr, List.map_take]; exact ol.sl)).k ?_
    rintro _ g3 ⟨ver, rfl, γ2, en, P1, P0, P2, P3, P4, P5, P6⟩
    have SM : S ≠ M := by rintro rfl; rw [hS] at hM; cases hM
    have VM : Bv ≠ M := by rintro rfl; rw [hV] at hM; cases hM
    have AM : A ≠ M := by rintro rfl; rw [hA] at hM; cases hM
    have AS : S ≠ A := by rintro rfl; rw [hS] at hA; cases hA
    have e2M := e2.at I.mm
    have gno : ∀ y, g3 y = none → h y = none := by
      intro y hy
      have y2 : g2 y = none := P6.back hy fun y h => by rw [h, P5]; simp
      have y1 := e2.bk y2
      exact I.fr.back y1 fun z hz => by rcases hz with rfl | rfl; rw [I.aa]; simp; rw [I.mm]; simp
    have hA3 : g3 A = some (oneO i u m 67) := P6 _ _ (e2.at I.aa) AM
    have q23 := P6 _ _ (e2.at q2) SM
    have s0 : cellAt g3 ⟨S, 0, none⟩ = some (.slice (some ⟨A, 0, none⟩) m m) := by rw [cellAt_of q23]; rfl
    have dA : idxV1 1 (.slice (some ⟨A, 0, none⟩) m m) (.int .i64 (i : Int)) = some (.pointer (some ⟨A, i, none⟩)) := by rw [idx_s, chk_pos (by omega)]; simp
    have s3 : cellAt g3 ⟨A, i, none⟩ = some u := by rw [cellAt_look, hA3, cellO_1]
    have nMc : ∀ {E' : TypeId} b c, g2 b = some (.cells c E') → ¬ b = M := fun b c hb h => by rw [h, e2M] at hb; cases hb
    have ow : OwK 2 (fun b => h b = none) g3 71 u (rowsV vers ls) := by
      refine (I.o.ext e2).fr P6 fun x hx h0 _ => ?_
      subst hx; rw [hM] at h0; cases h0
    have lsn : ∀ t l, ls[t]? = some l → SlX 2 g3 l ((row.take (t + 1)).map (.int .i64)) := fun t l hl => ((I.lst t l hl).fr e2 fun _ _ _ h => h).fr P6 fun b c hb => nMc b c hb
    have olx : SlX 2 g3 (.slice la (j + 1) lc) ((row.take (j + 1)).map (.int .i64)) := by
      have := (SlX.of ol).fr P6 fun b c hb => nMc b c hb
      rwa [← List.map_take] at this
    simp (disch := omega) only [dm_t, wA, wB, wL, wW, wY, Int.fdiv_eq_ediv_of_nonneg, Int.tdiv_eq_ediv_of_nonneg, Int.tmod_eq_emod_of_nonneg, chk_pos, decT, decF, br_pos, br_neg, wX, ↓reduceIte, Nat.reduceEqDiff, Nat.reduceAdd, Nat.reduceSub, Nat.reduceMul, Nat.reduceLeDiff, Nat.reduceLT, Nat.reduceMod, Nat.reduceDiv, Int.reduceToNat, Nat.min_eq_left, IntKind.bits, Int.reducePow, Int.reduceLT, Int.reduceLE, Int.reduceEq, Int.reduceNe, Int.reduceAdd, Int.reduceSub, and_self, reduceCtorEq, decide_eq_true_eq, decide_eq_false_iff_not, eq_self, implies_true, exists_const, Option.isNone_some, Option.isNone_none, Option.isSome_some, Option.isSome_none, Option.getD_some, s0, dA, s3]
    intro bl hbl
    have hbl0 : g3 bl = none := hbl
    have e := Ext.new (h := g3) hbl (.cells #[.int .i64 (ver : Int), .slice la (j + 1) lc] 71)
    have t0 := cellAt_ext e s0
    have t3 := cellAt_ext e s3
    simp (disch := omega) only [dm_t, wA, wB, wL, wW, wY, Int.fdiv_eq_ediv_of_nonneg, Int.tdiv_eq_ediv_of_nonneg, Int.tmod_eq_emod_of_nonneg, chk_pos, decT, decF, br_pos, br_neg, wX, ↓reduceIte, Nat.reduceEqDiff, Nat.reduceAdd, Nat.reduceSub, Nat.reduceMul, Nat.reduceLeDiff, Nat.reduceLT, Nat.reduceMod, Nat.reduceDiv, Int.reduceToNat, Nat.min_eq_left, IntKind.bits, Int.reducePow, Int.reduceLT, Int.reduceLE, Int.reduceEq, Int.reduceNe, Int.reduceAdd, Int.reduceSub, and_self, reduceCtorEq, decide_eq_true_eq, decide_eq_false_iff_not, eq_self, implies_true, exists_const, Option.isNone_some, Option.isNone_none, Option.isSome_some, Option.isSome_none, Option.getD_some, t0, dA, t3]
    have hrl0 : (rowsV vers ls).length = j := by rw [rowsV_len (by rw [I.lv, I.ll]), I.lv]
    refine pushk (V := fun _ => _) (bytes := 32) (row := [.int .i64 (ver : Int), .slice la (j + 1) lc]) ow gno rfl rfl rfl ?_ ?_ ?_ bl hbl
    · rw [hrl0]; omega
    · rw [hrl0]; omega
    · intro _ u4 g4 _ ow4 f4 _
      have old : ∀ y o, h y = some o → g3 y ≠ none → g4 y = g3 y := fun y o hy hgy => by
        cases hb : g3 y with
        | none => exact absurd hb hgy
        | some o' => exact f4 _ _ hb fun hx => by have h0 : h y = none := hx.1; rw [hy] at h0; cases h0
      have tyn : ∀ {b : Nat} {c : Array Value}, g3 b = some (.cells c 2) → ¬ (h b = none ∧ isAt u b) := fun hb hx => ow.tyno hb (by decide) hx.2
      have gA : g4 A = some (oneO i u m 67) := by rw [old A _ hA (by rw [hA3]; simp), hA3]
      have gS : g4 S = g3 S := old S _ hS (by rw [q23]; simp)
      have v0 : cellAt g4 ⟨S, 0, none⟩ = some (.slice (some ⟨A, 0, none⟩) m m) := by rw [cellAt_look, gS, ← cellAt_look]; exact s0
      have v3 : cellAt g4 ⟨A, i, none⟩ = some u := by rw [cellAt_look, gA, cellO_1]
      have hu4 : isCell u4 = true := by obtain ⟨x, y, rfl⟩ := ow4.s0.len; rfl
      simp (disch := omega) only [dm_t, wA, wB, wL, wW, wY, Int.fdiv_eq_ediv_of_nonneg, Int.tdiv_eq_ediv_of_nonneg, Int.tmod_eq_emod_of_nonneg, chk_pos, decT, decF, br_pos, br_neg, wX, ↓reduceIte, Nat.reduceEqDiff, Nat.reduceAdd, Nat.reduceSub, Nat.reduceMul, Nat.reduceLeDiff, Nat.reduceLT, Nat.reduceMod, Nat.reduceDiv, Int.reduceToNat, Nat.min_eq_left, IntKind.bits, Int.reducePow, Int.reduceLT, Int.reduceLE, Int.reduceEq, Int.reduceNe, Int.reduceAdd, Int.reduceSub, and_self, reduceCtorEq, decide_eq_true_eq, decide_eq_false_iff_not, eq_self, implies_true, exists_const, Option.isNone_some, Option.isNone_none, Option.isSome_some, Option.isSome_none, Option.getD_some, v0, dA, v3]
      rw [storeH_look, gA, stO_1]
      refine ⟨rfl, hin, hu4, ?_⟩
      generalize hg5 : hupd g4 A (oneO i u4 m 67) = g5
      have g5A : g5 A = some (oneO i u4 m 67) := by rw [← hg5, hupd_same]
      have g5n : ∀ y, y ≠ A → g5 y = g4 y := fun y hy => by rw [← hg5, hupd_ne _ _ hy]
      have f45 : Fr (fun y => y = A) g4 g5 := hg5 ▸ Fr.upd (S := fun y => y = A) rfl _
      have w0 : cellAt g5 ⟨S, 0, none⟩ = some (.slice (some ⟨A, 0, none⟩) m m) := by rw [cellAt_look, g5n _ AS, ← cellAt_look]; exact v0
      simp (disch := omega) only [dm_t, wA, wB, wL, wW, wY, Int.fdiv_eq_ediv_of_nonneg, Int.tdiv_eq_ediv_of_nonneg, Int.tmod_eq_emod_of_nonneg, chk_pos, decT, decF, br_pos, br_neg, wX, ↓reduceIte, Nat.reduceEqDiff, Nat.reduceAdd, Nat.reduceSub, Nat.reduceMul, Nat.reduceLeDiff, Nat.reduceLT, Nat.reduceMod, Nat.reduceDiv, Int.reduceToNat, Nat.min_eq_left, IntKind.bits, Int.reducePow, Int.reduceLT, Int.reduceLE, Int.reduceEq, Int.reduceNe, Int.reduceAdd, Int.reduceSub, and_self, reduceCtorEq, decide_eq_true_eq, decide_eq_false_iff_not, eq_self, implies_true, exists_const, Option.isNone_some, Option.isNone_none, Option.isSome_some, Option.isSome_none, Option.getD_some, w0, dA]
      have nAc : ∀ {E' : TypeId} b c, g4 b = some (.cells c E') → ¬ b = A := fun b c hb h => by rw [h, gA] at hb; cases hb
      have wi : WB (n := n) (xss := xss) (post := post) (fin := fin) h M A i m k L row (j + 1) g5 (γ2 ++ [encE en]) (vers ++ [ver]) (ls ++ [.slice la (j + 1) lc]) u4 := by
        refine ⟨?_, g5A, ?_, ?_, ?_, P3, ?_, by rw [List.length_append, I.lv]; rfl, by rw [List.length_append, I.ll]; rfl, ?_⟩
        · rw [g5n _ (Ne.symm AM), old M _ hM (by rw [P5]; simp), P5]
        · rw [rowsV_snoc (by rw [I.lv, I.ll])]
          exact ow4.fr f45 fun x hx h0 _ => by subst hx; rw [hA] at h0; cases h0
        · intro y o hy hT
          have hyA : y ≠ A := fun e => hT (.inl e)
          have hyM : y ≠ M := fun e => hT (.inr e)
          have h3 : g3 y = some o := P6 _ _ (e2.at (I.fr _ _ hy hT)) hyM
          rw [g5n _ hyA, old y o hy (by rw [h3]; simp), h3]
        · obtain ⟨r, hr⟩ := bext_head I.hd P2
          exact ⟨r ++ [encE en], by rw [hr]; rfl⟩
        · rw [ownV_snoc P0, ownV_ext P2, I.own, P1]
        · intro t l hl
          have tr : ∀ {v xs}, SlX 2 g3 v xs → SlX 2 g5 v xs := fun s => (s.fr f4 fun b c hb => tyn hb).fr f45 fun b c hb => nAc b c hb
          rcases Nat.lt_or_ge t ls.length with ht | ht
          · rw [List.getElem?_append_left ht] at hl
            exact tr (lsn t l hl)
          · rw [List.getElem?_append_right ht] at hl
            obtain rfl : t = j := by
              have := (List.getElem?_eq_some_iff.1 hl).1
              simp at this
              have := I.ll
              omega
            rw [I.ll, Nat.sub_self] at hl
            simp at hl
            subst hl
            exact tr olx
      exact ⟨⟨j + 1, _, _, _, u4, by simp, by omega, wi⟩, by omega⟩
  · simp (disch := omega) only [dm_t, wA, wB, wL, wW, wY, Int.fdiv_eq_ediv_of_nonneg, Int.tdiv_eq_ediv_of_nonneg, Int.tmod_eq_emod_of_nonneg, chk_pos, decT, decF, br_pos, br_neg, wX, ↓reduceIte, Nat.reduceEqDiff, Nat.reduceAdd, Nat.reduceSub, Nat.reduceMul, Nat.reduceLeDiff, Nat.reduceLT, Nat.reduceMod, Nat.reduceDiv, Int.reduceToNat, Nat.min_eq_left, IntKind.bits, Int.reducePow, Int.reduceLT, Int.reduceLE, Int.reduceEq, Int.reduceNe, Int.reduceAdd, Int.reduceSub, and_self, reduceCtorEq, decide_eq_true_eq, decide_eq_false_iff_not, eq_self, implies_true, exists_const, Option.isNone_some, Option.isNone_none, Option.isSome_some, Option.isSome_none, Option.getD_some]
    obtain rfl : j = row.length := by omega
    exact ⟨γ, vers, ls, u, I⟩
end
end Go.Proofs.Ytojhnclkhiffkaa.mk

/-
  What a reader of boards does.
-/
namespace Go.Proofs.Ytojhnclkhiffkaa.mk
open Go.Proofs.Ytojhnclkhiffkaa
set_option linter.unusedVariables false
set_option linter.unusedSimpArgs false
/-- What is told of a version: nothing, or what was published. -/
def Said (γ : List Value) (ver : Nat) (xs : List Value) : Prop := (ver = 0 ∧ xs = []) ∨ ∃ v ∈ γ, ∃ e, decE v = some e ∧ e.ver = ver ∧ xs = e.c.toList.take e.len
theorem Said.grow {γ γ' : List Value} {ver : Nat} {xs : List Value} (s : Said γ ver xs) (h : ∃ r, γ' = γ ++ r) : Said γ' ver xs := by
  obtain ⟨r, rfl⟩ := h
  rcases s with s | ⟨v, h1, h2⟩
  · exact .inl s
  · exact .inr ⟨v, List.mem_append_left _ h1, h2⟩
theorem said_last (γ : List Value) : Said γ (verOf γ) (valsE γ) := by
  unfold verOf valsE
  cases h : lastE γ with
  | none => exact .inl ⟨rfl, rfl⟩
  | some e =>
    obtain ⟨v, h1, h2⟩ := lastE_mem h
    exact .inr ⟨v, h1, e, h2, rfl, rfl⟩
def ints (l : List Nat) : List Int := List.map (fun x : Nat => (x : Int)) l
section
variable {n : Nat} {xss : Nat → List Int} {post : Value → H → Prop} {fin : Value → H → Prop}
theorem ver_mono {k : Nat} {γ γ' : List Value} (h : (bpr n xss post fin).Ext k γ γ') (h1 : (bpr n xss post fin).Hst e00 γ) (h2 : (bpr n xss post fin).Hst e00 γ') : verOf γ ≤ verOf γ' := by
  have a := bh_len h1
  have b := bh_len h2
  obtain ⟨r, rfl, _⟩ := h
  rw [List.length_append] at b
  omega
/-- What a reader has done so far. -/
structure RB (h : H) (M A i m k : Nat) (L : List Value) (j : Nat) (h' : H) (γ : List Value) (vers : List Nat) (ls : List Value) (u : Value) : Prop where
  mm : h' M = some ((nM (bpr n xss post fin)) k γ)
  aa : h' A = some (oneO i u m 67)
  o : OwK 2 (fun b => h b = none) h' 71 u (rowsV vers ls)
  fr : Fr (fun y => y = A ∨ y = M) h h'
  hd : ∃ r, γ = e00 :: r
  hst : (bpr n xss post fin).Hst e00 γ
  lv : vers.length = j
  ll : ls.length = j
  lst : ∀ (t : Nat) (l : Value) (ver : Nat), ls[t]? = some l → vers[t]? = some ver → ∃ xs, SlX 2 h' l xs ∧ Said γ ver xs
  ch : chain 0 (ints vers)
  la : lastOf 0 (ints vers) ≤ (verOf γ : Int)
theorem brd_ok {h : H} {R S Bv A M i m k looks : Nat} {L : List Value} {wv rdv : Value} {fR fS fV : Nat × Nat} (hR : h R = some (.cells #[wv, rdv, .int .i64 (looks : Int)] 56 fR)) (hS : h S = some (.cells #[.slice (some ⟨A, 0, none⟩) m m] 66 fS))
    (hV : h Bv = some (.cells #[.pointer (some ⟨M, 0, none⟩)] 37 fV)) (hA : h A = some (oneO i (.slice none 0 0) m 67)) (hM : h M = some ((nM (bpr n xss post fin)) k L)) (hL : ∃ r, L = e00 :: r) (hH0 : (bpr n xss post fin).Hst e00 L) (hin : i < m) (hlk : looks ≤ 1000000)
    (hbig : sumL xss n ≤ 1099511627776) (hrows : ∀ i, i < n → (xss i).length ≤ 1099511627776) :
    Ok (CW (bpr n xss post fin) Try.prog) 34 #[.int .i64 (i : Int), .pointer (some ⟨R, 0, none⟩), .pointer (some ⟨Bv, 0, none⟩), .pointer (some ⟨S, 0, none⟩)] h fun v h' => v = .tuple #[] ∧ ∃ γ vers ls u, RB (n := n) (xss := xss) (post := post) (fin := fin) h M A i m k L looks h' γ vers ls u := by
  refine c34_ok (args := [_, _, _, _]) (by simp) ?_
  have c0 : cellAt h ⟨R, 2, none⟩ = some (.int .i64 (looks : Int)) := by rw [cellAt_of hR]; rfl
  simp (disch := omega) only [dm_t, wA, wB, wL, wW, wY, Int.fdiv_eq_ediv_of_nonneg, Int.tdiv_eq_ediv_of_nonneg, Int.tmod_eq_emod_of_nonneg, chk_pos, decT, decF, br_pos, br_neg, wX, ↓reduceIte, Nat.reduceEqDiff, Nat.reduceAdd, Nat.reduceSub, Nat.reduceMul, Nat.reduceLeDiff, Nat.reduceLT, Nat.reduceMod, Nat.reduceDiv, Int.reduceToNat, Nat.min_eq_left, IntKind.bits, Int.reducePow, Int.reduceLT, Int.reduceLE, Int.reduceEq, Int.reduceNe, Int.reduceAdd, Int.reduceSub, and_self, reduceCtorEq, decide_eq_true_eq, decide_eq_false_iff_not, eq_self, implies_true, exists_const, Option.isNone_some, Option.isNone_none, Option.isSome_some, Option.isSome_none, Option.getD_some, c0]
  refine vc_loop1 (fun v h' => ∃ (j : Nat) (γ : List Value) (vers : List Nat) (ls : List Value) (u : Value), v = .int .i64 (j : Int) ∧ j ≤ looks ∧ RB (n := n) (xss := xss) (post := post) (fin := fin) h M A i m k L j h' γ vers ls u) (fun v _ => match v with | .int _ m => looks - m.toNat | _ => 0) ?_ ?_
  · simp (disch := omega) only [dm_t, wA, wB, wL, wW, wY, Int.fdiv_eq_ediv_of_nonneg, Int.tdiv_eq_ediv_of_nonneg, Int.tmod_eq_emod_of_nonneg, chk_pos, decT, decF, br_pos, br_neg, wX, ↓reduceIte, Nat.reduceEqDiff, Nat.reduceAdd, Nat.reduceSub, Nat.reduceMul, Nat.reduceLeDiff, Nat.reduceLT, Nat.reduceMod, Nat.reduceDiv, Int.reduceToNat, Nat.min_eq_left, IntKind.bits, Int.reducePow, Int.reduceLT, Int.reduceLE, Int.reduceEq, Int.reduceNe, Int.reduceAdd, Int.reduceSub, and_self, reduceCtorEq, decide_eq_true_eq, decide_eq_false_iff_not, eq_self, implies_true, exists_const, Option.isNone_some, Option.isNone_none, Option.isSome_some, Option.isSome_none, Option.getD_some]
    exact ⟨0, L, [], [], .slice none 0 0, rfl, by omega, ⟨hM, hA, .nil, Fr.refl _ _, hL, hH0, rfl, rfl, by simp, trivial, by show (0 : Int) ≤ _; omega⟩⟩
  rintro _ h1 ⟨j, γ, vers, ls, u, rfl, hj, I⟩
  by_cases hlt : j < looks
  · have nT : ∀ b c E fr, h b = some (.cells c E fr) → ¬ (b = A ∨ b = M) := by
      rintro b c E fr hb (rfl | rfl)
      · rw [hA] at hb; cases hb
      · rw [hM] at hb; cases hb
    have q2 := I.fr _ _ hS (nT _ _ _ _ hS)
    have q3 := I.fr _ _ hV (nT _ _ _ _ hV)
    have d1 : cellAt h1 ⟨Bv, 0, none⟩ = some (.pointer (some ⟨M, 0, none⟩)) := by rw [cellAt_of q3]; rfl
    simp (disch := omega) only [dm_t, wA, wB, wL, wW, wY, Int.fdiv_eq_ediv_of_nonneg, Int.tdiv_eq_ediv_of_nonneg, Int.tmod_eq_emod_of_nonneg, chk_pos, decT, decF, br_pos, br_neg, wX, ↓reduceIte, Nat.reduceEqDiff, Nat.reduceAdd, Nat.reduceSub, Nat.reduceMul, Nat.reduceLeDiff, Nat.reduceLT, Nat.reduceMod, Nat.reduceDiv, Int.reduceToNat, Nat.min_eq_left, IntKind.bits, Int.reducePow, Int.reduceLT, Int.reduceLE, Int.reduceEq, Int.reduceNe, Int.reduceAdd, Int.reduceSub, and_self, reduceCtorEq, decide_eq_true_eq, decide_eq_false_iff_not, eq_self, implies_true, exists_const, Option.isNone_some, Option.isNone_none, Option.isSome_some, Option.isSome_none, Option.getD_some, d1]
    refine (bbget_ok (n := n) (xss := xss) (post := post) (fin := fin) I.mm I.hd (by omega) hrows).k ?_
    rintro _ g3 ⟨γ2, l, rfl, P2, P3, P5, P6, ol⟩
    have SM : S ≠ M := by rintro rfl; rw [hS] at hM; cases hM
    have VM : Bv ≠ M := by rintro rfl; rw [hV] at hM; cases hM
    have AM : A ≠ M := by rintro rfl; rw [hA] at hM; cases hM
    have AS : S ≠ A := by rintro rfl; rw [hS] at hA; cases hA
    have gno : ∀ y, g3 y = none → h y = none := by
      intro y hy
      have y1 : h1 y = none := P6.back hy fun y h => by rw [h, P5]; simp
      exact I.fr.back y1 fun z hz => by rcases hz with rfl | rfl; rw [I.aa]; simp; rw [I.mm]; simp
    have hA3 : g3 A = some (oneO i u m 67) := P6 _ _ I.aa AM
    have q23 := P6 _ _ q2 SM
    have s0 : cellAt g3 ⟨S, 0, none⟩ = some (.slice (some ⟨A, 0, none⟩) m m) := by rw [cellAt_of q23]; rfl
    have dA : idxV1 1 (.slice (some ⟨A, 0, none⟩) m m) (.int .i64 (i : Int)) = some (.pointer (some ⟨A, i, none⟩)) := by rw [idx_s, chk_pos (by omega)]; simp
    have s3 : cellAt g3 ⟨A, i, none⟩ = some u := by rw [cellAt_look, hA3, cellO_1]
    have nMc : ∀ {E' : TypeId} b c, h1 b = some (.cells c E') → ¬ b = M := fun b c hb h => by rw [h, I.mm] at hb; cases hb
    have ow : OwK 2 (fun b => h b = none) g3 71 u (rowsV vers ls) := by
      refine I.o.fr P6 fun x hx h0 _ => ?_
      subst hx; rw [hM] at h0; cases h0
    have gr : ∃ r, γ2 = γ ++ r := let ⟨r, h, _⟩ := P2; ⟨r, h⟩
    have lsn : ∀ t l ver, ls[t]? = some l → vers[t]? = some ver → ∃ xs, SlX 2 g3 l xs ∧ Said γ2 ver xs := fun t l ver hl hv => by
      obtain ⟨xs, k1, k2⟩ := I.lst t l ver hl hv
      exact ⟨xs, k1.fr P6 fun b c hb => nMc b c hb, k2.grow gr⟩
    have olx := SlX.of ol
    have hcl := olx.cell
    obtain ⟨la, lc, rfl⟩ := ol.sl.len
    generalize hvl : (valsE γ2).length = vl at ol olx hcl
    simp (disch := omega) only [dm_t, wA, wB, wL, wW, wY, Int.fdiv_eq_ediv_of_nonneg, Int.tdiv_eq_ediv_of_nonneg, Int.tmod_eq_emod_of_nonneg, chk_pos, decT, decF, br_pos, br_neg, wX, ↓reduceIte, Nat.reduceEqDiff, Nat.reduceAdd, Nat.reduceSub, Nat.reduceMul, Nat.reduceLeDiff, Nat.reduceLT, Nat.reduceMod, Nat.reduceDiv, Int.reduceToNat, Nat.min_eq_left, IntKind.bits, Int.reducePow, Int.reduceLT, Int.reduceLE, Int.reduceEq, Int.reduceNe, Int.reduceAdd, Int.reduceSub, and_self, reduceCtorEq, decide_eq_true_eq, decide_eq_false_iff_not, eq_self, implies_true, exists_const, Option.isNone_some, Option.isNone_none, Option.isSome_some, Option.isSome_none, Option.getD_some, s0, dA, s3]
    intro bl hbl
    have hbl0 : g3 bl = none := hbl
    have e := Ext.new (h := g3) hbl (.cells #[.int .i64 (verOf γ2 : Int), .slice la vl lc] 71)
    have t0 := cellAt_ext e s0
    have t3 := cellAt_ext e s3
    simp (disch := omega) only [dm_t, wA, wB, wL, wW, wY, Int.fdiv_eq_ediv_of_nonneg, Int.tdiv_eq_ediv_of_nonneg, Int.tmod_eq_emod_of_nonneg, chk_pos, decT, decF, br_pos, br_neg, wX, ↓reduceIte, Nat.reduceEqDiff, Nat.reduceAdd, Nat.reduceSub, Nat.reduceMul, Nat.reduceLeDiff, Nat.reduceLT, Nat.reduceMod, Nat.reduceDiv, Int.reduceToNat, Nat.min_eq_left, IntKind.bits, Int.reducePow, Int.reduceLT, Int.reduceLE, Int.reduceEq, Int.reduceNe, Int.reduceAdd, Int.reduceSub, and_self, reduceCtorEq, decide_eq_true_eq, decide_eq_false_iff_not, eq_self, implies_true, exists_const, Option.isNone_some, Option.isNone_none, Option.isSome_some, Option.isSome_none, Option.getD_some, t0, dA, t3]
    have hrl0 : (rowsV vers ls).length = j := by rw [rowsV_len (by rw [I.lv, I.ll]), I.lv]
    refine pushk (V := fun _ => _) (bytes := 32) (row := [.int .i64 (verOf γ2 : Int), .slice la vl lc]) ow gno rfl rfl rfl ?_ ?_ ?_ bl hbl
    · rw [hrl0]; omega
    · rw [hrl0]; omega
    · intro _ u4 g4 _ ow4 f4 _
      have old : ∀ y o, h y = some o → g3 y ≠ none → g4 y = g3 y := fun y o hy hgy => by
        cases hb : g3 y with
        | none => exact absurd hb hgy
        | some o' => exact f4 _ _ hb fun hx => by have h0 : h y = none := hx.1; rw [hy] at h0; cases h0
      have tyn : ∀ {b : Nat} {c : Array Value}, g3 b = some (.cells c 2) → ¬ (h b = none ∧ isAt u b) := fun hb hx => ow.tyno hb (by decide) hx.2
      have gA : g4 A = some (oneO i u m 67) := by rw [old A _ hA (by rw [hA3]; simp), hA3]
      have gS : g4 S = g3 S := old S _ hS (by rw [q23]; simp)
      have v0 : cellAt g4 ⟨S, 0, none⟩ = some (.slice (some ⟨A, 0, none⟩) m m) := by rw [cellAt_look, gS, ← cellAt_look]; exact s0
      have v3 : cellAt g4 ⟨A, i, none⟩ = some u := by rw [cellAt_look, gA, cellO_1]
      have hu4 : isCell u4 = true := by obtain ⟨x, y, rfl⟩ := ow4.s0.len; rfl
      simp (disch := omega) only [dm_t, wA, wB, wL, wW, wY, Int.fdiv_eq_ediv_of_nonneg, Int.tdiv_eq_ediv_of_nonneg, Int.tmod_eq_emod_of_nonneg, chk_pos, decT, decF, br_pos, br_neg, wX, ↓reduceIte, Nat.reduceEqDiff, Nat.reduceAdd, Nat.reduceSub, Nat.reduceMul, Nat.reduceLeDiff, Nat.reduceLT, Nat.reduceMod, Nat.reduceDiv, Int.reduceToNat, Nat.min_eq_left, IntKind.bits, Int.reducePow, Int.reduceLT, Int.reduceLE, Int.reduceEq, Int.reduceNe, Int.reduceAdd, Int.reduceSub, and_self, reduceCtorEq, decide_eq_true_eq, decide_eq_false_iff_not, eq_self, implies_true, exists_const, Option.isNone_some, Option.isNone_none, Option.isSome_some, Option.isSome_none, Option.getD_some, v0, dA, v3]
      rw [storeH_look, gA, stO_1]
      refine ⟨rfl, hin, hu4, ?_⟩
      generalize hg5 : hupd g4 A (oneO i u4 m 67) = g5
      have g5A : g5 A = some (oneO i u4 m 67) := by rw [← hg5, hupd_same]
      have g5n : ∀ y, y ≠ A → g5 y = g4 y := fun y hy => by rw [← hg5, hupd_ne _ _ hy]
      have f45 : Fr (fun y => y = A) g4 g5 := hg5 ▸ Fr.upd (S := fun y => y = A) rfl _
      have w0 : cellAt g5 ⟨S, 0, none⟩ = some (.slice (some ⟨A, 0, none⟩) m m) := by rw [cellAt_look, g5n _ AS, ← cellAt_look]; exact v0
      simp (disch := omega) only [dm_t, wA, wB, wL, wW, wY, Int.fdiv_eq_ediv_of_nonneg, Int.tdiv_eq_ediv_of_nonneg, Int.tmod_eq_emod_of_nonneg, chk_pos, decT, decF, br_pos, br_neg, wX, ↓reduceIte, Nat.reduceEqDiff, Nat.reduceAdd, Nat.reduceSub, Nat.reduceMul, Nat.reduceLeDiff, Nat.reduceLT, Nat.reduceMod, Nat.reduceDiv, Int.reduceToNat, Nat.min_eq_left, IntKind.bits, Int.reducePow, Int.reduceLT, Int.reduceLE, Int.reduceEq, Int.reduceNe, Int.reduceAdd, Int.reduceSub, and_self, reduceCtorEq, decide_eq_true_eq, decide_eq_false_iff_not, eq_self, implies_true, exists_const, Option.isNone_some, Option.isNone_none, Option.isSome_some, Option.isSome_none, Option.getD_some, w0, dA]
      have nAc : ∀ {E' : TypeId} b c, g4 b = some (.cells c E') → ¬ b = A := fun b c hb h => by rw [h, gA] at hb; cases hb
      have wi : RB (n := n) (xss := xss) (post := post) (fin := fin) h M A i m k L (j + 1) g5 γ2 (vers ++ [verOf γ2]) (ls ++ [.slice la vl lc]) u4 := by
        have hmono := ver_mono P2 I.hst P3
        have hint : ints (vers ++ [verOf γ2]) = ints vers ++ [((verOf γ2 : Nat) : Int)] := by simp [ints]
        refine ⟨?_, g5A, ?_, ?_, bext_head I.hd P2, P3, by rw [List.length_append, I.lv]; rfl, by rw [List.length_append, I.ll]; rfl, ?_, ?_, ?_⟩
        · rw [g5n _ (Ne.symm AM), old M _ hM (by rw [P5]; simp), P5]
        · rw [rowsV_snoc (by rw [I.lv, I.ll])]
          exact ow4.fr f45 fun x hx h0 _ => by subst hx; rw [hA] at h0; cases h0
        · intro y o hy hT
          have hyA : y ≠ A := fun e => hT (.inl e)
          have hyM : y ≠ M := fun e => hT (.inr e)
          have h3 : g3 y = some o := P6 _ _ (I.fr _ _ hy hT) hyM
          rw [g5n _ hyA, old y o hy (by rw [h3]; simp), h3]
        · intro t l ver hl hv
          have tr : ∀ {v xs}, SlX 2 g3 v xs → SlX 2 g5 v xs := fun s => (s.fr f4 fun b c hb => tyn hb).fr f45 fun b c hb => nAc b c hb
          rcases Nat.lt_or_ge t j with ht | ht
          · rw [List.getElem?_append_left (by rw [I.ll]; exact ht)] at hl
            rw [List.getElem?_append_left (by rw [I.lv]; exact ht)] at hv
            obtain ⟨xs, k1, k2⟩ := lsn t l ver hl hv
            exact ⟨xs, tr k1, k2⟩
          · rw [List.getElem?_append_right (by rw [I.ll]; exact ht)] at hl
            rw [List.getElem?_append_right (by rw [I.lv]; exact ht)] at hv
            obtain rfl : t = j := by
              have := (List.getElem?_eq_some_iff.1 hl).1
              simp at this
              have := I.ll
              omega
            rw [I.ll, Nat.sub_self] at hl
            rw [I.lv, Nat.sub_self] at hv
            simp at hl hv
            subst hl hv
            exact ⟨_, tr olx, said_last γ2⟩
        · rw [hint]
          exact chain_snoc _ _ _ I.ch (by have := I.la; omega)
        · rw [hint, lastOf_snoc]
          exact Int.le_refl _
      exact ⟨⟨j + 1, _, _, _, u4, by simp, by omega, wi⟩, by omega⟩
  · simp (disch := omega) only [dm_t, wA, wB, wL, wW, wY, Int.fdiv_eq_ediv_of_nonneg, Int.tdiv_eq_ediv_of_nonneg, Int.tmod_eq_emod_of_nonneg, chk_pos, decT, decF, br_pos, br_neg, wX, ↓reduceIte, Nat.reduceEqDiff, Nat.reduceAdd, Nat.reduceSub, Nat.reduceMul, Nat.reduceLeDiff, Nat.reduceLT, Nat.reduceMod, Nat.reduceDiv, Int.reduceToNat, Nat.min_eq_left, IntKind.bits, Int.reducePow, Int.reduceLT, Int.reduceLE, Int.reduceEq, Int.reduceNe, Int.reduceAdd, Int.reduceSub, and_self, reduceCtorEq, decide_eq_true_eq, decide_eq_false_iff_not, eq_self, implies_true, exists_const, Option.isNone_some, Option.isNone_none, Option.isSome_some, Option.isSome_none, Option.getD_some]
    obtain rfl : j = looks := by omega
    exact ⟨γ, vers, ls, u, I⟩
end
end Go.Proofs.Ytojhnclkhiffkaa.mk

/-
  right, whatever a run is; what a run of marks leaves.
-/
namespace Go.Proofs.Ytojhnclkhiffkaa.mk
open Go.Proofs.Ytojhnclkhiffkaa
set_option linter.unusedVariables false
set_option linter.unusedSimpArgs false
/-- May a run not be? -/
def Bad (n : Nat) (r k : Int) : Prop := r < 0 ∨ k < 0 ∨ 64 < n ∨ 64 - (n : Int) < r ∨ 65536 < k ∨ 65536 < r * k
instance (n : Nat) (r k : Int) : Decidable (Bad n r k) := inferInstanceAs (Decidable (_ ∨ _))
section
variable {PX : Cx Try.prog}
theorem right_no {h : H} {a : Option Addr} {n c : Nat} {r k : Int} (hn : n ≤ 17592186044416) (hb : Bad n r k) : Ok PX 29 #[.agg #[.slice a n c, .int .i64 r, .int .i64 k]] h fun v h' => v = .bool false ∧ Ext h h' := by
  refine c29_ok (args := [_]) (by simp) ?_
  simp (disch := omega) only [dm_t, wS, simprocAttr, IntKind.bits]
  intro b hb'
  generalize hG : hupd h b _ = g1
  obtain ⟨e1, q1⟩ := new_ext hG hb'
  clear hG
  have c0 : cellAt g1 ⟨b, 0, none⟩ = some (.slice a n c) := by rw [cellAt_of q1]; rfl
  have c1 : cellAt g1 ⟨b, 1, none⟩ = some (.int .i64 r) := by rw [cellAt_of q1]; rfl
  have c2 : cellAt g1 ⟨b, 2, none⟩ = some (.int .i64 k) := by rw [cellAt_of q1]; rfl
  by_cases h1 : r < 0
  · simp (disch := omega) only [dm_t, wS, simprocAttr, IntKind.bits, c0, c1, c2]
    exact e1
  by_cases h2 : k < 0
  · simp (disch := omega) only [dm_t, wS, simprocAttr, IntKind.bits, c0, c1, c2]
    exact e1
  by_cases h3 : 64 < n
  · simp (disch := omega) only [dm_t, wS, simprocAttr, IntKind.bits, c0, c1, c2]
    exact e1
  by_cases h4 : 64 - (n : Int) < r
  · simp (disch := omega) only [dm_t, wS, simprocAttr, IntKind.bits, c0, c1, c2]
    exact e1
  by_cases h5 : 65536 < k
  · simp (disch := omega) only [dm_t, wS, simprocAttr, IntKind.bits, c0, c1, c2]
    exact e1
  have h6 : 65536 < r * k := by unfold Bad at hb; omega
  have h7 : r * k ≤ 64 * 65536 := Int.mul_le_mul (by omega) (by omega) (by omega) (by omega)
  simp (disch := omega) only [dm_t, wS, simprocAttr, IntKind.bits, c0, c1, c2]
  exact e1
theorem right_yes {h : H} {a : Option Addr} {n c : Nat} {r k : Int} (hb : ¬ Bad n r k) : Ok PX 29 #[.agg #[.slice a n c, .int .i64 r, .int .i64 k]] h fun v h' => v = .bool true ∧ Ext h h' := by
  refine c29_ok (args := [_]) (by simp) ?_
  simp (disch := omega) only [dm_t, wS, simprocAttr, IntKind.bits]
  intro b hb'
  generalize hG : hupd h b _ = g1
  obtain ⟨e1, q1⟩ := new_ext hG hb'
  clear hG
  have c0 : cellAt g1 ⟨b, 0, none⟩ = some (.slice a n c) := by rw [cellAt_of q1]; rfl
  have c1 : cellAt g1 ⟨b, 1, none⟩ = some (.int .i64 r) := by rw [cellAt_of q1]; rfl
  have c2 : cellAt g1 ⟨b, 2, none⟩ = some (.int .i64 k) := by rw [cellAt_of q1]; rfl
  unfold Bad at hb
  have h1 : ¬ r < 0 := by omega
  have h2 : ¬ k < 0 := by omega
  have h3 : ¬ 64 < n := by omega
  have h4 : ¬ 64 - (n : Int) < r := by omega
  have h5 : ¬ 65536 < k := by omega
  have h6 : ¬ 65536 < r * k := by omega
  have h7 : 0 ≤ r * k := Int.mul_nonneg (by omega) (by omega)
  simp (disch := omega) only [dm_t, wS, simprocAttr, IntKind.bits, c0, c1, c2]
  exact e1
end
/-- A slice of a block of this type. -/
def SlT (E : TypeId) (h : H) (v : Value) (xs : List Value) : Prop :=
  (∃ a, v = .slice a 0 0 ∧ xs = []) ∨
  ∃ b o cp c fr, v = .slice (some ⟨b, o, none⟩) xs.length cp ∧ h b = some (.cells c E fr) ∧ o + cp ≤ c.size ∧ xs.length ≤ cp ∧ ∀ i (hi : i < xs.length), c[o + i]? = some xs[i]
theorem SlT.sl {E : TypeId} {h : H} {v : Value} {xs : List Value} (s : SlT E h v xs) : Sl h v xs := by
  rcases s with s | ⟨b, o, cp, c, fr, s⟩
  · exact .inl s
  · exact .inr ⟨b, o, cp, c, E, fr, s⟩
theorem SlT.fr {E : TypeId} {T : Nat → Prop} {h h' : H} {v : Value} {xs : List Value} (s : SlT E h v xs) (f : Fr T h h') (hT : ∀ b, T b → ∃ c E' fr, h b = some (.cells c E' fr) ∧ E' ≠ E) : SlT E h' v xs := by
  rcases s with s | ⟨b, o, cp, c, fr, s1, s2, s3⟩
  · exact .inl s
  · refine .inr ⟨b, o, cp, c, fr, s1, f _ _ s2 fun hb => ?_, s3⟩
    obtain ⟨c', E', fr', h1, h2⟩ := hT b hb
    rw [s2] at h1
    injection h1 with h1
    injection h1 with _ h1 _
    exact h2 h1.symm
section
variable {fin : Value → H → Prop}
/-- What a run of marks leaves: the history; what the writers and the readers answered. -/
structure RunEnd (fin : Value → H → Prop) (A B Wg M n m looks : Nat) (x0 : Int) (xss : Nat → List Int) (γ us vs : List Value) (bs : Nat → List Bool) (ss : Nat → List Int) (h' : H) : Prop where
  wg : h' Wg = some (nG (mpr kpost fin) 9 0 [])
  mm : h' M = some (markO (lastV γ))
  a : h' A = some (.cells us.toArray 64)
  la : us.length = n
  b : h' B = some (.cells vs.toArray 22)
  lb : vs.length = m
  hst : (mpr kpost fin).Hst (ent x0 0) γ
  beg : ∃ r, γ = ent x0 0 :: r ∧ ∀ v ∈ r, entB v ≠ 0
  byl : ∀ v ∈ γ, entB v ≤ n + m
  w : ∀ i, i < n → ∃ u, us[i]? = some u ∧ SlT 4 h' u ((bs i).map .bool) ∧ (bs i).length = (xss i).length ∧ own (i + 1) γ = yes (xss i) (bs i) ∧ ∀ x ∈ xss i, x ≤ lastV γ
  r : ∀ j, j < m → ∃ u, vs[j]? = some u ∧ SlT 2 h' u ((ss j).map (.int .i64)) ∧ (ss j).length = looks ∧ own (n + j + 1) γ = [] ∧ (∀ x ∈ ss j, x ∈ γ.map entV) ∧ chain x0 (ss j)
theorem RunEnd.fr {A B Wg M n m looks : Nat} {x0 : Int} {xss : Nat → List Int} {γ us vs : List Value} {bs : Nat → List Bool} {ss : Nat → List Int} {h h' : H} {T : Nat → Prop} (X : RunEnd fin A B Wg M n m looks x0 xss γ us vs bs ss h) (f : Fr T h h')
    (hT : ∀ b, T b → ∃ c E' fr, h b = some (.cells c E' fr) ∧ E' ≠ 4 ∧ E' ≠ 2 ∧ E' ≠ 64 ∧ E' ≠ 22 ∧ E' ≠ 34) : RunEnd fin A B Wg M n m looks x0 xss γ us vs bs ss h' := by
  have ncell : ∀ {b c E fr}, h b = some (.cells c E fr) → (E = 64 ∨ E = 22 ∨ E = 34) → ¬ T b := by
    intro b c E fr hb hE ht
    obtain ⟨c', E', fr', h1, _, _, h2⟩ := hT b ht
    rw [hb] at h1
    injection h1 with h1
    injection h1 with _ h1 _
    subst h1
    rcases hE with h | h | h
    · exact h2.1 h
    · exact h2.2.1 h
    · exact h2.2.2 h
  refine ⟨f _ _ X.wg fun ht => ?_, f _ _ X.mm (ncell X.mm (.inr (.inr rfl))), f _ _ X.a (ncell X.a (.inl rfl)), X.la, f _ _ X.b (ncell X.b (.inr (.inl rfl))), X.lb, X.hst, X.beg, X.byl, fun i hi => ?_, fun j hj => ?_⟩
  · obtain ⟨c', E', fr', h1, _⟩ := hT _ ht
    rw [X.wg] at h1
    cases h1
  · obtain ⟨u, h1, h2, h3⟩ := X.w i hi
    exact ⟨u, h1, h2.fr f fun b hb => let ⟨c, E', fr, k1, k2, k3⟩ := hT b hb; ⟨c, E', fr, k1, k2⟩, h3⟩
  · obtain ⟨u, h1, h2, h3⟩ := X.r j hj
    exact ⟨u, h1, h2.fr f fun b hb => let ⟨c, E', fr, k1, k2, k3, k4⟩ := hT b hb; ⟨c, E', fr, k1, k3⟩, h3⟩
theorem skol {α : Type} [Inhabited α] {n : Nat} {p : Nat → α → Prop} (h : ∀ i, i < n → ∃ x, p i x) : ∃ f : Nat → α, ∀ i, i < n → p i (f i) := by
  have : ∀ i, ∃ x, i < n → p i x := fun i => by
    by_cases hi : i < n
    · obtain ⟨x, hx⟩ := h i hi
      exact ⟨x, fun _ => hx⟩
    · exact ⟨default, fun h => absurd h hi⟩
  obtain ⟨f, hf⟩ := Classical.axiomOfChoice this
  exact ⟨f, hf⟩
end
end Go.Proofs.Ytojhnclkhiffkaa.mk
namespace Go.Proofs.Ytojhnclkhiffkaa.mk
open Go.Proofs.Ytojhnclkhiffkaa
set_option linter.unusedVariables false
set_option linter.unusedSimpArgs false
theorem allP_upd {h : H} {b : Nat} {o : Obj} (hp : allP h) (ho : plainO o) : allP (hupd h b o) := by
  intro x y hx
  unfold hupd at hx
  split at hx
  · cases hx; exact ho
  · exact hp x y hx
theorem ne_ty {h : H} {b b' : Nat} {c c' : Array Value} {E E' : TypeId} {fr fr' : Nat × Nat} (h1 : h b = some (.cells c E fr)) (h2 : h b' = some (.cells c' E' fr')) (hE : E ≠ E') : b ≠ b' := by
  rintro rfl
  rw [h1] at h2
  injection h2 with h2
  injection h2 with _ h2 _
  exact hE h2
theorem pl_cells (c : Array Value) (E : TypeId) (fr : Nat × Nat) : plainO (.cells c E fr) := ⟨rfl, rfl⟩
section
variable {fin : Value → H → Prop}
def roL (L : List Nat) (h : H) : H := fun b => if b ∈ L then (match h b with | some (.cells c E _) => some (.cells c E (roO c)) | o => o) else h b
theorem gh_roL {pr : Pro} {h' : H} : ∀ (L : List Nat) (h : H), L.Nodup → (∀ b ∈ L, ∃ c E, h b = some (.cells c E)) → Gh pr (roL L h) h' → Gh pr h h'
  | [], h, _, _, x => by
    have : roL [] h = h := by funext b; simp [roL]
    rwa [this] at x
  | b :: L, h, hn, hc, x => by
    obtain ⟨c, E, hb⟩ := hc b (by simp)
    rw [List.nodup_cons] at hn
    refine Gh.ro b c E hb (gh_roL L _ hn.2 (fun y hy => ?_) ?_)
    · have : y ≠ b := by rintro rfl; exact hn.1 hy
      rw [hupd_ne _ _ this]
      exact hc y (by simp [hy])
    · have : roL L (hupd h b (.cells c E (roO c))) = roL (b :: L) h := by
        funext y
        unfold roL hupd
        by_cases e : y = b
        · subst e
          simp [hn.1, hb]
        · simp [e]
      rwa [this]
theorem kid_ro {pr : Pro} {h3 : H} {A B Wg M ib X n z1 z2 z3 z4 i k : Nat} {EA EB E' E : TypeId} {LA LB c : Array Value} {fr : Nat × Nat} {z e0 d : Value} {ds : List Value} (hA : h3 A = some (noteO EA z1 0 z2 LA)) (hB : h3 B = some (noteO EB z3 0 z4 LB)) (hM : h3 M = some (nM pr 0 [e0])) (hW : h3 Wg = some (nG pr 0 0 ds))
    (hib : h3 ib = none) (hx : h3 X = some (.cells c E fr)) (hr : isRo c fr) : kidH pr h3 A B Wg M ib E' n z e0 i k d X = some (.cells c E fr) := by
  unfold kidH
  rw [if_neg (by rintro rfl; rw [hW] at hx; cases hx), if_neg (by rintro rfl; rw [hib] at hx; cases hx), if_neg (by rintro rfl; rw [hA] at hx; cases hx), if_neg (by rintro rfl; rw [hB] at hx; cases hx), if_neg (by rintro rfl; rw [hM] at hx; cases hx), hx, roX_ro hr]
theorem kid_wg {pr : Pro} {h3 : H} {A B Wg M ib n i k : Nat} {E' : TypeId} {z e0 d : Value} : kidH pr h3 A B Wg M ib E' n z e0 i k d Wg = some (nW pr d) := by
  unfold kidH; rw [if_pos rfl]
theorem kid_ib {pr : Pro} {h3 : H} {A B Wg M ib n i k : Nat} {E' : TypeId} {z e0 d : Value} (h1 : ib ≠ Wg) : kidH pr h3 A B Wg M ib E' n z e0 i k d ib = some (.cells #[.int .i64 (i : Int)] 3) := by
  unfold kidH; rw [if_neg h1, if_pos rfl]
theorem kid_a {pr : Pro} {h3 : H} {A B Wg M ib n i k : Nat} {E' : TypeId} {z e0 d : Value} (h1 : A ≠ Wg) (h2 : A ≠ ib) : kidH pr h3 A B Wg M ib E' n z e0 i k d A = some (oneO i z n E') := by
  unfold kidH; rw [if_neg h1, if_neg h2, if_pos rfl]
theorem kid_m {pr : Pro} {h3 : H} {A B Wg M ib n i k : Nat} {E' : TypeId} {z e0 d : Value} (h1 : M ≠ Wg) (h2 : M ≠ ib) (h3' : M ≠ A) (h4 : M ≠ B) : kidH pr h3 A B Wg M ib E' n z e0 i k d M = some (nM pr k [e0]) := by
  unfold kidH; rw [if_neg h1, if_neg h2, if_neg h3', if_neg h4, if_pos rfl]
theorem ne_ro {h : H} {b b' : Nat} {c c' : Array Value} {E E' : TypeId} (h1 : h b = some (.cells c E (roF c))) (h2 : h b' = some (.cells c' E')) : b ≠ b' := by
  rintro rfl
  rw [h1] at h2
  injection h2 with h2
  injection h2 with _ _ h2
  exact absurd (congrArg Prod.snd h2) (by simp [roF])
theorem zc_size (n : Nat) : (Builtin.zeroCells #[Value.slice none 0 0] n).size = n := by simp [Builtin.zeroCells]
theorem zc_at {n i : Nat} (h : i < n) : (Builtin.zeroCells #[Value.slice none 0 0] n)[i]? = some (.slice none 0 0) := by
  simp [Builtin.zeroCells, h, Nat.mod_one]
theorem gh_make {pr : Pro} {h : H} {Wg M A B : Nat} {L : List Nat} {e0 : Value} {cA cB : Array Value} {EA EB : TypeId} (hnd : (Wg :: M :: A :: B :: L).Nodup) (hp : allP h) (hW : h Wg = some (.cells #[.int .u64 0, .int .u32 0] pr.tg)) (hM : h M = some (.cells #[pr.val [e0]] pr.E)) (hpub : ∀ b, pr.pub [e0] b = none) (hby : pr.by_ e0 = 0)
    (hA : h A = some (.cells cA EA)) (hB : h B = some (.cells cB EB)) (hL : ∀ b ∈ L, ∃ c E, h b = some (.cells c E)) :
    ∃ h3, Gh pr h h3 ∧ h3 Wg = some (nG pr 0 0 []) ∧ h3 M = some (nM pr 0 [e0]) ∧ h3 A = some (noteO EA cA.size 0 0 cA) ∧ h3 B = some (noteO EB cB.size 0 0 cB) ∧ (∀ b c E, b ∈ L → h b = some (.cells c E) → h3 b = some (.cells c E (roO c))) ∧
      ∀ b, b ∉ Wg :: M :: A :: B :: L → h3 b = h b := by
  simp only [List.nodup_cons, List.mem_cons, not_or] at hnd
  obtain ⟨⟨w1, w2, w3, w4⟩, ⟨m1, m2, m3⟩, ⟨a1, a2⟩, b1, hnL⟩ := hnd
  generalize hh1 : hupd (hupd h M (nM pr 0 [e0])) Wg (nG pr 0 0 []) = h1
  have x1 : ∀ y, y ≠ M → y ≠ Wg → h1 y = h y := fun y y1 y2 => by rw [← hh1, hupd_ne _ _ y2, hupd_ne _ _ y1]
  have x1W : h1 Wg = some (nG pr 0 0 []) := by rw [← hh1, hupd_same]
  have x1M : h1 M = some (nM pr 0 [e0]) := by rw [← hh1, hupd_ne _ _ (Ne.symm w1), hupd_same]
  have nL : ∀ {y z}, y ∈ L → z ∉ L → y ≠ z := fun h1 h2 e => h2 (e ▸ h1)
  generalize hh2 : roL L h1 = h2
  have x2 : ∀ y, y ∉ L → h2 y = h1 y := fun y hy => by rw [← hh2]; unfold roL; rw [if_neg hy]
  have x2L : ∀ y c E, y ∈ L → h y = some (.cells c E) → h2 y = some (.cells c E (roO c)) := fun y c E hy hc => by
    rw [← hh2]; unfold roL; rw [if_pos hy, x1 _ (nL hy m3) (nL hy w4), hc]
  refine ⟨hupd (hupd h2 A (noteO EA cA.size 0 0 cA)) B (noteO EB cB.size 0 0 cB), ?_, ?_, ?_, ?_, ?_, ?_, ?_⟩
  · refine Gh.opn M Wg e0 hp hM hW hpub hby (Ne.symm w1) ?_
    rw [hh1]
    refine gh_roL L _ hnL (fun b hb => ?_) ?_
    · rw [x1 _ (nL hb m3) (nL hb w4)]; exact hL b hb
    · rw [hh2]
      have hAA : h2 A = some (.cells cA EA) := by rw [x2 _ a2, x1 _ (Ne.symm m1) (Ne.symm w2), hA]
      have hBB : h2 B = some (.cells cB EB) := by rw [x2 _ b1, x1 _ (Ne.symm m2) (Ne.symm w3), hB]
      have hWW : h2 Wg = some (nG pr 0 0 []) := by rw [x2 _ w4, x1W]
      refine Gh.part A cA EA hAA ⟨Wg, 0, 0, [], by omega, hWW⟩ (Gh.part B cB EB ?_ ⟨Wg, 0, 0, [], by omega, ?_⟩ (Gh.refl _))
      · rw [hupd_ne _ _ (Ne.symm a1)]; exact hBB
      · rw [hupd_ne _ _ w2]; exact hWW
  · rw [hupd_ne _ _ w3, hupd_ne _ _ w2, x2 _ w4, x1W]
  · rw [hupd_ne _ _ m2, hupd_ne _ _ m1, x2 _ m3, x1M]
  · rw [hupd_ne _ _ a1, hupd_same]
  · rw [hupd_same]
  · intro b c E hb hc
    rw [hupd_ne _ _ (nL hb b1), hupd_ne _ _ (nL hb a2)]
    exact x2L b c E hb hc
  · intro b hb
    simp only [List.mem_cons, not_or] at hb
    obtain ⟨h1, h2', h3, h4, h5⟩ := hb
    rw [hupd_ne _ _ h4, hupd_ne _ _ h3, x2 _ h5, x1 _ h2' h1]
end
end Go.Proofs.Ytojhnclkhiffkaa.mk

