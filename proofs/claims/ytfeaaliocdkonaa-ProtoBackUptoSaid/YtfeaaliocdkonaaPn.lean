/-
  proto: what a body holds, read: must, list.
-/
import Derived.Test.YtfeaaliocdkonaaPm
namespace Go.Proofs.Ytfeaaliocdkonaa.pr
open Go.Proofs.Ytfeaaliocdkonaa rr wi
set_option linter.unusedVariables false
set_option linter.unusedSimpArgs false
def boom : PanicEntry := { v := .iface 33 (.int .i64 301), recovered := false }
theorem mU8_ok (h : H) (v : Value) : Ok Try.prog 61 #[v, .int .i64 0] h fun w h' => w = v ∧ h = h' := by
  refine c61_ok (args := [_, _]) (by simp) ?_
  simp (disch := omega) only [dm_t, wS, simprocAttr, IntKind.bits]
theorem mU8_pan {h : H} {v : Value} {e : Int} (he : ¬ e = 0) {K : Value → H → Prop} {X : List PanicEntry → H → Prop} (hX : X [boom] h) : callK Try.prog 61 #[v, .int .i64 e] h K X := by
  refine CallsE.mono (R := fun e h' => e = .panicked [boom] ∧ h' = h) (c61_ce (args := [_, _]) (by simp) ?_) ?_
  · simp (disch := omega) only [dm_t, wS, simprocAttr, IntKind.bits]
    rfl
  · rintro e h' ⟨rfl, rfl⟩
    exact hX
theorem mU16_ok (h : H) (v : Value) : Ok Try.prog 64 #[v, .int .i64 0] h fun w h' => w = v ∧ h = h' := by
  refine c64_ok (args := [_, _]) (by simp) ?_
  simp (disch := omega) only [dm_t, wS, simprocAttr, IntKind.bits]
theorem mU16_pan {h : H} {v : Value} {e : Int} (he : ¬ e = 0) {K : Value → H → Prop} {X : List PanicEntry → H → Prop} (hX : X [boom] h) : callK Try.prog 64 #[v, .int .i64 e] h K X := by
  refine CallsE.mono (R := fun e h' => e = .panicked [boom] ∧ h' = h) (c64_ce (args := [_, _]) (by simp) ?_) ?_
  · simp (disch := omega) only [dm_t, wS, simprocAttr, IntKind.bits]
    rfl
  · rintro e h' ⟨rfl, rfl⟩
    exact hX
theorem mU32_ok (h : H) (v : Value) : Ok Try.prog 63 #[v, .int .i64 0] h fun w h' => w = v ∧ h = h' := by
  refine c63_ok (args := [_, _]) (by simp) ?_
  simp (disch := omega) only [dm_t, wS, simprocAttr, IntKind.bits]
theorem mU32_pan {h : H} {v : Value} {e : Int} (he : ¬ e = 0) {K : Value → H → Prop} {X : List PanicEntry → H → Prop} (hX : X [boom] h) : callK Try.prog 63 #[v, .int .i64 e] h K X := by
  refine CallsE.mono (R := fun e h' => e = .panicked [boom] ∧ h' = h) (c63_ce (args := [_, _]) (by simp) ?_) ?_
  · simp (disch := omega) only [dm_t, wS, simprocAttr, IntKind.bits]
    rfl
  · rintro e h' ⟨rfl, rfl⟩
    exact hX
theorem mI64_ok (h : H) (v : Value) : Ok Try.prog 67 #[v, .int .i64 0] h fun w h' => w = v ∧ h = h' := by
  refine c67_ok (args := [_, _]) (by simp) ?_
  simp (disch := omega) only [dm_t, wS, simprocAttr, IntKind.bits]
theorem mI64_pan {h : H} {v : Value} {e : Int} (he : ¬ e = 0) {K : Value → H → Prop} {X : List PanicEntry → H → Prop} (hX : X [boom] h) : callK Try.prog 67 #[v, .int .i64 e] h K X := by
  refine CallsE.mono (R := fun e h' => e = .panicked [boom] ∧ h' = h) (c67_ce (args := [_, _]) (by simp) ?_) ?_
  · simp (disch := omega) only [dm_t, wS, simprocAttr, IntKind.bits]
    rfl
  · rintro e h' ⟨rfl, rfl⟩
    exact hX
theorem mStr_ok (h : H) (v : Value) : Ok Try.prog 83 #[v, .int .i64 0] h fun w h' => w = v ∧ h = h' := by
  refine c83_ok (args := [_, _]) (by simp) ?_
  simp (disch := omega) only [dm_t, wS, simprocAttr, IntKind.bits]
theorem mStr_pan {h : H} {v : Value} {e : Int} (he : ¬ e = 0) {K : Value → H → Prop} {X : List PanicEntry → H → Prop} (hX : X [boom] h) : callK Try.prog 83 #[v, .int .i64 e] h K X := by
  refine CallsE.mono (R := fun e h' => e = .panicked [boom] ∧ h' = h) (c83_ce (args := [_, _]) (by simp) ?_) ?_
  · simp (disch := omega) only [dm_t, wS, simprocAttr, IntKind.bits]
    rfl
  · rintro e h' ⟨rfl, rfl⟩
    exact hX
theorem rdStr_err {l : List UInt8} {k : Nat} {m e : Int} (h : rdStr l k m = .error e) : ¬ e = 0 := by
  unfold rdStr at h
  repeat' split at h
  all_goals first | (simp only [Except.error.injEq] at h; omega) | (cases h)
theorem sgn_bd {n : Nat} (h : n < 18446744073709551616) : -9223372036854775808 ≤ sgn64 n ∧ sgn64 n ≤ 9223372036854775807 := by
  unfold sgn64; split <;> omega
theorem num8 (b : List UInt8) : num (b.take 8) < 18446744073709551616 := by
  refine Nat.lt_of_lt_of_le (num_lt _) (Nat.pow_le_pow_right (by decide) (?_ : _ ≤ 8)); rw [List.length_take]; omega
/-! ### Records, read -/
def rdRec (l : List UInt8) (k : Nat) : Option (rc.D × Nat) :=
  if l.length < k + 8 then none else
  match rdStr l (k + 8) 256 with
  | .error _ => none
  | .ok (key, k1) => match rdStr l k1 4096 with
    | .error _ => none
    | .ok (v, k2) => some ((sgn64 (num ((l.drop k).take 8)), key, v), k2)
def rdRecs (l : List UInt8) : Nat → Nat → Option (List rc.D × Nat)
  | 0, k => some ([], k)
  | n + 1, k => match rdRec l k with
    | none => none
    | some (r, k') => (rdRecs l n k').map fun p => (r :: p.1, p.2)
def rdRecL (l : List UInt8) (k : Nat) : Option (List rc.D × Nat) :=
  if l.length < k + 4 then none else if 1024 < num ((l.drop k).take 4) then none else rdRecs l (num ((l.drop k).take 4)) (k + 4)
def ListR (h : H) (b : Nat) (s : Value) (l : List UInt8) (k : Nat) (e : Ending) (h' : H) : Prop :=
  (∃ v recs k', e = .returned v ∧ rdRecL l k = some (recs, k') ∧ RepL (fun y => h y ≠ none) rc h' v recs ∧ Rd h' b s l k' ∧ Fr (fun y => y = b) h h') ∨ (e = .panicked [boom] ∧ rdRecL l k = none ∧ Fr (fun y => y = b) h h')
theorem list_k {h : H} {b : Nat} {s : Value} {l : List UInt8} {k : Nat} (r0 : Rd h b s l k) {K : Value → H → Prop} {X : List PanicEntry → H → Prop}
    (hK : ∀ v h' recs k', rdRecL l k = some (recs, k') → RepL (fun y => h y ≠ none) rc h' v recs → Rd h' b s l k' → Fr (fun y => y = b) h h' → K v h') (hX : ∀ h', rdRecL l k = none → Fr (fun y => y = b) h h' → X [boom] h') :
    callK Try.prog 66 #[.agg #[.pointer (some ⟨b, 0, none⟩)]] h K X := by
  refine CallsE.mono (R := ListR h b s l k) (c66_ce (args := [_]) (by simp) ?_) ?_
  case refine_2 =>
    rintro e h' (⟨v, recs, k', rfl, h1, h2, h3, h4⟩ | ⟨rfl, h1, h2⟩)
    · exact hK v h' recs k' h1 h2 h3 h4
    · exact hX h' h1 h2
  have hbig := r0.big
  simp (disch := omega) only [dm_t, wS, simprocAttr, IntKind.bits]
  intro qb hqb
  generalize hG : hupd h qb _ = G
  obtain ⟨e1, q⟩ := new_ext hG hqb
  clear hG
  have hne : qb ≠ b := fun h => ne_of r0.obj hqb h.symm
  have r := r0.ext e1
  have c0 : cellAt G ⟨qb, 0, none⟩ = some (.pointer (some ⟨b, 0, none⟩)) := by rw [cellAt_of q]; rfl
  simp (disch := omega) only [dm_t, wS, simprocAttr, IntKind.bits, c0]
  by_cases h4 : l.length < k + 4
  · refine (U32_more r (by omega)).k ?_
    rintro _ _ ⟨rfl, rfl⟩
    simp (disch := omega) only [dm_t, wS, simprocAttr, IntKind.bits]
    refine mU32_pan (by decide) ?_
    simp (disch := omega) only [dm_t, wS, simprocAttr, IntKind.bits]
    exact .inr ⟨rfl, by rw [rdRecL, if_pos h4], e1.mono fun _ h => h.elim⟩
  refine (U32_ok r (by omega)).k ?_
  rintro _ g1 ⟨rfl, r1, f1⟩
  simp (disch := omega) only [dm_t, wS, simprocAttr, IntKind.bits]
  refine (mU32_ok _ _).k ?_
  rintro _ _ ⟨rfl, rfl⟩
  have hn4 := num4 (l.drop k)
  have hrd : rdRecL l k = if 1024 < num ((l.drop k).take 4) then none else rdRecs l (num ((l.drop k).take 4)) (k + 4) := by rw [rdRecL, if_neg h4]
  generalize num ((l.drop k).take 4) = N at hn4 hrd ⊢
  have hrb : ∀ (g : H) (k' : Nat), Rd g b s l k' → g b ≠ none := fun g k' r => r.there
  by_cases h5 : 1024 < N
  · simp (disch := omega) only [dm_t, wS, simprocAttr, IntKind.bits]
    exact .inr ⟨rfl, by rw [hrd, if_pos h5], (e1.mono fun _ h => h.elim).trans f1⟩
  rw [if_neg h5] at hrd
  simp (disch := omega) only [dm_t, wS, simprocAttr, IntKind.bits]
  refine vc_loop2 (fun vn vl g => ∃ (j kk : Nat) (acc : List rc.D), vn = .int .u32 (j : Int) ∧ j ≤ N ∧ acc.length + j = N ∧ rdRecs l N (k + 4) = (rdRecs l j kk).map (fun p => (acc ++ p.1, p.2)) ∧ Rd g b s l kk ∧ OwL (fun y => G y ≠ none) rc (fun y => G y = none) g 32 vl acc ∧ Fr (fun y => y = b) G g) (fun vn _ _ => m1 vn) ?_ ?_
  · simp (disch := omega) only [dm_t, wS, simprocAttr, IntKind.bits]
    exact ⟨N, k + 4, [], rfl, by omega, by simp, by simp, r1, OwL.nil, f1⟩
  rintro _ vl g ⟨j, kk, acc, rfl, hj, hacc, hp, rg, og, fg⟩
  have hG0 : ∀ y, g y = none → G y = none := fun y hy => fg.back hy fun z hz => by rw [hz]; exact rg.there
  have toh : ∀ g', Fr (fun y => y = b) G g' → Fr (fun y => y = b) h g' := fun g' f => (e1.mono fun _ h => h.elim).trans f
  by_cases hj0 : j = 0
  · subst hj0
    simp (disch := omega) only [dm_t, wS, simprocAttr, IntKind.bits]
    refine .inl ⟨vl, acc, kk, rfl, ?_, ?_, rg, toh _ fg⟩
    · rw [hrd, hp, rdRecs]; simp
    · refine RepL.mono (OwL.repS og fun y hy hn => hn hy) fun y o _ hy hn => hy (e1.bk hn)
  obtain ⟨i, rfl⟩ : ∃ i, j = i + 1 := ⟨j - 1, by omega⟩
  rw [rdRecs] at hp
  have bad : rdRec l kk = none → rdRecL l k = none := fun hn => by rw [hrd, hp, hn]; rfl
  obtain ⟨va, vc, rfl⟩ := og.len
  have qg := fg _ _ q hne
  have cg : cellAt g ⟨qb, 0, none⟩ = some (.pointer (some ⟨b, 0, none⟩)) := by rw [cellAt_of qg]; rfl
  by_cases h8 : l.length < kk + 8
  · simp (disch := omega) only [dm_t, wS, simprocAttr, IntKind.bits, cg]
    refine (I64_more rg (by omega)).k ?_
    rintro _ _ ⟨rfl, rfl⟩
    simp (disch := omega) only [dm_t, wS, simprocAttr, IntKind.bits, cg]
    refine mI64_pan (by decide) ?_
    simp (disch := omega) only [dm_t, wS, simprocAttr, IntKind.bits]
    exact .inr ⟨rfl, bad (by rw [rdRec, if_pos h8]), toh _ fg⟩
  simp (disch := omega) only [dm_t, wS, simprocAttr, IntKind.bits, cg]
  refine (I64_ok rg (by omega)).k ?_
  rintro _ g2 ⟨rfl, r2, f2⟩
  have fg2 := fg.trans f2
  have hG2 : ∀ y, g2 y = none → g y = none := fun y hy => f2.back hy fun z hz => by rw [hz]; exact r2.there
  have cg : cellAt g2 ⟨qb, 0, none⟩ = some (.pointer (some ⟨b, 0, none⟩)) := by rw [cellAt_of (fg2 _ _ q hne)]; rfl
  simp (disch := omega) only [dm_t, wS, simprocAttr, IntKind.bits, cg]
  refine (mI64_ok _ _).k ?_
  rintro _ _ ⟨rfl, rfl⟩
  simp (disch := omega) only [dm_t, wS, simprocAttr, IntKind.bits, cg]
  refine (String_ok r2 256 (by omega) (by omega)).k ?_
  rintro _ g3 ⟨hm3, f3⟩
  have fg3 := fg2.trans f3
  have hrec : rdRec l kk = match rdStr l (kk + 8) 256 with
    | .error _ => none
    | .ok (key, k1) => match rdStr l k1 4096 with
      | .error _ => none
      | .ok (v, k2) => some ((sgn64 (num ((l.drop kk).take 8)), key, v), k2) := by rw [rdRec, if_neg h8]
  have hb3 := sgn_bd (num8 (l.drop kk))
  generalize sgn64 (num ((l.drop kk).take 8)) = t at hrec hb3 ⊢
  cases hs1 : rdStr l (kk + 8) 256 with
  | error e =>
    rw [hs1] at hm3 hrec
    obtain ⟨rfl, r3⟩ := hm3
    have he := rdStr_err hs1
    have cg : cellAt g3 ⟨qb, 0, none⟩ = some (.pointer (some ⟨b, 0, none⟩)) := by rw [cellAt_of (fg3 _ _ q hne)]; rfl
    simp (disch := omega) only [dm_t, wS, simprocAttr, IntKind.bits, cg]
    refine mStr_pan he ?_
    simp (disch := omega) only [dm_t, wS, simprocAttr, IntKind.bits]
    exact .inr ⟨rfl, bad hrec, toh _ fg3⟩
  | ok p =>
  obtain ⟨key, k1⟩ := p
  rw [hs1] at hm3 hrec
  obtain ⟨w1, rfl, o1, r3⟩ := hm3
  have hG3 : ∀ y, g3 y = none → g2 y = none := fun y hy => f3.back hy fun z hz => by rw [hz]; exact r3.there
  have cg : cellAt g3 ⟨qb, 0, none⟩ = some (.pointer (some ⟨b, 0, none⟩)) := by rw [cellAt_of (fg3 _ _ q hne)]; rfl
  simp (disch := omega) only [dm_t, wS, simprocAttr, IntKind.bits, cg]
  refine (mStr_ok _ _).k ?_
  rintro _ _ ⟨rfl, rfl⟩
  simp (disch := omega) only [dm_t, wS, simprocAttr, IntKind.bits, cg]
  refine (String_ok r3 4096 (by omega) (by omega)).k ?_
  rintro _ g4 ⟨hm4, f4⟩
  have fg4 := fg3.trans f4
  simp only [] at hrec
  cases hs2 : rdStr l k1 4096 with
  | error e =>
    rw [hs2] at hm4 hrec
    obtain ⟨rfl, r4⟩ := hm4
    have he := rdStr_err hs2
    have cg : cellAt g4 ⟨qb, 0, none⟩ = some (.pointer (some ⟨b, 0, none⟩)) := by rw [cellAt_of (fg4 _ _ q hne)]; rfl
    simp (disch := omega) only [dm_t, wS, simprocAttr, IntKind.bits, cg]
    refine mStr_pan he ?_
    simp (disch := omega) only [dm_t, wS, simprocAttr, IntKind.bits]
    exact .inr ⟨rfl, bad hrec, toh _ fg4⟩
  | ok p =>
  obtain ⟨vv, k2⟩ := p
  rw [hs2] at hm4 hrec
  obtain ⟨w2, rfl, o2, r4⟩ := hm4
  have hG4 : ∀ y, g4 y = none → g3 y = none := fun y hy => f4.back hy fun z hz => by rw [hz]; exact r4.there
  have cg : cellAt g4 ⟨qb, 0, none⟩ = some (.pointer (some ⟨b, 0, none⟩)) := by rw [cellAt_of (fg4 _ _ q hne)]; rfl
  have o1' := OwK.fr o1 f4 fun y hy hn => absurd hn (by rw [hy]; exact r2.there)
  have og4 : OwL (fun y => G y ≠ none) rc (fun y => G y = none) g4 32 _ acc := og.fr (f2.trans (f3.trans f4)) (fun y hy => by rw [hy]; exact r.there) fun y hy hn => absurd hn (by rw [hy]; exact r.there)
  obtain ⟨a1, z1, rfl⟩ := By.len o1'.s0
  obtain ⟨a2, z2, rfl⟩ := By.len o2.s0
  simp (disch := omega) only [dm_t, wS, simprocAttr, IntKind.bits, cg]
  refine (mStr_ok _ _).k ?_
  rintro _ _ ⟨rfl, rfl⟩
  simp (disch := omega) only [dm_t, wS, simprocAttr, IntKind.bits, cg]
  intro bl hbl
  have b1 : By (fun y => isAt (.slice va acc.length vc) y ∨ G y ≠ none) g4 (.slice a1 key.length z1) key := OwK.sl o1' fun y hy hh => hh.elim (fun hh => og.there hh (hG2 y hy)) fun hh => hh (hG0 y (hG2 y hy))
  have b2 : By (fun y => isAt (.slice va acc.length vc) y ∨ G y ≠ none) g4 (.slice a2 vv.length z2) vv := OwK.sl o2 fun y hy hh => hh.elim (fun hh => og.there hh (hG2 y (hG3 y hy))) fun hh => hh (hG0 y (hG2 y (hG3 y hy)))
  have eb := Ext.new hbl (.cells #[.int .i64 t, .slice a1 key.length z1, .slice a2 vv.length z2] 32)
  simp (disch := omega) only [dm_t, wS, simprocAttr, IntKind.bits, cellAt_ext eb cg]
  refine OwL.push (V := fun _ => _) (bytes := 56) (z := #[.int .i64 0, .slice none 0 0, .slice none 0 0]) (x := (t, key, vv)) 3 sz_rc og4 (fun y hy => hG0 y (hG2 y (hG3 y (hG4 y hy)))) (rep_rc.2 ⟨_, _, rfl, hb3, b1, b2⟩) (by rfl) (by omega) (by omega) ?_ bl hbl
  intro _ vl' g5 _ o5 f5
  have fg5 : Fr (fun y => y = b) G g5 := fg4.step f5
  have cg : cellAt g5 ⟨qb, 0, none⟩ = some (.pointer (some ⟨b, 0, none⟩)) := by rw [cellAt_of (fg5 _ _ q hne)]; rfl
  have r5 : Rd g5 b s l k2 := Rd.step r r4 fg5 f5 fun hh => r.there hh.1
  simp (disch := omega) only [dm_t, wS, simprocAttr, IntKind.bits, cg]
  refine ⟨⟨i, k2, acc ++ [(t, key, vv)], by simp, by omega, by simp; omega, ?_, r5, o5, fg5⟩, by simp [m1]⟩
  rw [hp, hrec]
  simp only [Option.map_map]
  congr 1
  funext p
  simp [Function.comp]
end Go.Proofs.Ytfeaaliocdkonaa.pr
