/-
  The mark in company: a history that rises; what a worker's calls do to it.
-/
import Derived.Test.YtojhnclkhiffkaaM1
import Derived.Test.YtojhnclkhiffkaaU14
namespace Go.Proofs.Ytojhnclkhiffkaa.mk
open Go.Proofs.Ytojhnclkhiffkaa
set_option linter.unusedVariables false
set_option linter.unusedSimpArgs false

/-! ### Histories -/
/-- An entry: the number, who raised it. -/
def ent (x : Int) (k : Nat) : Value := .tuple #[.int .i64 x, .int .i64 (k : Int)]
def entV : Value → Int
  | .tuple ⟨[.int .i64 x, .int .i64 _]⟩ => x
  | _ => 0
def entB : Value → Nat
  | .tuple ⟨[.int .i64 _, .int .i64 k]⟩ => k.toNat
  | _ => 0
theorem entV_ent (x : Int) (k : Nat) : entV (ent x k) = x := rfl
theorem entB_ent (x : Int) (k : Nat) : entB (ent x k) = k := by show ((k : Int)).toNat = k; simp
def lastV (γ : List Value) : Int := match γ.getLast? with
  | some v => entV v
  | none => 0
theorem lastV_snoc (γ : List Value) (v : Value) : lastV (γ ++ [v]) = entV v := by unfold lastV; simp
def okE (γ : List Value) (v : Value) : Prop := ∃ x k, v = ent x k ∧ lastV γ < x
/-- The protocol of a run of marks; what workers leave, what the starter answers, is said by whoever uses it. -/
def mpr (post : Value → H → Prop) (fin : Value → H → Prop) : Pro := ⟨34, 99, fun γ => .int .i64 (lastV γ), entB, okE, fun _ _ => none, post, fin⟩
section
variable {post : Value → H → Prop} {fin : Value → H → Prop}
theorem hst_ne {e0 : Value} {γ : List Value} (h : (mpr post fin).Hst e0 γ) : γ ≠ [] := by
  cases h <;> simp
/-- A history rises. -/
theorem hst_rise {e0 : Value} {γ : List Value} (h : (mpr post fin).Hst e0 γ) : ∀ L r, γ = L ++ r → L ≠ [] → (r = [] ∨ lastV L < lastV γ) := by
  induction h with
  | one =>
    intro L r e hL
    cases L with
    | nil => exact absurd rfl hL
    | cons x L =>
      left
      have := congrArg List.length e
      simp only [List.length_cons, List.length_append, List.length_nil] at this
      exact List.eq_nil_of_length_eq_zero (by omega)
  | snoc hg hok ih =>
    rename_i γ v
    intro L r e hL
    rcases List.eq_nil_or_concat r with rfl | ⟨r', u, rfl⟩
    · exact .inl rfl
    · right
      rw [List.concat_eq_append, ← List.append_assoc] at e
      obtain ⟨e1, e2⟩ := List.append_inj' e rfl
      obtain ⟨x, k, rfl, hx⟩ := hok
      rw [lastV_snoc, entV_ent]
      rcases ih L r' e1 hL with rfl | h1
      · rw [List.append_nil] at e1; rw [← e1]; exact hx
      · omega
theorem ext_last {k : Nat} {L γ : List Value} (h : (mpr post fin).Ext k L γ) (hH : ∃ e0, (mpr post fin).Hst e0 γ) (hL : L ≠ []) : γ = L ∨ lastV L < lastV γ := by
  obtain ⟨r, rfl, _⟩ := h
  obtain ⟨e0, hH⟩ := hH
  rcases hst_rise hH L r rfl hL with rfl | h
  · left; simp
  · exact .inr h
theorem ext_trans {k : Nat} {L γ γ' : List Value} (h : (mpr post fin).Ext k L γ) (h' : (mpr post fin).Ext k γ γ') : (mpr post fin).Ext k L γ' := by
  obtain ⟨r, rfl, hr⟩ := h
  obtain ⟨r', rfl, hr'⟩ := h'
  exact ⟨r ++ r', by simp, fun v hv => (List.mem_append.1 hv).elim (hr v) (hr' v)⟩
theorem ext_ne {k : Nat} {L γ : List Value} (h : (mpr post fin).Ext k L γ) (hL : L ≠ []) : γ ≠ [] := by
  obtain ⟨r, rfl, hr⟩ := h; simp [hL]

/-! ### A worker's calls -/
variable {h : H} {M k : Nat} {L : List Value}
theorem m_load {K : Value → H → Prop} (hM : h M = some (nM (mpr post fin) k L)) (hK : ∀ γ, (mpr post fin).Ext k L γ → (∃ e0, (mpr post fin).Hst e0 γ) → K (.int .i64 (lastV γ)) (hupd h M (nM (mpr post fin) k γ))) : xcM (CW (mpr post fin) Try.prog) 39 #[.pointer (some ⟨M, 0, none⟩)] h K :=
  sh_load (ik := .i64) Try.func39 (by kernel_rfl) (by kernel_rfl) (by kernel_rfl) (by kernel_rfl) hM (fun γ _ => ⟨_, rfl⟩) (fun _ _ => rfl) hK
theorem m_cas {K : Value → H → Prop} (hM : h M = some (nM (mpr post fin) k L)) {x y : Int} (hxy : x < y) (hit : ∀ γ, (mpr post fin).Ext k L γ → (∃ e0, (mpr post fin).Hst e0 γ) → lastV γ = x → K (.bool true) (hupd h M (nM (mpr post fin) k (γ ++ [ent y k]))))
    (miss : ∀ γ, (mpr post fin).Ext k L γ → (∃ e0, (mpr post fin).Hst e0 γ) → lastV γ ≠ x → K (.bool false) (hupd h M (nM (mpr post fin) k γ))) : xcM (CW (mpr post fin) Try.prog) 40 #[.pointer (some ⟨M, 0, none⟩), .int .i64 x, .int .i64 y] h K :=
  sh_cas (ik := .i64) Try.func40 (by kernel_rfl) (by kernel_rfl) (by kernel_rfl) (by kernel_rfl) hM (fun γ _ => ⟨_, rfl⟩) (fun _ _ => rfl)
    (fun γ hx hH e => by
      have e' : lastV γ = x := by injection e
      refine ⟨ent y k, entB_ent y k, ⟨y, k, rfl, by omega⟩, ?_, hit γ hx hH e'⟩
      show Value.int .i64 (lastV (γ ++ [ent y k])) = _
      rw [lastV_snoc, entV_ent])
    (fun γ hx hH e => miss γ hx hH fun h => e (by show Value.int .i64 (lastV γ) = _; rw [h]))
theorem sload_ok (hM : h M = some (nM (mpr post fin) k L)) : Ok (CW (mpr post fin) Try.prog) 23 #[.pointer (some ⟨M, 0, none⟩)] h fun v h' => ∃ γ, v = .int .i64 (lastV γ) ∧ (mpr post fin).Ext k L γ ∧ (∃ e0, (mpr post fin).Hst e0 γ) ∧ h' = hupd h M (nM (mpr post fin) k γ) := by
  refine c23_ok (args := [_]) (by simp) ?_
  simp (disch := omega) only [dm_t, wS, simprocAttr, IntKind.bits]
  refine m_load hM fun γ hx hH => ?_
  simp (disch := omega) only [dm_t, wS, simprocAttr, IntKind.bits]
  exact ⟨γ, rfl, hx, hH, rfl⟩
theorem scas_ok (hM : h M = some (nM (mpr post fin) k L)) {x y : Int} (hxy : x < y) : Ok (CW (mpr post fin) Try.prog) 24 #[.pointer (some ⟨M, 0, none⟩), .int .i64 x, .int .i64 y] h fun v h' => ∃ γ b, v = .bool b ∧ (mpr post fin).Ext k L γ ∧ (∃ e0, (mpr post fin).Hst e0 γ) ∧
    ((b = true ∧ lastV γ = x ∧ h' = hupd h M (nM (mpr post fin) k (γ ++ [ent y k]))) ∨ (b = false ∧ lastV γ ≠ x ∧ h' = hupd h M (nM (mpr post fin) k γ))) := by
  refine c24_ok (args := [_, _, _]) (by simp) ?_
  simp (disch := omega) only [dm_t, wS, simprocAttr, IntKind.bits]
  refine m_cas hM hxy (fun γ hx hH e => ?_) (fun γ hx hH e => ?_)
  · simp (disch := omega) only [dm_t, wS, simprocAttr, IntKind.bits]
    exact ⟨γ, true, rfl, hx, hH, .inl ⟨rfl, e, rfl⟩⟩
  · simp (disch := omega) only [dm_t, wS, simprocAttr, IntKind.bits]
    exact ⟨γ, false, rfl, hx, hH, .inr ⟨rfl, e, rfl⟩⟩
theorem sget_ok (hM : h M = some (nM (mpr post fin) k L)) : Ok (CW (mpr post fin) Try.prog) 11 #[.pointer (some ⟨M, 0, none⟩)] h fun v h' => ∃ γ, v = .int .i64 (lastV γ) ∧ (mpr post fin).Ext k L γ ∧ (∃ e0, (mpr post fin).Hst e0 γ) ∧ h' = hupd h M (nM (mpr post fin) k γ) := by
  refine c11_ok (args := [_]) (by simp) ?_
  simp (disch := omega) only [dm_t, wS, simprocAttr, IntKind.bits]
  refine (sload_ok hM).k ?_
  rintro _ _ ⟨γ, rfl, hx, hH, rfl⟩
  simp (disch := omega) only [dm_t, wS, simprocAttr, IntKind.bits]
  exact ⟨γ, rfl, hx, hH, rfl⟩
/-- The history that is known. -/
def hisOf (h : H) (M : Nat) : List Value := match h M with
  | some o => match noteOf o with
    | some (_, _, _, _, G) => G.toList
    | none => []
  | none => []
theorem hisOf_upd (h : H) (M k : Nat) (γ : List Value) : hisOf (hupd h M (nM (mpr post fin) k γ)) M = γ := by
  unfold hisOf
  rw [hupd_same]
  rfl
/-- A raise: one entry of its own, or none: the mark is as great already. -/
theorem sraise_ok (hM : h M = some (nM (mpr post fin) k L)) (hL : L ≠ []) (x : Int) : Ok (CW (mpr post fin) Try.prog) 10 #[.pointer (some ⟨M, 0, none⟩), .int .i64 x] h fun v h' => ∃ γ b, v = .bool b ∧ (mpr post fin).Ext k L γ ∧ (∃ e0, (mpr post fin).Hst e0 γ) ∧
    ((b = true ∧ lastV γ < x ∧ h' = hupd h M (nM (mpr post fin) k (γ ++ [ent x k]))) ∨ (b = false ∧ x ≤ lastV γ ∧ h' = hupd h M (nM (mpr post fin) k γ))) := by
  refine c10_ok (args := [_, _]) (by simp) ?_
  simp (disch := omega) only [dm_t, wS, simprocAttr, IntKind.bits]
  refine vc_loop0 (fun h' => ∃ γ, (mpr post fin).Ext k L γ ∧ h' = hupd h M (nM (mpr post fin) k γ)) (fun h' => (x - lastV (hisOf h' M)).toNat) ⟨L, ⟨[], by simp, by simp⟩, by funext y; unfold hupd; split <;> simp_all⟩ ?_
  rintro _ ⟨γ0, hx0, rfl⟩
  simp (disch := omega) only [dm_t, wS, simprocAttr, IntKind.bits]
  refine (sload_ok (hupd_same _ _ _)).k ?_
  rintro _ _ ⟨γ1, rfl, hx1, hH1, rfl⟩
  rw [hupd_hupd]
  by_cases hlt : lastV γ1 < x
  · simp (disch := omega) only [dm_t, wS, simprocAttr, IntKind.bits]
    refine (scas_ok (hupd_same _ _ _) hlt).k ?_
    rintro _ _ ⟨γ2, b, rfl, hx2, hH2, hor⟩
    rw [hupd_hupd, hupd_hupd] at hor
    rcases hor with ⟨rfl, he, rfl⟩ | ⟨rfl, he, rfl⟩
    · simp (disch := omega) only [dm_t, wS, simprocAttr, IntKind.bits]
      exact ⟨γ2, true, rfl, ext_trans (ext_trans hx0 hx1) hx2, hH2, .inl ⟨rfl, by rw [he]; exact hlt, rfl⟩⟩
    · simp (disch := omega) only [dm_t, wS, simprocAttr, IntKind.bits]
      refine ⟨⟨γ2, ext_trans (ext_trans hx0 hx1) hx2, rfl⟩, ?_⟩
      rw [hisOf_upd, hisOf_upd]
      have h0 := ext_ne hx0 hL
      have h1 := ext_last hx1 hH1 h0
      have h2 := ext_last hx2 hH2 (ext_ne hx1 h0)
      have h3 : lastV γ0 ≤ lastV γ1 := by
        rcases h1 with h1 | h1
        · rw [h1]; exact Int.le_refl _
        · omega
      have h4 : lastV γ1 < lastV γ2 := by
        rcases h2 with h2 | h2
        · rw [h2] at he; exact absurd rfl he
        · exact h2
      omega
  · simp (disch := omega) only [dm_t, wS, simprocAttr, IntKind.bits]
    exact ⟨γ1, false, rfl, ext_trans hx0 hx1, hH1, .inr ⟨rfl, by omega, rfl⟩⟩
end
end Go.Proofs.Ytojhnclkhiffkaa.mk
namespace Go.Proofs.Ytojhnclkhiffkaa.mk
open Go.Proofs.Ytojhnclkhiffkaa
set_option linter.unusedVariables false
set_option linter.unusedSimpArgs false
/-- Whose entries these are. -/
def own (k : Nat) (γ : List Value) : List Int := (γ.filter fun v => decide (entB v = k)).map entV
theorem own_app (k : Nat) (γ r : List Value) : own k (γ ++ r) = own k γ ++ own k r := by simp [own]
def yes : List Int → List Bool → List Int
  | x :: xs, b :: bs => if b then x :: yes xs bs else yes xs bs
  | _, _ => []
theorem yes_snoc : ∀ (xs : List Int) (bs : List Bool) (x : Int) (b : Bool), xs.length = bs.length → yes (xs ++ [x]) (bs ++ [b]) = yes xs bs ++ (if b then [x] else [])
  | [], [], x, b, _ => by cases b <;> rfl
  | y :: xs, c :: bs, x, b, h => by
    have ih := yes_snoc xs bs x b (by simpa using h)
    cases c <;> simp [yes, ih]
section
variable {post : Value → H → Prop} {fin : Value → H → Prop}
theorem own_ext {k : Nat} {L γ : List Value} (h : (mpr post fin).Ext k L γ) : own k γ = own k L := by
  obtain ⟨r, rfl, hr⟩ := h
  rw [own_app]
  have : own k r = [] := by
    unfold own
    rw [List.filter_eq_nil_iff.2 (fun v hv => by simpa [mpr] using hr v hv)]
    rfl
  rw [this, List.append_nil]
theorem slFr2 {T : Nat → Prop} {h h' : H} {v : Value} {xs : List Value} (s : Sl h v xs) (f : Fr T h h') (hT : ∀ b c E fr, h b = some (.cells c E fr) → ¬ T b) : Sl h' v xs := by
  rcases s with s | ⟨b, o, cp, c, E, fr, h1, h2, h3⟩
  · exact .inl s
  · exact .inr ⟨b, o, cp, c, E, fr, h1, f _ _ h2 (hT b c E fr h2), h3⟩
/-- What a writer has done so far. -/
structure WI (h : H) (M A i n k : Nat) (L : List Value) (xs : List Int) (h' : H) (γ : List Value) (bs : List Bool) (u : Value) : Prop where
  m : h' M = some (nM (mpr post fin) k γ)
  a : h' A = some (oneO i u n 64)
  o : O1 (fun b => h b = none) h' 4 u (bs.map .bool)
  fr : Fr (fun y => y = A ∨ y = M) h h'
  ne : γ ≠ []
  len : bs.length = xs.length
  own : own k γ = own k L ++ yes xs bs
  le : ∀ x ∈ xs, x ≤ lastV γ
theorem wr_ok {h : H} {R S Mv A M i n k : Nat} {L : List Value} {wv rdv lk sv en rv : Value} {ws : List Value} {xs : List Int} {fR fS fV : Nat × Nat} (hR : h R = some (.cells #[wv, rdv, lk] 56 fR)) (hS : h S = some (.cells #[.slice (some ⟨A, 0, none⟩) n n, sv, en] 59 fS))
    (hV : h Mv = some (.cells #[.pointer (some ⟨M, 0, none⟩)] 24 fV)) (hA : h A = some (oneO i (.slice none 0 0) n 64)) (hM : h M = some (nM (mpr post fin) k L)) (hL : L ≠ []) (hin : i < n) (hW : Sl h wv ws) (hi : i < ws.length) (hrow : Sl h ws[i] (xs.map (.int .i64))) (hlen : xs.length ≤ 17592186044416) :
    Ok (CW (mpr post fin) Try.prog) 31 #[.int .i64 (i : Int), .pointer (some ⟨R, 0, none⟩), .pointer (some ⟨S, 0, none⟩), .pointer (some ⟨Mv, 0, none⟩)] h fun v h' => v = .tuple #[] ∧ ∃ γ bs u, WI (post := post) (fin := fin) h M A i n k L xs h' γ bs u := by
  refine c31_ok (args := [_, _, _, _]) (by simp) ?_
  have c0 : cellAt h ⟨R, 0, none⟩ = some wv := by rw [cellAt_of hR]; rfl
  obtain ⟨p, hp, hpc⟩ := hW.load hi .i64
  obtain ⟨ra, rc, hrv⟩ := hrow.len
  rw [hrv] at hpc hrow
  simp (disch := omega) only [dm_t, wS, simprocAttr, IntKind.bits, c0, hp, hpc]
  refine vc_loop1 (fun v h' => ∃ (j : Nat) (γ : List Value) (bs : List Bool) (u : Value), v = .int .i64 (j : Int) ∧ j ≤ xs.length ∧ WI (post := post) (fin := fin) h M A i n k L (xs.take j) h' γ bs u) (fun v _ => match v with | .int _ m => xs.length - m.toNat | _ => 0) ?_ ?_
  · simp (disch := omega) only [dm_t, wS, simprocAttr, IntKind.bits]
    refine ⟨0, L, [], .slice none 0 0, rfl, by omega, ⟨hM, hA, .nil, Fr.refl _ _, hL, rfl, by simp [yes], by simp⟩⟩
  rintro _ h1 ⟨j, γ, bs, u, rfl, hj, I⟩
  rw [List.length_map]
  by_cases hlt : j < xs.length
  · have nT : ∀ b c E fr, h b = some (.cells c E fr) → ¬ (b = A ∨ b = M) := by
      rintro b c E fr hb (rfl | rfl)
      · rw [hA] at hb; cases hb
      · rw [hM] at hb; cases hb
    have q1 := I.fr _ _ hS (nT _ _ _ _ hS)
    have q2 := I.fr _ _ hV (nT _ _ _ _ hV)
    have r1 := slFr2 hrow I.fr nT
    obtain ⟨p1, hp1, hpc1⟩ := r1.load (k := j) (by simpa using hlt) .i64
    rw [List.length_map] at hp1
    simp only [List.getElem_map] at hpc1
    have d0 : cellAt h1 ⟨S, 0, none⟩ = some (.slice (some ⟨A, 0, none⟩) n n) := by rw [cellAt_of q1]; rfl
    have d1 : cellAt h1 ⟨Mv, 0, none⟩ = some (.pointer (some ⟨M, 0, none⟩)) := by rw [cellAt_of q2]; rfl
    have d2 : idxV1 1 (.slice (some ⟨A, 0, none⟩) n n) (.int .i64 (i : Int)) = some (.pointer (some ⟨A, i, none⟩)) := by rw [idx_s, chk_pos (by omega)]; simp
    have d3 : cellAt h1 ⟨A, i, none⟩ = some u := by rw [cellAt_look, I.a, cellO_1]
    simp (disch := omega) only [dm_t, wS, simprocAttr, IntKind.bits, hp1, hpc1, d0, d1, d2, d3]
    refine (sraise_ok I.m I.ne _).k ?_
    rintro _ g ⟨γ1, b, rfl, hx, hH, hor⟩
    have hlast : lastV γ ≤ lastV γ1 := by
      rcases ext_last hx hH I.ne with h0 | h0
      · rw [h0]; exact Int.le_refl _
      · omega
    obtain ⟨γ2, hg, hne2, hown2, hle2, hx2⟩ : ∃ γ2, g = hupd h1 M (nM (mpr post fin) k γ2) ∧ γ2 ≠ [] ∧ own k γ2 = own k γ ++ (if b then [xs[j]] else []) ∧ lastV γ ≤ lastV γ2 ∧ xs[j] ≤ lastV γ2 := by
      rcases hor with ⟨rfl, h2, h3⟩ | ⟨rfl, h2, h3⟩
      · refine ⟨_, h3, by simp, ?_, ?_, ?_⟩
        · rw [own_app, own_ext hx]; simp [own, entB_ent, entV_ent]
        · rw [lastV_snoc, entV_ent]; omega
        · rw [lastV_snoc, entV_ent]; exact Int.le_refl _
      · exact ⟨_, h3, ext_ne hx I.ne, by rw [own_ext hx]; simp, hlast, h2⟩
    have gM : g M = some (nM (mpr post fin) k γ2) := by rw [hg, hupd_same]
    have gne : ∀ y, y ≠ M → g y = h1 y := fun y hy => by rw [hg, hupd_ne _ _ hy]
    have SM : S ≠ M := by rintro rfl; rw [hS] at hM; cases hM
    have VM : Mv ≠ M := by rintro rfl; rw [hV] at hM; cases hM
    have AM : A ≠ M := by rintro rfl; rw [hA] at hM; cases hM
    have s0 : cellAt g ⟨S, 0, none⟩ = some (.slice (some ⟨A, 0, none⟩) n n) := by rw [cellAt_look, gne _ SM, ← cellAt_look]; exact d0
    have s1 : cellAt g ⟨Mv, 0, none⟩ = some (.pointer (some ⟨M, 0, none⟩)) := by rw [cellAt_look, gne _ VM, ← cellAt_look]; exact d1
    have s3 : cellAt g ⟨A, i, none⟩ = some u := by rw [cellAt_look, gne _ AM, ← cellAt_look]; exact d3
    clear hor
    have nAb : ∀ y, h1 y = none → h y = none := by
      intro y hy
      cases hb : h y with
      | none => rfl
      | some o =>
        exfalso
        by_cases hT : y = A ∨ y = M
        · rcases hT with rfl | rfl
          · rw [I.a] at hy; cases hy
          · rw [I.m] at hy; cases hy
        · rw [I.fr _ _ hb hT] at hy; cases hy
    have gno : ∀ y, g y = none → h y = none := by
      intro y hy
      by_cases e : y = M
      · subst e; rw [gM] at hy; cases hy
      · rw [gne y e] at hy; exact nAb y hy
    have hfg : Fr (fun y => y = M) h1 g := by rw [hg]; exact Fr.upd (S := fun y => y = M) rfl _
    have ow : O1 (fun b => h b = none) g 4 u (bs.map .bool) := by
      refine I.o.fr hfg ?_
      rintro x rfl h0 _
      rw [hM] at h0; cases h0
    simp (disch := omega) only [dm_t, wS, simprocAttr, IntKind.bits, s0, s1, d2, s3]
    intro bl hbl
    have hbl0 : g bl = none := hbl
    have e := Ext.new (h := g) hbl (.cells #[.bool b] 4)
    have t0 := cellAt_ext e s0
    have t1 := cellAt_ext e s1
    have t3 := cellAt_ext e s3
    simp (disch := omega) only [dm_t, wS, simprocAttr, IntKind.bits, t0, t1, d2, t3]
    refine push1 (V := fun _ => _) (bytes := 1) (v := .bool b) ow gno rfl ?_ ?_ ?_ bl hbl
    · rw [List.length_map, I.len, List.length_take]; omega
    · rw [List.length_map, I.len, List.length_take]; omega
    · intro _ u4 g4 _ ow4 f4
      have old : ∀ y o, h y = some o → g y ≠ none → g4 y = g y := fun y o hy hgy => by
        cases hb : g y with
        | none => exact absurd hb hgy
        | some o' => exact f4 _ _ hb fun hx => by have h0 : h y = none := hx.1; rw [hy] at h0; cases h0
      have gA : g4 A = some (oneO i u n 64) := by rw [old A _ hA (by rw [gne _ AM, I.a]; simp), gne _ AM, I.a]
      have gS : g4 S = h1 S := by rw [old S _ hS (by rw [gne _ SM, q1]; simp), gne _ SM]
      have gV : g4 Mv = h1 Mv := by rw [old Mv _ hV (by rw [gne _ VM, q2]; simp), gne _ VM]
      have v0 : cellAt g4 ⟨S, 0, none⟩ = some (.slice (some ⟨A, 0, none⟩) n n) := by rw [cellAt_look, gS, ← cellAt_look]; exact d0
      have v1 : cellAt g4 ⟨Mv, 0, none⟩ = some (.pointer (some ⟨M, 0, none⟩)) := by rw [cellAt_look, gV, ← cellAt_look]; exact d1
      have v3 : cellAt g4 ⟨A, i, none⟩ = some u := by rw [cellAt_look, gA, cellO_1]
      have hu4 : isCell u4 = true := by obtain ⟨x, y, rfl⟩ := S1.len ow4.s0; rfl
      simp (disch := omega) only [dm_t, wS, simprocAttr, IntKind.bits, v0, v1, d2, v3]
      rw [storeH_look, gA, stO_1]
      refine ⟨rfl, hin, hu4, ?_⟩
      have AS : S ≠ A := by rintro rfl; rw [hS] at hA; cases hA
      have AV : Mv ≠ A := by rintro rfl; rw [hV] at hA; cases hA
      generalize hg5 : hupd g4 A (oneO i u4 n 64) = g5
      have g5A : g5 A = some (oneO i u4 n 64) := by rw [← hg5, hupd_same]
      have g5n : ∀ y, y ≠ A → g5 y = g4 y := fun y hy => by rw [← hg5, hupd_ne _ _ hy]
      have w0 : cellAt g5 ⟨S, 0, none⟩ = some (.slice (some ⟨A, 0, none⟩) n n) := by rw [cellAt_look, g5n _ AS, ← cellAt_look]; exact v0
      have w1 : cellAt g5 ⟨Mv, 0, none⟩ = some (.pointer (some ⟨M, 0, none⟩)) := by rw [cellAt_look, g5n _ AV, ← cellAt_look]; exact v1
      simp (disch := omega) only [dm_t, wS, simprocAttr, IntKind.bits, w0, w1, d2]
      have ej : xs.take (j + 1) = xs.take j ++ [xs[j]] := (List.take_append_getElem hlt).symm
      have f45 : Fr (fun y => y = A) g4 g5 := hg5 ▸ Fr.upd (S := fun y => y = A) rfl _
      have lj : (xs.take j).length = bs.length := I.len.symm
      have wi : WI (post := post) (fin := fin) h M A i n k L (xs.take (j + 1)) g5 γ2 (bs ++ [b]) u4 := by
        refine ⟨?_, g5A, ?_, ?_, hne2, ?_, ?_, ?_⟩
        · rw [g5n _ (Ne.symm AM), old M _ hM (by rw [gM]; simp), gM]
        · have := ow4.fr f45 fun x hx h0 _ => by subst hx; rw [hA] at h0; cases h0
          rwa [show bs.map Value.bool ++ [Value.bool b] = (bs ++ [b]).map .bool by simp] at this
        · intro y o hy hT
          have hyA : y ≠ A := fun e => hT (.inl e)
          have hyM : y ≠ M := fun e => hT (.inr e)
          rw [g5n _ hyA, old y o hy (by rw [gne _ hyM, I.fr _ _ hy hT]; simp), gne _ hyM]
          exact I.fr _ _ hy hT
        · simp only [List.length_append, List.length_cons, List.length_nil, I.len, List.length_take]; omega
        · rw [ej, yes_snoc _ _ _ _ lj, hown2, I.own, List.append_assoc]
        · rw [ej]
          intro x hx
          rcases List.mem_append.1 hx with hx | hx
          · have := I.le x hx; omega
          · simp at hx; subst hx; exact hx2
      exact ⟨⟨j + 1, γ2, bs ++ [b], u4, by simp, by omega, wi⟩, by omega⟩
  · simp (disch := omega) only [dm_t, wS, simprocAttr, IntKind.bits]
    obtain rfl : j = xs.length := by omega
    rw [List.take_length] at I
    exact ⟨γ, bs, u, I⟩
end
end Go.Proofs.Ytojhnclkhiffkaa.mk
namespace Go.Proofs.Ytojhnclkhiffkaa.mk
open Go.Proofs.Ytojhnclkhiffkaa
set_option linter.unusedVariables false
set_option linter.unusedSimpArgs false
/-- Never falling, from a on. -/
def chain (a : Int) : List Int → Prop
  | [] => True
  | x :: r => a ≤ x ∧ chain x r
def lastOf (a : Int) : List Int → Int
  | [] => a
  | x :: r => lastOf x r
theorem chain_snoc : ∀ (a : Int) (ss : List Int) (x : Int), chain a ss → lastOf a ss ≤ x → chain a (ss ++ [x])
  | a, [], x, _, h => ⟨h, trivial⟩
  | a, y :: r, x, ⟨h1, h2⟩, h => ⟨h1, chain_snoc y r x h2 h⟩
theorem lastOf_snoc : ∀ (a : Int) (ss : List Int) (x : Int), lastOf a (ss ++ [x]) = x
  | a, [], x => rfl
  | a, y :: r, x => lastOf_snoc y r x
theorem lastV_mem {γ : List Value} (h : γ ≠ []) : lastV γ ∈ γ.map entV := by
  unfold lastV
  rw [List.getLast?_eq_some_getLast h]
  exact List.mem_map.2 ⟨_, List.getLast_mem h, rfl⟩
section
variable {post : Value → H → Prop} {fin : Value → H → Prop}
/-- What a reader has done so far. -/
structure RI (h : H) (M A i n k : Nat) (L : List Value) (j : Nat) (h' : H) (γ : List Value) (ss : List Int) (u : Value) : Prop where
  m : h' M = some (nM (mpr post fin) k γ)
  a : h' A = some (oneO i u n 22)
  o : O1 (fun b => h b = none) h' 2 u (ss.map (.int .i64))
  fr : Fr (fun y => y = A ∨ y = M) h h'
  ne : γ ≠ []
  len : ss.length = j
  own : own k γ = own k L
  mem : ∀ x ∈ ss, x ∈ γ.map entV
  ch : chain (lastV L) ss
  la : lastOf (lastV L) ss ≤ lastV γ
theorem rd_ok {h : H} {R S Mv A M i n k : Nat} {L : List Value} {wv rdv sv en : Value} {looks : Nat} {fR fS fV : Nat × Nat} (hR : h R = some (.cells #[wv, rdv, .int .i64 (looks : Int)] 56 fR)) (hS : h S = some (.cells #[sv, .slice (some ⟨A, 0, none⟩) n n, en] 59 fS))
    (hV : h Mv = some (.cells #[.pointer (some ⟨M, 0, none⟩)] 24 fV)) (hA : h A = some (oneO i (.slice none 0 0) n 22)) (hM : h M = some (nM (mpr post fin) k L)) (hL : L ≠ []) (hin : i < n) (hlen : looks ≤ 1000000) :
    Ok (CW (mpr post fin) Try.prog) 32 #[.int .i64 (i : Int), .pointer (some ⟨R, 0, none⟩), .pointer (some ⟨S, 0, none⟩), .pointer (some ⟨Mv, 0, none⟩)] h fun v h' => v = .tuple #[] ∧ ∃ γ ss u, RI (post := post) (fin := fin) h M A i n k L looks h' γ ss u := by
  refine c32_ok (args := [_, _, _, _]) (by simp) ?_
  have c0 : cellAt h ⟨R, 2, none⟩ = some (.int .i64 (looks : Int)) := by rw [cellAt_of hR]; rfl
  simp (disch := omega) only [dm_t, wS, simprocAttr, IntKind.bits, c0]
  refine vc_loop1 (fun v h' => ∃ (j : Nat) (γ : List Value) (ss : List Int) (u : Value), v = .int .i64 (j : Int) ∧ j ≤ looks ∧ RI (post := post) (fin := fin) h M A i n k L j h' γ ss u) (fun v _ => match v with | .int _ m => looks - m.toNat | _ => 0) ?_ ?_
  · simp (disch := omega) only [dm_t, wS, simprocAttr, IntKind.bits]
    refine ⟨0, L, [], .slice none 0 0, rfl, by omega, ⟨hM, hA, .nil, Fr.refl _ _, hL, rfl, rfl, by simp, trivial, Int.le_refl _⟩⟩
  rintro _ h1 ⟨j, γ, ss, u, rfl, hj, I⟩
  by_cases hlt : j < looks
  · have nT : ∀ b c E fr, h b = some (.cells c E fr) → ¬ (b = A ∨ b = M) := by
      rintro b c E fr hb (rfl | rfl)
      · rw [hA] at hb; cases hb
      · rw [hM] at hb; cases hb
    have q1 := I.fr _ _ hS (nT _ _ _ _ hS)
    have q2 := I.fr _ _ hV (nT _ _ _ _ hV)
    have d0 : cellAt h1 ⟨S, 1, none⟩ = some (.slice (some ⟨A, 0, none⟩) n n) := by rw [cellAt_of q1]; rfl
    have d1 : cellAt h1 ⟨Mv, 0, none⟩ = some (.pointer (some ⟨M, 0, none⟩)) := by rw [cellAt_of q2]; rfl
    have d2 : idxV1 1 (.slice (some ⟨A, 0, none⟩) n n) (.int .i64 (i : Int)) = some (.pointer (some ⟨A, i, none⟩)) := by rw [idx_s, chk_pos (by omega)]; simp
    have d3 : cellAt h1 ⟨A, i, none⟩ = some u := by rw [cellAt_look, I.a, cellO_1]
    simp (disch := omega) only [dm_t, wS, simprocAttr, IntKind.bits, d0, d1, d2, d3]
    refine (sget_ok I.m).k ?_
    rintro _ g ⟨γ2, rfl, hx, hH, hg⟩
    have hlast : lastV γ ≤ lastV γ2 := by
      rcases ext_last hx hH I.ne with h0 | h0
      · rw [h0]; exact Int.le_refl _
      · omega
    have hne2 := ext_ne hx I.ne
    have gM : g M = some (nM (mpr post fin) k γ2) := by rw [hg, hupd_same]
    have gne : ∀ y, y ≠ M → g y = h1 y := fun y hy => by rw [hg, hupd_ne _ _ hy]
    have SM : S ≠ M := by rintro rfl; rw [hS] at hM; cases hM
    have VM : Mv ≠ M := by rintro rfl; rw [hV] at hM; cases hM
    have AM : A ≠ M := by rintro rfl; rw [hA] at hM; cases hM
    have s0 : cellAt g ⟨S, 1, none⟩ = some (.slice (some ⟨A, 0, none⟩) n n) := by rw [cellAt_look, gne _ SM, ← cellAt_look]; exact d0
    have s1 : cellAt g ⟨Mv, 0, none⟩ = some (.pointer (some ⟨M, 0, none⟩)) := by rw [cellAt_look, gne _ VM, ← cellAt_look]; exact d1
    have s3 : cellAt g ⟨A, i, none⟩ = some u := by rw [cellAt_look, gne _ AM, ← cellAt_look]; exact d3
    have nAb : ∀ y, h1 y = none → h y = none := by
      intro y hy
      cases hb : h y with
      | none => rfl
      | some o =>
        exfalso
        by_cases hT : y = A ∨ y = M
        · rcases hT with rfl | rfl
          · rw [I.a] at hy; cases hy
          · rw [I.m] at hy; cases hy
        · rw [I.fr _ _ hb hT] at hy; cases hy
    have gno : ∀ y, g y = none → h y = none := by
      intro y hy
      by_cases e : y = M
      · subst e; rw [gM] at hy; cases hy
      · rw [gne y e] at hy; exact nAb y hy
    have hfg : Fr (fun y => y = M) h1 g := by rw [hg]; exact Fr.upd (S := fun y => y = M) rfl _
    have ow : O1 (fun b => h b = none) g 2 u (ss.map (.int .i64)) := by
      refine I.o.fr hfg ?_
      rintro x rfl h0 _
      rw [hM] at h0; cases h0
    simp (disch := omega) only [dm_t, wS, simprocAttr, IntKind.bits, s0, s1, d2, s3]
    intro bl hbl
    have hbl0 : g bl = none := hbl
    have e := Ext.new (h := g) hbl (.cells #[.int .i64 (lastV γ2)] 2)
    have t0 := cellAt_ext e s0
    have t1 := cellAt_ext e s1
    have t3 := cellAt_ext e s3
    simp (disch := omega) only [dm_t, wS, simprocAttr, IntKind.bits, t0, t1, d2, t3]
    refine push1 (V := fun _ => _) (bytes := 8) (v := .int .i64 (lastV γ2)) ow gno rfl ?_ ?_ ?_ bl hbl
    · rw [List.length_map, I.len]; omega
    · rw [List.length_map, I.len]; omega
    · intro _ u4 g4 _ ow4 f4
      have old : ∀ y o, h y = some o → g y ≠ none → g4 y = g y := fun y o hy hgy => by
        cases hb : g y with
        | none => exact absurd hb hgy
        | some o' => exact f4 _ _ hb fun hx => by have h0 : h y = none := hx.1; rw [hy] at h0; cases h0
      have gA : g4 A = some (oneO i u n 22) := by rw [old A _ hA (by rw [gne _ AM, I.a]; simp), gne _ AM, I.a]
      have gS : g4 S = h1 S := by rw [old S _ hS (by rw [gne _ SM, q1]; simp), gne _ SM]
      have gV : g4 Mv = h1 Mv := by rw [old Mv _ hV (by rw [gne _ VM, q2]; simp), gne _ VM]
      have v0 : cellAt g4 ⟨S, 1, none⟩ = some (.slice (some ⟨A, 0, none⟩) n n) := by rw [cellAt_look, gS, ← cellAt_look]; exact d0
      have v1 : cellAt g4 ⟨Mv, 0, none⟩ = some (.pointer (some ⟨M, 0, none⟩)) := by rw [cellAt_look, gV, ← cellAt_look]; exact d1
      have v3 : cellAt g4 ⟨A, i, none⟩ = some u := by rw [cellAt_look, gA, cellO_1]
      have hu4 : isCell u4 = true := by obtain ⟨x, y, rfl⟩ := S1.len ow4.s0; rfl
      simp (disch := omega) only [dm_t, wS, simprocAttr, IntKind.bits, v0, v1, d2, v3]
      rw [storeH_look, gA, stO_1]
      refine ⟨rfl, hin, hu4, ?_⟩
      have AS : S ≠ A := by rintro rfl; rw [hS] at hA; cases hA
      have AV : Mv ≠ A := by rintro rfl; rw [hV] at hA; cases hA
      generalize hg5 : hupd g4 A (oneO i u4 n 22) = g5
      have g5A : g5 A = some (oneO i u4 n 22) := by rw [← hg5, hupd_same]
      have g5n : ∀ y, y ≠ A → g5 y = g4 y := fun y hy => by rw [← hg5, hupd_ne _ _ hy]
      have w0 : cellAt g5 ⟨S, 1, none⟩ = some (.slice (some ⟨A, 0, none⟩) n n) := by rw [cellAt_look, g5n _ AS, ← cellAt_look]; exact v0
      have w1 : cellAt g5 ⟨Mv, 0, none⟩ = some (.pointer (some ⟨M, 0, none⟩)) := by rw [cellAt_look, g5n _ AV, ← cellAt_look]; exact v1
      simp (disch := omega) only [dm_t, wS, simprocAttr, IntKind.bits, w0, w1, d2]
      have f45 : Fr (fun y => y = A) g4 g5 := hg5 ▸ Fr.upd (S := fun y => y = A) rfl _
      have wi : RI (post := post) (fin := fin) h M A i n k L (j + 1) g5 γ2 (ss ++ [lastV γ2]) u4 := by
        refine ⟨?_, g5A, ?_, ?_, hne2, ?_, ?_, ?_, ?_, ?_⟩
        · rw [g5n _ (Ne.symm AM), old M _ hM (by rw [gM]; simp), gM]
        · have := ow4.fr f45 fun x hx h0 _ => by subst hx; rw [hA] at h0; cases h0
          rwa [show ss.map (Value.int .i64) ++ [Value.int .i64 (lastV γ2)] = (ss ++ [lastV γ2]).map (.int .i64) by simp] at this
        · intro y o hy hT
          have hyA : y ≠ A := fun e => hT (.inl e)
          have hyM : y ≠ M := fun e => hT (.inr e)
          rw [g5n _ hyA, old y o hy (by rw [gne _ hyM, I.fr _ _ hy hT]; simp), gne _ hyM]
          exact I.fr _ _ hy hT
        · simp [I.len]
        · rw [own_ext hx, I.own]
        · intro x hxm
          rcases List.mem_append.1 hxm with h6 | h6
          · obtain ⟨r, rfl, _⟩ := hx
            rw [List.map_append]
            exact List.mem_append.2 (.inl (I.mem x h6))
          · simp at h6; subst h6; exact lastV_mem hne2
        · exact chain_snoc _ _ _ I.ch (Int.le_trans I.la hlast)
        · rw [lastOf_snoc]; exact Int.le_refl _
      exact ⟨⟨j + 1, γ2, ss ++ [lastV γ2], u4, by simp, by omega, wi⟩, by omega⟩
  · simp (disch := omega) only [dm_t, wS, simprocAttr, IntKind.bits]
    obtain rfl : j = looks := by omega
    exact ⟨γ, ss, u, I⟩
end
end Go.Proofs.Ytojhnclkhiffkaa.mk
