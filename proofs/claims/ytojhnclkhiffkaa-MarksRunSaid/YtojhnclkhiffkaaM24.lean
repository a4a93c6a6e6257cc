/-
  The law of a run of marks, walked whole.
-/
import Derived.Test.YtojhnclkhiffkaaM21
namespace Go.Proofs.Ytojhnclkhiffkaa.mk
open Go.Proofs.Ytojhnclkhiffkaa
set_option linter.unusedVariables false
set_option linter.unusedSimpArgs false
def finT (v : Value) (_ : H) : Prop := v = .bool true
/-- The starter may return: no group, or a closed one. -/
def Shut (h : H) : Prop := (∀ b o, h b = some o → plainO o ∨ o = nG (mpr kpost finT) 9 0 []) ∨ ∃ Wg, h Wg = some (nG (mpr kpost finT) 9 0 [])
theorem shut_p {h : H} (hp : allP h) : Shut h := .inl fun b o hb => .inl (hp b o hb)
theorem shut_e {h h' : H} {Wg : Nat} (hw : h Wg = some (nG (mpr kpost finT) 9 0 [])) (e : Ext h h') : Shut h' := .inr ⟨Wg, e.at hw⟩
section
variable {h0 : H} {a : Option Addr} {n c : Nat} {ws : List Value} {xss : Nat → List Int}
theorem law_bad (hp0 : allP h0) (hW : Sl h0 (.slice a n c) ws) (hn : ws.length = n) (hrow : ∀ i (hi : i < ws.length), ∃ ub uc, ws[i] = .slice ub (xss i).length uc ∧ Sl h0 (.slice ub (xss i).length uc) ((xss i).map (.int .i64)) ∧ (xss i).length ≤ 17592186044416) (hn2 : n ≤ 17592186044416) (x0 r k : Int) (hb : Bad n r k) :
    vc (CM (mpr kpost finT) Try.prog) c5 (retQ [4] (okR fun v h' => v = .bool true ∧ Shut h')) (argEnv [.int .i64 x0, .agg #[.slice a n c, .int .i64 r, .int .i64 k]] 0) h0 := by
  simp (disch := omega) only [dm_t, wS, simprocAttr, IntKind.bits]
  intro r0 hr0
  generalize hG : hupd h0 r0 _ = g1
  obtain ⟨e1, q1⟩ := new_ext hG hr0
  have p1 : allP g1 := hG ▸ allP_upd hp0 (pl_cells _ _ _)
  clear hG
  simp (disch := omega) only [dm_t, wS, simprocAttr, IntKind.bits, cellsAt_all q1 3 rfl]
  refine (ok_q (Run_no x0 hn2 hb) p1).k ?_
  rintro _ g2 ⟨⟨rfl, e2⟩, p2⟩
  simp (disch := omega) only [dm_t, wS, simprocAttr, IntKind.bits]
  intro s hs
  refine storeH_all (hupd_same _ _ _) rfl rfl ?_
  rw [hupd_hupd]
  generalize hG : hupd g2 s _ = g3
  obtain ⟨e3, q3⟩ := new_ext hG hs
  have p3 : allP g3 := hG ▸ allP_upd p2 (pl_cells _ _ _)
  clear hG
  have q13 := e3.at (e2.at q1)
  have E := (e1.trans e2).trans e3
  simp (disch := omega) only [dm_t, wS, simprocAttr, IntKind.bits, cellsAt_all q13 3 rfl]
  refine (ok_q (few_ok (lens := fun i => (xss i).length) (hW.ext E) hn (fun i hi => by
    obtain ⟨ub, uc, h1, _⟩ := hrow i hi
    exact ⟨ub, uc, h1⟩) hn2) p3).k ?_
  rintro _ g4 ⟨⟨b, rfl, e4, hb4⟩, p4⟩
  cases b with
  | true =>
    exfalso
    obtain ⟨h1, h2, h3, h4, h5, _⟩ := hb4 rfl
    have h6 : r * k ≤ 8 * 200 := Int.mul_le_mul h2 h3 h5 (by omega)
    unfold Bad at hb
    omega
  | false =>
    simp (disch := omega) only [dm_t, wS, simprocAttr, IntKind.bits]
    refine (ok_q (known_ok g4) p4).k ?_
    rintro _ g5 ⟨⟨rfl, e5⟩, p5⟩
    simp (disch := omega) only [dm_t, wS, simprocAttr, IntKind.bits]
    exact shut_p p5
theorem ct_of {g2 g3 : H} {r0 s A B Wg M m looks ca cb : Nat} {x0 : Int} {γ us vs : List Value} {bs : Nat → List Bool} {ss : Nat → List Int} (hW : Sl h0 (.slice a n c) ws) (hn : ws.length = n)
    (hrow : ∀ i (hi : i < ws.length), ∃ ub uc, ws[i] = .slice ub (xss i).length uc ∧ Sl h0 (.slice ub (xss i).length uc) ((xss i).map (.int .i64)) ∧ (xss i).length ≤ 17592186044416)
    (X : RunEnd finT A B Wg M n m looks x0 xss γ us vs bs ss g2) (base : ∀ b o, h0 b = some o → ∃ c E fr, o = .cells c E (roF c) ∧ g2 b = some (.cells c E fr)) (e : Ext g2 g3)
    (q1 : g3 r0 = some (.cells #[.slice a n c, .int .i64 m, .int .i64 looks] 56)) (q2 : g3 s = some (.cells #[.slice (some ⟨A, 0, none⟩) n ca, .slice (some ⟨B, 0, none⟩) m cb, .int .i64 (lastV γ)] 59)) :
    Ct g3 r0 s A B n m looks a c ca cb (lastV γ) ws xss bs ss := by
  have sl : ∀ {v xs}, Sl h0 v xs → Sl g3 v xs := by
    rintro v xs (s | ⟨b, o, cp, c, E, fr, s1, s2, s3⟩)
    · exact .inl s
    · obtain ⟨c', E', fr', e1, e2⟩ := base _ _ s2
      cases e1
      exact .inr ⟨b, o, cp, c, E, _, s1, e.at e2, s3⟩
  refine ⟨by rw [cellAt_of q1]; rfl, by rw [cellAt_of q1]; rfl, by rw [cellAt_of q1]; rfl, by rw [cellAt_of q2]; rfl, by rw [cellAt_of q2]; rfl, by rw [cellAt_of q2]; rfl, fun i hi => ?_, fun j hj => ?_, sl hW, hn, fun i hi => ?_⟩
  · obtain ⟨u, h1, h2, h3, _⟩ := X.w i hi
    obtain ⟨ub, uc, rfl⟩ := h2.sl.len
    rw [List.length_map] at h1 h2
    refine ⟨ub, uc, ?_, h2.sl.ext e, h3⟩
    rw [cellAt_of (e.at X.a)]
    simpa using h1
  · obtain ⟨u, h1, h2, h3, _⟩ := X.r j hj
    obtain ⟨ub, uc, rfl⟩ := h2.sl.len
    rw [List.length_map, h3] at h1 h2
    refine ⟨ub, uc, ?_, h2.sl.ext e, h3⟩
    rw [cellAt_of (e.at X.b)]
    simpa using h1
  · obtain ⟨ub, uc, h1, h2, _⟩ := hrow i hi
    exact ⟨ub, uc, h1, sl h2⟩
theorem endS_le {n : Nat} {x0 E : Int} (h0 : x0 ≤ E) : ∀ i, (∀ k, k < i → ∀ x ∈ xss k, x ≤ E) → endS x0 xss i ≤ E
  | 0, _ => h0
  | i + 1, h => by
    have ih := endS_le (n := n) h0 i fun k hk => h k (by omega)
    have key : ∀ (l : List Int) (y : Int), y ≤ E → (∀ x ∈ l, x ≤ E) → l.foldl max y ≤ E := by
      intro l
      induction l with
      | nil => intro y hy _; exact hy
      | cons z l ih2 => intro y hy hl; exact ih2 _ (by have := hl z (by simp); omega) fun x hx => hl x (by simp [hx])
    exact key _ _ ih (h i (by omega))
theorem foldl_max_ge : ∀ (l : List Int) (y : Int), y ≤ l.foldl max y ∧ ∀ x ∈ l, x ≤ l.foldl max y
  | [], y => ⟨Int.le_refl _, by simp⟩
  | z :: l, y => by
    obtain ⟨h1, h2⟩ := foldl_max_ge l (max y z)
    refine ⟨by simp only [List.foldl_cons]; omega, fun x hx => ?_⟩
    rcases List.mem_cons.1 hx with rfl | hx
    · simp only [List.foldl_cons]; omega
    · exact h2 x hx
theorem endS_ge {x0 : Int} : ∀ i, x0 ≤ endS x0 xss i ∧ ∀ k, k < i → ∀ x ∈ xss k, x ≤ endS x0 xss i
  | 0 => ⟨Int.le_refl _, fun k hk => by omega⟩
  | i + 1 => by
    obtain ⟨h1, h2⟩ := endS_ge (x0 := x0) i
    obtain ⟨h3, h4⟩ := foldl_max_ge (xss i) (endS x0 xss i)
    refine ⟨by simp only [endS]; omega, fun k hk x hx => ?_⟩
    by_cases e : k = i
    · subst e; exact h4 x hx
    · have := h2 k (by omega) x hx
      simp only [endS]; omega
/-- What the law asks of what was raised and seen. -/
theorem law_facts {A B Wg M m looks : Nat} {x0 : Int} {γ us vs : List Value} {bs : Nat → List Bool} {ss : Nat → List Int} {g : H} (X : RunEnd finT A B Wg M n m looks x0 xss γ us vs bs ss g) :
    (∀ i, i < n → ∀ k (h1 : k < (xss i).length) (h2 : k < (bs i).length), (bs i)[k] = true → lastOf x0 (yes ((xss i).take k) ((bs i).take k)) < (xss i)[k] ∧ (raisedS x0 γ i ++ yes ((xss i).take k) ((bs i).take k)).count (xss i)[k] = 0) ∧
    (∀ i, i < n → own (i + 1) γ = yes (xss i) (bs i)) ∧ (∀ j, j < m → chain x0 (ss j) ∧ ∀ x ∈ ss j, (raisedS x0 γ n).count x ≠ 0) ∧ endS x0 xss n = lastV γ ∧ (raisedS x0 γ n).count (lastV γ) ≠ 0 := by
  obtain ⟨r, hγ, hr⟩ := X.beg
  have hown : ∀ i, i < n → own (i + 1) γ = yes (xss i) (bs i) := fun i hi => by
    obtain ⟨u, _, _, _, h, _⟩ := X.w i hi
    exact h
  have mem : ∀ {x}, x ∈ γ.map entV → x ∈ raisedS x0 γ n := fun hx => raised_mem hγ hr X.byl (fun j hj => by
    obtain ⟨u, _, _, _, h, _⟩ := X.r j hj
    exact h) hx
  have hne : γ ≠ [] := by rw [hγ]; simp
  have hlast := mem (lastV_mem hne)
  refine ⟨fun i hi k h1 h2 hk => ?_, hown, fun j hj => ?_, ?_, fun h => List.count_eq_zero.1 h hlast⟩
  · obtain ⟨u, _, _, hlen, hy, _⟩ := X.w i hi
    have tx : (xss i).take (k + 1) = (xss i).take k ++ [(xss i)[k]] := (List.take_append_getElem h1).symm
    have tb : (bs i).take (k + 1) = (bs i).take k ++ [(bs i)[k]] := (List.take_append_getElem h2).symm
    have ty : yes ((xss i).take (k + 1)) ((bs i).take (k + 1)) = yes ((xss i).take k) ((bs i).take k) ++ [(xss i)[k]] := by
      rw [tx, tb, yes_snoc _ _ _ _ (by simp; omega), if_pos hk]
    obtain ⟨rr, hrr⟩ := yes_take (xss i) (bs i) (k + 1) hlen.symm
    rw [ty] at hrr
    have ho : own (i + 1) γ = yes ((xss i).take k) ((bs i).take k) ++ (xss i)[k] :: rr := by rw [hown i hi, hrr]; simp
    refine ⟨?_, ?_⟩
    · have := own_rises X.hst hγ (k := i + 1) (by omega)
      rw [ho] at this
      exact rises_app _ _ _ _ this
    · have := raised_one X.hst hγ (i + 1) (xss i)[k]
      rw [raisedS, ho, List.count_append, List.count_append, List.count_cons_self] at this
      rw [List.count_append]
      omega
  · obtain ⟨u, _, _, _, _, h1, h2⟩ := X.r j hj
    exact ⟨h2, fun x hx h => List.count_eq_zero.1 h (mem (h1 x hx))⟩
  · have hx0 : x0 ≤ lastV γ := (rise_pw X.hst).2 x0 (by rw [hγ]; simp [entV_ent])
    have h1 := endS_le (n := n) (xss := xss) hx0 n fun k hk x hx => by
      obtain ⟨u, _, _, _, _, h⟩ := X.w k hk
      exact h x hx
    have h2 : ∀ i, i ≤ n → ∀ y ∈ raisedS x0 γ i, y ≤ endS x0 xss n := by
      intro i
      induction i with
      | zero => intro _ y hy; simp [raisedS] at hy; subst hy; exact (endS_ge n).1
      | succ i ih =>
        intro hi y hy
        rw [raisedS, List.mem_append] at hy
        rcases hy with hy | hy
        · exact ih (by omega) y hy
        · rw [hown i (by omega)] at hy
          exact (endS_ge n).2 i (by omega) y (yes_mem _ _ _ hy)
    have := h2 n (by omega) _ hlast
    omega
end
end Go.Proofs.Ytojhnclkhiffkaa.mk
namespace Go.Proofs.Ytojhnclkhiffkaa.mk
open Go.Proofs.Ytojhnclkhiffkaa
set_option linter.unusedVariables false
set_option linter.unusedSimpArgs false
section
variable {h0 : H} {a : Option Addr} {n c : Nat} {ws : List Value} {xss : Nat → List Int}
theorem law_good (hp0 : allP h0) (hro : ∀ b o, h0 b = some o → ∃ c E, o = .cells c E (roF c)) (hW : Sl h0 (.slice a n c) ws) (hn : ws.length = n) (hrow : ∀ i (hi : i < ws.length), ∃ ub uc, ws[i] = .slice ub (xss i).length uc ∧ Sl h0 (.slice ub (xss i).length uc) ((xss i).map (.int .i64)) ∧ (xss i).length ≤ 17592186044416) (x0 : Int) (m looks : Nat) (hb : ¬ Bad n m looks) :
    vc (CM (mpr kpost finT) Try.prog) c5 (retQ [4] (okR fun v h' => v = .bool true ∧ Shut h')) (argEnv [.int .i64 x0, .agg #[.slice a n c, .int .i64 (m : Int), .int .i64 (looks : Int)]] 0) h0 := by
  have hb0 := hb
  unfold Bad at hb
  simp (disch := omega) only [dm_t, wS, simprocAttr, IntKind.bits]
  intro r0 hr0
  generalize hG : hupd h0 r0 _ = g1
  obtain ⟨e1, q1⟩ := new_ext hG hr0
  have p1 : allP g1 := hG ▸ allP_upd hp0 (pl_cells _ _ _)
  clear hG
  simp (disch := omega) only [dm_t, wS, simprocAttr, IntKind.bits, cellsAt_all q1 3 rfl]
  refine (Run_ok (fin := finT) (xss := xss) (x0 := x0) e1 p1 hro hW hn (fun i hi => by
    obtain ⟨ub, uc, k1, k2, k3⟩ := hrow i hi
    rw [k1]; exact ⟨k2, k3⟩) hb0).k ?_
  rintro _ g2 ⟨A, B, Wg, M, γ, us, vs, bs, ss, ca, cb, rfl, X, base, keep⟩
  have q12 := keep _ _ _ q1
  simp (disch := omega) only [dm_t, wS, simprocAttr, IntKind.bits]
  intro s hs
  refine storeH_all (hupd_same _ _ _) rfl rfl ?_
  rw [hupd_hupd]
  generalize hG : hupd g2 s _ = g3
  obtain ⟨e3, q3⟩ := new_ext hG hs
  clear hG
  have q13 := e3.at q12
  have Y := ct_of hW hn hrow X base e3 q13 q3
  have hw3 := e3.at X.wg
  simp (disch := omega) only [dm_t, wS, simprocAttr, IntKind.bits, cellsAt_all q13 3 rfl]
  refine (few_ok (lens := fun i => (xss i).length) Y.W_ hn (fun i hi => by
    obtain ⟨ub, uc, h1, _⟩ := hrow i hi
    exact ⟨ub, uc, h1⟩) (by omega)).k ?_
  rintro _ g4 ⟨b, rfl, e4, hb4⟩
  have hw4 := e4.at hw3
  replace Y := Y.ext e4
  cases b with
  | false =>
    simp (disch := omega) only [dm_t, wS, simprocAttr, IntKind.bits]
    refine (known_ok g4).k ?_
    rintro _ g5 ⟨rfl, e5⟩
    simp (disch := omega) only [dm_t, wS, simprocAttr, IntKind.bits]
    exact shut_e hw4 e5
  | true =>
    obtain ⟨h1, h2, h3, h4, h5, h6⟩ := hb4 rfl
    obtain ⟨F1, F2, F3, F4, F5⟩ := law_facts X
    have r0' := Y.r0_
    have r1' := Y.r1_
    have s0' := Y.s0_
    have s1' := Y.s1_
    simp (disch := omega) only [dm_t, wS, simprocAttr, IntKind.bits, r0', r1', s0', s1']
    refine raw_mkmap ?_
    intro mp hmp
    simp (disch := omega) only [dm_t, wS, simprocAttr, IntKind.bits]
    refine raw_insert Try.underlying63 Try.underlying2 rfl rfl rfl (hupd_same _ _ _) ?_
    rw [hupd_hupd]
    simp (disch := omega) only [dm_t, wS, simprocAttr, IntKind.bits]
    refine law_w Y hmp h1 h6 _ F1 F2 ?_
    intro l2 y1 y2 hm2
    simp (disch := omega) only [dm_t, wS, simprocAttr, IntKind.bits]
    refine law_r Y hmp (by omega) (by omega) _ hm2 F3 ?_
    intro y3 y4
    have Z := Y.ext (Ext.new hmp (mapO l2))
    have s2' := Z.s2_
    have f4 := F4
    simp (disch := omega) only [dm_t, wS, simprocAttr, IntKind.bits, s2', f4]
    refine raw_lookup Try.underlying63 Try.underlying2 inf3 zer3 rfl rfl (hupd_same _ _ _) ?_
    rw [hm2 _]
    have f5 : (0 : Int) < ((raisedS x0 γ n).count (lastV γ) : Nat) := by omega
    simp (disch := omega) only [dm_t, wS, simprocAttr, IntKind.bits, f5]
    refine (known_ok _).k ?_
    rintro _ g5 ⟨rfl, e5⟩
    simp (disch := omega) only [dm_t, wS, simprocAttr, IntKind.bits]
    exact shut_e ((Ext.new hmp (mapO l2)).at hw4) e5
end
end Go.Proofs.Ytojhnclkhiffkaa.mk
namespace Go.Proofs.Ytojhnclkhiffkaa.mk
open Go.Proofs.Ytojhnclkhiffkaa
set_option linter.unusedVariables false
set_option linter.unusedSimpArgs false
def mrT : Ty := .pair (.sl (.sl (.int .i64))) (.pair (.int .i64) (.int .i64))
theorem slK_rows {S : Nat → Prop} {h : H} {v : Value} {rows : List (List Value)} {Q : Nat → Value → Prop} (s : SlK 1 S h v rows) (hq : ∀ i r, rows[i]? = some r → ∃ u, r = [u] ∧ Q i u) : ∃ ws : List Value, Sl h v ws ∧ ws.length = rows.length ∧ ∀ i (hi : i < ws.length), Q i ws[i] := by
  have he : rows = one (rows.map fun r => r.headD undef) := by
    apply List.ext_getElem?
    intro i
    simp only [one, List.getElem?_map]
    cases hr : rows[i]? with
    | none => rfl
    | some r =>
      obtain ⟨u, rfl, _⟩ := hq i r hr
      rfl
  refine ⟨rows.map fun r => r.headD undef, ?_, by simp, fun i hi => ?_⟩
  · rw [he] at s
    exact SlK.to1 s
  · have hi' : i < rows.length := by simpa using hi
    obtain ⟨u, h1, h2⟩ := hq i rows[i] (List.getElem?_eq_getElem hi')
    rw [List.getElem_map, h1]
    exact h2
theorem rep_ints {S : Nat → Prop} {h : H} {cs : List Value} {xs : List Int} (r : Rep S (.sl (.int .i64)) h cs xs) : ∃ v, cs = [v] ∧ Sl h v (xs.map (.int .i64)) := by
  obtain ⟨v, rows, rfl, s, hl, hr⟩ := r
  obtain ⟨ws, h1, h2, h3⟩ := slK_rows (Q := fun i u => ∀ x, xs[i]? = some x → u = .int .i64 x) s (fun i r hi => by
    have hi' : i < rows.length := (List.getElem?_eq_some_iff.1 hi).1
    have hx : xs[i]? = some (xs[i]'(by omega)) := List.getElem?_eq_getElem _
    obtain ⟨k1, _⟩ := hr i r _ hi hx
    refine ⟨_, k1, fun x h => ?_⟩
    rw [hx] at h
    cases h
    rfl)
  refine ⟨v, rfl, ?_⟩
  have : ws = xs.map (.int .i64) := by
    apply List.ext_getElem
    · simp; omega
    · intro i k1 k2
      have hi : i < xs.length := by simpa using k2
      rw [h3 i k1 xs[i] (List.getElem?_eq_getElem hi)]
      simp
  rw [← this]
  exact h1
theorem rep_run {h : H} {cs : List Value} {x : mrT.D} (r : Rep nos mrT h cs x) (hf : mrT.fit x) : ∃ (a : Option Addr) (n c : Nat) (ws : List Value) (xss : Nat → List Int) (rd lk : Int), cs = [.slice a n c, .int .i64 rd, .int .i64 lk] ∧ Sl h (.slice a n c) ws ∧ ws.length = n ∧ n ≤ 17592186044416 ∧
    ∀ i (hi : i < ws.length), ∃ ub uc, ws[i] = .slice ub (xss i).length uc ∧ Sl h (.slice ub (xss i).length uc) ((xss i).map (.int .i64)) ∧ (xss i).length ≤ 17592186044416 := by
  obtain ⟨c1, d1, rfl, ⟨v, rows, rfl, s, hl, hr⟩, c2, d2, rfl, ⟨rfl, _⟩, ⟨rfl, _⟩⟩ := r
  obtain ⟨⟨f1, f2⟩, _⟩ := hf
  have f1' : List.length x.1 * 24 ≤ 140737488351232 := f1
  obtain ⟨ws, h1, h2, h3⟩ := slK_rows (Q := fun i u => ∃ ub uc, u = .slice ub ((x.1[i]?).getD []).length uc ∧ Sl h (.slice ub ((x.1[i]?).getD []).length uc) (((x.1[i]?).getD []).map (.int .i64)) ∧ ((x.1[i]?).getD []).length ≤ 17592186044416) s (fun i r hi => by
    have hi' : i < rows.length := (List.getElem?_eq_some_iff.1 hi).1
    have hlt : i < List.length x.1 := hl ▸ hi'
    have hx : x.1[i]? = some (x.1[i]'hlt) := List.getElem?_eq_getElem _
    obtain ⟨u, k1, k2⟩ := rep_ints (hr i r _ hi hx)
    obtain ⟨ub, uc, rfl⟩ := k2.len
    rw [List.length_map] at k2 k1
    refine ⟨_, k1, ub, uc, ?_⟩
    rw [hx]
    have := (f2 _ (List.getElem_mem hlt)).1
    have this' : List.length (x.1[i]'hlt) * 8 ≤ 140737488351232 := this
    exact ⟨rfl, k2, (by
      show List.length (x.1[i]'hlt) ≤ _
      omega)⟩)
  obtain ⟨a, c, rfl⟩ := h1.len
  exact ⟨a, ws.length, c, ws, fun i => (x.1[i]?).getD [], x.2.1, x.2.2, rfl, h1, rfl, (by
    have e1 : rows.length = List.length x.1 := hl
    omega), h3⟩
theorem law_any {h0 : H} {a : Option Addr} {n c : Nat} {ws : List Value} {xss : Nat → List Int} (hp0 : allP h0) (hro : ∀ b o, h0 b = some o → ∃ c E, o = .cells c E (roF c)) (hW : Sl h0 (.slice a n c) ws) (hn : ws.length = n) (hn2 : n ≤ 17592186044416)
    (hrow : ∀ i (hi : i < ws.length), ∃ ub uc, ws[i] = .slice ub (xss i).length uc ∧ Sl h0 (.slice ub (xss i).length uc) ((xss i).map (.int .i64)) ∧ (xss i).length ≤ 17592186044416) (x0 rd lk : Int) :
    vc (CM (mpr kpost finT) Try.prog) c5 (retQ [4] (okR fun v h' => v = .bool true ∧ Shut h')) (argEnv [.int .i64 x0, .agg #[.slice a n c, .int .i64 rd, .int .i64 lk]] 0) h0 := by
  by_cases hb : Bad n rd lk
  · exact law_bad hp0 hW hn hrow hn2 x0 rd lk hb
  · have hb' := hb
    unfold Bad at hb'
    obtain ⟨m, rfl⟩ : ∃ m : Nat, rd = m := ⟨rd.toNat, by omega⟩
    obtain ⟨looks, rfl⟩ : ∃ m : Nat, lk = m := ⟨lk.toNat, by omega⟩
    exact law_good hp0 hro hW hn hrow x0 m looks hb
end Go.Proofs.Ytojhnclkhiffkaa.mk
