/-
  The plain law of a run of marks: a history that rises, and what follows for who raised and who looked.
-/
import Derived.Test.YtojhnclkhiffkaaM19
import Derived.Test.YtojhnclkhiffkaaKM
namespace Go.Proofs.Ytojhnclkhiffkaa.mk
open Go.Proofs.Ytojhnclkhiffkaa
set_option linter.unusedVariables false
set_option linter.unusedSimpArgs false
section
variable {post : Value → H → Prop} {fin : Value → H → Prop}
theorem rise_pw {e0 : Value} {γ : List Value} (h : (mpr post fin).Hst e0 γ) : (γ.map entV).Pairwise (· < ·) ∧ ∀ x ∈ γ.map entV, x ≤ lastV γ := by
  induction h with
  | one => simp [lastV]
  | snoc hg hok ih =>
    rename_i γ v
    obtain ⟨x, k, rfl, hx⟩ := hok
    obtain ⟨h1, h2⟩ := ih
    rw [List.map_append, lastV_snoc, entV_ent]
    simp only [List.map_cons, List.map_nil, entV_ent]
    refine ⟨List.pairwise_append.2 ⟨h1, by simp, fun a ha b hb => ?_⟩, fun y hy => ?_⟩
    · simp at hb; subst hb
      have := h2 a ha; omega
    · rcases List.mem_append.1 hy with hy | hy
      · have := h2 y hy; omega
      · simp at hy; omega
end
/-- Rising from a on. -/
def rises (a : Int) : List Int → Prop
  | [] => True
  | x :: r => a < x ∧ rises x r
theorem rises_of : ∀ (a : Int) (l : List Int), (a :: l).Pairwise (· < ·) → rises a l
  | a, [], _ => trivial
  | a, x :: r, h => by
    rw [List.pairwise_cons] at h
    exact ⟨h.1 x (by simp), rises_of x r h.2⟩
theorem rises_app : ∀ (a : Int) (l : List Int) (x : Int) (r : List Int), rises a (l ++ x :: r) → lastOf a l < x
  | a, [], x, r, h => h.1
  | a, y :: l, x, r, h => rises_app y l x r h.2
theorem own_sub (k : Nat) (γ : List Value) : (own k γ).Sublist (γ.map entV) := (List.filter_sublist).map _
/-- All that the first i writers raised the mark to, and what it began with. -/
def raisedS (x0 : Int) (γ : List Value) : Nat → List Int
  | 0 => [x0]
  | i + 1 => raisedS x0 γ i ++ own (i + 1) γ
theorem count_own (k : Nat) (x : Int) : ∀ γ : List Value, (own k γ).count x = γ.countP fun v => decide (entV v = x) && decide (entB v = k)
  | [] => rfl
  | v :: r => by
    have ih := count_own k x r
    unfold own at ih ⊢
    rw [List.countP_cons, ← ih]
    by_cases h : entB v = k
    · rw [List.filter_cons_of_pos (by simpa using h), List.map_cons, List.count_cons]
      by_cases h2 : entV v = x <;> simp [h, h2]
    · rw [List.filter_cons_of_neg (by simpa using h)]
      simp [h]
theorem countP_split (x : Int) (i : Nat) : ∀ γ : List Value, (γ.countP fun v => decide (entV v = x) && decide (entB v ≤ i)) + (γ.countP fun v => decide (entV v = x) && decide (entB v = i + 1)) = γ.countP fun v => decide (entV v = x) && decide (entB v ≤ i + 1)
  | [] => rfl
  | v :: r => by
    have ih := countP_split x i r
    simp only [List.countP_cons]
    by_cases h : entV v = x
    · by_cases h1 : entB v ≤ i
      · have h2 : entB v ≤ i + 1 := by omega
        have h3 : ¬ entB v = i + 1 := by omega
        simp [h, h1, h2, h3]; omega
      · by_cases h2 : entB v = i + 1
        · have h3 : entB v ≤ i + 1 := by omega
          rw [decide_eq_true h, decide_eq_false h1, decide_eq_true h2, decide_eq_true h3]
          simp only [Bool.and_true, Bool.and_false, Bool.false_eq_true, if_true, if_false]; omega
        · have h3 : ¬ entB v ≤ i + 1 := by omega
          simp [h, h1, h2, h3]; omega
    · simp [h]; omega
theorem raised_count {x0 : Int} {r : List Value} (x : Int) : ∀ i, (raisedS x0 (ent x0 0 :: r) i).count x ≤ (ent x0 0 :: r).countP fun v => decide (entV v = x) && decide (entB v ≤ i)
  | 0 => by
    simp only [raisedS, List.countP_cons, entV_ent, entB_ent, List.count_cons, List.count_nil]
    by_cases h : x0 = x <;> simp [h]
  | i + 1 => by
    have ih := raised_count (x0 := x0) (r := r) x i
    have := countP_split x i (ent x0 0 :: r)
    simp only [raisedS, List.count_append, count_own]
    omega
theorem pw_count {l : List Int} (h : l.Pairwise (· < ·)) (x : Int) : l.count x ≤ 1 := by
  induction l with
  | nil => simp
  | cons y r ih =>
    rw [List.pairwise_cons] at h
    rw [List.count_cons]
    by_cases hy : y = x
    · have : r.count x = 0 := List.count_eq_zero.2 fun hm => by have := h.1 x hm; omega
      simp [hy, this]
    · have := ih h.2
      simp [hy, this]
theorem raised_one {fin : Value → H → Prop} {x0 : Int} {γ r : List Value} (hH : (mpr kpost fin).Hst (ent x0 0) γ) (hγ : γ = ent x0 0 :: r) (i : Nat) (x : Int) : (raisedS x0 γ i).count x ≤ 1 := by
  subst hγ
  refine Nat.le_trans (raised_count x i) (Nat.le_trans ?_ (pw_count (rise_pw hH).1 x))
  have h1 : ((ent x0 0 :: r).map entV).count x = (ent x0 0 :: r).countP fun v => decide (entV v = x) := by
    rw [List.count_eq_countP, List.countP_map]
    congr 1
  rw [h1]
  exact List.countP_mono_left fun v _ h => by simp only [Bool.and_eq_true] at h; exact h.1
theorem own_rises {fin : Value → H → Prop} {x0 : Int} {γ r : List Value} (hH : (mpr kpost fin).Hst (ent x0 0) γ) (hγ : γ = ent x0 0 :: r) {k : Nat} (hk : k ≠ 0) : rises x0 (own k γ) := by
  subst hγ
  have h1 := (rise_pw hH).1
  refine rises_of _ _ ?_
  have h2 : own k (ent x0 0 :: r) = own k r := by
    unfold own
    rw [List.filter_cons_of_neg (by simpa [entB_ent] using fun h => hk h.symm)]
  rw [h2]
  rw [List.map_cons, entV_ent] at h1
  exact h1.sublist ((own_sub k r).cons_cons x0)
theorem raised_mem {x0 : Int} {r γ : List Value} (hγ : γ = ent x0 0 :: r) (hr : ∀ v ∈ r, entB v ≠ 0) {n m : Nat} (hb : ∀ v ∈ γ, entB v ≤ n + m) (h0 : ∀ j, j < m → own (n + j + 1) γ = []) {x : Int} (hx : x ∈ γ.map entV) : x ∈ raisedS x0 γ n := by
  have sub : ∀ i y k, 1 ≤ k → k ≤ i → y ∈ own k γ → y ∈ raisedS x0 γ i := by
    intro i
    induction i with
    | zero => intro y k h1 h2; omega
    | succ i ih =>
      intro y k h1 h2 hy
      rw [raisedS, List.mem_append]
      by_cases e : k = i + 1
      · subst e; exact .inr hy
      · exact .inl (ih y k h1 (by omega) hy)
  have first : ∀ i, x0 ∈ raisedS x0 γ i := by
    intro i
    induction i with
    | zero => simp [raisedS]
    | succ i ih => rw [raisedS, List.mem_append]; exact .inl ih
  obtain ⟨v, hv, rfl⟩ := List.mem_map.1 hx
  have hown : entV v ∈ own (entB v) γ := List.mem_map.2 ⟨v, List.mem_filter.2 ⟨hv, by simp⟩, rfl⟩
  have hle := hb v hv
  by_cases h1 : entB v = 0
  · have hv' := hv
    rw [hγ, List.mem_cons] at hv'
    rcases hv' with rfl | hv'
    · exact first n
    · exact absurd h1 (hr v hv')
  · by_cases h2 : entB v ≤ n
    · exact sub n _ (entB v) (by omega) h2 hown
    · have := h0 (entB v - n - 1) (by omega)
      rw [show n + (entB v - n - 1) + 1 = entB v by omega] at this
      rw [this] at hown
      cases hown
theorem yes_take : ∀ (xs : List Int) (bs : List Bool) (k : Nat), xs.length = bs.length → ∃ r, yes xs bs = yes (xs.take k) (bs.take k) ++ r
  | [], [], k, _ => ⟨[], by simp [yes]⟩
  | x :: xs, b :: bs, 0, h => ⟨_, rfl⟩
  | x :: xs, b :: bs, k + 1, h => by
    obtain ⟨r, hr⟩ := yes_take xs bs k (by simpa using h)
    refine ⟨r, ?_⟩
    simp only [yes, List.take_succ_cons, hr]
    split <;> rfl
theorem yes_mem : ∀ (xs : List Int) (bs : List Bool) (y : Int), y ∈ yes xs bs → y ∈ xs
  | x :: xs, b :: bs, y, h => by
    unfold yes at h
    split at h
    · rcases List.mem_cons.1 h with rfl | h
      · simp
      · exact List.mem_cons_of_mem _ (yes_mem xs bs y h)
    · exact List.mem_cons_of_mem _ (yes_mem xs bs y h)
  | [], _, y, h => by simp [yes] at h
  | _ :: _, [], y, h => by simp [yes] at h
end Go.Proofs.Ytojhnclkhiffkaa.mk
namespace Go.Proofs.Ytojhnclkhiffkaa.mk
open Go.Proofs.Ytojhnclkhiffkaa
set_option linter.unusedVariables false
set_option linter.unusedSimpArgs false
section
variable {PX : Cx Try.prog}
theorem few_ok {h : H} {a : Option Addr} {n c : Nat} {r k : Int} {ws : List Value} {lens : Nat → Nat} (hW : Sl h (.slice a n c) ws) (hn : ws.length = n) (hl : ∀ i (hi : i < ws.length), ∃ a' c', ws[i] = .slice a' (lens i) c') (hn2 : n ≤ 17592186044416) :
    Ok PX 20 #[.agg #[.slice a n c, .int .i64 r, .int .i64 k]] h fun v h' => ∃ b, v = .bool b ∧ Ext h h' ∧ (b = true → n ≤ 8 ∧ r ≤ 8 ∧ k ≤ 200 ∧ 0 ≤ r ∧ 0 ≤ k ∧ ∀ i, i < n → lens i ≤ 50) := by
  refine c20_ok (args := [_]) (by simp) ?_
  simp (disch := omega) only [dm_t, wS, simprocAttr, IntKind.bits]
  intro b hb'
  generalize hG : hupd h b _ = g1
  obtain ⟨e1, q1⟩ := new_ext hG hb'
  clear hG
  have c0 : cellAt g1 ⟨b, 0, none⟩ = some (.slice a n c) := by rw [cellAt_of q1]; rfl
  have c1 : cellAt g1 ⟨b, 1, none⟩ = some (.int .i64 r) := by rw [cellAt_of q1]; rfl
  have c2 : cellAt g1 ⟨b, 2, none⟩ = some (.int .i64 k) := by rw [cellAt_of q1]; rfl
  by_cases h1 : 8 < n
  · simp (disch := omega) only [dm_t, wS, simprocAttr, IntKind.bits, c0, c1, c2]
    exact ⟨false, rfl, e1, by simp⟩
  by_cases h2 : 8 < r
  · simp (disch := omega) only [dm_t, wS, simprocAttr, IntKind.bits, c0, c1, c2]
    exact ⟨false, rfl, e1, by simp⟩
  by_cases h3 : 200 < k
  · simp (disch := omega) only [dm_t, wS, simprocAttr, IntKind.bits, c0, c1, c2]
    exact ⟨false, rfl, e1, by simp⟩
  by_cases h4 : r < 0
  · simp (disch := omega) only [dm_t, wS, simprocAttr, IntKind.bits, c0, c1, c2]
    exact ⟨false, rfl, e1, by simp⟩
  by_cases h5 : k < 0
  · simp (disch := omega) only [dm_t, wS, simprocAttr, IntKind.bits, c0, c1, c2]
    exact ⟨false, rfl, e1, by simp⟩
  simp (disch := omega) only [dm_t, wS, simprocAttr, IntKind.bits, c0, c1, c2]
  refine vc_loop1 (fun v h' => ∃ i : Nat, v = .int .i64 i ∧ i ≤ n ∧ h' = g1 ∧ ∀ j, j < i → lens j ≤ 50) (fun v _ => match v with | .int _ x => n - x.toNat | _ => 0) ?_ ?_
  · simp (disch := omega) only [dm_t, wS, simprocAttr, IntKind.bits]
    exact ⟨0, rfl, by omega, fun j hj => by omega⟩
  rintro _ _ ⟨i, rfl, hi, rfl, hall⟩
  by_cases hlt : i < n
  · have hlt' : (i : Int) < n := by omega
    obtain ⟨p, hp, hpc⟩ := (hW.ext e1).load (k := i) (by omega) .i64
    obtain ⟨a', c', hs⟩ := hl i (by omega)
    rw [hs] at hpc
    by_cases h6 : 50 < lens i
    · simp (disch := omega) only [dm_t, wS, simprocAttr, IntKind.bits, c0, c1, c2, hlt', hp, hpc]
      exact ⟨false, rfl, e1, by simp⟩
    · simp (disch := omega) only [dm_t, wS, simprocAttr, IntKind.bits, c0, c1, c2, hlt', hp, hpc]
      refine ⟨⟨i + 1, by simp, by omega, fun j hj => ?_⟩, by omega⟩
      by_cases e : j = i
      · subst e; omega
      · exact hall j (by omega)
  · have hlt' : ¬ ((i : Int) < n) := by omega
    obtain rfl : i = n := by omega
    simp (disch := omega) only [dm_t, wS, simprocAttr, IntKind.bits, c0, c1, c2, hlt']
    exact ⟨true, rfl, e1, fun _ => ⟨by omega, by omega, by omega, by omega, by omega, hall⟩⟩
theorem Run_no {h : H} {a : Option Addr} {n c : Nat} {r k : Int} (x : Int) (hn : n ≤ 17592186044416) (hb : Bad n r k) : Ok PX 19 #[.int .i64 x, .agg #[.slice a n c, .int .i64 r, .int .i64 k]] h fun v h' => v = .tuple #[.agg #[.slice none 0 0, .slice none 0 0, .int .i64 0], .int .i64 2] ∧ Ext h h' := by
  refine c19_ok (args := [_, _]) (by simp) ?_
  simp (disch := omega) only [dm_t, wS, simprocAttr, IntKind.bits]
  intro b hb' p hp
  generalize hG : hupd h b _ = g1 at hp ⊢
  obtain ⟨e1, q1⟩ := new_ext hG hb'
  clear hG
  generalize hG : hupd g1 p _ = g2
  obtain ⟨e2, q2⟩ := new_ext hG hp
  clear hG
  have q12 := e2.at q1
  simp (disch := omega) only [dm_t, wS, simprocAttr, IntKind.bits, cellsAt_all q12 3 rfl]
  refine (right_no hn hb).k ?_
  rintro _ g3 ⟨rfl, e3⟩
  have q23 := e3.at q2
  simp (disch := omega) only [dm_t, wS, simprocAttr, IntKind.bits]
  refine storeH_all q23 rfl rfl ?_
  generalize hG : hupd g3 p _ = g4
  have f4 : Fr (fun y => y = p) g3 g4 := hG ▸ Fr.upd (S := fun y => y = p) rfl _
  have q4 : g4 p = some (.cells #[.slice none 0 0, .slice none 0 0, .int .i64 0] 59) := by rw [← hG, hupd_same]
  clear hG
  simp (disch := omega) only [dm_t, wS, simprocAttr, IntKind.bits, cellsAt_all q4 3 rfl]
  exact Ext.step' ((e1.trans e2).trans e3) f4 fun y hy => by rw [hy]; exact e1.bk hp
end
/-- A map of counts. -/
def MapC (l : List (Int × Value)) (T : List Int) : Prop := ∀ key, (lkI key l).getD (.int .i64 0) = .int .i64 (T.count key : Int)
theorem MapC.one (x : Int) : MapC (setI x (.int .i64 1) []) [x] := by
  intro key
  rw [lkI_set]
  by_cases h : x = key
  · subst h; simp
  · simp [h, lkI]
theorem MapC.add {l : List (Int × Value)} {T : List Int} (m : MapC l T) (x : Int) : MapC (setI x (.int .i64 ((T.count x : Nat) + 1 : Int)) l) (T ++ [x]) := by
  intro key
  rw [lkI_set]
  by_cases h : x = key
  · subst h; simp
  · simp [h, m key]
end Go.Proofs.Ytojhnclkhiffkaa.mk
namespace Go.Proofs.Ytojhnclkhiffkaa.mk
open Go.Proofs.Ytojhnclkhiffkaa
set_option linter.unusedVariables false
set_option linter.unusedSimpArgs false
/-- What the law reads: the run, what was seen. -/
structure Ct (g : H) (r0 s A B n m looks : Nat) (a : Option Addr) (c ca cb : Nat) (e : Int) (ws : List Value) (xss : Nat → List Int) (bs : Nat → List Bool) (ss : Nat → List Int) : Prop where
  r0_ : cellAt g ⟨r0, 0, none⟩ = some (.slice a n c)
  r1_ : cellAt g ⟨r0, 1, none⟩ = some (.int .i64 (m : Int))
  r2_ : cellAt g ⟨r0, 2, none⟩ = some (.int .i64 (looks : Int))
  s0_ : cellAt g ⟨s, 0, none⟩ = some (.slice (some ⟨A, 0, none⟩) n ca)
  s1_ : cellAt g ⟨s, 1, none⟩ = some (.slice (some ⟨B, 0, none⟩) m cb)
  s2_ : cellAt g ⟨s, 2, none⟩ = some (.int .i64 e)
  A_ : ∀ i, i < n → ∃ ub uc, cellAt g ⟨A, i, none⟩ = some (.slice ub (bs i).length uc) ∧ Sl g (.slice ub (bs i).length uc) ((bs i).map .bool) ∧ (bs i).length = (xss i).length
  B_ : ∀ j, j < m → ∃ ub uc, cellAt g ⟨B, j, none⟩ = some (.slice ub looks uc) ∧ Sl g (.slice ub looks uc) ((ss j).map (.int .i64)) ∧ (ss j).length = looks
  W_ : Sl g (.slice a n c) ws
  wl : ws.length = n
  R_ : ∀ i (hi : i < ws.length), ∃ ub uc, ws[i] = .slice ub (xss i).length uc ∧ Sl g (.slice ub (xss i).length uc) ((xss i).map (.int .i64))
theorem Ct.ext {g g' : H} {r0 s A B n m looks : Nat} {a : Option Addr} {c ca cb : Nat} {e : Int} {ws : List Value} {xss : Nat → List Int} {bs : Nat → List Bool} {ss : Nat → List Int} (X : Ct g r0 s A B n m looks a c ca cb e ws xss bs ss) (x : Ext g g') : Ct g' r0 s A B n m looks a c ca cb e ws xss bs ss :=
  ⟨cellAt_ext x X.r0_, cellAt_ext x X.r1_, cellAt_ext x X.r2_, cellAt_ext x X.s0_, cellAt_ext x X.s1_, cellAt_ext x X.s2_, fun i hi => let ⟨ub, uc, h1, h2, h3⟩ := X.A_ i hi; ⟨ub, uc, cellAt_ext x h1, h2.ext x, h3⟩,
    fun i hi => let ⟨ub, uc, h1, h2, h3⟩ := X.B_ i hi; ⟨ub, uc, cellAt_ext x h1, h2.ext x, h3⟩, X.W_.ext x, X.wl, fun i hi => let ⟨ub, uc, h1, h2⟩ := X.R_ i hi; ⟨ub, uc, h1, h2.ext x⟩⟩
def endS (x0 : Int) (xss : Nat → List Int) : Nat → Int
  | 0 => x0
  | i + 1 => (xss i).foldl max (endS x0 xss i)
theorem chain_at : ∀ (a : Int) (l : List Int) (k : Nat) (hk : k < l.length), chain a l → lastOf a (l.take k) ≤ l[k]
  | a, x :: r, 0, _, h => h.1
  | a, x :: r, k + 1, hk, h => chain_at x r k (by simpa using hk) h.2
theorem inf3 : Try.prog.info? 3 = some ((Try.prog.info? 3).getD default) := by kernel_rfl
theorem zer3 : ((Try.prog.info? 3).getD default).zero = some (.int .i64 0) := by kernel_rfl
section
variable {PX : Cx Try.prog} {G : H} {mp r0 s A B n m looks : Nat} {a : Option Addr} {c ca cb : Nat} {e x0 : Int} {ws : List Value} {xss : Nat → List Int} {bs : Nat → List Bool} {ss : Nat → List Int} {γ : List Value} {R : Value → H → Prop}
/-- One number of one writer. -/
theorem law_w1 (X : Ct G r0 s A B n m looks a c ca cb e ws xss bs ss) (hmp : G mp = none) (hn : n ≤ 8) (i : Nat) (hi : i < n) (hl : (xss i).length ≤ 50) (T : List Int) (E0 : Int) (Q : Post)
    (F1 : ∀ k (h1 : k < (xss i).length) (h2 : k < (bs i).length), (bs i)[k] = true → lastOf x0 (yes ((xss i).take k) ((bs i).take k)) < (xss i)[k] ∧ (T ++ yes ((xss i).take k) ((bs i).take k)).count (xss i)[k] = 0)
    {l : List (Int × Value)} (hm : MapC l T)
    (hQ : ∀ l' y1 y2 y3, MapC l' (T ++ yes (xss i) (bs i)) → Q .normal [(0, .int .i64 x0), (3, .pointer (some ⟨r0, 0, none⟩)), (5, .pointer (some ⟨s, 0, none⟩)), (7, .int .i64 ((xss i).foldl max E0)), (8, .map (some mp)), (9, .int .i64 (i : Int)), (10, y1), (11, y2), (78, y3)] (hupd G mp (mapO l'))) :
    vc PX c5_l1 (blockQ 2 Q) [(0, .int .i64 x0), (3, .pointer (some ⟨r0, 0, none⟩)), (5, .pointer (some ⟨s, 0, none⟩)), (7, .int .i64 E0), (8, .map (some mp)), (9, .int .i64 (i : Int)), (10, .int .i64 x0), (11, .int .i64 0)] (hupd G mp (mapO l)) := by
  obtain ⟨ub, uc, a1, a2, a3⟩ := X.A_ i hi
  obtain ⟨wb, wc, b1, b2⟩ := X.R_ i (by rw [X.wl]; exact hi)
  refine vc_loop3 (fun v1 v2 v3 h' => ∃ k l', v1 = .int .i64 (((xss i).take k).foldl max E0) ∧ v2 = .int .i64 (lastOf x0 (yes ((xss i).take k) ((bs i).take k))) ∧ v3 = .int .i64 (k : Int) ∧ k ≤ (xss i).length ∧ h' = hupd G mp (mapO l') ∧ MapC l' (T ++ yes ((xss i).take k) ((bs i).take k)))
    (fun _ _ v _ => match v with | .int _ x => (xss i).length - x.toNat | _ => 0) ?_ ?_
  · simp (disch := omega) only [dm_t, wS, simprocAttr, IntKind.bits]
    exact ⟨0, l, rfl, by simp [yes, lastOf], rfl, by omega, rfl, by simpa [yes] using hm⟩
  rintro _ _ _ _ ⟨k, l', rfl, rfl, rfl, hk, rfl, hm'⟩
  have Y := X.ext (Ext.new hmp (mapO l'))
  obtain ⟨p1, hp1, hc1⟩ := Y.W_.load (k := i) (by rw [X.wl]; exact hi) .i64
  rw [b1] at hc1
  have r0' := Y.r0_
  have s0' := Y.s0_
  by_cases hlt : k < (xss i).length
  · have hlt' : (k : Int) < (xss i).length := by omega
    obtain ⟨p2, hp2, hc2⟩ := (b2.ext (Ext.new hmp (mapO l'))).load (k := k) (by simpa using hlt) .i64
    simp only [List.getElem_map] at hc2
    have a1' := cellAt_ext (Ext.new hmp (mapO l')) a1
    obtain ⟨p3, hp3, hc3⟩ := (a2.ext (Ext.new hmp (mapO l'))).load (k := k) (by rw [List.length_map, a3]; exact hlt) .i64
    simp only [List.getElem_map] at hc3
    have dA : idxV1 1 (.slice (some ⟨A, 0, none⟩) n ca) (.int .i64 (i : Int)) = some (.pointer (some ⟨A, i, none⟩)) := by rw [idx_s, chk_pos (by omega)]; simp
    have hkb : k < (bs i).length := by omega
    have tx : (xss i).take (k + 1) = (xss i).take k ++ [(xss i)[k]] := (List.take_append_getElem hlt).symm
    have tb : (bs i).take (k + 1) = (bs i).take k ++ [(bs i)[k]] := (List.take_append_getElem hkb).symm
    have ty : yes ((xss i).take (k + 1)) ((bs i).take (k + 1)) = yes ((xss i).take k) ((bs i).take k) ++ (if (bs i)[k] then [(xss i)[k]] else []) := by
      rw [tx, tb, yes_snoc _ _ _ _ (by simp; omega)]
    have tf : ((xss i).take (k + 1)).foldl max E0 = max (((xss i).take k).foldl max E0) (xss i)[k] := by rw [tx, List.foldl_append]; rfl
    cases hbk : (bs i)[k] with
    | false =>
      rw [hbk] at hc3 ty
      simp (disch := omega) only [dm_t, wS, simprocAttr, IntKind.bits, r0', hp1, hc1, hlt', hp2, hc2, s0', dA, a1', hp3, hc3]
      exact ⟨⟨k + 1, l', by rw [tf], by rw [ty]; simp, by simp, by omega, rfl, by rw [ty]; simpa using hm'⟩, by omega⟩
    | true =>
      rw [hbk] at hc3 ty
      obtain ⟨f1, f2⟩ := F1 k hlt hkb hbk
      simp (disch := omega) only [dm_t, wS, simprocAttr, IntKind.bits, r0', hp1, hc1, hlt', hp2, hc2, s0', dA, a1', hp3, hc3]
      refine raw_lookup Try.underlying63 Try.underlying2 inf3 zer3 rfl rfl (hupd_same _ _ _) ?_
      rw [hm' _, f2]
      simp (disch := omega) only [dm_t, wS, simprocAttr, IntKind.bits]
      refine raw_update Try.underlying63 Try.underlying2 rfl rfl rfl (hupd_same _ _ _) ?_
      rw [hupd_hupd]
      have hm2 : MapC (setI (xss i)[k] (.int .i64 1) l') (T ++ yes ((xss i).take (k + 1)) ((bs i).take (k + 1))) := by
        have := hm'.add (xss i)[k]
        rw [f2] at this
        rw [ty]
        simpa using this
      have f4 : (T ++ yes ((xss i).take (k + 1)) ((bs i).take (k + 1))).count (xss i)[k] = 1 := by
        rw [ty, if_pos rfl, ← List.append_assoc, List.count_append, f2]
        simp
      have f3 : ¬ (xss i)[k] ≤ lastOf x0 (yes ((xss i).take k) ((bs i).take k)) := by omega
      simp (disch := omega) only [dm_t, wS, simprocAttr, IntKind.bits, f3]
      refine raw_lookup Try.underlying63 Try.underlying2 inf3 zer3 rfl rfl (hupd_same _ _ _) ?_
      rw [hm2 _, f4]
      simp (disch := omega) only [dm_t, wS, simprocAttr, IntKind.bits]
      refine ⟨⟨k + 1, _, by rw [tf], ?_, by simp, by omega, rfl, hm2⟩, by omega⟩
      rw [ty, if_pos rfl, lastOf_snoc]
  · have hlt' : ¬ (k : Int) < (xss i).length := by omega
    obtain rfl : k = (xss i).length := by omega
    simp (disch := omega) only [dm_t, wS, simprocAttr, IntKind.bits, r0', hp1, hc1, hlt']
    rw [List.take_length, List.take_of_length_le (by omega)] at hm'
    rw [List.take_length]
    exact hQ _ _ _ _ hm'
/-- All the writers. -/
theorem law_w (X : Ct G r0 s A B n m looks a c ca cb e ws xss bs ss) (hmp : G mp = none) (hn : n ≤ 8) (hl : ∀ i, i < n → (xss i).length ≤ 50) (Q : Post)
    (F1 : ∀ i, i < n → ∀ k (h1 : k < (xss i).length) (h2 : k < (bs i).length), (bs i)[k] = true → lastOf x0 (yes ((xss i).take k) ((bs i).take k)) < (xss i)[k] ∧ (raisedS x0 γ i ++ yes ((xss i).take k) ((bs i).take k)).count (xss i)[k] = 0)
    (F2 : ∀ i, i < n → own (i + 1) γ = yes (xss i) (bs i))
    (hQ : ∀ l' y1 y2, MapC l' (raisedS x0 γ n) → Q .normal [(0, .int .i64 x0), (3, .pointer (some ⟨r0, 0, none⟩)), (5, .pointer (some ⟨s, 0, none⟩)), (7, .int .i64 (endS x0 xss n)), (8, .map (some mp)), (9, y1), (54, y2)] (hupd G mp (mapO l'))) :
    vc PX c5_l0 (blockQ 0 Q) [(0, .int .i64 x0), (3, .pointer (some ⟨r0, 0, none⟩)), (5, .pointer (some ⟨s, 0, none⟩)), (7, .int .i64 x0), (8, .map (some mp)), (9, .int .i64 0)] (hupd G mp (mapO (setI x0 (.int .i64 1) []))) := by
  refine vc_loop2 (fun v1 v2 h' => ∃ i l', v1 = .int .i64 (endS x0 xss i) ∧ v2 = .int .i64 (i : Int) ∧ i ≤ n ∧ h' = hupd G mp (mapO l') ∧ MapC l' (raisedS x0 γ i)) (fun _ v _ => match v with | .int _ x => n - x.toNat | _ => 0) ?_ ?_
  · simp (disch := omega) only [dm_t, wS, simprocAttr, IntKind.bits]
    exact ⟨0, _, rfl, rfl, by omega, rfl, MapC.one x0⟩
  rintro _ _ _ ⟨i, l', rfl, rfl, hi, rfl, hm⟩
  have Y := X.ext (Ext.new hmp (mapO l'))
  have r0' := Y.r0_
  have s0' := Y.s0_
  by_cases hlt : i < n
  · have hlt' : (i : Int) < n := by omega
    obtain ⟨p1, hp1, hc1⟩ := Y.W_.load (k := i) (by rw [X.wl]; exact hlt) .i64
    obtain ⟨wb, wc, b1, b2⟩ := X.R_ i (by rw [X.wl]; exact hlt)
    rw [b1] at hc1
    obtain ⟨ub, uc, a1, a2, a3⟩ := Y.A_ i hlt
    rw [a3] at a1
    have dA : idxV1 1 (.slice (some ⟨A, 0, none⟩) n ca) (.int .i64 (i : Int)) = some (.pointer (some ⟨A, i, none⟩)) := by rw [idx_s, chk_pos (by omega)]; simp
    simp (disch := omega) only [dm_t, wS, simprocAttr, IntKind.bits, r0', hp1, hc1, hlt', s0', dA, a1]
    refine law_w1 X hmp hn i hlt (hl i hlt) (raisedS x0 γ i) (endS x0 xss i) _ (F1 i hlt) hm fun l2 y1 y2 y3 hm2 => ?_
    simp (disch := omega) only [dm_t, wS, simprocAttr, IntKind.bits]
    refine ⟨⟨i + 1, l2, rfl, by simp, by omega, rfl, ?_⟩, by omega⟩
    rw [raisedS, F2 i hlt]
    exact hm2
  · have hlt' : ¬ (i : Int) < n := by omega
    obtain rfl : i = n := by omega
    simp (disch := omega) only [dm_t, wS, simprocAttr, IntKind.bits, r0', hlt']
    exact hQ _ _ _ hm
/-- All the readers. -/
theorem law_r (X : Ct G r0 s A B n m looks a c ca cb e ws xss bs ss) (hmp : G mp = none) (hm8 : m ≤ 8) (hl2 : looks ≤ 200) (Q : Post) {l : List (Int × Value)} {T : List Int} (hm : MapC l T) (F3 : ∀ j, j < m → chain x0 (ss j) ∧ ∀ x ∈ ss j, T.count x ≠ 0) {y0 : Value}
    (hQ : ∀ y1 y2, Q .normal [(0, .int .i64 x0), (3, .pointer (some ⟨r0, 0, none⟩)), (5, .pointer (some ⟨s, 0, none⟩)), (7, y0), (8, .map (some mp)), (13, y1), (118, y2)] (hupd G mp (mapO l))) :
    vc PX c5_l2 (blockQ 4 Q) [(0, .int .i64 x0), (3, .pointer (some ⟨r0, 0, none⟩)), (5, .pointer (some ⟨s, 0, none⟩)), (7, y0), (8, .map (some mp)), (13, .int .i64 0)] (hupd G mp (mapO l)) := by
  have Y := X.ext (Ext.new hmp (mapO l))
  have r1' := Y.r1_
  have r2' := Y.r2_
  have s1' := Y.s1_
  refine vc_loop1 (fun v h' => ∃ i : Nat, v = .int .i64 (i : Int) ∧ i ≤ m ∧ h' = hupd G mp (mapO l)) (fun v _ => match v with | .int _ x => m - x.toNat | _ => 0) ?_ ?_
  · simp (disch := omega) only [dm_t, wS, simprocAttr, IntKind.bits]
    exact ⟨0, rfl, by omega⟩
  rintro _ _ ⟨i, rfl, hi, rfl⟩
  by_cases hlt : i < m
  · have hlt' : (i : Int) < m := by omega
    obtain ⟨ub, uc, a1, a2, a3⟩ := Y.B_ i hlt
    have dA : idxV1 1 (.slice (some ⟨B, 0, none⟩) m cb) (.int .i64 (i : Int)) = some (.pointer (some ⟨B, i, none⟩)) := by rw [idx_s, chk_pos (by omega)]; simp
    obtain ⟨f1, f2⟩ := F3 i hlt
    simp (disch := omega) only [dm_t, wS, simprocAttr, IntKind.bits, r1', r2', hlt', s1', dA, a1]
    refine vc_loop2 (fun v1 v2 h' => ∃ k : Nat, v1 = .int .i64 (lastOf x0 ((ss i).take k)) ∧ v2 = .int .i64 (k : Int) ∧ k ≤ looks ∧ h' = hupd G mp (mapO l)) (fun _ v _ => match v with | .int _ x => looks - x.toNat | _ => 0) ?_ ?_
    · simp (disch := omega) only [dm_t, wS, simprocAttr, IntKind.bits]
      exact ⟨0, by simp [lastOf], rfl, by omega⟩
    rintro _ _ _ ⟨k, rfl, rfl, hk, rfl⟩
    by_cases hlk : k < looks
    · have hlk' : (k : Int) < looks := by omega
      obtain ⟨p3, hp3, hc3⟩ := a2.load (k := k) (by rw [List.length_map, a3]; exact hlk) .i64
      simp only [List.getElem_map] at hc3
      have hks : k < (ss i).length := by omega
      have g1 : ¬ (ss i)[k] < lastOf x0 ((ss i).take k) := by
        have := chain_at x0 (ss i) k hks f1
        omega
      have g2 := f2 (ss i)[k] (List.getElem_mem _)
      simp (disch := omega) only [dm_t, wS, simprocAttr, IntKind.bits, r1', r2', hlk', s1', dA, a1, hp3, hc3, g1]
      refine raw_lookup Try.underlying63 Try.underlying2 inf3 zer3 rfl rfl (hupd_same _ _ _) ?_
      rw [hm _]
      have g3 : ¬ ((T.count (ss i)[k] : Nat) : Int) = 0 := by omega
      simp (disch := omega) only [dm_t, wS, simprocAttr, IntKind.bits, g3]
      refine ⟨⟨k + 1, ?_, by simp, by omega⟩, by omega⟩
      rw [← List.take_append_getElem hks, lastOf_snoc]
    · have hlk' : ¬ (k : Int) < looks := by omega
      simp (disch := omega) only [dm_t, wS, simprocAttr, IntKind.bits, r2', hlk']
      exact ⟨⟨i + 1, by simp, by omega⟩, by omega⟩
  · have hlt' : ¬ (i : Int) < m := by omega
    simp (disch := omega) only [dm_t, wS, simprocAttr, IntKind.bits, r1', hlt']
    exact hQ _ _
end
end Go.Proofs.Ytojhnclkhiffkaa.mk
