/-
  right, whatever a run is; what a run of marks leaves.
-/
import Derived.Test.YtojhnclkhiffkaaM17
namespace Go.Proofs.Ytojhnclkhiffkaa.mk
open Go.Proofs.Ytojhnclkhiffkaa
set_option linter.unusedVariables false
set_option linter.unusedSimpArgs false
/-- May a run not be? -/
def Bad (n : Nat) (r k : Int) : Prop := r < 0 ∨ k < 0 ∨ 64 < n ∨ 64 - (n : Int) < r ∨ 65536 < k ∨ 65536 < r * k
instance (n : Nat) (r k : Int) : Decidable (Bad n r k) := inferInstanceAs (Decidable (_ ∨ _))
section
variable {PX : Cx Try.prog}
theorem right_no {h : H} {a : Option Addr} {n c : Nat} {r k : Int} (hn : n ≤ 17592186044416) (hb : Bad n r k) : Ok PX 29 #[.agg #[.slice a n c, .int .i64 r, .int .i64 k]] h fun v h' => v = .bool false ∧ Ext h h' := by
  refine c29_ok (args := [_]) (by simp) ?_
  simp (disch := omega) only [dm_t, wS, simprocAttr, IntKind.bits]
  intro b hb'
  generalize hG : hupd h b _ = g1
  obtain ⟨e1, q1⟩ := new_ext hG hb'
  clear hG
  have c0 : cellAt g1 ⟨b, 0, none⟩ = some (.slice a n c) := by rw [cellAt_of q1]; rfl
  have c1 : cellAt g1 ⟨b, 1, none⟩ = some (.int .i64 r) := by rw [cellAt_of q1]; rfl
  have c2 : cellAt g1 ⟨b, 2, none⟩ = some (.int .i64 k) := by rw [cellAt_of q1]; rfl
  by_cases h1 : r < 0
  · simp (disch := omega) only [dm_t, wS, simprocAttr, IntKind.bits, c0, c1, c2]
    exact e1
  by_cases h2 : k < 0
  · simp (disch := omega) only [dm_t, wS, simprocAttr, IntKind.bits, c0, c1, c2]
    exact e1
  by_cases h3 : 64 < n
  · simp (disch := omega) only [dm_t, wS, simprocAttr, IntKind.bits, c0, c1, c2]
    exact e1
  by_cases h4 : 64 - (n : Int) < r
  · simp (disch := omega) only [dm_t, wS, simprocAttr, IntKind.bits, c0, c1, c2]
    exact e1
  by_cases h5 : 65536 < k
  · simp (disch := omega) only [dm_t, wS, simprocAttr, IntKind.bits, c0, c1, c2]
    exact e1
  have h6 : 65536 < r * k := by unfold Bad at hb; omega
  have h7 : r * k ≤ 64 * 65536 := Int.mul_le_mul (by omega) (by omega) (by omega) (by omega)
  simp (disch := omega) only [dm_t, wS, simprocAttr, IntKind.bits, c0, c1, c2]
  exact e1
theorem right_yes {h : H} {a : Option Addr} {n c : Nat} {r k : Int} (hb : ¬ Bad n r k) : Ok PX 29 #[.agg #[.slice a n c, .int .i64 r, .int .i64 k]] h fun v h' => v = .bool true ∧ Ext h h' := by
  refine c29_ok (args := [_]) (by simp) ?_
  simp (disch := omega) only [dm_t, wS, simprocAttr, IntKind.bits]
  intro b hb'
  generalize hG : hupd h b _ = g1
  obtain ⟨e1, q1⟩ := new_ext hG hb'
  clear hG
  have c0 : cellAt g1 ⟨b, 0, none⟩ = some (.slice a n c) := by rw [cellAt_of q1]; rfl
  have c1 : cellAt g1 ⟨b, 1, none⟩ = some (.int .i64 r) := by rw [cellAt_of q1]; rfl
  have c2 : cellAt g1 ⟨b, 2, none⟩ = some (.int .i64 k) := by rw [cellAt_of q1]; rfl
  unfold Bad at hb
  have h1 : ¬ r < 0 := by omega
  have h2 : ¬ k < 0 := by omega
  have h3 : ¬ 64 < n := by omega
  have h4 : ¬ 64 - (n : Int) < r := by omega
  have h5 : ¬ 65536 < k := by omega
  have h6 : ¬ 65536 < r * k := by omega
  have h7 : 0 ≤ r * k := Int.mul_nonneg (by omega) (by omega)
  simp (disch := omega) only [dm_t, wS, simprocAttr, IntKind.bits, c0, c1, c2]
  exact e1
end
/-- A slice of a block of this type. -/
def SlT (E : TypeId) (h : H) (v : Value) (xs : List Value) : Prop :=
  (∃ a, v = .slice a 0 0 ∧ xs = []) ∨
  ∃ b o cp c fr, v = .slice (some ⟨b, o, none⟩) xs.length cp ∧ h b = some (.cells c E fr) ∧ o + cp ≤ c.size ∧ xs.length ≤ cp ∧ ∀ i (hi : i < xs.length), c[o + i]? = some xs[i]
theorem SlT.sl {E : TypeId} {h : H} {v : Value} {xs : List Value} (s : SlT E h v xs) : Sl h v xs := by
  rcases s with s | ⟨b, o, cp, c, fr, s⟩
  · exact .inl s
  · exact .inr ⟨b, o, cp, c, E, fr, s⟩
theorem SlT.fr {E : TypeId} {T : Nat → Prop} {h h' : H} {v : Value} {xs : List Value} (s : SlT E h v xs) (f : Fr T h h') (hT : ∀ b, T b → ∃ c E' fr, h b = some (.cells c E' fr) ∧ E' ≠ E) : SlT E h' v xs := by
  rcases s with s | ⟨b, o, cp, c, fr, s1, s2, s3⟩
  · exact .inl s
  · refine .inr ⟨b, o, cp, c, fr, s1, f _ _ s2 fun hb => ?_, s3⟩
    obtain ⟨c', E', fr', h1, h2⟩ := hT b hb
    rw [s2] at h1
    injection h1 with h1
    injection h1 with _ h1 _
    exact h2 h1.symm
section
variable {fin : Value → H → Prop}
/-- What a run of marks leaves: the history; what the writers and the readers answered. -/
structure RunEnd (fin : Value → H → Prop) (A B Wg M n m looks : Nat) (x0 : Int) (xss : Nat → List Int) (γ us vs : List Value) (bs : Nat → List Bool) (ss : Nat → List Int) (h' : H) : Prop where
  wg : h' Wg = some (nG (mpr kpost fin) 9 0 [])
  mm : h' M = some (markO (lastV γ))
  a : h' A = some (.cells us.toArray 64)
  la : us.length = n
  b : h' B = some (.cells vs.toArray 22)
  lb : vs.length = m
  hst : (mpr kpost fin).Hst (ent x0 0) γ
  beg : ∃ r, γ = ent x0 0 :: r ∧ ∀ v ∈ r, entB v ≠ 0
  byl : ∀ v ∈ γ, entB v ≤ n + m
  w : ∀ i, i < n → ∃ u, us[i]? = some u ∧ SlT 4 h' u ((bs i).map .bool) ∧ (bs i).length = (xss i).length ∧ own (i + 1) γ = yes (xss i) (bs i) ∧ ∀ x ∈ xss i, x ≤ lastV γ
  r : ∀ j, j < m → ∃ u, vs[j]? = some u ∧ SlT 2 h' u ((ss j).map (.int .i64)) ∧ (ss j).length = looks ∧ own (n + j + 1) γ = [] ∧ (∀ x ∈ ss j, x ∈ γ.map entV) ∧ chain x0 (ss j)
theorem o1_there {O : Nat → Prop} {x h' : H} {E : TypeId} {v : Value} {xs : List Value} (o : O1 O x E v xs) (hc : ∀ b c fr, x b = some (.cells c E fr) → ∃ fr', h' b = some (.cells c E fr')) : SlT E h' v xs := by
  obtain ⟨hr, ⟨rfl, h1⟩ | ⟨b, oo, cp, c, fr, h1, h2, h3, h4, h5, h6, h7⟩⟩ := o
  · refine .inl ⟨_, rfl, ?_⟩
    cases xs with
    | nil => rfl
    | cons x t => simp [one] at h1
  · obtain ⟨fr', h8⟩ := hc _ _ _ h2
    rw [flat_one] at h5
    rw [one_len] at h1 h4
    refine .inr ⟨b, oo, cp, c, fr', h1, h8, by omega, h4, fun i hi => ?_⟩
    exact h5 i hi
theorem RunEnd.fr {A B Wg M n m looks : Nat} {x0 : Int} {xss : Nat → List Int} {γ us vs : List Value} {bs : Nat → List Bool} {ss : Nat → List Int} {h h' : H} {T : Nat → Prop} (X : RunEnd fin A B Wg M n m looks x0 xss γ us vs bs ss h) (f : Fr T h h')
    (hT : ∀ b, T b → ∃ c E' fr, h b = some (.cells c E' fr) ∧ E' ≠ 4 ∧ E' ≠ 2 ∧ E' ≠ 64 ∧ E' ≠ 22 ∧ E' ≠ 34) : RunEnd fin A B Wg M n m looks x0 xss γ us vs bs ss h' := by
  have ncell : ∀ {b c E fr}, h b = some (.cells c E fr) → (E = 64 ∨ E = 22 ∨ E = 34) → ¬ T b := by
    intro b c E fr hb hE ht
    obtain ⟨c', E', fr', h1, _, _, h2⟩ := hT b ht
    rw [hb] at h1
    injection h1 with h1
    injection h1 with _ h1 _
    subst h1
    rcases hE with h | h | h
    · exact h2.1 h
    · exact h2.2.1 h
    · exact h2.2.2 h
  refine ⟨f _ _ X.wg fun ht => ?_, f _ _ X.mm (ncell X.mm (.inr (.inr rfl))), f _ _ X.a (ncell X.a (.inl rfl)), X.la, f _ _ X.b (ncell X.b (.inr (.inl rfl))), X.lb, X.hst, X.beg, X.byl, fun i hi => ?_, fun j hj => ?_⟩
  · obtain ⟨c', E', fr', h1, _⟩ := hT _ ht
    rw [X.wg] at h1
    cases h1
  · obtain ⟨u, h1, h2, h3⟩ := X.w i hi
    exact ⟨u, h1, h2.fr f fun b hb => let ⟨c, E', fr, k1, k2, k3⟩ := hT b hb; ⟨c, E', fr, k1, k2⟩, h3⟩
  · obtain ⟨u, h1, h2, h3⟩ := X.r j hj
    exact ⟨u, h1, h2.fr f fun b hb => let ⟨c, E', fr, k1, k2, k3, k4⟩ := hT b hb; ⟨c, E', fr, k1, k3⟩, h3⟩
theorem skol {α : Type} [Inhabited α] {n : Nat} {p : Nat → α → Prop} (h : ∀ i, i < n → ∃ x, p i x) : ∃ f : Nat → α, ∀ i, i < n → p i (f i) := by
  have : ∀ i, ∃ x, i < n → p i x := fun i => by
    by_cases hi : i < n
    · obtain ⟨x, hx⟩ := h i hi
      exact ⟨x, fun _ => hx⟩
    · exact ⟨default, fun h => absurd h hi⟩
  obtain ⟨f, hf⟩ := Classical.axiomOfChoice this
  exact ⟨f, hf⟩
theorem run_behind {h3 h' : H} {hs : List H} {A B Wg M n m looks : Nat} {x0 : Int} {xss : Nat → List Int}
    (X : Behind (mpr kpost fin) h3 A B Wg M 64 22 n m (ent x0 0) (fun i k => encW i k A n M (xss i)) (fun j k => encR j k B m M looks (ent x0 0)) hs h') :
    ∃ γ us vs bs ss, RunEnd fin A B Wg M n m looks x0 xss γ us vs bs ss h' := by
  obtain ⟨γ, m1, m2, m3, m4, m5⟩ := X.fm
  obtain ⟨us, a1, a2, a3⟩ := X.fa
  obtain ⟨vs, b1, b2, b3⟩ := X.fb
  have at_ : ∀ i, i < n + m → ∃ x, hs[i]? = some x := fun i hi => ⟨hs[i]'(by rw [X.len]; exact hi), List.getElem?_eq_getElem _⟩
  have lst : ∀ {k : Nat} {L : List Value}, L ≠ [] → (mpr kpost fin).Ext k L γ → lastV L ≤ lastV γ := fun hL hx => by
    rcases ext_last hx ⟨_, m2⟩ hL with h | h
    · rw [h]; exact Int.le_refl _
    · omega
  have W : ∀ i, i < n → ∃ bs : List Bool, ∃ u, us.toList[i]? = some u ∧ SlT 4 h' u (bs.map .bool) ∧ bs.length = (xss i).length ∧ own (i + 1) γ = yes (xss i) bs ∧ ∀ x ∈ xss i, x ≤ lastV γ := by
    intro i hi
    obtain ⟨x, hx⟩ := at_ i (by omega)
    obtain ⟨γ', bs, u, L⟩ := kpost_W (X.p1 i x hi hx)
    have hmem : x ∈ hs := List.mem_of_getElem? hx
    have he := m5 i x hx γ' L.m
    refine ⟨bs, u, by rw [Array.getElem?_toList]; exact a3 x i u hmem L.a, o1_there L.o fun b c fr hb => X.kid x b c _ fr hmem hb (by show (_ : Nat) ≠ 99; decide), L.len, by rw [own_ext he, L.own], fun y hy => Int.le_trans (L.le y hy) (lst L.ne he)⟩
  have R : ∀ j, j < m → ∃ ss : List Int, ∃ u, vs.toList[j]? = some u ∧ SlT 2 h' u (ss.map (.int .i64)) ∧ ss.length = looks ∧ own (n + j + 1) γ = [] ∧ (∀ x ∈ ss, x ∈ γ.map entV) ∧ chain x0 ss := by
    intro j hj
    obtain ⟨x, hx⟩ := at_ (n + j) (by omega)
    obtain ⟨γ', ss, u, L⟩ := kpost_R (X.p2 j x hj hx)
    have hmem : x ∈ hs := List.mem_of_getElem? hx
    have he := m5 (n + j) x hx γ' L.m
    refine ⟨ss, u, by rw [Array.getElem?_toList]; exact b3 x j u hmem L.a, o1_there L.o fun b c fr hb => X.kid x b c _ fr hmem hb (by show (_ : Nat) ≠ 99; decide), L.len, by rw [own_ext he, L.own], fun y hy => ?_, L.ch⟩
    obtain ⟨r, rfl, _⟩ := he
    have := L.mem y hy
    rw [List.map_append]
    exact List.mem_append_left _ this
  obtain ⟨bs, hbs⟩ := skol W
  obtain ⟨ss, hss⟩ := skol R
  obtain ⟨r, rfl, hr⟩ := m3
  exact ⟨_, us.toList, vs.toList, bs, ss, ⟨X.wg, m1, a1, by simpa using a2, b1, by simpa using b2, m2, ⟨r, rfl, hr⟩, m4, hbs, hss⟩⟩
end
end Go.Proofs.Ytojhnclkhiffkaa.mk
namespace Go.Proofs.Ytojhnclkhiffkaa.mk
open Go.Proofs.Ytojhnclkhiffkaa
set_option linter.unusedVariables false
set_option linter.unusedSimpArgs false
theorem allP_upd {h : H} {b : Nat} {o : Obj} (hp : allP h) (ho : plainO o) : allP (hupd h b o) := by
  intro x y hx
  unfold hupd at hx
  split at hx
  · cases hx; exact ho
  · exact hp x y hx
theorem ne_ty {h : H} {b b' : Nat} {c c' : Array Value} {E E' : TypeId} {fr fr' : Nat × Nat} (h1 : h b = some (.cells c E fr)) (h2 : h b' = some (.cells c' E' fr')) (hE : E ≠ E') : b ≠ b' := by
  rintro rfl
  rw [h1] at h2
  injection h2 with h2
  injection h2 with _ h2 _
  exact hE h2
theorem pl_cells (c : Array Value) (E : TypeId) (fr : Nat × Nat) : plainO (.cells c E fr) := ⟨rfl, rfl⟩
section
variable {fin : Value → H → Prop}
def RunP (fin : Value → H → Prop) (h0 hc : H) (n m looks : Nat) (x0 : Int) (xss : Nat → List Int) (v : Value) (h' : H) : Prop :=
  ∃ A B Wg M γ us vs bs ss ca cb, v = .tuple #[.agg #[.slice (some ⟨A, 0, none⟩) n ca, .slice (some ⟨B, 0, none⟩) m cb, .int .i64 (lastV γ)], .int .i64 0] ∧
      RunEnd fin A B Wg M n m looks x0 xss γ us vs bs ss h' ∧ (∀ b o, h0 b = some o → ∃ c E fr, o = .cells c E (roF c) ∧ h' b = some (.cells c E fr)) ∧ ∀ b c E, hc b = some (.cells c E) → h' b = some (.cells c E)
def roL (L : List Nat) (h : H) : H := fun b => if b ∈ L then (match h b with | some (.cells c E _) => some (.cells c E (roO c)) | o => o) else h b
theorem gh_roL {pr : Pro} {h' : H} : ∀ (L : List Nat) (h : H), L.Nodup → (∀ b ∈ L, ∃ c E, h b = some (.cells c E)) → Gh pr (roL L h) h' → Gh pr h h'
  | [], h, _, _, x => by
    have : roL [] h = h := by funext b; simp [roL]
    rwa [this] at x
  | b :: L, h, hn, hc, x => by
    obtain ⟨c, E, hb⟩ := hc b (by simp)
    rw [List.nodup_cons] at hn
    refine Gh.ro b c E hb (gh_roL L _ hn.2 (fun y hy => ?_) ?_)
    · have : y ≠ b := by rintro rfl; exact hn.1 hy
      rw [hupd_ne _ _ this]
      exact hc y (by simp [hy])
    · have : roL L (hupd h b (.cells c E (roO c))) = roL (b :: L) h := by
        funext y
        unfold roL hupd
        by_cases e : y = b
        · subst e
          simp [hn.1, hb]
        · simp [e]
      rwa [this]
theorem kid_ro {pr : Pro} {h3 : H} {A B Wg M ib X n z1 z2 z3 z4 i k : Nat} {EA EB E' E : TypeId} {LA LB c : Array Value} {fr : Nat × Nat} {z e0 d : Value} {ds : List Value} (hA : h3 A = some (noteO EA z1 0 z2 LA)) (hB : h3 B = some (noteO EB z3 0 z4 LB)) (hM : h3 M = some (nM pr 0 [e0])) (hW : h3 Wg = some (nG pr 0 0 ds))
    (hib : h3 ib = none) (hx : h3 X = some (.cells c E fr)) (hr : isRo c fr) : kidH pr h3 A B Wg M ib E' n z e0 i k d X = some (.cells c E fr) := by
  unfold kidH
  rw [if_neg (by rintro rfl; rw [hW] at hx; cases hx), if_neg (by rintro rfl; rw [hib] at hx; cases hx), if_neg (by rintro rfl; rw [hA] at hx; cases hx), if_neg (by rintro rfl; rw [hB] at hx; cases hx), if_neg (by rintro rfl; rw [hM] at hx; cases hx), hx, roX_ro hr]
theorem kid_wg {pr : Pro} {h3 : H} {A B Wg M ib n i k : Nat} {E' : TypeId} {z e0 d : Value} : kidH pr h3 A B Wg M ib E' n z e0 i k d Wg = some (nW pr d) := by
  unfold kidH; rw [if_pos rfl]
theorem kid_ib {pr : Pro} {h3 : H} {A B Wg M ib n i k : Nat} {E' : TypeId} {z e0 d : Value} (h1 : ib ≠ Wg) : kidH pr h3 A B Wg M ib E' n z e0 i k d ib = some (.cells #[.int .i64 (i : Int)] 3) := by
  unfold kidH; rw [if_neg h1, if_pos rfl]
theorem kid_a {pr : Pro} {h3 : H} {A B Wg M ib n i k : Nat} {E' : TypeId} {z e0 d : Value} (h1 : A ≠ Wg) (h2 : A ≠ ib) : kidH pr h3 A B Wg M ib E' n z e0 i k d A = some (oneO i z n E') := by
  unfold kidH; rw [if_neg h1, if_neg h2, if_pos rfl]
theorem kid_m {pr : Pro} {h3 : H} {A B Wg M ib n i k : Nat} {E' : TypeId} {z e0 d : Value} (h1 : M ≠ Wg) (h2 : M ≠ ib) (h3' : M ≠ A) (h4 : M ≠ B) : kidH pr h3 A B Wg M ib E' n z e0 i k d M = some (nM pr k [e0]) := by
  unfold kidH; rw [if_neg h1, if_neg h2, if_neg h3', if_neg h4, if_pos rfl]
theorem ne_ro {h : H} {b b' : Nat} {c c' : Array Value} {E E' : TypeId} (h1 : h b = some (.cells c E (roF c))) (h2 : h b' = some (.cells c' E')) : b ≠ b' := by
  rintro rfl
  rw [h1] at h2
  injection h2 with h2
  injection h2 with _ _ h2
  exact absurd (congrArg Prod.snd h2) (by simp [roF])
theorem zc_size (n : Nat) : (Builtin.zeroCells #[Value.slice none 0 0] n).size = n := by simp [Builtin.zeroCells]
theorem zc_at {n i : Nat} (h : i < n) : (Builtin.zeroCells #[Value.slice none 0 0] n)[i]? = some (.slice none 0 0) := by
  simp [Builtin.zeroCells, h, Nat.mod_one]
def RunQ (fin : Value → H → Prop) (h0 g : H) (n m looks : Nat) (x0 : Int) (xss : Nat → List Int) (A B M Mv S p sb0 : Nat) (h' : H) : Prop :=
  ∃ Wg γ us vs bs ss, RunEnd fin A B Wg M n m looks x0 xss γ us vs bs ss h' ∧ h' p = some (.cells #[.slice none 0 0, .slice none 0 0, .int .i64 0] 59) ∧ h' S = some (.cells #[.slice (some ⟨A, 0, none⟩) n n, .slice (some ⟨B, 0, none⟩) m m, .int .i64 0] 59) ∧
    h' Mv = some (.cells #[.pointer (some ⟨M, 0, none⟩)] 24) ∧ (∀ b o, h0 b = some o → ∃ c E fr, o = .cells c E (roF c) ∧ h' b = some (.cells c E fr)) ∧
    ∀ b c E, g b = some (.cells c E) → b ≠ A → b ≠ B → b ≠ M → b ≠ Mv → b ≠ S → b ≠ sb0 → h' b = some (.cells c E)
theorem gh_make {pr : Pro} {h : H} {Wg M A B : Nat} {L : List Nat} {e0 : Value} {cA cB : Array Value} {EA EB : TypeId} (hnd : (Wg :: M :: A :: B :: L).Nodup) (hp : allP h) (hW : h Wg = some (.cells #[.int .u64 0, .int .u32 0] pr.tg)) (hM : h M = some (.cells #[pr.val [e0]] pr.E)) (hpub : ∀ b, pr.pub [e0] b = none) (hby : pr.by_ e0 = 0)
    (hA : h A = some (.cells cA EA)) (hB : h B = some (.cells cB EB)) (hL : ∀ b ∈ L, ∃ c E, h b = some (.cells c E)) :
    ∃ h3, Gh pr h h3 ∧ h3 Wg = some (nG pr 0 0 []) ∧ h3 M = some (nM pr 0 [e0]) ∧ h3 A = some (noteO EA cA.size 0 0 cA) ∧ h3 B = some (noteO EB cB.size 0 0 cB) ∧ (∀ b c E, b ∈ L → h b = some (.cells c E) → h3 b = some (.cells c E (roO c))) ∧
      ∀ b, b ∉ Wg :: M :: A :: B :: L → h3 b = h b := by
  simp only [List.nodup_cons, List.mem_cons, not_or] at hnd
  obtain ⟨⟨w1, w2, w3, w4⟩, ⟨m1, m2, m3⟩, ⟨a1, a2⟩, b1, hnL⟩ := hnd
  generalize hh1 : hupd (hupd h M (nM pr 0 [e0])) Wg (nG pr 0 0 []) = h1
  have x1 : ∀ y, y ≠ M → y ≠ Wg → h1 y = h y := fun y y1 y2 => by rw [← hh1, hupd_ne _ _ y2, hupd_ne _ _ y1]
  have x1W : h1 Wg = some (nG pr 0 0 []) := by rw [← hh1, hupd_same]
  have x1M : h1 M = some (nM pr 0 [e0]) := by rw [← hh1, hupd_ne _ _ (Ne.symm w1), hupd_same]
  have nL : ∀ {y z}, y ∈ L → z ∉ L → y ≠ z := fun h1 h2 e => h2 (e ▸ h1)
  generalize hh2 : roL L h1 = h2
  have x2 : ∀ y, y ∉ L → h2 y = h1 y := fun y hy => by rw [← hh2]; unfold roL; rw [if_neg hy]
  have x2L : ∀ y c E, y ∈ L → h y = some (.cells c E) → h2 y = some (.cells c E (roO c)) := fun y c E hy hc => by
    rw [← hh2]; unfold roL; rw [if_pos hy, x1 _ (nL hy m3) (nL hy w4), hc]
  refine ⟨hupd (hupd h2 A (noteO EA cA.size 0 0 cA)) B (noteO EB cB.size 0 0 cB), ?_, ?_, ?_, ?_, ?_, ?_, ?_⟩
  · refine Gh.opn M Wg e0 hp hM hW hpub hby (Ne.symm w1) ?_
    rw [hh1]
    refine gh_roL L _ hnL (fun b hb => ?_) ?_
    · rw [x1 _ (nL hb m3) (nL hb w4)]; exact hL b hb
    · rw [hh2]
      have hAA : h2 A = some (.cells cA EA) := by rw [x2 _ a2, x1 _ (Ne.symm m1) (Ne.symm w2), hA]
      have hBB : h2 B = some (.cells cB EB) := by rw [x2 _ b1, x1 _ (Ne.symm m2) (Ne.symm w3), hB]
      have hWW : h2 Wg = some (nG pr 0 0 []) := by rw [x2 _ w4, x1W]
      refine Gh.part A cA EA hAA ⟨Wg, 0, 0, [], by omega, hWW⟩ (Gh.part B cB EB ?_ ⟨Wg, 0, 0, [], by omega, ?_⟩ (Gh.refl _))
      · rw [hupd_ne _ _ (Ne.symm a1)]; exact hBB
      · rw [hupd_ne _ _ w2]; exact hWW
  · rw [hupd_ne _ _ w3, hupd_ne _ _ w2, x2 _ w4, x1W]
  · rw [hupd_ne _ _ m2, hupd_ne _ _ m1, x2 _ m3, x1M]
  · rw [hupd_ne _ _ a1, hupd_same]
  · rw [hupd_same]
  · intro b c E hb hc
    rw [hupd_ne _ _ (nL hb b1), hupd_ne _ _ (nL hb a2)]
    exact x2L b c E hb hc
  · intro b hb
    simp only [List.mem_cons, not_or] at hb
    obtain ⟨h1, h2', h3, h4, h5⟩ := hb
    rw [hupd_ne _ _ h4, hupd_ne _ _ h3, x2 _ h5, x1 _ h2' h1]
theorem Run_all {h0 g : H} {x0 : Int} {a : Option Addr} {n c m looks sb0 p M Mv S A B : Nat} {ws : List Value} {xss : Nat → List Int} (hE : Ext h0 g) (hp : allP g) (hro : ∀ b o, h0 b = some o → ∃ c E, o = .cells c E (roF c)) (hW : Sl h0 (.slice a n c) ws) (hn : ws.length = n)
    (hrow : ∀ i (hi : i < ws.length), Sl h0 ws[i] ((xss i).map (.int .i64)) ∧ (xss i).length ≤ 17592186044416) (hb : ¬ Bad n m looks)
    (q1 : g sb0 = some (.cells #[.slice a n c, .int .i64 m, .int .i64 looks] 56)) (q2 : g p = some (.cells #[.slice none 0 0, .slice none 0 0, .int .i64 0] 59)) (q3 : g M = some (markO x0)) (q5 : g Mv = some (.cells #[.pointer (some ⟨M, 0, none⟩)] 24))
    (qA : g A = some (.cells (Builtin.zeroCells #[.slice none 0 0] n) 64)) (qB : g B = some (.cells (Builtin.zeroCells #[.slice none 0 0] m) 22)) (qS : g S = some (.cells #[.slice (some ⟨A, 0, none⟩) n n, .slice (some ⟨B, 0, none⟩) m m, .int .i64 0] 59)) (pS : p ≠ S) :
    Ok (CM (mpr kpost fin) Try.prog) 30 #[.agg #[.slice a n c, .int .i64 m, .int .i64 looks], .func (.func 31) #[] #[.pointer (some ⟨sb0, 0, none⟩), .pointer (some ⟨S, 0, none⟩), .pointer (some ⟨Mv, 0, none⟩)], .func (.func 32) #[] #[.pointer (some ⟨sb0, 0, none⟩), .pointer (some ⟨S, 0, none⟩), .pointer (some ⟨Mv, 0, none⟩)]] g
      fun _ h' => RunQ fin h0 g n m looks x0 xss A B M Mv S p sb0 h' := by
  unfold Bad at hb
  have hml : looks ≤ 65536 := by omega
  refine all_ok (sf := [.slice a n c, .int .i64 m, .int .i64 looks]) rfl rfl ?_
  intro sb w1 w2 Wg f_sb f_w1 f_w2 f_Wg n1 n2 n3 n4 n5 n6
  generalize hcA : Builtin.zeroCells #[Value.slice none 0 0] n = cA at qA
  have sA : cA.size = n := hcA ▸ zc_size n
  have tA : ∀ i, i < n → cA[i]? = some (.slice none 0 0) := fun i hi => hcA ▸ zc_at hi
  generalize hcB : Builtin.zeroCells #[Value.slice none 0 0] m = cB at qB
  have sB : cB.size = m := hcB ▸ zc_size m
  have tB : ∀ i, i < m → cB[i]? = some (.slice none 0 0) := fun i hi => hcB ▸ zc_at hi
  have n7 := ne_of q1 f_sb
  generalize hH : hupd (hupd (hupd (hupd g sb _) w1 _) w2 _) Wg _ = H0
  have kW : H0 Wg = some (.cells #[.int .u64 0, .int .u32 0] 99) := by rw [← hH, hupd_same]
  have k2 : H0 w2 = some (.cells #[.func (.func 32) #[] #[.pointer (some ⟨sb0, 0, none⟩), .pointer (some ⟨S, 0, none⟩), .pointer (some ⟨Mv, 0, none⟩)]] 80) := by rw [← hH, hupd_ne _ _ n6.symm, hupd_same]
  have k1 : H0 w1 = some (.cells #[.func (.func 31) #[] #[.pointer (some ⟨sb0, 0, none⟩), .pointer (some ⟨S, 0, none⟩), .pointer (some ⟨Mv, 0, none⟩)]] 80) := by rw [← hH, hupd_ne _ _ n5.symm, hupd_ne _ _ n3.symm, hupd_same]
  have ks : H0 sb = some (.cells #[.slice a n c, .int .i64 m, .int .i64 looks] 56) := by rw [← hH, hupd_ne _ _ n4.symm, hupd_ne _ _ n2.symm, hupd_ne _ _ n1.symm, hupd_same]
  have eH : Ext g H0 := fun x o hx _ => by rw [← hH, hupd_ne _ _ (ne_of hx f_Wg), hupd_ne _ _ (ne_of hx f_w2), hupd_ne _ _ (ne_of hx f_w1), hupd_ne _ _ (ne_of hx f_sb), hx]
  have pH : allP H0 := hH ▸ allP_upd (allP_upd (allP_upd (allP_upd hp (pl_cells _ _ _)) (pl_cells _ _ _)) (pl_cells _ _ _)) (pl_cells _ _ _)
  clear hH
  replace q1 := eH.at q1; replace q2 := eH.at q2; replace q3 := eH.at q3; replace q5 := eH.at q5; replace qA := eH.at qA; replace qB := eH.at qB; replace qS := eH.at qS
  replace hE := hE.trans eH
  have hnd : (Wg :: M :: A :: B :: [sb, w1, w2, sb0, S, Mv]).Nodup := by
    simp only [List.nodup_cons, List.mem_cons, List.not_mem_nil, or_false, not_or, not_false_eq_true, List.nodup_nil, and_true]
    repeat' refine And.intro ?_ ?_
    all_goals first | exact ne_ty (by assumption) (by assumption) (by decide) | assumption | exact Ne.symm (by assumption)
  obtain ⟨h3, gh, gW, gM, gA, gB, gL, gO⟩ := gh_make (pr := mpr kpost fin) (e0 := ent x0 0) hnd pH kW q3 (fun _ => rfl) (entB_ent x0 0) qA qB (by
    intro b hb
    simp only [List.mem_cons, List.not_mem_nil, or_false] at hb
    rcases hb with rfl | rfl | rfl | rfl | rfl | rfl
    all_goals exact ⟨_, _, by assumption⟩)
  have gs := gL _ _ _ (by simp) ks
  have g1 := gL _ _ _ (by simp) k1
  have g2 := gL _ _ _ (by simp) k2
  have gs0 := gL _ _ _ (by simp) q1
  have gS := gL _ _ _ (by simp) qS
  have gV := gL _ _ _ (by simp) q5
  have gp : h3 p = some (.cells #[.slice none 0 0, .slice none 0 0, .int .i64 0] 59) := by
    rw [gO, q2]
    simp only [List.mem_cons, List.not_mem_nil, or_false, not_or]
    repeat' refine And.intro ?_ ?_
    all_goals first | exact ne_ty q2 (by assumption) (by decide) | exact pS
  have base : ∀ b o, h0 b = some o → ∃ c E, o = .cells c E (roF c) ∧ h3 b = some (.cells c E (roF c)) ∧ b ≠ Wg ∧ b ≠ A ∧ b ≠ B := by
    intro b o hb0
    obtain ⟨c, E, rfl⟩ := hro b o hb0
    have hb1 := hE.at hb0
    refine ⟨c, E, rfl, ?_, ne_ro hb1 kW, ne_ro hb1 qA, ne_ro hb1 qB⟩
    rw [gO, hb1]
    simp only [List.mem_cons, List.not_mem_nil, or_false, not_or]
    repeat' refine And.intro ?_ ?_
    all_goals exact ne_ro hb1 (by assumption)
  rw [sA] at gA
  rw [sB] at gB
  have AM := ne_ty qA q3 (by decide)
  have BM := ne_ty qB q3 (by decide)
  have AW := ne_ty qA kW (by decide)
  have BW := ne_ty qB kW (by decide)
  have MW := ne_ty q3 kW (by decide)
  refine ⟨n, m, _, h3, gh, givs_of (EA := 64) (EB := 22) (e0 := ent x0 0) (e1 := fun i k => encW i k A n M (xss i)) (e2 := fun j k => encR j k B m M looks (ent x0 0)) gs gA gB gM gW ?_ tA tB (by omega) ?_ ?_ ?_, ?_, ?_, fun h => absurd rfl h⟩
  · exact ne_ty qA qB (by decide)
  · intro i ib hi hib
    have kr : ∀ {X c E fr}, h3 X = some (.cells c E fr) → isRo c fr → kidH (mpr kpost fin) h3 A B Wg M ib 64 n (.slice none 0 0) (ent x0 0) i (i + 1) (encW i (i + 1) A n M (xss i)) X = some (.cells c E fr) := fun hx hr => kid_ro gA gB gM gW hib hx hr
    have sl : ∀ {v xs}, Sl h0 v xs → Sl (kidH (mpr kpost fin) h3 A B Wg M ib 64 n (.slice none 0 0) (ent x0 0) i (i + 1) (encW i (i + 1) A n M (xss i))) v xs := by
      rintro v xs (s | ⟨b, o, cp, c, E, fr, s1, s2, s3⟩)
      · exact .inl s
      · obtain ⟨c', E', e1, e2, _⟩ := base _ _ s2
        cases e1
        exact .inr ⟨b, o, cp, c, E, _, s1, kr e2 (isRo_roF _), s3⟩
    have iW : ib ≠ Wg := (ne_of gW hib).symm
    refine wchild (R := sb0) (S := S) (Mv := Mv) (A := A) (M := M) (i := i) (n := n) (k := i + 1) (e0 := ent x0 0) (ws := ws) (xs := xss i) htg kid_wg ?_ (kid_ib iW) (kr gs0 (isRo_roO _)) (kr gS (isRo_roO _)) (kr gV (isRo_roO _)) (kid_a AW (ne_of gA hib)) (kid_m MW (ne_of gM hib) AM.symm BM.symm) ?_ hi (sl hW) (by omega) (sl (hrow i (by omega)).1) (hrow i (by omega)).2 ⟨AW.symm, MW.symm, (ne_of gA hib).symm, (ne_of gM hib).symm⟩
    · rw [cellAt_of (kr g1 (isRo_roO _))]; rfl
    · rw [entB_ent]; omega
  · intro j ib hj hib
    have kr : ∀ {X c E fr}, h3 X = some (.cells c E fr) → isRo c fr → kidH (mpr kpost fin) h3 B A Wg M ib 22 m (.slice none 0 0) (ent x0 0) j (n + j + 1) (encR j (n + j + 1) B m M looks (ent x0 0)) X = some (.cells c E fr) := fun hx hr => kid_ro gB gA gM gW hib hx hr
    have iW : ib ≠ Wg := (ne_of gW hib).symm
    refine rchild (R := sb0) (S := S) (Mv := Mv) (A := B) (M := M) (i := j) (n := m) (k := n + j + 1) (e0 := ent x0 0) (looks := looks) htg kid_wg ?_ (kid_ib iW) (kr gs0 (isRo_roO _)) (kr gS (isRo_roO _)) (kr gV (isRo_roO _)) (kid_a BW (ne_of gB hib)) (kid_m MW (ne_of gM hib) BM.symm AM.symm) ?_ hj (by omega) ⟨BW.symm, MW.symm, (ne_of gB hib).symm, (ne_of gM hib).symm⟩
    · rw [cellAt_of (kr g2 (isRo_roO _))]; rfl
    · rw [entB_ent]; omega
  · intro hs h' X
    obtain ⟨γ, us, vs, bs, ss, hE'⟩ := run_behind X
    refine ⟨Wg, γ, us, vs, bs, ss, hE', ?_, ?_, ?_, ?_, ?_⟩
    · exact X.own _ _ _ gp (ne_ty q2 kW (by decide)) (ne_ty q2 qA (by decide)) (ne_ty q2 qB (by decide))
    · exact X.opn _ _ _ gS (ne_ty qS kW (by decide)) (ne_ty qS qA (by decide)) (ne_ty qS qB (by decide))
    · exact X.opn _ _ _ gV (ne_ty q5 kW (by decide)) (ne_ty q5 qA (by decide)) (ne_ty q5 qB (by decide))
    · intro b o hb0
      obtain ⟨c, E, rfl, h1, h2, h3', h4⟩ := base b o hb0
      obtain ⟨fr', h5⟩ := X.ro _ _ _ _ h1 (isRo_roF _) h2 h3' h4
      exact ⟨c, E, fr', rfl, h5⟩
    · intro b c E hb0 b1 b2 b3 b4 b5 b6
      have hb1 := eH.at hb0
      refine X.own _ _ _ ?_ (ne_of hb0 f_Wg) b1 b2
      rw [gO, hb1]
      simp only [List.mem_cons, List.not_mem_nil, or_false, not_or]
      exact ⟨ne_of hb0 f_Wg, b3, b1, b2, ne_of hb0 f_sb, ne_of hb0 f_w1, ne_of hb0 f_w2, b6, b5, b4⟩
  · funext b
    unfold stH hupd
    by_cases b1 : b = Wg
    · subst b1; rw [if_pos rfl, gW]
    rw [if_neg b1]
    by_cases b2 : b = B
    · subst b2; rw [if_pos rfl, gB]
    rw [if_neg b2]
    by_cases b3 : b = A
    · subst b3; rw [if_pos rfl, gA]
    rw [if_neg b3]
  · rfl
theorem Run_tail {h0 hc g : H} {x0 : Int} {a : Option Addr} {n c m looks sb0 p M Mv S A B : Nat} {ws : List Value} {xss : Nat → List Int} (hE : Ext h0 g) (hp : allP g) (hro : ∀ b o, h0 b = some o → ∃ c E, o = .cells c E (roF c)) (hW : Sl h0 (.slice a n c) ws) (hn : ws.length = n)
    (hrow : ∀ i (hi : i < ws.length), Sl h0 ws[i] ((xss i).map (.int .i64)) ∧ (xss i).length ≤ 17592186044416) (hb : ¬ Bad n m looks)
    (q1 : g sb0 = some (.cells #[.slice a n c, .int .i64 m, .int .i64 looks] 56)) (q2 : g p = some (.cells #[.slice none 0 0, .slice none 0 0, .int .i64 0] 59)) (q3 : g M = some (markO x0)) (q5 : g Mv = some (.cells #[.pointer (some ⟨M, 0, none⟩)] 24))
    (qA : g A = some (.cells (Builtin.zeroCells #[.slice none 0 0] n) 64)) (qB : g B = some (.cells (Builtin.zeroCells #[.slice none 0 0] m) 22)) (qS : g S = some (.cells #[.slice (some ⟨A, 0, none⟩) n n, .slice (some ⟨B, 0, none⟩) m m, .int .i64 0] 59)) (pS : p ≠ S) (EC : Ext hc g) (z : hc sb0 = none ∧ hc p = none ∧ hc M = none ∧ hc Mv = none ∧ hc S = none ∧ hc A = none ∧ hc B = none) (R : Value → H → Prop) (hR : RunP fin h0 hc n m looks x0 xss = R) :
    vc (CM (mpr kpost fin) Try.prog) c19_s3 (retC [Rv.cn 4 3 59, Rv.t 5] (okR R)) [(7, .pointer (some ⟨S, 0, none⟩)), (3, .pointer (some ⟨sb0, 0, none⟩)), (4, .pointer (some ⟨p, 0, none⟩)), (6, .pointer (some ⟨Mv, 0, none⟩))] g := by
  have d := cellsAt_all q1 3 rfl
  simp (disch := omega) only [dm_t, wS, simprocAttr, IntKind.bits, d]
  refine (Run_all hE hp hro hW hn hrow hb q1 q2 q3 q5 qA qB qS pS).k ?_
  rintro _ h1 ⟨Wg, γ, us, vs, bs, ss, X, x1, x2, x3, x4, x5⟩
  have d0 : cellAt h1 ⟨Mv, 0, none⟩ = some (.pointer (some ⟨M, 0, none⟩)) := by rw [cellAt_of x3]; rfl
  simp (disch := omega) only [dm_t, wS, simprocAttr, IntKind.bits, d0]
  refine (get_ok X.mm).k ?_
  rintro _ _ ⟨rfl, rfl⟩
  simp (disch := omega) only [dm_t, wS, simprocAttr, IntKind.bits, storeH_0 x2]
  generalize hG : hupd h1 S _ = h2
  have f2 : Fr (fun y => y = S) h1 h2 := hG ▸ Fr.upd (S := fun y => y = S) rfl _
  have y2 : h2 S = some (.cells #[.slice (some ⟨A, 0, none⟩) n n, .slice (some ⟨B, 0, none⟩) m m, .int .i64 (lastV γ)] 59) := by rw [← hG, hupd_same]
  clear hG
  have X2 := X.fr f2 (by rintro b rfl; exact ⟨_, _, _, x2, by decide, by decide, by decide, by decide, by decide⟩)
  have x12 := f2 _ _ x1 pS
  simp (disch := omega) only [dm_t, wS, simprocAttr, IntKind.bits, cellsAt_all y2 3 rfl]
  refine storeH_all x12 rfl rfl ?_
  generalize hG : hupd h2 p _ = h3
  have f3 : Fr (fun y => y = p) h2 h3 := hG ▸ Fr.upd (S := fun y => y = p) rfl _
  have y3 : h3 p = some (.cells #[.slice (some ⟨A, 0, none⟩) n n, .slice (some ⟨B, 0, none⟩) m m, .int .i64 (lastV γ)] 59) := by rw [← hG, hupd_same]
  clear hG
  have X3 := X2.fr f3 (by rintro b rfl; exact ⟨_, _, _, x12, by decide, by decide, by decide, by decide, by decide⟩)
  simp (disch := omega) only [dm_t, wS, simprocAttr, IntKind.bits, cellsAt_all y3 3 rfl]
  subst hR
  refine ⟨A, B, Wg, M, γ, us, vs, bs, ss, n, m, rfl, X3, fun b o hb0 => ?_, fun b c E hb0 => ?_⟩
  · obtain ⟨c, E, fr, rfl, k⟩ := x4 b o hb0
    have hb1 := hE.at hb0
    exact ⟨c, E, fr, rfl, f3 _ _ (f2 _ _ k (ne_ro hb1 qS)) (ne_ro hb1 q2)⟩
  · obtain ⟨z1, z2, z3, z4, z5, z6, z7⟩ := z
    have k := x5 b c E (EC.at hb0) (ne_of hb0 z6) (ne_of hb0 z7) (ne_of hb0 z3) (ne_of hb0 z4) (ne_of hb0 z5) (ne_of hb0 z1)
    exact f3 _ _ (f2 _ _ k (ne_of hb0 z5)) (ne_of hb0 z2)
theorem Run_ok {h0 h : H} {x0 : Int} {a : Option Addr} {n c m looks : Nat} {ws : List Value} {xss : Nat → List Int} (hE : Ext h0 h) (hp : allP h) (hro : ∀ b o, h0 b = some o → ∃ c E, o = .cells c E (roF c)) (hW : Sl h0 (.slice a n c) ws) (hn : ws.length = n)
    (hrow : ∀ i (hi : i < ws.length), Sl h0 ws[i] ((xss i).map (.int .i64)) ∧ (xss i).length ≤ 17592186044416) (hb : ¬ Bad n m looks) :
    Ok (CM (mpr kpost fin) Try.prog) 19 #[.int .i64 x0, .agg #[.slice a n c, .int .i64 (m : Int), .int .i64 (looks : Int)]] h (RunP fin h0 h n m looks x0 xss) := by
  refine c19_ok (args := [_, _]) (by simp) ?_
  generalize hR : RunP fin h0 h n m looks x0 xss = R
  simp (disch := omega) only [dm_t, wS, simprocAttr, IntKind.bits]
  intro sb0 hsb0 p hpn
  generalize hG : hupd h sb0 _ = g1 at hpn ⊢
  obtain ⟨e1, q1⟩ := new_ext hG hsb0
  have p1 : allP g1 := hG ▸ allP_upd hp (pl_cells _ _ _)
  clear hG
  generalize hG : hupd g1 p _ = g2
  obtain ⟨e2, q2⟩ := new_ext hG hpn
  have p2 : allP g2 := hG ▸ allP_upd p1 (pl_cells _ _ _)
  clear hG
  have q12 := e2.at q1
  simp (disch := omega) only [dm_t, wS, simprocAttr, IntKind.bits, cellsAt_all q12 3 rfl]
  refine (ok_q (right_yes hb) p2).k ?_
  rintro _ g3 ⟨⟨rfl, e3⟩, p3⟩
  have q13 := e3.at q12
  have q23 := e3.at q2
  simp (disch := omega) only [dm_t, wS, simprocAttr, IntKind.bits]
  refine (ok_q (new_ok _ _) p3).k ?_
  rintro _ g4 ⟨⟨M, rfl, hM, hG4⟩, p4⟩
  obtain ⟨e4, q34⟩ := new_ext hG4.symm hM
  clear hG4
  simp (disch := omega) only [dm_t, wS, simprocAttr, IntKind.bits]
  intro Mv hMv
  refine storeH_all (hupd_same _ _ _) rfl rfl ?_
  rw [hupd_hupd]
  generalize hG : hupd g4 Mv _ = g5
  obtain ⟨e5, q5⟩ := new_ext hG hMv
  have p5 : allP g5 := hG ▸ allP_upd p4 (pl_cells _ _ _)
  clear hG
  have E05 : Ext h0 g5 := ((((hE.trans e1).trans e2).trans e3).trans e4).trans e5
  have EC : Ext h g5 := (((e1.trans e2).trans e3).trans e4).trans e5
  have z1 := hsb0
  have z2 := e1.bk hpn
  have z3 := ((e1.trans e2).trans e3).bk hM
  have z4 := (((e1.trans e2).trans e3).trans e4).bk hMv
  have q15 := e5.at (e4.at q13)
  have q25 := e5.at (e4.at q23)
  have q35 := e5.at q34
  clear q13 q23 q34 q12 q1 q2 e1 e2 e3 e4 e5 p1 p2 p3 p4 hE hp hsb0 hpn hM hMv
  have hb0 := hb
  unfold Bad at hb
  have d0 : cellAt g5 ⟨sb0, 0, none⟩ = some (.slice a n c) := by rw [cellAt_of q15]; rfl
  have d1 : cellAt g5 ⟨sb0, 1, none⟩ = some (.int .i64 m) := by rw [cellAt_of q15]; rfl
  simp (disch := omega) only [dm_t, wS, simprocAttr, IntKind.bits, d0, d1]
  simp only [Int.toNat_natCast]
  refine ⟨?_, ?_, ?_⟩
  · (refine ⟨by omega, ?_⟩; intro A hA; have zA := EC.bk hA; generalize hG : hupd _ A _ = g' at ⊢; obtain ⟨e', qA⟩ := new_ext hG hA; have p' : allP g' := hG ▸ allP_upd p5 (pl_cells _ _ _); clear hG; replace E05 := E05.trans e'; replace EC := EC.trans e'; replace q15 := e'.at q15; replace q25 := e'.at q25; replace q35 := e'.at q35; replace q5 := e'.at q5; (try replace qA := e'.at qA); (try replace qB := e'.at qB); (try replace qS := e'.at qS); replace p5 := p'; have d0 : cellAt _ ⟨sb0, 0, none⟩ = some (.slice a n c) := (cellAt_of q15 0).trans rfl; have d1 : cellAt _ ⟨sb0, 1, none⟩ = some (.int .i64 m) := (cellAt_of q15 1).trans rfl; simp (disch := omega) only [dm_t, wS, simprocAttr, IntKind.bits, d0, d1])
    refine ⟨?_, ?_⟩
    · (refine ⟨by omega, ?_⟩; intro B hB; have zB := EC.bk hB; generalize hG : hupd _ B _ = g' at ⊢; obtain ⟨e', qB⟩ := new_ext hG hB; have p' : allP g' := hG ▸ allP_upd p5 (pl_cells _ _ _); clear hG; replace E05 := E05.trans e'; replace EC := EC.trans e'; replace q15 := e'.at q15; replace q25 := e'.at q25; replace q35 := e'.at q35; replace q5 := e'.at q5; (try replace qA := e'.at qA); (try replace qB := e'.at qB); (try replace qS := e'.at qS); replace p5 := p'; have d0 : cellAt _ ⟨sb0, 0, none⟩ = some (.slice a n c) := (cellAt_of q15 0).trans rfl; have d1 : cellAt _ ⟨sb0, 1, none⟩ = some (.int .i64 m) := (cellAt_of q15 1).trans rfl; simp (disch := omega) only [dm_t, wS, simprocAttr, IntKind.bits, d0, d1])
      (intro S hS; have pS := ne_of q25 hS; have S0 := E05.bk hS; have zS := EC.bk hS; generalize hG : hupd _ S _ = g' at ⊢; obtain ⟨e', qS⟩ := new_ext hG hS; have p' : allP g' := hG ▸ allP_upd p5 (pl_cells _ _ _); clear hG; replace E05 := E05.trans e'; replace EC := EC.trans e'; replace q15 := e'.at q15; replace q25 := e'.at q25; replace q35 := e'.at q35; replace q5 := e'.at q5; (try replace qA := e'.at qA); (try replace qB := e'.at qB); (try replace qS := e'.at qS); replace p5 := p'; have d0 : cellAt _ ⟨sb0, 0, none⟩ = some (.slice a n c) := (cellAt_of q15 0).trans rfl; have d1 : cellAt _ ⟨sb0, 1, none⟩ = some (.int .i64 m) := (cellAt_of q15 1).trans rfl; simp (disch := omega) only [dm_t, wS, simprocAttr, IntKind.bits, d0, d1])
      (refine storeH_all qS rfl rfl ?_; generalize hG : hupd _ S _ = g7; have f7 : Fr (fun y => y = S) _ g7 := hG ▸ Fr.upd (S := fun y => y = S) rfl _; have qS7 := hG ▸ hupd_same _ S (.cells #[.slice (some ⟨A, 0, none⟩) n n, .slice (some ⟨B, 0, none⟩) m m, .int .i64 0] 59); have pp7 : allP g7 := hG ▸ allP_upd p5 (pl_cells _ _ _); clear hG; replace E05 := Ext.step' E05 f7 (fun y hy => by rw [hy]; exact S0); replace EC := Ext.step' EC f7 (fun y hy => by rw [hy]; exact zS); replace q15 := f7 _ _ q15 (ne_ty q15 qS (by decide)); replace q25 := f7 _ _ q25 pS; replace q35 := f7 _ _ q35 (ne_ty q35 qS (by decide)); replace q5 := f7 _ _ q5 (ne_ty q5 qS (by decide)); replace qA := f7 _ _ qA (ne_ty qA qS (by decide)); replace qB := f7 _ _ qB (ne_ty qB qS (by decide)); have d0 : cellAt _ ⟨sb0, 0, none⟩ = some (.slice a n c) := (cellAt_of q15 0).trans rfl; have d1 : cellAt _ ⟨sb0, 1, none⟩ = some (.int .i64 m) := (cellAt_of q15 1).trans rfl; have d2 := cellsAt_all q15 3 rfl; have k := Run_tail E05 pp7 hro hW hn hrow hb0 q15 q25 q35 q5 qA qB qS7 pS EC ⟨z1, z2, z3, z4, zS, zA, zB⟩ R hR; revert k; simp (disch := omega) only [dm_t, wS, simprocAttr, IntKind.bits, d0, d1, d2]; exact id)
    · (intro S hS; have pS := ne_of q25 hS; have S0 := E05.bk hS; have zS := EC.bk hS; generalize hG : hupd _ S _ = g' at ⊢; obtain ⟨e', qS⟩ := new_ext hG hS; have p' : allP g' := hG ▸ allP_upd p5 (pl_cells _ _ _); clear hG; replace E05 := E05.trans e'; replace EC := EC.trans e'; replace q15 := e'.at q15; replace q25 := e'.at q25; replace q35 := e'.at q35; replace q5 := e'.at q5; (try replace qA := e'.at qA); (try replace qB := e'.at qB); (try replace qS := e'.at qS); replace p5 := p'; have d0 : cellAt _ ⟨sb0, 0, none⟩ = some (.slice a n c) := (cellAt_of q15 0).trans rfl; have d1 : cellAt _ ⟨sb0, 1, none⟩ = some (.int .i64 m) := (cellAt_of q15 1).trans rfl; simp (disch := omega) only [dm_t, wS, simprocAttr, IntKind.bits, d0, d1])
      (refine ⟨by omega, ?_⟩; intro B hB; have zB := EC.bk hB; generalize hG : hupd _ B _ = g' at ⊢; obtain ⟨e', qB⟩ := new_ext hG hB; have p' : allP g' := hG ▸ allP_upd p5 (pl_cells _ _ _); clear hG; replace E05 := E05.trans e'; replace EC := EC.trans e'; replace q15 := e'.at q15; replace q25 := e'.at q25; replace q35 := e'.at q35; replace q5 := e'.at q5; (try replace qA := e'.at qA); (try replace qB := e'.at qB); (try replace qS := e'.at qS); replace p5 := p'; have d0 : cellAt _ ⟨sb0, 0, none⟩ = some (.slice a n c) := (cellAt_of q15 0).trans rfl; have d1 : cellAt _ ⟨sb0, 1, none⟩ = some (.int .i64 m) := (cellAt_of q15 1).trans rfl; simp (disch := omega) only [dm_t, wS, simprocAttr, IntKind.bits, d0, d1])
      (refine storeH_all qS rfl rfl ?_; generalize hG : hupd _ S _ = g7; have f7 : Fr (fun y => y = S) _ g7 := hG ▸ Fr.upd (S := fun y => y = S) rfl _; have qS7 := hG ▸ hupd_same _ S (.cells #[.slice (some ⟨A, 0, none⟩) n n, .slice (some ⟨B, 0, none⟩) m m, .int .i64 0] 59); have pp7 : allP g7 := hG ▸ allP_upd p5 (pl_cells _ _ _); clear hG; replace E05 := Ext.step' E05 f7 (fun y hy => by rw [hy]; exact S0); replace EC := Ext.step' EC f7 (fun y hy => by rw [hy]; exact zS); replace q15 := f7 _ _ q15 (ne_ty q15 qS (by decide)); replace q25 := f7 _ _ q25 pS; replace q35 := f7 _ _ q35 (ne_ty q35 qS (by decide)); replace q5 := f7 _ _ q5 (ne_ty q5 qS (by decide)); replace qA := f7 _ _ qA (ne_ty qA qS (by decide)); replace qB := f7 _ _ qB (ne_ty qB qS (by decide)); have d0 : cellAt _ ⟨sb0, 0, none⟩ = some (.slice a n c) := (cellAt_of q15 0).trans rfl; have d1 : cellAt _ ⟨sb0, 1, none⟩ = some (.int .i64 m) := (cellAt_of q15 1).trans rfl; have d2 := cellsAt_all q15 3 rfl; have k := Run_tail E05 pp7 hro hW hn hrow hb0 q15 q25 q35 q5 qA qB qS7 pS EC ⟨z1, z2, z3, z4, zS, zA, zB⟩ R hR; revert k; simp (disch := omega) only [dm_t, wS, simprocAttr, IntKind.bits, d0, d1, d2]; exact id)
  · (refine ⟨by omega, ?_⟩; intro B hB; have zB := EC.bk hB; generalize hG : hupd _ B _ = g' at ⊢; obtain ⟨e', qB⟩ := new_ext hG hB; have p' : allP g' := hG ▸ allP_upd p5 (pl_cells _ _ _); clear hG; replace E05 := E05.trans e'; replace EC := EC.trans e'; replace q15 := e'.at q15; replace q25 := e'.at q25; replace q35 := e'.at q35; replace q5 := e'.at q5; (try replace qA := e'.at qA); (try replace qB := e'.at qB); (try replace qS := e'.at qS); replace p5 := p'; have d0 : cellAt _ ⟨sb0, 0, none⟩ = some (.slice a n c) := (cellAt_of q15 0).trans rfl; have d1 : cellAt _ ⟨sb0, 1, none⟩ = some (.int .i64 m) := (cellAt_of q15 1).trans rfl; simp (disch := omega) only [dm_t, wS, simprocAttr, IntKind.bits, d0, d1])
    refine ⟨?_, ?_⟩
    · (refine ⟨by omega, ?_⟩; intro A hA; have zA := EC.bk hA; generalize hG : hupd _ A _ = g' at ⊢; obtain ⟨e', qA⟩ := new_ext hG hA; have p' : allP g' := hG ▸ allP_upd p5 (pl_cells _ _ _); clear hG; replace E05 := E05.trans e'; replace EC := EC.trans e'; replace q15 := e'.at q15; replace q25 := e'.at q25; replace q35 := e'.at q35; replace q5 := e'.at q5; (try replace qA := e'.at qA); (try replace qB := e'.at qB); (try replace qS := e'.at qS); replace p5 := p'; have d0 : cellAt _ ⟨sb0, 0, none⟩ = some (.slice a n c) := (cellAt_of q15 0).trans rfl; have d1 : cellAt _ ⟨sb0, 1, none⟩ = some (.int .i64 m) := (cellAt_of q15 1).trans rfl; simp (disch := omega) only [dm_t, wS, simprocAttr, IntKind.bits, d0, d1])
      (intro S hS; have pS := ne_of q25 hS; have S0 := E05.bk hS; have zS := EC.bk hS; generalize hG : hupd _ S _ = g' at ⊢; obtain ⟨e', qS⟩ := new_ext hG hS; have p' : allP g' := hG ▸ allP_upd p5 (pl_cells _ _ _); clear hG; replace E05 := E05.trans e'; replace EC := EC.trans e'; replace q15 := e'.at q15; replace q25 := e'.at q25; replace q35 := e'.at q35; replace q5 := e'.at q5; (try replace qA := e'.at qA); (try replace qB := e'.at qB); (try replace qS := e'.at qS); replace p5 := p'; have d0 : cellAt _ ⟨sb0, 0, none⟩ = some (.slice a n c) := (cellAt_of q15 0).trans rfl; have d1 : cellAt _ ⟨sb0, 1, none⟩ = some (.int .i64 m) := (cellAt_of q15 1).trans rfl; simp (disch := omega) only [dm_t, wS, simprocAttr, IntKind.bits, d0, d1])
      (refine storeH_all qS rfl rfl ?_; generalize hG : hupd _ S _ = g7; have f7 : Fr (fun y => y = S) _ g7 := hG ▸ Fr.upd (S := fun y => y = S) rfl _; have qS7 := hG ▸ hupd_same _ S (.cells #[.slice (some ⟨A, 0, none⟩) n n, .slice (some ⟨B, 0, none⟩) m m, .int .i64 0] 59); have pp7 : allP g7 := hG ▸ allP_upd p5 (pl_cells _ _ _); clear hG; replace E05 := Ext.step' E05 f7 (fun y hy => by rw [hy]; exact S0); replace EC := Ext.step' EC f7 (fun y hy => by rw [hy]; exact zS); replace q15 := f7 _ _ q15 (ne_ty q15 qS (by decide)); replace q25 := f7 _ _ q25 pS; replace q35 := f7 _ _ q35 (ne_ty q35 qS (by decide)); replace q5 := f7 _ _ q5 (ne_ty q5 qS (by decide)); replace qA := f7 _ _ qA (ne_ty qA qS (by decide)); replace qB := f7 _ _ qB (ne_ty qB qS (by decide)); have d0 : cellAt _ ⟨sb0, 0, none⟩ = some (.slice a n c) := (cellAt_of q15 0).trans rfl; have d1 : cellAt _ ⟨sb0, 1, none⟩ = some (.int .i64 m) := (cellAt_of q15 1).trans rfl; have d2 := cellsAt_all q15 3 rfl; have k := Run_tail E05 pp7 hro hW hn hrow hb0 q15 q25 q35 q5 qA qB qS7 pS EC ⟨z1, z2, z3, z4, zS, zA, zB⟩ R hR; revert k; simp (disch := omega) only [dm_t, wS, simprocAttr, IntKind.bits, d0, d1, d2]; exact id)
    · (intro S hS; have pS := ne_of q25 hS; have S0 := E05.bk hS; have zS := EC.bk hS; generalize hG : hupd _ S _ = g' at ⊢; obtain ⟨e', qS⟩ := new_ext hG hS; have p' : allP g' := hG ▸ allP_upd p5 (pl_cells _ _ _); clear hG; replace E05 := E05.trans e'; replace EC := EC.trans e'; replace q15 := e'.at q15; replace q25 := e'.at q25; replace q35 := e'.at q35; replace q5 := e'.at q5; (try replace qA := e'.at qA); (try replace qB := e'.at qB); (try replace qS := e'.at qS); replace p5 := p'; have d0 : cellAt _ ⟨sb0, 0, none⟩ = some (.slice a n c) := (cellAt_of q15 0).trans rfl; have d1 : cellAt _ ⟨sb0, 1, none⟩ = some (.int .i64 m) := (cellAt_of q15 1).trans rfl; simp (disch := omega) only [dm_t, wS, simprocAttr, IntKind.bits, d0, d1])
      (refine ⟨by omega, ?_⟩; intro A hA; have zA := EC.bk hA; generalize hG : hupd _ A _ = g' at ⊢; obtain ⟨e', qA⟩ := new_ext hG hA; have p' : allP g' := hG ▸ allP_upd p5 (pl_cells _ _ _); clear hG; replace E05 := E05.trans e'; replace EC := EC.trans e'; replace q15 := e'.at q15; replace q25 := e'.at q25; replace q35 := e'.at q35; replace q5 := e'.at q5; (try replace qA := e'.at qA); (try replace qB := e'.at qB); (try replace qS := e'.at qS); replace p5 := p'; have d0 : cellAt _ ⟨sb0, 0, none⟩ = some (.slice a n c) := (cellAt_of q15 0).trans rfl; have d1 : cellAt _ ⟨sb0, 1, none⟩ = some (.int .i64 m) := (cellAt_of q15 1).trans rfl; simp (disch := omega) only [dm_t, wS, simprocAttr, IntKind.bits, d0, d1])
      (refine storeH_all qS rfl rfl ?_; generalize hG : hupd _ S _ = g7; have f7 : Fr (fun y => y = S) _ g7 := hG ▸ Fr.upd (S := fun y => y = S) rfl _; have qS7 := hG ▸ hupd_same _ S (.cells #[.slice (some ⟨A, 0, none⟩) n n, .slice (some ⟨B, 0, none⟩) m m, .int .i64 0] 59); have pp7 : allP g7 := hG ▸ allP_upd p5 (pl_cells _ _ _); clear hG; replace E05 := Ext.step' E05 f7 (fun y hy => by rw [hy]; exact S0); replace EC := Ext.step' EC f7 (fun y hy => by rw [hy]; exact zS); replace q15 := f7 _ _ q15 (ne_ty q15 qS (by decide)); replace q25 := f7 _ _ q25 pS; replace q35 := f7 _ _ q35 (ne_ty q35 qS (by decide)); replace q5 := f7 _ _ q5 (ne_ty q5 qS (by decide)); replace qA := f7 _ _ qA (ne_ty qA qS (by decide)); replace qB := f7 _ _ qB (ne_ty qB qS (by decide)); have d0 : cellAt _ ⟨sb0, 0, none⟩ = some (.slice a n c) := (cellAt_of q15 0).trans rfl; have d1 : cellAt _ ⟨sb0, 1, none⟩ = some (.int .i64 m) := (cellAt_of q15 1).trans rfl; have d2 := cellsAt_all q15 3 rfl; have k := Run_tail E05 pp7 hro hW hn hrow hb0 q15 q25 q35 q5 qA qB qS7 pS EC ⟨z1, z2, z3, z4, zS, zA, zB⟩ R hR; revert k; simp (disch := omega) only [dm_t, wS, simprocAttr, IntKind.bits, d0, d1, d2]; exact id)
  · (intro S hS; have pS := ne_of q25 hS; have S0 := E05.bk hS; have zS := EC.bk hS; generalize hG : hupd _ S _ = g' at ⊢; obtain ⟨e', qS⟩ := new_ext hG hS; have p' : allP g' := hG ▸ allP_upd p5 (pl_cells _ _ _); clear hG; replace E05 := E05.trans e'; replace EC := EC.trans e'; replace q15 := e'.at q15; replace q25 := e'.at q25; replace q35 := e'.at q35; replace q5 := e'.at q5; (try replace qA := e'.at qA); (try replace qB := e'.at qB); (try replace qS := e'.at qS); replace p5 := p'; have d0 : cellAt _ ⟨sb0, 0, none⟩ = some (.slice a n c) := (cellAt_of q15 0).trans rfl; have d1 : cellAt _ ⟨sb0, 1, none⟩ = some (.int .i64 m) := (cellAt_of q15 1).trans rfl; simp (disch := omega) only [dm_t, wS, simprocAttr, IntKind.bits, d0, d1])
    refine ⟨?_, ?_⟩
    · (refine ⟨by omega, ?_⟩; intro A hA; have zA := EC.bk hA; generalize hG : hupd _ A _ = g' at ⊢; obtain ⟨e', qA⟩ := new_ext hG hA; have p' : allP g' := hG ▸ allP_upd p5 (pl_cells _ _ _); clear hG; replace E05 := E05.trans e'; replace EC := EC.trans e'; replace q15 := e'.at q15; replace q25 := e'.at q25; replace q35 := e'.at q35; replace q5 := e'.at q5; (try replace qA := e'.at qA); (try replace qB := e'.at qB); (try replace qS := e'.at qS); replace p5 := p'; have d0 : cellAt _ ⟨sb0, 0, none⟩ = some (.slice a n c) := (cellAt_of q15 0).trans rfl; have d1 : cellAt _ ⟨sb0, 1, none⟩ = some (.int .i64 m) := (cellAt_of q15 1).trans rfl; simp (disch := omega) only [dm_t, wS, simprocAttr, IntKind.bits, d0, d1])
      (refine ⟨by omega, ?_⟩; intro B hB; have zB := EC.bk hB; generalize hG : hupd _ B _ = g' at ⊢; obtain ⟨e', qB⟩ := new_ext hG hB; have p' : allP g' := hG ▸ allP_upd p5 (pl_cells _ _ _); clear hG; replace E05 := E05.trans e'; replace EC := EC.trans e'; replace q15 := e'.at q15; replace q25 := e'.at q25; replace q35 := e'.at q35; replace q5 := e'.at q5; (try replace qA := e'.at qA); (try replace qB := e'.at qB); (try replace qS := e'.at qS); replace p5 := p'; have d0 : cellAt _ ⟨sb0, 0, none⟩ = some (.slice a n c) := (cellAt_of q15 0).trans rfl; have d1 : cellAt _ ⟨sb0, 1, none⟩ = some (.int .i64 m) := (cellAt_of q15 1).trans rfl; simp (disch := omega) only [dm_t, wS, simprocAttr, IntKind.bits, d0, d1])
      (refine storeH_all qS rfl rfl ?_; generalize hG : hupd _ S _ = g7; have f7 : Fr (fun y => y = S) _ g7 := hG ▸ Fr.upd (S := fun y => y = S) rfl _; have qS7 := hG ▸ hupd_same _ S (.cells #[.slice (some ⟨A, 0, none⟩) n n, .slice (some ⟨B, 0, none⟩) m m, .int .i64 0] 59); have pp7 : allP g7 := hG ▸ allP_upd p5 (pl_cells _ _ _); clear hG; replace E05 := Ext.step' E05 f7 (fun y hy => by rw [hy]; exact S0); replace EC := Ext.step' EC f7 (fun y hy => by rw [hy]; exact zS); replace q15 := f7 _ _ q15 (ne_ty q15 qS (by decide)); replace q25 := f7 _ _ q25 pS; replace q35 := f7 _ _ q35 (ne_ty q35 qS (by decide)); replace q5 := f7 _ _ q5 (ne_ty q5 qS (by decide)); replace qA := f7 _ _ qA (ne_ty qA qS (by decide)); replace qB := f7 _ _ qB (ne_ty qB qS (by decide)); have d0 : cellAt _ ⟨sb0, 0, none⟩ = some (.slice a n c) := (cellAt_of q15 0).trans rfl; have d1 : cellAt _ ⟨sb0, 1, none⟩ = some (.int .i64 m) := (cellAt_of q15 1).trans rfl; have d2 := cellsAt_all q15 3 rfl; have k := Run_tail E05 pp7 hro hW hn hrow hb0 q15 q25 q35 q5 qA qB qS7 pS EC ⟨z1, z2, z3, z4, zS, zA, zB⟩ R hR; revert k; simp (disch := omega) only [dm_t, wS, simprocAttr, IntKind.bits, d0, d1, d2]; exact id)
    · (refine ⟨by omega, ?_⟩; intro B hB; have zB := EC.bk hB; generalize hG : hupd _ B _ = g' at ⊢; obtain ⟨e', qB⟩ := new_ext hG hB; have p' : allP g' := hG ▸ allP_upd p5 (pl_cells _ _ _); clear hG; replace E05 := E05.trans e'; replace EC := EC.trans e'; replace q15 := e'.at q15; replace q25 := e'.at q25; replace q35 := e'.at q35; replace q5 := e'.at q5; (try replace qA := e'.at qA); (try replace qB := e'.at qB); (try replace qS := e'.at qS); replace p5 := p'; have d0 : cellAt _ ⟨sb0, 0, none⟩ = some (.slice a n c) := (cellAt_of q15 0).trans rfl; have d1 : cellAt _ ⟨sb0, 1, none⟩ = some (.int .i64 m) := (cellAt_of q15 1).trans rfl; simp (disch := omega) only [dm_t, wS, simprocAttr, IntKind.bits, d0, d1])
      (refine ⟨by omega, ?_⟩; intro A hA; have zA := EC.bk hA; generalize hG : hupd _ A _ = g' at ⊢; obtain ⟨e', qA⟩ := new_ext hG hA; have p' : allP g' := hG ▸ allP_upd p5 (pl_cells _ _ _); clear hG; replace E05 := E05.trans e'; replace EC := EC.trans e'; replace q15 := e'.at q15; replace q25 := e'.at q25; replace q35 := e'.at q35; replace q5 := e'.at q5; (try replace qA := e'.at qA); (try replace qB := e'.at qB); (try replace qS := e'.at qS); replace p5 := p'; have d0 : cellAt _ ⟨sb0, 0, none⟩ = some (.slice a n c) := (cellAt_of q15 0).trans rfl; have d1 : cellAt _ ⟨sb0, 1, none⟩ = some (.int .i64 m) := (cellAt_of q15 1).trans rfl; simp (disch := omega) only [dm_t, wS, simprocAttr, IntKind.bits, d0, d1])
      (refine storeH_all qS rfl rfl ?_; generalize hG : hupd _ S _ = g7; have f7 : Fr (fun y => y = S) _ g7 := hG ▸ Fr.upd (S := fun y => y = S) rfl _; have qS7 := hG ▸ hupd_same _ S (.cells #[.slice (some ⟨A, 0, none⟩) n n, .slice (some ⟨B, 0, none⟩) m m, .int .i64 0] 59); have pp7 : allP g7 := hG ▸ allP_upd p5 (pl_cells _ _ _); clear hG; replace E05 := Ext.step' E05 f7 (fun y hy => by rw [hy]; exact S0); replace EC := Ext.step' EC f7 (fun y hy => by rw [hy]; exact zS); replace q15 := f7 _ _ q15 (ne_ty q15 qS (by decide)); replace q25 := f7 _ _ q25 pS; replace q35 := f7 _ _ q35 (ne_ty q35 qS (by decide)); replace q5 := f7 _ _ q5 (ne_ty q5 qS (by decide)); replace qA := f7 _ _ qA (ne_ty qA qS (by decide)); replace qB := f7 _ _ qB (ne_ty qB qS (by decide)); have d0 : cellAt _ ⟨sb0, 0, none⟩ = some (.slice a n c) := (cellAt_of q15 0).trans rfl; have d1 : cellAt _ ⟨sb0, 1, none⟩ = some (.int .i64 m) := (cellAt_of q15 1).trans rfl; have d2 := cellsAt_all q15 3 rfl; have k := Run_tail E05 pp7 hro hW hn hrow hb0 q15 q25 q35 q5 qA qB qS7 pS EC ⟨z1, z2, z3, z4, zS, zA, zB⟩ R hR; revert k; simp (disch := omega) only [dm_t, wS, simprocAttr, IntKind.bits, d0, d1, d2]; exact id)
end
end Go.Proofs.Ytojhnclkhiffkaa.mk
