/-
  Parts: the steps between crashes.
-/
import Derived.Test.YtooimdgoibdhlaaDoorQo
import Derived.Test.YtooimdgoibdhlaaDoorQe
namespace Go.Proofs.YtooimdgoibdhlaaDoor.sc
open Go Go.Proofs.YtooimdgoibdhlaaDoor Go.RowKit
set_option linter.unusedVariables false
set_option linter.unusedSimpArgs false
/-! ### Plain -/
abbrev ns (l : List St) : Prop := ∀ x ∈ l, x.1 ≠ 4
/-- Parts with a stop between each two. -/
def glu : List (List St) → List St → List St → Prop
  | [], p, l => l = p ∧ ns p
  | q :: Q, p, l => ns q ∧ ∃ s r, s.1 = 4 ∧ l = q ++ s :: r ∧ glu Q p r
theorem glu_add : ∀ {Q : List (List St)} {p l : List St} {x : St}, glu Q p l → x.1 ≠ 4 → glu Q (p ++ [x]) (l ++ [x])
  | [], p, l, x, ⟨h1, h2⟩, hx => ⟨by rw [h1], fun y hy => by
      rcases List.mem_append.1 hy with hy | hy
      · exact h2 y hy
      · rw [List.mem_singleton.1 hy]; exact hx⟩
  | q :: Q, p, l, x, ⟨h0, s, r, h1, h2, h3⟩, hx => ⟨h0, s, r ++ [x], h1, by rw [h2]; simp, glu_add h3 hx⟩
theorem glu_stop : ∀ {Q : List (List St)} {p l : List St} {x : St}, glu Q p l → x.1 = 4 → glu (Q ++ [p]) [] (l ++ [x])
  | [], p, l, x, ⟨h1, h2⟩, hx => ⟨h2, x, [], hx, by rw [h1], rfl, fun y hy => absurd hy List.not_mem_nil⟩
  | q :: Q, p, l, x, ⟨h0, s, r, h1, h2, h3⟩, hx => ⟨h0, s, r ++ [x], h1, by rw [h2]; simp, glu_stop h3 hx⟩
theorem cntK_ns {l : List St} (h : ns l) : cntK 4 l = 0 := by
  unfold cntK
  rw [List.countP_eq_zero]
  intro x hx
  simpa using h x hx
theorem glu_cnt : ∀ {Q : List (List St)} {p l : List St}, glu Q p l → cntK 4 l = Q.length
  | [], p, l, ⟨h1, h2⟩ => by rw [h1, cntK_ns h2]; rfl
  | q :: Q, p, l, ⟨h0, s, r, h1, h2, h3⟩ => by
    rw [h2, cntK_app, cntK_ns h0, show s :: r = [s] ++ r from rfl, cntK_app, glu_cnt h3]
    have := cntK_snoc 4 [] s
    rw [List.nil_append, if_pos h1] at this
    rw [this, show cntK 4 [] = 0 from rfl, List.length_cons]
    omega
/-! ### In memory -/
/-- A step with the rows of its bytes and picks. -/
abbrev El := St × Value × Value
abbrev eCs (e : El) : List Value := sCs e.1 e.2.1 e.2.2
structure OwS (O : Nat → Prop) (g : H) (e : El) : Prop where
  b : sB e.1
  vb : OwB O g 5 e.2.1 e.1.2.2.1
  vp : O1 O g 3 e.2.2 (e.1.2.2.2.2.2.map (.int .i64))
  i : ∀ n ∈ e.1.2.2.2.2.2, inI n
theorem OwS.ext {O : Nat → Prop} {g g' : H} {e : El} (s : OwS O g e) (x : Ext g g') : OwS O g' e := ⟨s.b, OwK.ext s.vb x, OwK.ext s.vp x, s.i⟩
theorem OwS.mono {O O' : Nat → Prop} {g : H} {e : El} (s : OwS O g e) (x : ∀ y o, g y = some o → O y → O' y) : OwS O' g e := ⟨s.b, OwK.mono s.vb x, OwK.mono s.vp x, s.i⟩
theorem OwS.fr {O T : Nat → Prop} {g g' : H} {e : El} (s : OwS O g e) (x : Fr T g g') (h1 : ∀ y, T y → O y → ¬ isAt e.2.1 y) (h2 : ∀ y, T y → O y → ¬ isAt e.2.2 y) : OwS O g' e := ⟨s.b, OwK.fr s.vb x h1, OwK.fr s.vp x h2, s.i⟩
theorem OwS.cells {O : Nat → Prop} {g : H} {e : El} (s : OwS O g e) : (eCs e).all isCell = true :=
  cells_sCs (by obtain ⟨a, c, h⟩ := By.len s.vb.s0; rw [h]; rfl) (by obtain ⟨a, c, h⟩ := S1.len s.vp.s0; rw [h]; rfl)
def Apart (e f : El) : Prop := ∀ y, (isAt e.2.1 y → ¬ isAt f.2.1 y) ∧ (isAt e.2.2 y → ¬ isAt f.2.2 y)
/-- Steps whose memory is their own, each apart from the others. -/
structure Els (O : Nat → Prop) (g : H) (E : List El) : Prop where
  ow : ∀ e ∈ E, OwS O g e
  ap : E.Pairwise Apart
theorem Els.ext {O : Nat → Prop} {g g' : H} {E : List El} (s : Els O g E) (x : Ext g g') : Els O g' E := ⟨fun e he => (s.ow e he).ext x, s.ap⟩
theorem Els.snoc {O : Nat → Prop} {g : H} {E : List El} {e : El} (s : Els O g E) (h : OwS O g e) (ha : ∀ f ∈ E, Apart f e) : Els O g (E ++ [e]) :=
  ⟨fun f hf => by
    rcases List.mem_append.1 hf with hf | hf
    · exact s.ow f hf
    · rw [List.mem_singleton.1 hf]; exact h, List.pairwise_append.2 ⟨s.ap, List.pairwise_singleton _ _, fun f hf e' he' => by rw [List.mem_singleton.1 he']; exact ha f hf⟩⟩
/-- The parts: the outer row, the inner ones. -/
structure PH (O : Nat → Prop) (g : H) (out : Value) (us : List Value) (P : List (List El)) : Prop where
  o : O1 O g 48 out us
  n : us.length = P.length
  inn : ∀ (i : Nat) v p, us[i]? = some v → P[i]? = some p → OwK 7 O g 31 v (p.map eCs)
  ap : us.Pairwise fun v w => ∀ y, isAt v y → ¬ isAt w y
theorem PH.ext {O : Nat → Prop} {g g' : H} {out : Value} {us : List Value} {P : List (List El)} (s : PH O g out us P) (x : Ext g g') : PH O g' out us P :=
  ⟨OwK.ext s.o x, s.n, fun i v p h1 h2 => OwK.ext (s.inn i v p h1 h2) x, s.ap⟩
theorem PH.fr {O T : Nat → Prop} {g g' : H} {out : Value} {us : List Value} {P : List (List El)} (s : PH O g out us P) (x : Fr T g g') (h1 : ∀ y, T y → O y → ¬ isAt out y) (h2 : ∀ v ∈ us, ∀ y, T y → O y → ¬ isAt v y) : PH O g' out us P :=
  ⟨OwK.fr s.o x h1, s.n, fun i v p h3 h4 => OwK.fr (s.inn i v p h3 h4) x (h2 v (List.mem_of_getElem? h3)), s.ap⟩
/-- What Parts answers. -/
def PR (h : H) (l : List St) (v : Value) (h' : H) : Prop :=
  ∃ us Q p, PH (fun y => h y = none) h' v us (Q ++ [p]) ∧ Els (fun y => h y = none) h' (Q ++ [p]).flatten ∧ glu (Q.map (·.map (·.1))) (p.map (·.1)) l
theorem Els.frU {k : Nat} {O O' : Nat → Prop} {g g' : H} {E : List El} {T : TypeId} {w : Value} {rows : List (List Value)} (s : Els O g E) (x : OwK k O' g T w rows) (h5 : T ≠ 5) (h3 : T ≠ 3) (f : Fr (fun y => O y ∧ isAt w y) g g') : Els O g' E :=
  ⟨fun e he => (s.ow e he).fr f (fun y hy _ => OwK.unlike x (s.ow e he).vb h5 hy.2) fun y hy _ => OwK.unlike x (s.ow e he).vp h3 hy.2, s.ap⟩
theorem PH.stop {O : Nat → Prop} {g g' : H} {out v' : Value} {us : List Value} {P : List (List El)} (s : PH O g out us P) (o' : O1 O g' 48 v' (us ++ [.slice none 0 0])) (f : Fr (fun y => O y ∧ isAt out y) g g') : PH O g' v' (us ++ [.slice none 0 0]) (P ++ [[]]) := by
  refine ⟨o', by rw [List.length_append, List.length_append, s.n]; rfl, fun i v p h1 h2 => ?_, ?_⟩
  · by_cases hi : i < us.length
    · rw [List.getElem?_append_left hi] at h1
      rw [List.getElem?_append_left (by rw [← s.n]; exact hi)] at h2
      have := s.inn i v p h1 h2
      exact OwK.fr this f fun y hy _ => OwK.unlike s.o this (by decide) hy.2
    · obtain rfl : i = us.length := by
        have := (List.getElem?_eq_some_iff.1 h1).1
        rw [List.length_append, List.length_singleton] at this
        omega
      rw [List.getElem?_concat_length] at h1
      rw [s.n, List.getElem?_concat_length] at h2
      simp only [Option.some.injEq] at h1 h2
      subst h1 h2
      exact OwK.nil
  · refine List.pairwise_append.2 ⟨s.ap, List.pairwise_singleton _ _, fun v hv w hw y _ hy => ?_⟩
    rw [List.mem_singleton.1 hw] at hy
    obtain ⟨o, n, c, h⟩ := hy
    cases h
theorem PH.add {O : Nat → Prop} {g g1 g2 : H} {out v s' : Value} {us : List Value} {Q : List (List El)} {p : List El} {e : El} (s : PH O g out us (Q ++ [p])) (hv : us[Q.length]? = some v)
    (hn : OwK 7 O g1 31 s' ((p ++ [e]).map eCs)) (f : Fr (fun y => O y ∧ isAt v y) g g1) (hat : ∀ y, isAt s' y → isAt v y ∨ g y = none)
    (o2 : O1 O g2 48 out (us.set Q.length s')) (f2 : Fr (fun y => O y ∧ isAt out y) g1 g2) : PH O g2 out (us.set Q.length s') (Q ++ [p ++ [e]]) := by
  have hul : us.length = Q.length + 1 := by rw [s.n]; simp
  have hvi : OwK 7 O g 31 v (p.map eCs) := s.inn Q.length v p hv (by simp)
  have hoo : OwK 1 O g1 48 out (one us) := OwK.fr s.o f fun y hy _ h => OwK.unlike s.o hvi (by decide) h hy.2
  have hap := List.pairwise_iff_getElem.1 s.ap
  have hvg : us[Q.length]'(by omega) = v := by
    have := List.getElem?_eq_getElem (l := us) (i := Q.length) (by omega)
    rw [this] at hv; exact Option.some.inj hv
  refine ⟨o2, by simp [hul], fun i w q h1 h2 => ?_, ?_⟩
  · by_cases hi : i = Q.length
    · subst hi
      rw [List.getElem?_set_self (by omega)] at h1
      rw [List.getElem?_concat_length] at h2
      simp only [Option.some.injEq] at h1 h2
      subst h1 h2
      exact OwK.fr hn f2 fun y hy _ => OwK.unlike hoo hn (by decide) hy.2
    · rw [List.getElem?_set_ne (fun h => hi h.symm)] at h1
      have hil := (List.getElem?_eq_some_iff.1 h1).1
      have h2' : (Q ++ [p])[i]? = some q := by
        rw [List.getElem?_append_left (by omega)] at h2 ⊢; exact h2
      have hw := s.inn i w q h1 h2'
      have hne : ∀ y, isAt v y → ¬ isAt w y := fun y hy hy' => by
        have h3 := hap i Q.length hil (by omega) (by omega) y
        rw [hvg] at h3
        rw [(List.getElem?_eq_some_iff.1 h1).2] at h3
        exact h3 hy' hy
      have hw1 := OwK.fr hw f fun y hy _ => hne y hy.2
      exact OwK.fr hw1 f2 fun y hy _ => OwK.unlike hoo hw1 (by decide) hy.2
  · refine List.pairwise_iff_getElem.2 fun i j hi hj hij y hy => ?_
    rw [List.length_set] at hi hj
    rw [List.getElem_set_ne (by omega)] at hy
    by_cases hjq : Q.length = j
    · subst hjq
      rw [List.getElem_set_self]
      intro hy'
      rcases hat y hy' with h | h
      · have := hap i Q.length hi hj hij y hy
        rw [hvg] at this
        exact this h
      · have h4 : (Q ++ [p])[i]? = some ((Q ++ [p])[i]'(by rw [← s.n]; exact hi)) := List.getElem?_eq_getElem _
        exact OwK.there (s.inn i _ _ (List.getElem?_eq_getElem hi) h4) hy h
    · rw [List.getElem_set_ne hjq]
      exact hap i j hi hj hij y hy
end Go.Proofs.YtooimdgoibdhlaaDoor.sc
namespace Go.Proofs.YtooimdgoibdhlaaDoor.sc
open Go Go.Proofs.YtooimdgoibdhlaaDoor Go.RowKit
set_option linter.unusedVariables false
set_option linter.unusedSimpArgs false
section
variable {S : Nat → Prop} {h : H}
theorem Parts_ok {v : Value} {l : List St} (r : RepL S stT h v l) (hl : l.length ≤ 200) (hb : ∀ x ∈ l, x.2.2.1.length ≤ 20000 ∧ x.2.2.2.2.2.length ≤ 500) :
    Ok Tryd.prog 31 #[v] h fun r h' => ∃ v, r = .tuple #[v, .int .i64 0] ∧ PR h l v h' ∧ Ext h h' := by
  obtain ⟨va, vc', rfl⟩ := r.len
  refine c31_ok (args := [_]) (by simp) ?_
  simp (disch := omega) only [dm_t, wS, simprocAttr, IntKind.bits]
  intro ob hob
  generalize hG : hupd h ob _ = g1
  have o1 : O1 (fun y => h y = none) g1 48 (.slice (some ⟨ob, 0, none⟩) 1 1) [.slice none 0 0] := by
    rw [← hG]
    exact OwK.lit (rows := one [.slice none 0 0]) (rect_one _) rfl (by simp) (Nat.le_refl _) (fun i hi => by simp [one, flat] at hi ⊢; subst hi; rfl) hob (.inl rfl)
  obtain ⟨e1, -⟩ := new_ext hG hob
  clear hG
  refine vc_loop2 (fun vo vi g => ∃ (i : Nat) (us : List Value) (Q : List (List El)) (p : List El), vi = .int .i64 (i : Int) ∧ i ≤ l.length ∧ Q.length ≤ i ∧ p.length ≤ i ∧ PH (fun y => h y = none) g vo us (Q ++ [p]) ∧ Els (fun y => h y = none) g (Q ++ [p]).flatten ∧ glu (Q.map (·.map (·.1))) (p.map (·.1)) (l.take i) ∧ Ext h g) (fun _ vi _ => l.length - m1 vi) ?_ ?_
  · simp (disch := omega) only [dm_t, wS, simprocAttr, IntKind.bits]
    refine ⟨0, [.slice none 0 0], [], [], by simp, by omega, by simp, by simp, ⟨o1, rfl, fun i v p h1 h2 => ?_, List.pairwise_singleton _ _⟩, ⟨fun e he => by simp at he, by simp⟩, ⟨rfl, fun x hx => absurd hx List.not_mem_nil⟩, e1⟩
    match i with
    | 0 => simp at h1 h2; subst h1 h2; exact OwK.nil
    | i + 1 => simp at h1
  rintro vo _ g ⟨i, us, Q, p, rfl, hi, hQi, hpi, ph, el, hgl, e⟩
  have hul : us.length = Q.length + 1 := by rw [ph.n]; simp
  by_cases hil : i < l.length
  case neg =>
    obtain rfl : i = l.length := by omega
    rw [List.take_length] at hgl
    simp (disch := omega) only [dm_t, wS, simprocAttr, IntKind.bits]
    exact ⟨_, rfl, ⟨us, Q, p, ph, el, hgl⟩, e⟩
  obtain ⟨b, o, vb, vp, i1, -, t1, hs, hbb, hpk⟩ := step_at (r.ext e) hil .i64
  obtain ⟨hx1, hx2⟩ := hb _ (List.getElem_mem hil)
  have hin := ints_in hpk
  have hcells := Rep.cells (rep_st.2 ⟨vb, vp, rfl, hs, hbb, hpk⟩ : Rep S stT g (sCs l[i] vb vp) l[i])
  have htk : l.take (i + 1) = l.take i ++ [l[i]] := List.take_succ_eq_append_getElem hil
  obtain ⟨oa, oc, rfl⟩ := S1.len ph.o.s0
  simp (disch := omega) only [dm_t, wS, simprocAttr, IntKind.bits, i1, t1]
  intro sb hsb
  simp (disch := omega) only [dm_t, wS, simprocAttr, IntKind.bits]
  refine storeH_all (vs := sCs l[i] vb vp) (hupd_same _ _ _) rfl hcells ?_
  rw [hupd_hupd]
  generalize hG : hupd g sb _ = g3
  obtain ⟨e3, q3⟩ := new_ext hG hsb
  clear hG
  have c0 : cellAt g3 ⟨sb, 0, none⟩ = some (.int .i64 l[i].1) := by rw [cellAt_of q3]; rfl
  have c2 : cellAt g3 ⟨sb, 2, none⟩ = some vb := by rw [cellAt_of q3]; rfl
  by_cases hk : l[i].1 = 4
  · simp (disch := omega) only [dm_t, wS, simprocAttr, IntKind.bits, c0, hk]
    intro bl hbl
    refine push1 (V := fun _ => _) (bytes := 24) (v := .slice none 0 0) (ph.ext e3).o (fun y hy => (e.trans e3).bk hy) rfl (by omega) (by omega) ?_ bl hbl
    intro _ s' g4 _ o4 f4
    have ph4 := (ph.ext e3).stop o4 f4
    have el4 := (el.ext e3).frU (ph.ext e3).o (by decide) (by decide) f4
    simp (disch := omega) only [dm_t, wS, simprocAttr, IntKind.bits]
    refine ⟨⟨i + 1, _, Q ++ [p], [], by simp, by omega, by simp; omega, by simp, ph4, by simpa using el4, ?_, Ext.step (e.trans e3) f4⟩, by simp [m1] <;> omega⟩
    rw [htk, List.map_append]
    exact glu_stop hgl hk
  simp (disch := omega) only [dm_t, wS, simprocAttr, IntKind.bits, c0, hk, c2]
  refine (CB_ok (SlK.ext hbb e3) (by omega)).k ?_
  rintro w1 g4 ⟨ow1, e4⟩
  obtain ⟨w1a, w1c, rfl⟩ := By.len ow1.s0
  simp (disch := omega) only [dm_t, wS, simprocAttr, IntKind.bits]
  rw [storeH_0 (e4.at q3)]
  refine ⟨by simp, rfl, ?_⟩
  rw [show (sCs l[i] vb vp).toArray.setIfInBounds 2 (.slice w1a l[i].2.2.1.length w1c) = (sCs l[i] (.slice w1a l[i].2.2.1.length w1c) vp).toArray from rfl]
  generalize hG : hupd g4 sb _ = g5
  have q5 := (hG ▸ hupd_same _ _ _ : g5 sb = _)
  have f5 : Fr (fun y => y = sb) g4 g5 := (hG ▸ Fr.upd (S := fun y => y = sb) rfl _)
  clear hG
  have e35 : Ext g g5 := Ext.step' (e3.trans e4) f5 fun y hy => by rw [hy]; exact hsb
  have ow1' : OwB (fun y => g3 y = none) g5 5 (.slice w1a l[i].2.2.1.length w1c) l[i].2.2.1 := OwK.fr ow1 f5 fun y hy ho _ => by rw [hy, q3] at ho; cases ho
  have c6 : cellAt g5 ⟨sb, 6, none⟩ = some vp := by rw [cellAt_of q5]; rfl
  simp (disch := omega) only [dm_t, wS, simprocAttr, IntKind.bits, c6]
  refine (CI_ok (SlK.ext (repI hpk).1 e35) (by omega)).k ?_
  rintro w2 g6 ⟨ow2, e6⟩
  obtain ⟨w2a, w2c, rfl⟩ := S1.len ow2.s0
  simp (disch := omega) only [dm_t, wS, simprocAttr, IntKind.bits]
  rw [storeH_0 (e6.at q5)]
  refine ⟨by simp, rfl, ?_⟩
  rw [show (sCs l[i] (.slice w1a l[i].2.2.1.length w1c) vp).toArray.setIfInBounds 6 (.slice w2a (l[i].2.2.2.2.2.map (Value.int .i64)).length w2c) = (eCs (l[i], .slice w1a l[i].2.2.1.length w1c, .slice w2a (l[i].2.2.2.2.2.map (Value.int .i64)).length w2c)).toArray from rfl]
  generalize hG : hupd g6 sb _ = g7
  have q7 := (hG ▸ hupd_same _ _ _ : g7 sb = _)
  have f7 : Fr (fun y => y = sb) g6 g7 := (hG ▸ Fr.upd (S := fun y => y = sb) rfl _)
  clear hG
  have e7 : Ext g g7 := Ext.step' (e35.trans e6) f7 fun y hy => by rw [hy]; exact hsb
  have E7 := e.trans e7
  have hs3 : ∀ y, g3 y = none → y ≠ sb := fun y hy hh => by rw [hh, q3] at hy; cases hy
  have hs5 : ∀ y, g5 y = none → y ≠ sb := fun y hy hh => by rw [hh, q5] at hy; cases hy
  generalize hE : ((l[i], .slice w1a l[i].2.2.1.length w1c, .slice w2a (l[i].2.2.2.2.2.map (Value.int .i64)).length w2c) : El) = E at q7 ⊢
  have hE1 : E.1 = l[i] := by rw [← hE]
  have own : OwS (fun y => g y = none) g7 E := by
    rw [← hE]
    exact ⟨hs, OwK.mono (OwK.fr (OwK.ext ow1' e6) f7 fun y hy ho _ => hs3 y ho hy) fun y o _ ho => e3.bk ho, OwK.mono (OwK.fr ow2 f7 fun y hy ho _ => hs5 y ho hy) fun y o _ ho => e35.bk ho, hin⟩
  have hap : ∀ f ∈ (Q ++ [p]).flatten, Apart f E := fun f hf y => ⟨fun h1 h2 => OwK.there (el.ow f hf).vb h1 (OwK.own own.vb h2), fun h1 h2 => OwK.there (el.ow f hf).vp h1 (OwK.own own.vp h2)⟩
  have ph7 := ph.ext e7
  have el7 := el.ext e7
  have hQl : Q.length < us.length := by omega
  obtain ⟨vq, hvq⟩ : ∃ vq, us[Q.length]? = some vq := ⟨_, List.getElem?_eq_getElem hQl⟩
  have hvq' : us[Q.length] = vq := by rw [List.getElem?_eq_getElem hQl] at hvq; exact Option.some.inj hvq
  have inn : OwK 7 (fun y => h y = none) g7 31 vq (p.map eCs) := ph7.inn Q.length vq p hvq (by simp)
  obtain ⟨b1, o1', i2, t2, -⟩ := put_1 ph7.o hQl .i64
  rw [hvq'] at t2
  obtain ⟨qa, qc, rfl⟩ := SlK.len inn.s0
  rw [List.length_map] at *
  have hidx : ((us.length : Int) - 1) = (Q.length : Int) := by omega
  simp (disch := omega) only [dm_t, wS, simprocAttr, IntKind.bits, hidx, i2, t2, cellsAt_all q7 7 rfl]
  intro bl hbl
  refine ⟨cellAt_ext (Ext.new hbl _) t2, ?_⟩
  have hcE : (eCs E).all isCell = true := own.cells
  refine pushk (V := fun _ => _) (k := 7) (bytes := 88) (row := eCs E) inn (fun y hy => E7.bk hy) rfl rfl hcE (by rw [List.length_map]; omega) (by rw [List.length_map]; omega) ?_ bl hbl
  intro _ s' g8 _ o8 f8 hat
  rw [show p.map eCs ++ [eCs E] = (p ++ [E]).map eCs by simp] at o8
  have oo8 := OwK.fr ph7.o f8 fun y hy _ hh => OwK.unlike ph7.o inn (by decide) hh hy.2
  have q8 := f8 _ _ q7 fun hy => OwK.there (ph.inn Q.length _ p hvq (by simp)) hy.2 hsb
  obtain ⟨b2, o2', i3, t3, st⟩ := put_1 oo8 hQl .i64
  rw [i2] at i3
  simp only [Option.some.injEq, Value.pointer.injEq, Addr.mk.injEq, and_true] at i3
  obtain ⟨rfl, rfl⟩ := i3
  rw [hvq'] at t3
  obtain ⟨s'a, s'c, rfl⟩ := SlK.len o8.s0
  simp (disch := omega) only [dm_t, wS, simprocAttr, IntKind.bits, hidx, i2, t3, cellsAt_all q8 7 rfl]
  refine st (.slice s'a ((p ++ [E]).map eCs).length s'c) _ rfl ?_
  intro g9 o9 f9
  simp (disch := omega) only [dm_t, wS, simprocAttr, IntKind.bits]
  have ph9 := ph7.add hvq o8 f8 hat o9 f9
  have elS := ((el7.snoc (own.mono fun y o _ ho => e.bk ho) hap).frU inn (by decide) (by decide) f8).frU oo8 (by decide) (by decide) f9
  refine ⟨⟨i + 1, _, Q, p ++ [E], by simp, by omega, by omega, by simp; omega, ph9, by simpa using elS, ?_, Ext.step (Ext.step E7 f8) f9⟩, by simp [m1] <;> omega⟩
  rw [htk, List.map_append, List.map_singleton, hE1]
  exact glu_add hgl hk
end
end Go.Proofs.YtooimdgoibdhlaaDoor.sc
