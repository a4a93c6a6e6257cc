/-
  Texts, counts, parts, bytes (ScriptTexts), walked.
-/
import Derived.Test.YtooimdgoibdhlaaDoorQp
import Derived.Test.YtooimdgoibdhlaaDoorQi
import Derived.Test.YtooimdgoibdhlaaDoorPu
namespace Go.Proofs.YtooimdgoibdhlaaDoor.sc
open Go Go.Proofs.YtooimdgoibdhlaaDoor Go.RowKit
set_option linter.unusedVariables false
set_option linter.unusedSimpArgs false
theorem CP.frU {k : Nat} {O O' : Nat → Prop} {g g' : H} {x : St} {vb vp : Value} {T : TypeId} {w : Value} {rows : List (List Value)} (s : CP O g x vb vp) (y : OwK k O' g T w rows) (h5 : T ≠ 5) (h3 : T ≠ 3) (f : Fr (fun y => O y ∧ isAt w y) g g') : CP O g' x vb vp := by
  obtain ⟨⟨a, c, h1, h2⟩, a', c', h3', h4⟩ := s
  exact ⟨⟨a, c, h1, OwK.fr h2 f fun z hz _ => OwK.unlike y h2 h5 hz.2⟩, a', c', h3', OwK.fr h4 f fun z hz _ => OwK.unlike y h4 h3 hz.2⟩
/-- Copies of steps in a row. -/
structure ML (O : Nat → Prop) (g : H) (v : Value) (E : List El) : Prop where
  o : OwK 7 O g 31 v (E.map eCs)
  c : ∀ e ∈ E, CP O g e.1 e.2.1 e.2.2 ∧ sB e.1 ∧ ∀ n ∈ e.1.2.2.2.2.2, inI n
theorem ML.ext {O : Nat → Prop} {g g' : H} {v : Value} {E : List El} (M : ML O g v E) (x : Ext g g') : ML O g' v E := ⟨OwK.ext M.o x, fun e he => ⟨(M.c e he).1.ext x, (M.c e he).2⟩⟩
theorem ML.rep {O : Nat → Prop} {g : H} {v : Value} {E : List El} {l : List St} (M : ML O g v E) (hl : E.map (·.1) = l) : RepL nos stT g v l := by
  subst hl
  refine repL_iff.2 ⟨_, M.o.s0, by simp, fun i r x hr hx => ?_⟩
  rw [List.getElem?_map, Option.map_eq_some_iff] at hr hx
  obtain ⟨e, he, rfl⟩ := hr
  obtain ⟨e', he', rfl⟩ := hx
  rw [he] at he'
  obtain rfl := Option.some.inj he'
  obtain ⟨h1, h2, h3⟩ := M.c e (List.mem_of_getElem? he)
  exact h1.rep h2 h3
theorem ML.at {O : Nat → Prop} {g : H} {v : Value} {E : List El} {l : List St} (M : ML O g v E) (hl : E.map (·.1) = l) {i : Nat} (hi : i < l.length) (kk : IntKind) : ∃ b o vb vp, idxV1 7 v (.int kk (i : Int)) = some (.pointer (some ⟨b, o, none⟩)) ∧ cellsAt g ⟨b, o, none⟩ 7 = some (sCs l[i] vb vp).toArray ∧ CP O g l[i] vb vp := by
  subst hl
  have hi' : i < E.length := by simpa using hi
  obtain ⟨b, o, k1, k2, k3, k4⟩ := SlK.row M.o.s0 (i := i) (by simpa using hi') kk
  rw [List.getElem_map] at k4
  refine ⟨b, o, E[i].2.1, E[i].2.2, k1, ?_, ?_⟩
  · rw [List.getElem_map]; exact k4
  · rw [List.getElem_map]; exact (M.c _ (List.getElem_mem hi')).1
theorem Els.spoil {O : Nat → Prop} {g g' : H} {e : El} {R : List El} (s : Els O g (e :: R)) (f : Fr (fun y => O y ∧ (isAt e.2.1 y ∨ isAt e.2.2 y)) g g') : Els O g' R := by
  have he := s.ow e (by simp)
  obtain ⟨h1, h2⟩ := List.pairwise_cons.1 s.ap
  refine ⟨fun x hx => ?_, h2⟩
  have hw := s.ow x (List.mem_cons_of_mem _ hx)
  refine hw.fr f (fun y hy _ => ?_) (fun y hy _ => ?_)
  · rcases hy.2 with hy | hy
    · exact (h1 x hx y).1 hy
    · exact OwK.unlike he.vp hw.vb (by decide) hy
  · rcases hy.2 with hy | hy
    · exact OwK.unlike he.vb hw.vp (by decide) hy
    · exact (h1 x hx y).2 hy
theorem PH.spoil {O : Nat → Prop} {g g' : H} {out : Value} {us : List Value} {P : List (List El)} {e : El} (s : PH O g out us P) (he : OwS O g e) (f : Fr (fun y => O y ∧ (isAt e.2.1 y ∨ isAt e.2.2 y)) g g') : PH O g' out us P := by
  refine s.fr f (fun y hy _ => ?_) fun v hv y hy _ => ?_
  · rcases hy.2 with hy | hy
    · exact OwK.unlike he.vb s.o (by decide) hy
    · exact OwK.unlike he.vp s.o (by decide) hy
  · obtain ⟨i, hi, rfl⟩ := List.getElem_of_mem hv
    have hw := s.inn i _ _ (List.getElem?_eq_getElem hi) (List.getElem?_eq_getElem (by rw [← s.n]; exact hi))
    rcases hy.2 with hy | hy
    · exact OwK.unlike he.vb hw (by decide) hy
    · exact OwK.unlike he.vp hw (by decide) hy
section
variable {h : H}
abbrev Qt (h : H) : Post := retQ [6] (okR fun v h' => v = .bool true ∧ Ext h h')
theorem ST_s35 (G : GL h) {O : Nat → Prop} {g : H} (e : Ext h g) {vl vm : Value} {l : List St} {E : List El} (r : RepL nos stT g vl l) (M : ML O g vm E) (hE : E.map (·.1) = l) (hl : l.length ≤ 100) (hlim : ∀ x ∈ l, x.2.2.1.length ≤ 20000 ∧ x.2.2.2.2.2.length ≤ 500) {pa : Option Addr} {n pc : Nat} (hn : 0 < n) (hn2 : n ≤ 101) :
    vc Tryd.prog c6_s35 (Qt h) [(0, vl), (7, vm), (16, .slice pa n pc), (23, .int .i64 (l.length : Int))] g := by
  obtain ⟨la, lc, rfl⟩ := r.len
  simp (disch := omega) only [dm_t, wS, simprocAttr, IntKind.bits]
  refine vc_loop1 (fun vi g' => Ext g g' ∧ ∃ i : Nat, vi = .int .i64 (i : Int) ∧ i ≤ l.length) (fun vi _ => l.length - m1 vi) ?_ ?_
  · simp (disch := omega) only [dm_t, wS, simprocAttr, IntKind.bits]
    exact ⟨Ext.refl _, 0, rfl, by omega⟩
  rintro _ g1 ⟨e1, i, rfl, hi⟩
  by_cases hil : i < l.length
  case neg =>
    obtain rfl : i = l.length := by omega
    simp (disch := omega) only [dm_t, wS, simprocAttr, IntKind.bits]
    refine (works_ok (G.ext (e.trans e1))).k ?_
    rintro _ g2 ⟨rfl, e2⟩
    simp (disch := omega) only [dm_t, wS, simprocAttr, IntKind.bits]
    exact (e.trans e1).trans e2
  obtain ⟨b, o, vb, vp, i1, -, t1, hs, hb, hpk⟩ := step_at (r.ext e1) hil .i64
  obtain ⟨b', o', wb, wp, i2, t2, cp⟩ := (M.ext e1).at hE hil .i64
  obtain ⟨h1, h2⟩ := hlim _ (List.getElem_mem hil)
  simp (disch := omega) only [dm_t, wS, simprocAttr, IntKind.bits, i1, t1, i2, t2]
  refine (kept_ok (rep_st.2 ⟨_, _, rfl, hs, hb, hpk⟩) cp h1 h2).k ?_
  rintro _ g2 ⟨rfl, e2⟩
  simp (disch := omega) only [dm_t, wS, simprocAttr, IntKind.bits]
  exact ⟨⟨e1.trans e2, i + 1, by simp, by omega⟩, by simp [m1] <;> omega⟩
end
end Go.Proofs.YtooimdgoibdhlaaDoor.sc
