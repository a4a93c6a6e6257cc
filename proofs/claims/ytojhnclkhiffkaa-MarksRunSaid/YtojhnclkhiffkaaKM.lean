/-
  Maps of whole numbers, in company.
-/
import Derived.Test.YtojhnclkhiffkaaKE
namespace Go.Proofs.Ytojhnclkhiffkaa
open Go.Conc
set_option linter.unusedVariables false
set_option linter.unusedSimpArgs false
/-- What stands at a key. -/
def lkI (key : Int) : List (Int × Value) → Option Value
  | [] => none
  | x :: r => if x.1 = key then some x.2 else lkI key r
def setI (key : Int) (val : Value) : List (Int × Value) → List (Int × Value)
  | [] => [(key, val)]
  | x :: r => if x.1 = key then (key, val) :: r else x :: setI key val r
theorem lkI_set (key k2 : Int) (val : Value) : ∀ l : List (Int × Value), lkI k2 (setI key val l) = if key = k2 then some val else lkI k2 l
  | [] => by simp [setI, lkI]
  | x :: r => by
    have ih := lkI_set key k2 val r
    unfold setI
    by_cases h : x.1 = key
    · rw [if_pos h]
      simp only [lkI]
      by_cases h2 : key = k2
      · rw [if_pos h2, if_pos h2]
      · rw [if_neg h2, if_neg h2, if_neg (by rw [h]; exact h2)]
    · rw [if_neg h]
      simp only [lkI, ih]
      by_cases h2 : x.1 = k2
      · rw [if_pos h2, if_neg (by rw [← h2]; exact fun e => h e.symm)]; simp [h2]
      · simp [h2]
def mEnt : Nat → List (Int × Value) → List MapEntry
  | _, [] => []
  | i, x :: r => ⟨.int .i64 x.1, x.2, i⟩ :: mEnt (i + 1) r
/-- A map, its pairs in the order in which they came. -/
def mapO (l : List (Int × Value)) : Obj := .map (mEnt 0 l).toArray l.length
def fndI (key : Int) : Nat → List (Int × Value) → Option (Nat × Value)
  | _, [] => none
  | i, x :: r => if x.1 = key then some (i, x.2) else fndI key (i + 1) r
theorem fnd_now (d : IntKind) (key : Int) : ∀ (l : List (Int × Value)) (i j : Nat), Instr.findNow (.int d) (.int .i64 key) (mEnt j l) i = some (fndI key i l)
  | [], i, j => rfl
  | x :: r, i, j => by
    have ih := fnd_now d key r (i + 1) (j + 1)
    simp only [mEnt, Instr.findNow, Instr.sameNow, if_true, fndI]
    by_cases h : x.1 = key
    · rw [if_pos h, h]; simp
    · rw [if_neg h]
      have : (key == x.1) = false := by simpa using fun e => h e.symm
      rw [this]; exact ih
theorem mEnt_len : ∀ (i : Nat) (l : List (Int × Value)), (mEnt i l).length = l.length
  | _, [] => rfl
  | i, x :: r => by simp [mEnt, mEnt_len (i + 1) r]
theorem mEnt_snoc (y : Int × Value) : ∀ (i : Nat) (l : List (Int × Value)), mEnt i (l ++ [y]) = mEnt i l ++ [⟨.int .i64 y.1, y.2, i + l.length⟩]
  | i, [] => rfl
  | i, x :: r => by
    simp only [List.cons_append, mEnt, mEnt_snoc y (i + 1) r, List.length_cons]
    rw [show i + 1 + r.length = i + (r.length + 1) by omega]
theorem fndI_none {key : Int} : ∀ {l : List (Int × Value)} {i : Nat}, fndI key i l = none → lkI key l = none ∧ ∀ v, setI key v l = l ++ [(key, v)]
  | [], _, _ => ⟨rfl, fun _ => rfl⟩
  | x :: r, i, h => by
    unfold fndI at h
    split at h
    · cases h
    · rename_i hx
      obtain ⟨h1, h2⟩ := fndI_none h
      exact ⟨by simp [lkI, hx, h1], fun v => by simp [setI, hx, h2 v]⟩
theorem fndI_some {key : Int} : ∀ {l : List (Int × Value)} {i n : Nat} {v : Value}, fndI key i l = some (n, v) → lkI key l = some v ∧ i ≤ n ∧ ∀ j, (mEnt j l)[n - i]? = some ⟨.int .i64 key, v, j + (n - i)⟩ ∧ ∀ u, mEnt j (setI key u l) = (mEnt j l).modify (n - i) fun e => { e with key := .int .i64 key, val := u }
  | [], _, _, _, h => by cases h
  | x :: r, i, n, v, h => by
    unfold fndI at h
    split at h
    · rename_i hx
      cases h
      refine ⟨by simp [lkI, hx], Nat.le_refl _, fun j => ⟨by simp [mEnt, hx], fun u => by simp [setI, hx, mEnt]⟩⟩
    · rename_i hx
      obtain ⟨h1, h2, h3⟩ := fndI_some h
      refine ⟨by simp [lkI, hx, h1], by omega, fun j => ?_⟩
      obtain ⟨h4, h5⟩ := h3 (j + 1)
      rw [show n - i = (n - (i + 1)) + 1 by omega]
      refine ⟨?_, fun u => ?_⟩
      · simp only [mEnt, List.getElem?_cons_succ, h4]
        congr 2; omega
      · simp only [setI, hx, if_false, mEnt, h5 u, List.modify_succ_cons]
section
variable {Pg : Program} {P : Cx Pg} {e : Env} {h : H} {V : Value → H → Prop} {X : List PanicEntry → H → Prop} {d : Option Nat}
theorem HolO_map {es : Array MapEntry} {c : Nat} {x : Option Obj} : HolO (.map es c) x ↔ x = some (.map es c) := Iff.rfl
theorem run_getMap {w : World} {b clock : Nat} {es : Array MapEntry} (hb : w.heap[b]? = some (.map es clock)) (P : Program) : (getObj b).run P w = .ok (.map es clock) w ∧ ∀ ev, (getObj b).events P w ev = ev.push ⟨.obj b, false, false⟩ := by
  refine ⟨by simp [getObj, Sem.run, hb], fun ev => ?_⟩
  simp [getObj, Sem.events, Sem.runT, hb, Obj.isChan, -Sem.runT_eq]
theorem run_setMap {w : World} {b clock : Nat} {es es' : Array MapEntry} {clock' : Nat} (hb : w.heap[b]? = some (.map es clock)) (P : Program) : (setObj b (.map es' clock')).run P w = .ok () (w.putObj b (.map es' clock')) ∧ ∀ ev, (setObj b (.map es' clock')).events P w ev = ev.push ⟨.obj b, true, false⟩ := by
  refine ⟨by simp [setObj, Sem.run, hb, World.putObj], fun ev => ?_⟩
  simp [setObj, Sem.events, Sem.runT, hb, Obj.isChan, -Sem.runT_eq]
theorem evo_map {b : Nat} {es : Array MapEntry} {c : Nat} (hb : h b = some (.map es c)) (wr s : Bool) : EvO h ⟨.obj b, wr, s⟩ := ⟨_, hb, trivial⟩
theorem wst_put {w : World} {b : Nat} {o o' : Obj} (hb : w.heap[b]? = some o) : Wst w (w.putObj b o') b o' := by
  have hlt : b < w.heap.size := (Array.getElem?_eq_some_iff.1 hb).1
  refine ⟨rfl, rfl, rfl, by simp [World.putObj], by simp [World.putObj, hlt], fun x hx => ?_⟩
  simp only [World.putObj]
  rw [Array.getElem?_setIfInBounds_ne (Ne.symm hx)]
theorem chk_int {kt : TypeId} {ik : IntKind} (hk : Pg.underlying kt = some (.int ik)) (em : Bool) (n : Nat) (x : Value) (w : World) : (Instr.checkKey em (n + 1) kt x).run Pg w = .ok () w ∧ ∀ ev, (Instr.checkKey em (n + 1) kt x).events Pg w ev = ev := by
  have hr := run_underlying hk w
  refine ⟨?_, fun ev => ?_⟩
  · rw [Instr.checkKey.eq_def]
    simp [hr]
  · rw [Instr.checkKey.eq_def]
    simp [hr]
theorem fnd_int {kt : TypeId} {ik : IntKind} (hk : Pg.underlying kt = some (.int ik)) (key : Int) (l : List (Int × Value)) (w : World) : (Instr.findKey kt (.int .i64 key) (mEnt 0 l)).run Pg w = .ok (fndI key 0 l) w ∧ ∀ ev, (Instr.findKey kt (.int .i64 key) (mEnt 0 l)).events Pg w ev = ev := by
  have hr := run_underlying hk w
  have hn := fnd_now ik key l 0 0
  refine ⟨?_, fun ev => ?_⟩
  · unfold Instr.findKey
    simp [hr, hn]
  · unfold Instr.findKey
    simp [hr, hn]
theorem raw_mkmap {t ty : TypeId} (hV : ∀ b, h b = none → V (.map (some b)) (hupd h b (mapO []))) : lM P (.raw ⟨d, .makeMap t none, ty, "", #[], none⟩) e h V X := by
  intro a ha
  refine does_of fun w hh => ⟨.map (some w.heap.size), w.alloc (mapO []), hupd h w.heap.size (mapO []), .inl ?_, ?_, hV _ (hol_new hh)⟩
  · simp [execOp, Instr.makeMap, mapO, mEnt]
  · refine Fra.new hh rfl rfl rfl rfl (HolO_map.2 rfl) (nov ?_)
    simp [execOp, Instr.makeMap, mapO, mEnt]
theorem raw_lookup {t kt et ty : TypeId} {ik : IntKind} {m kx : Operand} {b : Nat} {key : Int} {l : List (Int × Value)} {i : TypeInfo} {z : Value} (hu : Pg.underlying t = some (.map kt et)) (hkt : Pg.underlying kt = some (.int ik)) (hi : Pg.info? et = some i) (hz : i.zero = some z)
    (hm : ev e m = some (.map (some b))) (hk : ev e kx = some (.int .i64 key)) (hb : h b = some (mapO l)) (hV : V ((lkI key l).getD z) h) :
    lM P (.raw ⟨d, .lookup t m kx false, ty, "", #[], none⟩) e h V X := by
  intro a ha
  have e1 := ev_sound ha hm
  have e2 := ev_sound ha hk
  refine does_of fun w hh => ?_
  have hbw : w.heap[b]? = some (.map (mEnt 0 l).toArray l.length) := HolO_map.1 (hh _ _ hb)
  obtain ⟨g1, g2⟩ := run_getMap hbw Pg
  obtain ⟨f1, f2⟩ := fnd_int hkt key l w
  have c1 := fun em => (chk_int hkt em 9999 (.int .i64 key) w).1
  have c2 := fun em => (chk_int hkt em 9999 (.int .i64 key) w).2
  have hr := run_underlying hu w
  have hzz := run_zero hi hz w
  have hl : (Instr.lookup t (.map (some b)) (.int .i64 key) false).run Pg w = .ok ((lkI key l).getD z) w ∧ ∀ ev, (Instr.lookup t (.map (some b)) (.int .i64 key) false).events Pg w ev = ev.push ⟨.obj b, false, false⟩ := by
    cases hf : fndI key 0 l with
    | none =>
      rw [hf] at f1
      obtain ⟨h1, _⟩ := fndI_none hf
      refine ⟨by simp [Instr.lookup, hr, g1, c1, f1, hzz, h1], fun ev => by simp [Instr.lookup, hr, g1, g2, c1, c2, f1, f2, hzz, h1]⟩
    | some y =>
      obtain ⟨n, v⟩ := y
      rw [hf] at f1
      obtain ⟨h1, _⟩ := fndI_some hf
      refine ⟨by simp [Instr.lookup, hr, g1, c1, f1, h1], fun ev => by simp [Instr.lookup, hr, g1, g2, c1, c2, f1, f2, h1]⟩
  refine ⟨_, w, h, .inl ?_, Fra.still hh rfl rfl rfl rfl ?_, hV⟩
  · simp [execOp, e1, e2, hl.1]
  · intro x hx
    simp [execOp, e1, e2, hl.1, hl.2] at hx
    subst hx
    exact evo_map hb _ _
theorem raw_mapup {t kt et : TypeId} {ik : IntKind} {b : Nat} {key : Int} {val : Value} {l : List (Int × Value)} (hu : Pg.underlying t = some (.map kt et)) (hkt : Pg.underlying kt = some (.int ik)) (hb : h b = some (mapO l)) {w : World} (hh : Hol h w) :
    (Instr.mapUpdate t (.map (some b)) (.int .i64 key) val).run Pg w = .ok () (w.putObj b (mapO (setI key val l))) ∧ Fra h w (hupd h b (mapO (setI key val l))) (w.putObj b (mapO (setI key val l))) ((Instr.mapUpdate t (.map (some b)) (.int .i64 key) val).events Pg w #[]) := by
  have hbw : w.heap[b]? = some (.map (mEnt 0 l).toArray l.length) := HolO_map.1 (hh _ _ hb)
  obtain ⟨g1, g2⟩ := run_getMap hbw Pg
  obtain ⟨f1, f2⟩ := fnd_int hkt key l w
  have c1 := fun em => (chk_int hkt em 9999 (.int .i64 key) w).1
  have c2 := fun em => (chk_int hkt em 9999 (.int .i64 key) w).2
  have hr := run_underlying hu w
  have s1 := fun es c => (run_setMap (es' := es) (clock' := c) hbw Pg).1
  have s2 := fun es c => (run_setMap (es' := es) (clock' := c) hbw Pg).2
  have key' : (Instr.mapUpdate t (.map (some b)) (.int .i64 key) val).run Pg w = .ok () (w.putObj b (mapO (setI key val l))) ∧ ∀ ev, (Instr.mapUpdate t (.map (some b)) (.int .i64 key) val).events Pg w ev = (ev.push ⟨.obj b, false, false⟩).push ⟨.obj b, true, false⟩ := by
    cases hf : fndI key 0 l with
    | none =>
      rw [hf] at f1
      obtain ⟨_, h1⟩ := fndI_none hf
      have hE : mapO (setI key val l) = .map ((mEnt 0 l).toArray.push ⟨.int .i64 key, val, l.length⟩) (l.length + 1) := by
        rw [h1, mapO, mEnt_snoc]; simp
      rw [hE]
      refine ⟨by simp [Instr.mapUpdate, hr, g1, c1, f1, s1], fun ev => by simp [Instr.mapUpdate, hr, g1, g2, c1, c2, f1, f2, s1, s2]⟩
    | some y =>
      obtain ⟨n, v⟩ := y
      rw [hf] at f1
      obtain ⟨_, _, h3⟩ := fndI_some hf
      obtain ⟨h4, h5⟩ := h3 0
      rw [Nat.sub_zero, Nat.zero_add] at h4
      have hlen : (setI key val l).length = l.length := by rw [← mEnt_len 0, h5 val, List.length_modify, mEnt_len]
      have hE : mapO (setI key val l) = .map ((mEnt 0 l).toArray.modify n fun e => { e with key := .int .i64 key, val := val }) l.length := by
        rw [mapO, h5 val, hlen]; simp
      have h4' : (mEnt 0 l).toArray[n]? = some ⟨.int .i64 key, v, n⟩ := by simpa using h4
      have hst : Instr.keyThatStays (.int .i64 key) (.int .i64 key) = pure (.int .i64 key) := by simp [Instr.keyThatStays, Instr.sameBits]
      rw [hE]
      have hAl : mEnt 0 l = (mEnt 0 l).toArray.toList := rfl
      rw [hAl] at f1 f2
      generalize (mEnt 0 l).toArray = A at f1 f2 g1 g2 h4' ⊢
      refine ⟨by simp [Instr.mapUpdate, hr, g1, c1, f1, s1, h4', hst], fun ev => by simp [Instr.mapUpdate, hr, g1, g2, c1, c2, f1, f2, s1, s2, h4', hst]⟩
  refine ⟨key'.1, ?_⟩
  rw [key'.2]
  refine Fra.set hh hb (wst_put hbw) (HolO_map.2 rfl) ⟨_, _, rfl⟩ trivial fun x hx => ?_
  simp at hx
  rcases hx with rfl | rfl
  · exact ⟨_, hupd_same _ _ _, trivial⟩
  · exact ⟨_, hupd_same _ _ _, trivial⟩
theorem raw_update {t kt et ty : TypeId} {ik : IntKind} {m kx vx : Operand} {b : Nat} {key : Int} {val : Value} {l : List (Int × Value)} (hu : Pg.underlying t = some (.map kt et)) (hkt : Pg.underlying kt = some (.int ik))
    (hm : ev e m = some (.map (some b))) (hk : ev e kx = some (.int .i64 key)) (hv : ev e vx = some val) (hb : h b = some (mapO l)) (hV : V undef (hupd h b (mapO (setI key val l)))) :
    lM P (.raw ⟨d, .mapUpdate t m kx vx, ty, "", #[], none⟩) e h V X := by
  intro a ha
  have e1 := ev_sound ha hm
  have e2 := ev_sound ha hk
  have e3 := ev_sound ha hv
  refine does_of fun w hh => ?_
  obtain ⟨r1, r2⟩ := raw_mapup (key := key) (val := val) hu hkt hb hh
  refine ⟨undef, _, _, .inr ⟨?_, rfl⟩, r2.sub ?_, hV⟩
  · simp [execOp, e1, e2, e3, r1]
  · intro x hx
    simpa [execOp, e1, e2, e3, r1] using hx
theorem raw_insert {t kt et ty : TypeId} {ik : IntKind} {m kx vx : Operand} {b : Nat} {key : Int} {val : Value} {l : List (Int × Value)} (hu : Pg.underlying t = some (.map kt et)) (hkt : Pg.underlying kt = some (.int ik))
    (hm : ev e m = some (.map (some b))) (hk : ev e kx = some (.int .i64 key)) (hv : ev e vx = some val) (hb : h b = some (mapO l)) (hV : V undef (hupd h b (mapO (setI key val l)))) :
    lM P (.raw ⟨d, .insert t m kx vx, ty, "", #[], none⟩) e h V X := by
  intro a ha
  have e1 := ev_sound ha hm
  have e2 := ev_sound ha hk
  have e3 := ev_sound ha hv
  refine does_of fun w hh => ?_
  obtain ⟨r1, r2⟩ := raw_mapup (key := key) (val := val) hu hkt hb hh
  refine ⟨undef, _, _, .inr ⟨?_, rfl⟩, r2.sub ?_, hV⟩
  · simp [execOp, e1, e2, e3, r1]
  · intro x hx
    simpa [execOp, e1, e2, e3, r1] using hx
end
end Go.Proofs.Ytojhnclkhiffkaa
