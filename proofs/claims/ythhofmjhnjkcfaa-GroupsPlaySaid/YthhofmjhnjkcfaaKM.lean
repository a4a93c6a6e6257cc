/-
  Maps, and iterators over maps and texts.
-/
import Derived.Test.YthhofmjhnjkcfaaKE
import Derived.Maps.RangeRun
namespace Go.Proofs.Ythhofmjhnjkcfaa
set_option linter.unusedVariables false
set_option linter.unusedSimpArgs false
section
variable {P : Program} {e : Env} {h : H} {V : Value → H → Prop} {X : List PanicEntry → H → Prop} {d : Option Nat}
theorem kin_obj {w : World} {b : Nat} {o : Obj} (o' : Obj) (hb : hp w b = some o) : Kin w (w.putObj b o') :=
  ⟨rfl, rfl, rfl, by simp, fun x y hx hy => by
    by_cases hxb : x = b
    · subst hxb
      have : hp w x = none := by show hid w.heap[x]? = none; rw [hx]; exact hy
      rw [this] at hb; cases hb
    · rw [World.putObj_heap_other hxb]; exact hx⟩
theorem hp_obj {w : World} {b : Nat} {o o' : Obj} (hb : hp w b = some o) (ho : hid (some o') = some o') : hp (w.putObj b o') = hupd (hp w) b o' := by
  have hlt : b < w.heap.size := by
    have := hid_some (show hid w.heap[b]? = some o from hb)
    exact (Array.getElem?_eq_some_iff.1 this).1
  rw [hp_put _ hlt]
  funext x
  unfold hupd
  rw [ho]
theorem at_heap {w : World} {b : Nat} {o : Obj} (hb : hp w b = some o) : w.heap[b]? = some o := hid_some hb
theorem hp_allocV (w : World) {o : Obj} (ho : hid (some o) = some o) : hp (w.alloc o) = hupd (hp w) w.heap.size o := by
  funext x
  show hid (w.alloc o).heap[x]? = _
  unfold hupd
  by_cases hx : x = w.heap.size
  · subst hx; rw [if_pos rfl, alloc_at, ho]
  · rw [if_neg hx, alloc_old _ _ hx]; rfl
theorem run_set {w : World} {b : Nat} {o o' : Obj} (hb : hp w b = some o) (hk : (setObj b o').run P w = .ok () (w.putObj b o')) : True := trivial
theorem run_setM {w : World} {b clock : Nat} {es : Array MapEntry} (hb : hp w b = some (.map es clock)) (o' : Obj) : (setObj b o').run P w = .ok () (w.putObj b o') := by
  simp [setObj, Sem.run, at_heap hb, World.putObj]
theorem run_setI {w : World} {b : Nat} {m : Option Nat} {s : Nat} {seen : Array Nat} {c : Nat} (hb : hp w b = some (.mapIter m s seen c)) (o' : Obj) : (setObj b o').run P w = .ok () (w.putObj b o') := by
  simp [setObj, Sem.run, at_heap hb, World.putObj]
theorem run_setS {w : World} {b : Nat} {s : ByteArray} {pos : Nat} (hb : hp w b = some (.stringIter s pos)) (o' : Obj) : (setObj b o').run P w = .ok () (w.putObj b o') := by
  simp [setObj, Sem.run, at_heap hb, World.putObj]
theorem run_getM {w : World} {b clock : Nat} {es : Array MapEntry} (hb : hp w b = some (.map es clock)) : (getObj b).run P w = .ok (.map es clock) w := by
  simp [getObj, Sem.run, at_heap hb]
theorem run_getI {w : World} {b : Nat} {m : Option Nat} {s : Nat} {seen : Array Nat} {c : Nat} (hb : hp w b = some (.mapIter m s seen c)) : (getObj b).run P w = .ok (.mapIter m s seen c) w := by
  simp [getObj, Sem.run, at_heap hb]
theorem run_getS {w : World} {b : Nat} {s : ByteArray} {pos : Nat} (hb : hp w b = some (.stringIter s pos)) : (getObj b).run P w = .ok (.stringIter s pos) w := by
  simp [getObj, Sem.run, at_heap hb]
/-! ### Texts gone over -/
theorem raw_ranges {x : Operand} {t ty : TypeId} {s : ByteArray} (hu : P.underlying t = some .string) (hx : ev e x = some (.string s)) (hV : ∀ b, h b = none → V (.pointer (some ⟨b, 0, none⟩)) (hupd h b (.stringIter s 0))) :
    lM P (.raw ⟨d, .range t x, ty, "", #[], none⟩) e h V X := by
  intro a w ha hw
  subst hw
  have hev := ev_sound ha hx
  refine ⟨_, w.alloc (.stringIter s 0), .inl ?_, kin_alloc _ _, by rw [hp_allocV _ rfl]; exact hV _ (hp_new w)⟩
  have hr := run_underlying hu w
  simp [execOp, hev, Instr.range, hr]
theorem raw_nexts {it : Operand} {ty : TypeId} {r pos : Nat} {s : ByteArray} (hx : ev e it = some (.pointer (some ⟨r, 0, none⟩))) (hb : h r = some (.stringIter s pos))
    (hV : if pos < s.size then V (.tuple #[.bool true, .int .i64 (pos : Int), .int .i32 ((Utf8.decode s pos).1 : Int)]) (hupd h r (.stringIter s (pos + (Utf8.decode s pos).2))) else V (.tuple #[.bool false]) h) :
    lM P (.raw ⟨d, .next it true, ty, "", #[], none⟩) e h V X := by
  intro a w ha hw
  subst hw
  have hev := ev_sound ha hx
  by_cases hp' : pos < s.size
  · rw [if_pos hp'] at hV
    refine ⟨_, w.putObj r (.stringIter s (pos + (Utf8.decode s pos).2)), .inl ?_, kin_obj _ hb, by rw [hp_obj hb rfl]; exact hV⟩
    have hg := run_getS (P := P) hb
    have hs := run_setS (P := P) hb (.stringIter s (pos + (Utf8.decode s pos).2))
    simp [execOp, hev, Instr.next, hg, hp', hs, goInt]
  · rw [if_neg hp'] at hV
    refine ⟨_, w, .inl ?_, Kin.refl w, hV⟩
    have hg := run_getS (P := P) hb
    simp [execOp, hev, Instr.next, hg, hp']
/-! ### Maps -/
theorem raw_mkmap {t ty : TypeId} (hV : ∀ b, h b = none → V (.map (some b)) (hupd h b (.map #[] 0))) : lM P (.raw ⟨d, .makeMap t none, ty, "", #[], none⟩) e h V X := by
  intro a w ha hw
  subst hw
  refine ⟨_, w.alloc (.map #[] 0), .inl ?_, kin_alloc _ _, by rw [hp_allocV _ rfl]; exact hV _ (hp_new w)⟩
  simp [execOp, Instr.makeMap]
section
variable {KT : Type} {enc : KT → Value}
abbrev En (KT : Type) := KT × Value × Nat
def mkE (enc : KT → Value) (x : En KT) : MapEntry := ⟨enc x.1, x.2.1, x.2.2⟩
def kv (x : En KT) : KT × Value := (x.1, x.2.1)
/-- A map's content: pairs, in the order in which they came. -/
def MO (enc : KT → Value) (h : H) (b : Nat) (l : List (KT × Value)) : Prop :=
  ∃ (bs : List (En KT)) (clock : Nat), h b = some (.map (bs.map (mkE enc)).toArray clock) ∧ bs.map kv = l ∧ (bs.map fun x => x.2.2).Nodup ∧ (∀ x ∈ bs, x.2.2 < clock) ∧ (l.map fun x => x.1).Nodup
theorem MO.fr {T : Nat → Prop} {h h' : H} {b : Nat} {l : List (KT × Value)} (m : MO enc h b l) (f : Fr T h h') (hb : ¬ T b) : MO enc h' b l := by
  obtain ⟨bs, c, h1, h2⟩ := m
  exact ⟨bs, c, f _ _ h1 hb, h2⟩
theorem MO.ext {h h' : H} {b : Nat} {l : List (KT × Value)} (m : MO enc h b l) (f : Ext h h') : MO enc h' b l := m.fr f id
theorem MO.nodup {h : H} {b : Nat} {l : List (KT × Value)} (m : MO enc h b l) : (l.map fun x => x.1).Nodup := by
  obtain ⟨bs, c, h1, h2, h3, h4, h5⟩ := m
  exact h5
theorem MO.new {h : H} {b : Nat} : MO enc (hupd h b (.map #[] 0)) b [] :=
  ⟨[], 0, by rw [hupd_same]; rfl, rfl, by simp, by simp, by simp⟩
theorem MO.there {h : H} {b : Nat} {l : List (KT × Value)} (m : MO enc h b l) : h b ≠ none := by
  obtain ⟨bs, c, h1, _⟩ := m
  rw [h1]; simp
theorem MO.nocell {h : H} {b : Nat} {l : List (KT × Value)} (m : MO enc h b l) {c : Array Value} {E : TypeId} {fr : Nat × Nat} (hb : h b = some (.cells c E fr)) : False := by
  obtain ⟨bs, c, h1, _⟩ := m
  rw [h1] at hb; cases hb
end
/-- What is known of a key type, whose keys are written by 'enc'. -/
structure KeyT (P : Program) (k : TypeId) {KT : Type} [DecidableEq KT] (enc : KT → Value) : Prop where
  chk : ∀ b x w, (Instr.checkKey b 10000 k (enc x)).run P w = .ok () w
  eql : ∀ x y w, (Op.equal k (enc x) (enc y)).run P w = .ok (decide (x = y)) w
  now : ∀ x y d, P.underlying k = some d → Instr.sameNow d (enc x) (enc y) = none
  bits : ∀ x, Instr.sameBits 10000 (enc x) (enc x) = true
  und : ∃ d, P.underlying k = some d
variable {KT : Type} [DecidableEq KT] {enc : KT → Value}
def findE (k : KT) : List (En KT) → Nat → Option (Nat × Value)
  | [], _ => none
  | x :: r, i => if k = x.1 then some (i, x.2.1) else findE k r (i + 1)
theorem run_find {k : TypeId} (T : KeyT P k enc) (key : KT) (bs : List (En KT)) (w : World) :
    (Instr.findKey k (enc key) (bs.map (mkE enc))).run P w = .ok (findE key bs 0) w := by
  obtain ⟨ud, hud⟩ := T.und
  have hr := run_underlying hud w
  have ask : ∀ (bs : List (En KT)) (i : Nat), (Instr.findAsking k (enc key) (bs.map (mkE enc)) i).run P w = .ok (findE key bs i) w := by
    intro bs
    induction bs with
    | nil => intro i; simp [Instr.findAsking, findE]
    | cons x r ih =>
      intro i
      have hq : (Op.equal k (enc key) (mkE enc x).key).run P w = .ok (decide (key = x.1)) w := T.eql key x.1 w
      rw [List.map_cons, Instr.findAsking, findE]
      by_cases hkx : key = x.1
      · rw [if_pos hkx]
        simp only [Sem.run_bind, hq, Result.andThen, decide_eq_true hkx, if_true]
        rfl
      · rw [if_neg hkx]
        simp only [Sem.run_bind, hq, Result.andThen, decide_eq_false hkx, Bool.false_eq_true, if_false]
        exact ih _
  cases bs with
  | nil =>
    unfold Instr.findKey
    simp [hr, Instr.findNow, findE]
  | cons x r =>
    have hn : Instr.findNow ud (enc key) ((x :: r).map (mkE enc)) 0 = none := by
      rw [List.map_cons, Instr.findNow, show (mkE enc x).key = enc x.1 from rfl, T.now key x.1 ud hud]
    unfold Instr.findKey
    simp only [Sem.run_bind, hr, Result.andThen, hn]
    exact ask (x :: r) 0
def lk (k : KT) : List (KT × Value) → Option Value
  | [] => none
  | x :: r => if k = x.1 then some x.2 else lk k r
def setL (k : KT) (v : Value) (l : List (KT × Value)) : List (KT × Value) := if (lk k l).isSome then l.map (fun x => if k = x.1 then (k, v) else x) else l ++ [(k, v)]
def delL (k : KT) (l : List (KT × Value)) : List (KT × Value) := l.filter fun x => !decide (k = x.1)
theorem lk_none {k : KT} : ∀ {l : List (KT × Value)}, lk k l = none ↔ ∀ x ∈ l, k ≠ x.1
  | [] => by simp [lk]
  | x :: r => by
    rw [lk]
    by_cases h : k = x.1
    · rw [if_pos h]; simp [h]
    · rw [if_neg h, lk_none]; simp [h]
theorem findE_spec (k : KT) : ∀ (bs : List (En KT)) (i : Nat), (findE k bs i = none ∧ lk k (bs.map kv) = none) ∨ ∃ j, findE k bs i = (lk k (bs.map kv)).map (fun v => (i + j, v)) ∧ (lk k (bs.map kv)).isSome = true ∧ ∃ x, bs[j]? = some x ∧ x.1 = k ∧ lk k (bs.map kv) = some x.2.1
  | [], i => .inl ⟨rfl, rfl⟩
  | x :: r, i => by
    rw [findE, List.map_cons, lk, show (kv x).1 = x.1 from rfl]
    by_cases h : k = x.1
    · rw [if_pos h, if_pos h]
      exact .inr ⟨0, rfl, rfl, x, rfl, h.symm, rfl⟩
    · rw [if_neg h, if_neg h]
      rcases findE_spec k r (i + 1) with ⟨h1, h2⟩ | ⟨j, h1, h2, y, h3, h4, h5⟩
      · exact .inl ⟨h1, h2⟩
      · refine .inr ⟨j + 1, ?_, h2, y, by simpa using h3, h4, h5⟩
        rw [h1, show i + 1 + j = i + (j + 1) by omega]
theorem modify_map {k : KT} {v : Value} : ∀ {bs : List (En KT)} {j : Nat} {x : En KT}, bs[j]? = some x → x.1 = k → ((bs.map kv).map fun x => x.1).Nodup →
    bs.modify j (fun x => (k, v, x.2.2)) = bs.map (fun x => if k = x.1 then (k, v, x.2.2) else x)
  | [], j, x, h, _, _ => by simp at h
  | y :: r, 0, x, h, hx, hn => by
    simp only [List.getElem?_cons_zero, Option.some.injEq] at h
    subst h
    rw [List.map_cons, List.map_cons, List.nodup_cons] at hn
    rw [List.modify_zero_cons, List.map_cons, if_pos hx.symm]
    congr 1
    symm
    have : ∀ z ∈ r, (fun x : En KT => if k = x.1 then (k, v, x.2.2) else x) z = z := by
      intro z hz
      show (if k = z.1 then (k, v, z.2.2) else z) = z
      rw [if_neg]
      intro hk
      exact hn.1 (List.mem_map.2 ⟨kv z, List.mem_map.2 ⟨z, hz, rfl⟩, hk.symm.trans hx.symm⟩)
    rw [List.map_congr_left this, List.map_id']
  | y :: r, j + 1, x, h, hx, hn => by
    rw [List.map_cons, List.map_cons, List.nodup_cons] at hn
    have hxr : x ∈ r := List.mem_of_getElem? (by simpa using h)
    have hyk : ¬ k = y.1 := by
      intro hk
      exact hn.1 (List.mem_map.2 ⟨kv x, List.mem_map.2 ⟨x, hxr, rfl⟩, hx.trans hk⟩)
    rw [List.modify_succ_cons, List.map_cons, if_neg hyk, modify_map (by simpa using h) hx hn.2]
theorem erase_map {k : KT} : ∀ {bs : List (En KT)} {j : Nat} {x : En KT}, bs[j]? = some x → x.1 = k → ((bs.map kv).map fun x => x.1).Nodup →
    bs.eraseIdx j = bs.filter (fun x => !decide (k = x.1))
  | [], j, x, h, _, _ => by simp at h
  | y :: r, 0, x, h, hx, hn => by
    simp only [List.getElem?_cons_zero, Option.some.injEq] at h
    subst h
    rw [List.map_cons, List.map_cons, List.nodup_cons] at hn
    rw [List.eraseIdx_cons_zero, List.filter_cons, if_neg (by simp [hx])]
    symm
    rw [List.filter_eq_self]
    intro z hz
    simp only [Bool.not_eq_true', decide_eq_false_iff_not]
    intro hk
    exact hn.1 (List.mem_map.2 ⟨kv z, List.mem_map.2 ⟨z, hz, rfl⟩, hk.symm.trans hx.symm⟩)
  | y :: r, j + 1, x, h, hx, hn => by
    rw [List.map_cons, List.map_cons, List.nodup_cons] at hn
    have hxr : x ∈ r := List.mem_of_getElem? (by simpa using h)
    have hyk : ¬ k = y.1 := by
      intro hk
      exact hn.1 (List.mem_map.2 ⟨kv x, List.mem_map.2 ⟨x, hxr, rfl⟩, hx.trans hk⟩)
    rw [List.eraseIdx_cons_succ, List.filter_cons, if_pos (by simp [hyk]), erase_map (by simpa using h) hx hn.2]
theorem raw_lookup {t kt et ty : TypeId} {m kx : Operand} {b : Nat} {key : KT} {l : List (KT × Value)} {i : TypeInfo} {z : Value} (T : KeyT P kt enc) (hu : P.underlying t = some (.map kt et)) (hi : P.info? et = some i) (hz : i.zero = some z)
    (hm : ev e m = some (.map (some b))) (hk : ev e kx = some (enc key)) (M : MO enc h b l) (hV : V (.tuple #[(lk key l).getD z, .bool (lk key l).isSome]) h) :
    lM P (.raw ⟨d, .lookup t m kx true, ty, "", #[], none⟩) e h V X := by
  intro a w ha hw
  subst hw
  obtain ⟨bs, clock, hb, rfl, _⟩ := M
  have e1 := ev_sound ha hm
  have e2 := ev_sound ha hk
  have hr := run_underlying hu w
  have hg := run_getM (P := P) hb
  have hc := fun b => T.chk b key w
  have hf := run_find T key bs w
  have hzz := run_zero hi hz w
  refine ⟨_, w, .inl ?_, Kin.refl w, hV⟩
  have hl : (Instr.lookup t (.map (some b)) (enc key) true).run P w = .ok (.tuple #[(lk key (bs.map kv)).getD z, .bool (lk key (bs.map kv)).isSome]) w := by
    rcases findE_spec key bs 0 with ⟨h1, h2⟩ | ⟨j, h1, h2, x, h3, h4, h5⟩
    · rw [h1] at hf
      simp [Instr.lookup, hr, hg, hc, hf, hzz, h2]
    · rw [h1, h5] at hf
      simp [Instr.lookup, hr, hg, hc, hf, h5]
  simp [execOp, e1, e2, hl]
theorem raw_update {t kt et ty : TypeId} {m kx vx : Operand} {b : Nat} {key : KT} {val : Value} {l : List (KT × Value)} (T : KeyT P kt enc) (hu : P.underlying t = some (.map kt et))
    (hm : ev e m = some (.map (some b))) (hk : ev e kx = some (enc key)) (hv : ev e vx = some val) (M : MO enc h b l) (hV : ∀ h', MO enc h' b (setL key val l) → Fr (fun y => y = b) h h' → V undef h') :
    lM P (.raw ⟨d, .mapUpdate t m kx vx, ty, "", #[], none⟩) e h V X := by
  intro a w ha hw
  subst hw
  obtain ⟨bs, clock, hb, rfl, hn, hlt, hnk⟩ := M
  have e1 := ev_sound ha hm
  have e2 := ev_sound ha hk
  have e3 := ev_sound ha hv
  have hr := run_underlying hu w
  obtain ⟨A, hA⟩ : ∃ A, A = (bs.map (mkE enc)).toArray := ⟨_, rfl⟩
  rw [← hA] at hb
  have hg := run_getM (P := P) hb
  have hc := fun b => T.chk b key w
  have hf := run_find T key bs w
  rw [show bs.map (mkE enc) = A.toList by rw [hA]] at hf
  rcases findE_spec key bs 0 with ⟨h1, h2⟩ | ⟨j, h1, h2, x, h3, h4, h5⟩
  · rw [h1] at hf
    obtain ⟨o', ho'⟩ : ∃ o', o' = Obj.map (A.push ⟨enc key, val, clock⟩) (clock + 1) := ⟨_, rfl⟩
    have hs := run_setM (P := P) hb o'
    have hhp := hp_obj (o' := o') hb (by rw [ho']; rfl)
    refine ⟨_, w.putObj b o', .inr ⟨?_, rfl⟩, kin_obj _ hb, ?_⟩
    · rw [ho'] at hs ⊢
      simp [execOp, e1, e2, e3, Instr.mapUpdate, hr, hg, hc, hf, hs]
    · rw [hhp]
      refine hV _ ⟨bs ++ [(key, val, clock)], clock + 1, ?_, ?_, ?_, ?_, ?_⟩ (Fr.upd (S := fun y => y = b) rfl _)
      · rw [hupd_same, ho', hA]
        simp [mkE]
      · rw [setL, h2]; simp [kv]
      · rw [List.map_append, List.nodup_append]
        refine ⟨hn, by simp, fun y hy z hz => ?_⟩
        obtain ⟨u, hu', rfl⟩ := List.mem_map.1 hy
        simp only [List.map_cons, List.map_nil, List.mem_singleton] at hz
        have := hlt u hu'; omega
      · intro y hy
        rcases List.mem_append.1 hy with hy | hy
        · have := hlt y hy; omega
        · simp only [List.mem_singleton] at hy; subst hy; exact Nat.lt_succ_self _
      · rw [setL, h2]
        simp only [Option.isSome_none, Bool.false_eq_true, if_false]
        rw [List.map_append, List.nodup_append]
        refine ⟨hnk, by simp, fun y hy z hz => ?_⟩
        obtain ⟨u, hu', rfl⟩ := List.mem_map.1 hy
        simp only [List.map_cons, List.map_nil, List.mem_singleton] at hz
        rw [hz]
        exact fun h => lk_none.1 h2 u hu' h.symm
  · rw [h1, h5] at hf
    simp only [Option.map_some, Nat.zero_add] at hf
    have hje : A[j]? = some (mkE enc x) := by rw [hA]; simp [h3]
    have hbits : (Instr.keyThatStays (enc key) (enc key)).run P w = .ok (enc key) w := by simp [Instr.keyThatStays, T.bits key]
    obtain ⟨o', ho'⟩ : ∃ o', o' = Obj.map (A.modify j fun e => { e with key := enc key, val := val }) clock := ⟨_, rfl⟩
    have hs := run_setM (P := P) hb o'
    have hhp := hp_obj (o' := o') hb (by rw [ho']; rfl)
    have hmod := modify_map (k := key) (v := val) h3 h4 hnk
    refine ⟨_, w.putObj b o', .inr ⟨?_, rfl⟩, kin_obj _ hb, ?_⟩
    · rw [ho'] at hs ⊢
      have hmk : (mkE enc x).key = enc key := by rw [← h4]; rfl
      simp [execOp, e1, e2, e3, Instr.mapUpdate, hr, hg, hc, hf, hs, hje, hmk, hbits]
    · rw [hhp]
      refine hV _ ⟨bs.modify j (fun x => (key, val, x.2.2)), clock, ?_, ?_, ?_, ?_, ?_⟩ (Fr.upd (S := fun y => y = b) rfl _)
      · rw [hupd_same, ho', hA]
        congr 2
        apply Array.ext'
        apply List.ext_getElem?
        intro n
        simp only [Array.toList_modify, List.getElem?_modify, List.getElem?_map]
        by_cases hjn : j = n
        · subst hjn
          simp [h3, mkE]
        · simp [hjn]
      · rw [hmod, setL, h5]
        simp only [Option.isSome_some, if_true, List.map_map]
        apply List.map_congr_left
        intro y _
        show kv (if key = y.1 then (key, val, y.2.2) else y) = if key = y.1 then (key, val) else kv y
        split <;> rfl
      · rw [hmod, List.map_map]
        have : ((fun x : En KT => x.2.2) ∘ fun x => if key = x.1 then (key, val, x.2.2) else x) = fun x => x.2.2 := by
          funext y; show (if key = y.1 then (key, val, y.2.2) else y).2.2 = y.2.2
          split <;> rfl
        rw [this]; exact hn
      · intro y hy
        rw [hmod] at hy
        obtain ⟨u, hu', rfl⟩ := List.mem_map.1 hy
        have := hlt u hu'
        split
        · exact this
        · exact this
      · rw [setL, h5]
        simp only [Option.isSome_some, if_true, List.map_map]
        have : (fun x : KT × Value => x.1) ∘ (fun x => if key = x.1 then (key, val) else x) ∘ kv = (fun x : KT × Value => x.1) ∘ kv := by
          funext y
          show (if key = y.1 then (key, val) else kv y).1 = y.1
          split
          · assumption
          · rfl
        rw [this, ← List.map_map]; exact hnk
theorem raw_delete {t kt et ut ty : TypeId} {m kx : Operand} {b : Nat} {key : KT} {l : List (KT × Value)} (T : KeyT P kt enc) (hu : P.underlying t = some (.map kt et))
    (hm : ev e m = some (.map (some b))) (hk : ev e kx = some (enc key)) (M : MO enc h b l) (hV : ∀ h', MO enc h' b (delL key l) → Fr (fun y => y = b) h h' → V (.tuple #[]) h') :
    lM P (.raw ⟨d, .call ⟨.builtin .delete, #[m, kx], #[t, ut]⟩, ty, "", #[], none⟩) e h V X := by
  intro a w ha hw
  subst hw
  obtain ⟨bs, clock, hb, rfl, hn, hlt, hnk⟩ := M
  have e1 := ev_sound ha hm
  have e2 := ev_sound ha hk
  have hr := run_underlying hu w
  obtain ⟨A, hA⟩ : ∃ A, A = (bs.map (mkE enc)).toArray := ⟨_, rfl⟩
  rw [← hA] at hb
  have hg := run_getM (P := P) hb
  have hc := fun b => T.chk b key w
  have hf := run_find T key bs w
  rw [show bs.map (mkE enc) = A.toList by rw [hA]] at hf
  rcases findE_spec key bs 0 with ⟨h1, h2⟩ | ⟨j, h1, h2, x, h3, h4, h5⟩
  · rw [h1] at hf
    have hs := run_setM (P := P) hb (.map A clock)
    have hhp := hp_obj (o' := .map A clock) hb rfl
    refine ⟨.tuple #[], w.putObj b (.map A clock), .inl ?_, kin_obj _ hb, ?_⟩
    · simp [execOp, resolve, invoke, builtin, e1, e2, Builtin.delete_, hr, hg, hc, hf, hs]
    · rw [hhp]
      have hd : delL key (bs.map kv) = bs.map kv := by
        unfold delL
        rw [List.filter_eq_self]
        intro x hx
        simp only [Bool.not_eq_true', decide_eq_false_iff_not]
        exact lk_none.1 h2 x hx
      exact hV _ ⟨bs, clock, by rw [hupd_same, hA], hd.symm, hn, hlt, by rw [hd]; exact hnk⟩ (Fr.upd (S := fun y => y = b) rfl _)
  · rw [h1, h5] at hf
    simp only [Option.map_some, Nat.zero_add] at hf
    obtain ⟨o', ho'⟩ : ∃ o', o' = Obj.map (A.eraseIdxIfInBounds j) clock := ⟨_, rfl⟩
    have hs := run_setM (P := P) hb o'
    have hhp := hp_obj (o' := o') hb (by rw [ho']; rfl)
    have her := erase_map (k := key) h3 h4 hnk
    refine ⟨.tuple #[], w.putObj b o', .inl ?_, kin_obj _ hb, ?_⟩
    · rw [ho'] at hs ⊢
      simp [execOp, resolve, invoke, builtin, e1, e2, Builtin.delete_, hr, hg, hc, hf, hs]
    · rw [hhp]
      have hjl : j < bs.length := (List.getElem?_eq_some_iff.1 h3).1
      have hdel : delL key (bs.map kv) = (bs.eraseIdx j).map kv := by
        rw [her]
        unfold delL
        rw [List.filter_map]
        rfl
      refine hV _ ⟨bs.eraseIdx j, clock, ?_, hdel.symm, ?_, ?_, ?_⟩ (Fr.upd (S := fun y => y = b) rfl _)
      · rw [hupd_same, ho', hA]
        congr 2
        apply Array.ext'
        rw [Array.eraseIdxIfInBounds, dif_pos (by simp; exact hjl)]
        simp [ChangeMaps.map_eraseIdx]
      · rw [ChangeMaps.map_eraseIdx]; exact hn.eraseIdx _
      · intro y hy
        exact hlt y (List.mem_of_mem_eraseIdx hy)
      · rw [hdel, ChangeMaps.map_eraseIdx, ChangeMaps.map_eraseIdx]; exact hnk.eraseIdx _
end
section
variable {P : Program} {e : Env} {h : H} {V : Value → H → Prop} {X : List PanicEntry → H → Prop} {d : Option Nat} {KT : Type} {enc : KT → Value}
theorem raw_lenm {t kt et ty : TypeId} {m : Operand} {b : Nat} {l : List (KT × Value)} (hu : P.underlying t = some (.map kt et)) (hm : ev e m = some (.map (some b))) (M : MO enc h b l) (hV : V (.int .i64 (l.length : Int)) h) :
    lM P (.raw ⟨d, .call ⟨.builtin .len, #[m], #[t]⟩, ty, "", #[], none⟩) e h V X := by
  intro a w ha hw
  subst hw
  obtain ⟨bs, clock, hb, rfl, _⟩ := M
  have e1 := ev_sound ha hm
  have hr := run_underlying hu w
  have hg := run_getM (P := P) hb
  refine ⟨_, w, .inl ?_, Kin.refl w, hV⟩
  simp [execOp, resolve, invoke, builtin, e1, Builtin.len_, hr, hg, goInt]
/-- A map gone over: these have been told. -/
def ITO (enc : KT → Value) (h : H) (b r : Nat) (l vis : List (KT × Value)) : Prop :=
  ∃ (bs vs rest : List (En KT)) (clock : Nat), h b = some (.map (bs.map (mkE enc)).toArray clock) ∧ bs.map kv = l ∧ (bs.map fun x => x.2.2).Nodup ∧ (∀ x ∈ bs, x.2.2 < clock) ∧ (l.map fun x => x.1).Nodup ∧
    h r = some (.mapIter (some b) clock (vs.map fun x => x.2.2).toArray clock) ∧ vs.map kv = vis ∧ (vs ++ rest).Perm bs
theorem ITO.mo {b r : Nat} {l vis : List (KT × Value)} (I : ITO enc h b r l vis) : MO enc h b l := by
  obtain ⟨bs, vs, rest, clock, h1, h2, h3, h4, h5, _⟩ := I
  exact ⟨bs, clock, h1, h2, h3, h4, h5⟩
theorem ITO.fr {T : Nat → Prop} {h' : H} {b r : Nat} {l vis : List (KT × Value)} (I : ITO enc h b r l vis) (f : Fr T h h') (hb : ¬ T b) (hr : ¬ T r) : ITO enc h' b r l vis := by
  obtain ⟨bs, vs, rest, clock, h1, h2, h3, h4, h5, h6, h7⟩ := I
  exact ⟨bs, vs, rest, clock, f _ _ h1 hb, h2, h3, h4, h5, f _ _ h6 hr, h7⟩
theorem ITO.ext {h' : H} {b r : Nat} {l vis : List (KT × Value)} (I : ITO enc h b r l vis) (f : Ext h h') : ITO enc h' b r l vis := I.fr f id id
theorem ITO.iter {b r : Nat} {l vis : List (KT × Value)} (I : ITO enc h b r l vis) : ∃ m s n c, h r = some (.mapIter m s n c) := by
  obtain ⟨bs, vs, rest, clock, h1, h2, h3, h4, h5, h6, h7⟩ := I
  exact ⟨_, _, _, _, h6⟩
theorem ITO.le {b r : Nat} {l vis : List (KT × Value)} (I : ITO enc h b r l vis) : vis.length ≤ l.length := by
  obtain ⟨bs, vs, rest, clock, h1, rfl, h3, h4, h5, h6, rfl, h8⟩ := I
  have := h8.length_eq
  simp at this ⊢; omega
theorem ITO.sub {b r : Nat} {l vis : List (KT × Value)} (I : ITO enc h b r l vis) : ∀ x ∈ vis, x ∈ l := by
  obtain ⟨bs, vs, rest, clock, h1, rfl, h3, h4, h5, h6, rfl, h8⟩ := I
  intro x hx
  obtain ⟨y, hy, rfl⟩ := List.mem_map.1 hx
  exact List.mem_map.2 ⟨y, h8.subset (by simp [hy]), rfl⟩
theorem raw_rangem {t kt et ty : TypeId} {m : Operand} {b : Nat} {l : List (KT × Value)} (hu : P.underlying t = some (.map kt et)) (hm : ev e m = some (.map (some b))) (M : MO enc h b l)
    (hV : ∀ r h', h r = none → ITO enc h' b r l [] → Ext h h' → V (.pointer (some ⟨r, 0, none⟩)) h') :
    lM P (.raw ⟨d, .range t m, ty, "", #[], none⟩) e h V X := by
  intro a w ha hw
  subst hw
  obtain ⟨bs, clock, hb, rfl, hn, hlt, hnk⟩ := M
  have e1 := ev_sound ha hm
  have hrun := run_range_map (P := P) w t kt et b _ clock hu (at_heap hb)
  have hne : b ≠ w.heap.size := fun h => by rw [h] at hb; rw [hp_new] at hb; cases hb
  have hhp := hp_allocV w (o := .mapIter (some b) clock #[] clock) rfl
  refine ⟨.pointer (some ⟨w.heap.size, 0, none⟩), w.alloc (.mapIter (some b) clock #[] clock), .inl ?_, kin_alloc _ _, ?_⟩
  · simp [execOp, e1, hrun]
  · rw [hhp]
    exact hV _ _ (hp_new w) ⟨bs, [], bs, clock, by rw [hupd_ne _ _ hne]; exact hb, rfl, hn, hlt, hnk, hupd_same _ _ _, rfl, by simp⟩ (Ext.new (hp_new w) _)
theorem raw_nextm {it : Operand} {ty : TypeId} {b r : Nat} {l vis : List (KT × Value)} (hx : ev e it = some (.pointer (some ⟨r, 0, none⟩))) (I : ITO enc h b r l vis)
    (hV : ∀ x h', x ∈ l → (∀ y ∈ vis, y.1 ≠ x.1) → ITO enc h' b r l (vis ++ [x]) → Fr (fun y => y = r) h h' → V (.tuple #[.bool true, enc x.1, x.2]) h') (hV0 : vis.Perm l → V (.tuple #[.bool false]) h) :
    lM P (.raw ⟨d, .next it false, ty, "", #[], none⟩) e h V X := by
  intro a w ha hw
  subst hw
  obtain ⟨bs, vs, rest, clock, hb, rfl, hn, hlt, hnk, hr, rfl, hp8⟩ := I
  have e1 := ev_sound ha hx
  have hold : ∀ x ∈ (bs.map (mkE enc)).toArray.toList, x.born < clock := by
    intro x hx
    obtain ⟨y, hy, rfl⟩ := List.mem_map.1 hx
    exact hlt y hy
  have hnb : b ≠ r := fun h => by rw [h, hr] at hb; cases hb
  have hn2 : ((vs ++ rest).map fun x => x.2.2).Nodup := (hp8.map _).nodup_iff.2 hn
  have hnk2 : (((vs ++ rest).map kv).map fun x => x.1).Nodup := ((hp8.map kv).map _).nodup_iff.2 hnk
  rcases run_next_at (P := P) w ty r b clock clock _ _ clock (at_heap hr) (at_heap hb) hold (Nat.le_refl _) with ⟨h0, hrun⟩ | ⟨e', he', w1, hw1, hrun⟩
  · refine ⟨.tuple #[.bool false], w, .inl (by simp [execOp, e1, hrun]), Kin.refl w, hV0 ?_⟩
    have hrest : rest = [] := by
      cases rest with
      | nil => rfl
      | cons x t =>
        exfalso
        have hxb : x ∈ bs := hp8.subset (by simp)
        have hxl : mkE enc x ∈ (leftOf (bs.map (mkE enc)).toArray (vs.map fun x => x.2.2).toArray).toList := by
          unfold leftOf
          simp only [List.filter_toArray, List.mem_filter, List.mem_map, Bool.not_eq_true']
          refine ⟨⟨x, hxb, rfl⟩, ?_⟩
          rw [List.contains_toArray, ← Bool.not_eq_true, List.contains_iff_mem]
          intro hc
          rw [List.map_append, List.nodup_append] at hn2
          exact hn2.2.2 _ hc x.2.2 (by simp) rfl
        have : 0 < (leftOf (bs.map (mkE enc)).toArray (vs.map fun x => x.2.2).toArray).toList.length := List.length_pos_of_mem hxl
        rw [Array.length_toList] at this
        omega
    subst hrest
    rw [List.append_nil] at hp8
    exact hp8.map kv
  · obtain ⟨hem, hes⟩ := mem_left he'
    obtain ⟨x, hxb, rfl⟩ := List.mem_map.1 (show e' ∈ bs.map (mkE enc) from hem)
    have hxr : x ∈ rest := by
      rcases List.mem_append.1 (hp8.symm.subset hxb) with hxv | hxr
      · exfalso
        rw [List.contains_toArray, ← Bool.not_eq_true, List.contains_iff_mem] at hes
        exact hes (List.mem_map.2 ⟨x, hxv, rfl⟩)
      · exact hxr
    obtain ⟨s, t, rfl⟩ := List.append_of_mem hxr
    obtain ⟨o', ho'⟩ : ∃ o', o' = Obj.mapIter (some b) clock ((vs.map fun x => x.2.2).toArray.push (mkE enc x).born) clock := ⟨_, rfl⟩
    have hk1 : Kin w w1 ∧ hp w1 = hp w := by
      rcases hw1 with rfl | rfl
      · exact ⟨Kin.refl _, rfl⟩
      · exact ⟨kin_drew w, rfl⟩
    have hr1 : hp w1 r = some (.mapIter (some b) clock (vs.map fun x => x.2.2).toArray clock) := by rw [hk1.2]; exact hr
    have hhp := hp_obj (o' := o') hr1 (by rw [ho']; rfl)
    refine ⟨.tuple #[.bool true, enc x.1, x.2.1], w1.putObj r o', .inl ?_, hk1.1.trans (kin_obj _ hr1), ?_⟩
    · have : (Instr.next (.pointer (some ⟨r, 0, none⟩)) false ty).run P w = .ok (.tuple #[.bool true, enc x.1, x.2.1]) (w1.putObj r o') := by rw [hrun, ho']; rfl
      simp only [execOp, e1, Sem.run_bind, this, Result.andThen]
      rfl
    · rw [hhp, hk1.2]
      refine hV (kv x) _ (List.mem_map.2 ⟨x, hxb, rfl⟩) ?_ ⟨bs, vs ++ [x], s ++ t, clock, by rw [hupd_ne _ _ hnb]; exact hb, rfl, hn, hlt, hnk, ?_, by simp, ?_⟩ (Fr.upd (S := fun y => y = r) rfl _)
      · intro y hy hyx
        obtain ⟨z, hz, rfl⟩ := List.mem_map.1 hy
        rw [List.map_append, List.map_append, List.nodup_append] at hnk2
        exact hnk2.2.2 _ (List.mem_map.2 ⟨kv z, List.mem_map.2 ⟨z, hz, rfl⟩, rfl⟩) _ (List.mem_map.2 ⟨kv x, List.mem_map.2 ⟨x, by simp, rfl⟩, rfl⟩) hyx
      · rw [hupd_same, ho']
        simp [mkE]
      · refine List.Perm.trans ?_ hp8
        rw [List.append_assoc]
        exact List.Perm.append_left vs (List.perm_middle (l₁ := s)).symm
theorem raw_entrym {it : Operand} {ty : TypeId} {b r : Nat} {l vis : List (KT × Value)} {x : KT × Value} (hx : ev e it = some (.pointer (some ⟨r, 0, none⟩))) (I : ITO enc h b r l (vis ++ [x]))
    (hV : V (.tuple #[enc x.1, x.2]) h) : lM P (.raw ⟨d, .entry it, ty, "", #[], none⟩) e h V X := by
  intro a w ha hw
  subst hw
  obtain ⟨bs, vs, rest, clock, hb, rfl, hn, hlt, hnk, hr, hvs, hp8⟩ := I
  have e1 := ev_sound ha hx
  obtain ⟨vs0, v1, rfl, hv0, hv1⟩ := List.map_eq_append_iff.1 hvs
  obtain ⟨y, rfl, rfl⟩ : ∃ y, v1 = [y] ∧ kv y = x := by
    cases v1 with
    | nil => simp at hv1
    | cons y t => cases t with
      | nil => simp at hv1; exact ⟨y, rfl, hv1⟩
      | cons z u => simp at hv1
  have hyb : y ∈ bs := hp8.subset (by simp)
  have hseen : ((vs0 ++ [y]).map fun x => x.2.2).toArray = (vs0.map fun x => x.2.2).toArray.push (mkE enc y).born := by simp [mkE]
  have hrun := run_entry_at (P := P) w r b clock (vs0.map fun x => x.2.2).toArray _ clock (mkE enc y) (by rw [← hseen]; exact at_heap hr) (at_heap hb) (List.mem_map.2 ⟨y, hyb, rfl⟩) (by simp only [List.map_map]; exact hn)
  refine ⟨.tuple #[enc (kv y).1, (kv y).2], w, .inl ?_, Kin.refl w, hV⟩
  simp only [execOp, e1, Sem.run_bind, hrun, Result.andThen]
  rfl
end
end Go.Proofs.Ythhofmjhnjkcfaa
