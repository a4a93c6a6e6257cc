/-
  Ranges over functions whose rounds may make new blocks; records; growing a slice that is not there.
-/
import Derived.Test.YtojhnclkhiffkaaK16
namespace Go.Proofs.Ytojhnclkhiffkaa
set_option linter.unusedVariables false
set_option linter.unusedSimpArgs false

/-! ### Ranges over functions -/
theorem hdel_mono {h h' : H} (L : Nat) (e : Ext h h') : Ext (hdel h L) (hdel h' L) := by
  intro b o hb _
  unfold hdel at hb ⊢
  split at hb
  · cases hb
  · rw [if_neg ‹_›]; exact e.at hb
/-! ### append of so many zero elements, to nothing -/
theorem raw_grow {Pg : Program} {P : Cx Pg} {e : Env} {h : H} {V : Value → H → Prop} {X : List PanicEntry → H → Prop} {d : Option Nat} {s t E ty : TypeId} {kk : IntKind} {x y : Operand} {i : TypeInfo} {z : Value} {n c : Nat} {m : Int}
    (hs : P.prog.underlying s = some (.slice E)) (ht : P.prog.underlying t = some (.int kk)) (hi : P.prog.info? E = some i) (hz : i.zero = some z) (hx : ev e x = some (.slice none 0 c)) (hy : ev e y = some (.int .i64 m)) (hm : m = n) (hc : c < n) (hc0 : c = 0) (hn : 2 * (n * i.bytes) ≤ 281474976710656) (hn' : n ≤ 9223372036854775807) (hsz : i.size ≠ 0)
    (hV : ∀ cp, n ≤ cp → ∀ b, h b = none → V (.slice (some ⟨b, 0, none⟩) n cp) (hupd h b (.cells (Builtin.zeroCells z.cells n ++ Builtin.zeroCells z.cells (cp - n)) E))) :
    lM P (.raw ⟨d, .call ⟨.builtin .append, #[x, y], #[s, t]⟩, ty, "", #[], none⟩) e h V X := by
  intro a ha
  refine does_of fun w hh => ?_
  subst hc0 hm
  replace hs : Pg.underlying s = _ := hs
  replace ht : Pg.underlying t = _ := ht
  replace hi : Pg.info? E = _ := hi
  have hwr : IntKind.i64.wrap (n : Int) = n := by
    exact wrap_i64 (by omega) (by omega)
  let q := (Question.appendCap (0 + n) 0 E).cut (w.tape w.drawn (Question.appendCap (0 + n) 0 E))
  have hq : n ≤ q := Nat.le_trans (by omega) (Nat.le_add_right (0 + n) _)
  have hns : Builtin.nextslicecap n 0 = n := by unfold Builtin.nextslicecap; rw [if_pos (by omega)]
  have hb : ¬ (281474976710656 < n * i.bytes) := by omega
  have hb' : ¬ (281474976710656 < (n : Int) * i.bytes) := by
    have : ((n * i.bytes : Nat) : Int) = (n : Int) * i.bytes := by simp
    omega
  have h63 : ¬ (9223372036854775807 < (n : Int)) := by omega
  have h0 : ¬ n = 0 := by omega
  have hng : ¬ ((n : Int) < 0) := by omega
  have hns' : ¬ (n * i.size = 0) := Nat.mul_ne_zero h0 hsz
  have has : (asInt (.int .i64 (n : Int))).run Pg w = .ok (n : Int) w := by simp [asInt, asIntOf]
  have has2 : ∀ es, (asInt (.int .i64 (n : Int))).events Pg w es = es := fun es => by simp [asInt, asIntOf]
  have hg : (Builtin.append_ #[s, t] ty #[.slice none 0 0, .int .i64 (n : Int)]).run Pg w = .ok (.slice (some ⟨w.heap.size, 0, none⟩) n q) (w.drew.alloc (.cells (Builtin.zeroCells z.cells n ++ Builtin.zeroCells z.cells (q - n)) E)) := by
    simp [Builtin.append_, run_underlying hs, run_underlying ht, run_size hi, run_info hi, run_zero hi hz, hwr, hb, hb', h63, h0, hng, hns', hsz, hns, Question.forced, newRow, q, has, Builtin.firstCells]
  have hev : (Builtin.append_ #[s, t] ty #[.slice none 0 0, .int .i64 (n : Int)]).events Pg w #[] = (askRoom (q * i.bytes)).events Pg w.drew #[] := by
    simp [Builtin.append_, run_underlying hs, run_underlying ht, run_size hi, run_info hi, run_zero hi hz, hwr, hb, hb', h63, h0, hng, hns', hsz, hns, Question.forced, newRow, q, has, has2, Builtin.firstCells]
  refine ⟨_, w.drew.alloc (.cells (Builtin.zeroCells z.cells n ++ Builtin.zeroCells z.cells (q - n)) E), _, .inl ?_, Fra.new hh rfl rfl rfl rfl (HolO_new _ _) fun e he => ?_, hV q hq w.heap.size (hol_new hh)⟩
  · simp [execOp, resolve, invoke, builtin, ev_sound ha hx, ev_sound ha hy, hg]
  · have hev' : (execOp a.eval ⟨d, .call ⟨.builtin .append, #[x, y], #[s, t]⟩, ty, "", #[], none⟩).events Pg w #[] = (Builtin.append_ #[s, t] ty #[.slice none 0 0, .int .i64 (n : Int)]).events Pg w #[] := by
      simp [execOp, resolve, invoke, builtin, ev_sound ha hx, ev_sound ha hy, hg]
    rw [hev', hev] at he
    exact (ev_room _ _ _ e he).resolve_left (by simp)

/-! ### Blocks that were just made -/
theorem cells1_same (h : H) (b : Nat) (x1 : Value) (E : TypeId) (fr : Nat × Nat) : cellsAt (hupd h b (.cells #[x1] E fr)) ⟨b, 0, none⟩ 1 = some #[x1] := cellsAt_all (hupd_same _ _ _) 1 rfl
theorem cells2_same (h : H) (b : Nat) (x1 x2 : Value) (E : TypeId) (fr : Nat × Nat) : cellsAt (hupd h b (.cells #[x1, x2] E fr)) ⟨b, 0, none⟩ 2 = some #[x1, x2] := cellsAt_all (hupd_same _ _ _) 2 rfl
theorem cells3_same (h : H) (b : Nat) (x1 x2 x3 : Value) (E : TypeId) (fr : Nat × Nat) : cellsAt (hupd h b (.cells #[x1, x2, x3] E fr)) ⟨b, 0, none⟩ 3 = some #[x1, x2, x3] := cellsAt_all (hupd_same _ _ _) 3 rfl
theorem cells4_same (h : H) (b : Nat) (x1 x2 x3 x4 : Value) (E : TypeId) (fr : Nat × Nat) : cellsAt (hupd h b (.cells #[x1, x2, x3, x4] E fr)) ⟨b, 0, none⟩ 4 = some #[x1, x2, x3, x4] := cellsAt_all (hupd_same _ _ _) 4 rfl
theorem cells5_same (h : H) (b : Nat) (x1 x2 x3 x4 x5 : Value) (E : TypeId) (fr : Nat × Nat) : cellsAt (hupd h b (.cells #[x1, x2, x3, x4, x5] E fr)) ⟨b, 0, none⟩ 5 = some #[x1, x2, x3, x4, x5] := cellsAt_all (hupd_same _ _ _) 5 rfl
theorem cells6_same (h : H) (b : Nat) (x1 x2 x3 x4 x5 x6 : Value) (E : TypeId) (fr : Nat × Nat) : cellsAt (hupd h b (.cells #[x1, x2, x3, x4, x5, x6] E fr)) ⟨b, 0, none⟩ 6 = some #[x1, x2, x3, x4, x5, x6] := cellsAt_all (hupd_same _ _ _) 6 rfl
theorem Ext.trans {a b c : H} (h : Ext a b) (k : Ext b c) : Ext a c := Fr.trans h k
theorem Ext.refl (h : H) : Ext h h := Fr.refl _ h
theorem cellAt_ext {h h' : H} {a : Addr} {v : Value} (e : Ext h h') (ha : cellAt h a = some v) : cellAt h' a = some v := by
  unfold cellAt at ha ⊢
  split at ha
  · rename_i c E fr hb
    rw [e.at hb]; exact ha
  · rename_i o hno hb
    rw [e.at hb]
    cases o with
    | cells c E fr => exact absurd rfl (hno c E fr)
    | _ => exact ha
  · cases ha
/-- A new variable, and what is stored in it. -/
theorem stn_new {h : H} {b n : Nat} {c : Array Value} {E : TypeId} {vs : List Value} {K : H → Prop} (hn : vs.length = n) (hc : c.size = n) (hv : vs.all isCell = true) (hK : K (hupd h b (.cells vs.toArray E))) : vs.length = n ∧ storeH (hupd h b (.cells c E)) ⟨b, 0, none⟩ vs K := by
  refine ⟨hn, storeH_all (hupd_same _ _ _) (by rw [hn, hc]) hv ?_⟩
  rw [hupd_hupd]
  exact hK
theorem cells_ne {h : H} {b x : Nat} (o : Obj) (m n : Nat) (hne : x ≠ b) : cellsAt (hupd h b o) ⟨x, m, none⟩ n = cellsAt h ⟨x, m, none⟩ n := by
  unfold cellsAt
  rw [hupd_ne _ _ hne]
theorem RepL.ext {S : Nat → Prop} {t : Ty} {h h' : H} {v : Value} {xs : List t.D} (r : RepL S t h v xs) (e : Ext h h') : RepL S t h' v xs := Rep.ext r e
theorem RepL.fr {S T : Nat → Prop} {t : Ty} {h h' : H} {v : Value} {xs : List t.D} (r : RepL S t h v xs) (e : Fr T h h') (hs : ∀ x, T x → S x) : RepL S t h' v xs := Rep.fr r e hs
theorem RepL.mono {S T : Nat → Prop} {t : Ty} {h : H} {v : Value} {xs : List t.D} (r : RepL S t h v xs) (hs : ∀ x o, h x = some o → T x → S x) : RepL T t h v xs := Rep.mono r hs
theorem OwL.subS {S S' O : Nat → Prop} {t : Ty} {h : H} {E : TypeId} {v : Value} {xs : List t.D} (s : OwL S t O h E v xs) (hs : ∀ y, S' y → S y) : OwL S' t O h E v xs := by
  obtain ⟨rows, h1, h2, h3⟩ := s
  exact ⟨rows, h1, h2, fun i r x hr hx => (h3 i r x hr hx).mono fun y _ _ hy => hy.imp id (hs y)⟩
theorem OwK.own {k : Nat} {O : Nat → Prop} {h : H} {E : TypeId} {v : Value} {rows : List (List Value)} (s : OwK k O h E v rows) {y : Nat} (hy : isAt v y) : O y := by
  obtain ⟨_, ⟨rfl, _⟩ | ⟨b, o, cp, c, fr, rfl, _, _, _, _, h6, _⟩⟩ := s
  · obtain ⟨_, _, _, he⟩ := hy; simp at he
  · obtain ⟨_, _, _, he⟩ := hy
    simp only [Value.slice.injEq, Option.some.injEq, Addr.mk.injEq] at he
    obtain ⟨⟨rfl, _⟩, _⟩ := he
    exact h6
theorem OwL.own {S : Nat → Prop} {t : Ty} {O : Nat → Prop} {h : H} {E : TypeId} {v : Value} {xs : List t.D} (s : OwL S t O h E v xs) {y : Nat} (hy : isAt v y) : O y := by
  obtain ⟨rows, h1, _⟩ := s; exact h1.own hy
theorem all_flat {rows : List (List Value)} (h : ∀ r ∈ rows, r.all isCell = true) : (flat rows).all isCell = true := by
  induction rows with
  | nil => rfl
  | cons r t ih =>
    rw [flat_cons, List.all_append, h r (by simp), ih fun r hr => h r (by simp [hr])]; rfl
/-- append of a list of data. -/
theorem OwL.app {S O : Nat → Prop} {t : Ty} {h : H} {E : TypeId} {v x : Value} {xs new : List t.D} {bytes : Nat} {z : Array Value} {V : Value → H → Prop} (k : Nat) (hk : t.sz = k) (hs : OwL S t O h E v xs) (hO : ∀ b, h b = none → O b)
    (hx : RepL (fun y => isAt v y ∨ S y) t h x new) (hz : z.size = k) (hlen : 2 * ((xs.length + new.length) * bytes) ≤ 281474976710656) (hlen' : xs.length + new.length ≤ 9223372036854775807)
    (hV : ∀ s' h', OwL S t O h' E s' (xs ++ new) → Fr (fun y => O y ∧ isAt v y) h h' → (∀ y, isAt s' y → isAt v y ∨ h y = none) → V s' h') : appM E k bytes z v x h V := by
  subst hk
  obtain ⟨rows, h1, h2, h3⟩ := hs
  obtain ⟨nrows, n1, n2, n3⟩ := repL_iff.1 hx
  obtain ⟨s1, s2⟩ := n1.src
  have s3 := s2 nrows.length (Nat.le_refl _)
  rw [List.take_length] at s3
  refine app_ow h1 hO n1.rect s1 s3 (all_flat fun r hr => ?_) hz (by rw [h2, n2]; exact hlen) (by rw [h2, n2]; exact hlen') ?_
  · obtain ⟨i, hi, rfl⟩ := List.getElem_of_mem hr
    exact (n3 i _ new[i] (by simp [hi]) (by simp)).cells
  intro s' h' ho hf hat
  have hrep : ∀ r y, Rep (fun y => isAt v y ∨ S y) t h r y → Rep (fun y => isAt s' y ∨ S y) t h' r y := by
    intro r y hr
    have h4 : Rep (fun z => isAt v z ∨ h z = none ∨ S z) t h r y := by
      refine (Rep.mono hr (T := fun z => isAt v z ∨ h z = none ∨ S z) ?_)
      rintro z o hz (h1 | h1 | h1)
      · exact .inl h1
      · rw [h1] at hz; cases hz
      · exact .inr h1
    have h5 : Rep (fun z => isAt v z ∨ h z = none ∨ S z) t h' r y := h4.fr hf fun z hz => .inl hz.2
    exact h5.mono fun z o _ hz => hz.elim (fun h1 => (hat z h1).elim .inl fun h2 => .inr (.inl h2)) fun h1 => .inr (.inr h1)
  refine hV s' h' ⟨_, ho, by simp [h2, n2], ?_⟩ hf hat
  intro i r y hr hy
  by_cases hi : i < rows.length
  · rw [List.getElem?_append_left hi] at hr
    rw [List.getElem?_append_left (by omega)] at hy
    exact hrep _ _ (h3 i r y hr hy)
  · rw [List.getElem?_append_right (by omega)] at hr
    rw [List.getElem?_append_right (by omega)] at hy
    rw [h2] at hr
    exact hrep _ _ (n3 _ r y hr hy)
theorem RepL.cap {S : Nat → Prop} {t : Ty} {h : H} {a : Option Addr} {n c : Nat} {xs : List t.D} (r : RepL S t h (.slice a n c) xs) : n = xs.length ∧ n ≤ c ∧ xs.length ≤ c := by
  obtain ⟨rows, h1, h2, _⟩ := repL_iff.1 r
  have := h1.cap
  omega
theorem RepL.fresh {S : Nat → Prop} {t : Ty} {h : H} {v : Value} {xs : List t.D} (r : RepL S t h v xs) : RepL (fun y => h y = none) t h v xs := Rep.old r fun _ h => h
theorem flat_rep {l : List Value} {k : Nat} (hk : l.length = k) (h0 : 0 < k) : ∀ (n i : Nat), i < n * k → (flat (List.replicate n l))[i]? = l[i % k]?
  | 0, i, h => by omega
  | n + 1, i, h => by
    rw [List.replicate_succ, flat_cons]
    by_cases hi : i < k
    · rw [List.getElem?_append_left (by omega), Nat.mod_eq_of_lt hi]
    · rw [List.getElem?_append_right (by omega), hk, flat_rep hk h0 n (i - k) (by rw [Nat.succ_mul] at h; omega), Nat.mod_eq_sub_mod (a := i) (by omega)]
/-- What make made: zeros. -/
theorem omakek {k : Nat} {O : Nat → Prop} {h : H} {b : Nat} {E : TypeId} {z : List Value} {n m : Nat} (hz : z.length = k) (hk : 0 < k) (hnm : n ≤ m) (ho : O b) : OwK k O (hupd h b (.cells (Builtin.zeroCells z.toArray m) E)) E (.slice (some ⟨b, 0, none⟩) n m) (List.replicate n z) := by
  have hr : Rect k (List.replicate n z) := fun r hr => by rw [List.eq_of_mem_replicate hr, hz]
  have hfl := hr.flat
  rw [List.length_replicate] at hfl
  refine OwK.lit hr (by simp) (by simp [Builtin.zeroCells, hz]) hnm ?_ ho (.inl rfl)
  intro i hi
  have hnk : n * k ≤ m * k := Nat.mul_le_mul_right _ hnm
  have h2 := flat_rep hz hk n i (by omega)
  rw [List.getElem?_eq_getElem hi] at h2
  rw [h2]
  have him : i < m * z.length := by rw [hz]; omega
  have hmod : i % k < z.length := by rw [hz]; exact Nat.mod_lt _ hk
  have him2 : i < m * k := by rw [← hz]; exact him
  have h3 : z[i % k]? = some z[i % k] := List.getElem?_eq_getElem hmod
  simp [Builtin.zeroCells, hz, h3, him2]
theorem omakeL {S : Nat → Prop} {t : Ty} {O : Nat → Prop} {h : H} {b : Nat} {E : TypeId} {z : List Value} {n m : Nat} (k : Nat) (hk : t.sz = k) (x : t.D) (hz : ∀ h, Rep (fun y => isAt (.slice (some ⟨b, 0, none⟩) n m) y ∨ S y) t h z x) (hnm : n ≤ m) (ho : O b) : OwL S t O (hupd h b (.cells (Builtin.zeroCells z.toArray m) E)) E (.slice (some ⟨b, 0, none⟩) n m) (List.replicate n x) := by
  refine ⟨_, omakek (z := z) ((hz h).len) t.sz_pos hnm ho, by simp, ?_⟩
  intro i r y hr hy
  rw [List.getElem?_replicate] at hr hy
  split at hr
  · simp only [Option.some.injEq] at hr hy
    rw [if_pos ‹_›] at hy
    simp only [Option.some.injEq] at hy
    subst hr hy
    exact hz _
  · cases hr
theorem rep_rc0 {S : Nat → Prop} (h : H) : Rep S (.pair (.int .i64) (.pair (.sl .byte) (.sl .byte))) h [.int .i64 0, .slice none 0 0, .slice none 0 0] ((0 : Int), ([] : List UInt8), ([] : List UInt8)) :=
  ⟨[_], _, rfl, ⟨rfl, by decide, by decide⟩, ⟨[_], [_], rfl, repB.2 By.nil, repB.2 By.nil⟩⟩
/-- A literal list of slices. -/
theorem lit_sl {S : Nat → Prop} {t : Ty} {h : H} {b n : Nat} {E : TypeId} (vs : List Value) (xs : List (List t.D)) (hn : vs.length = n) (hx : xs.length = n) (hS : ¬ S b) (hr : ∀ (i : Nat) v x, vs[i]? = some v → xs[i]? = some x → RepL S t (hupd h b (.cells vs.toArray E)) v x) :
    RepL S (.sl t) (hupd h b (.cells vs.toArray E)) (.slice (some ⟨b, 0, none⟩) n n) xs := by
  subst hn
  refine repL_iff.2 ⟨one vs, (olit1 (O := fun y => y = b) vs rfl rfl).sl (fun x hx => by rw [hx]; exact hS), by rw [one_len, hx], ?_⟩
  intro i r x hr' hx'
  simp only [one, List.getElem?_map, Option.map_eq_some_iff] at hr'
  obtain ⟨v, hv, rfl⟩ := hr'
  exact hr i v x hv hx'
/-- A slice's length, for a measure. -/
def mlen : Value → Nat
  | .slice _ n _ => n
  | _ => 0
/-! ### Records -/
abbrev rc : Ty := .pair (.int .i64) (.pair (.sl .byte) (.sl .byte))
theorem rep_rc {S : Nat → Prop} {h : H} {cs : List Value} {x : rc.D} : Rep S rc h cs x ↔ ∃ k v, cs = [.int .i64 x.1, k, v] ∧ (-9223372036854775808 ≤ x.1 ∧ x.1 ≤ 9223372036854775807) ∧ By S h k x.2.1 ∧ By S h v x.2.2 := by
  constructor
  · rintro ⟨c, d, rfl, ⟨rfl, h1, h2⟩, ⟨e, f, rfl, h3, h4⟩⟩
    obtain ⟨k, _, rfl, _⟩ := id h3
    obtain ⟨v, _, rfl, _⟩ := id h4
    exact ⟨k, v, rfl, ⟨h1, h2⟩, repB.1 h3, repB.1 h4⟩
  · rintro ⟨k, v, rfl, ⟨h1, h2⟩, h3, h4⟩
    exact ⟨[_], [k, v], rfl, ⟨rfl, h1, h2⟩, ⟨[k], [v], rfl, repB.2 h3, repB.2 h4⟩⟩
/-! ### Lists of data whose rows have something more -/
theorem OwK.ty {k : Nat} {O : Nat → Prop} {h : H} {E : TypeId} {v : Value} {rows : List (List Value)} (s : OwK k O h E v rows) {y : Nat} (hy : isAt v y) : ∃ c fr, h y = some (.cells c E fr) := by
  obtain ⟨_, ⟨rfl, _⟩ | ⟨b, o, cp, c, fr, rfl, h2, _⟩⟩ := s
  · obtain ⟨_, _, _, he⟩ := hy; simp at he
  · obtain ⟨_, _, _, he⟩ := hy
    simp only [Value.slice.injEq, Option.some.injEq, Addr.mk.injEq] at he
    obtain ⟨⟨rfl, _⟩, _⟩ := he
    exact ⟨_, _, h2⟩
/-- Slices over blocks of unlike types lie apart. -/
theorem OwK.unlike {k k' : Nat} {O O' : Nat → Prop} {h : H} {E E' : TypeId} {v v' : Value} {rows rows' : List (List Value)} (s : OwK k O h E v rows) (s' : OwK k' O' h E' v' rows') (hE : E ≠ E') {y : Nat} (hy : isAt v y) : ¬ isAt v' y := by
  intro hy'
  obtain ⟨c, fr, h1⟩ := s.ty hy
  obtain ⟨c', fr', h2⟩ := s'.ty hy'
  rw [h1] at h2
  simp only [Option.some.injEq, Obj.cells.injEq] at h2
  exact hE h2.2.1
def OwQ (Q : H → List Value → Prop) (S : Nat → Prop) (t : Ty) (O : Nat → Prop) (h : H) (E : TypeId) (v : Value) (xs : List t.D) : Prop :=
  ∃ rows, OwK t.sz O h E v rows ∧ rows.length = xs.length ∧ (∀ (i : Nat) r x, rows[i]? = some r → xs[i]? = some x → Rep (fun y => isAt v y ∨ S y) t h r x) ∧ ∀ r ∈ rows, Q h r
theorem OwQ.l {Q : H → List Value → Prop} {S O : Nat → Prop} {t : Ty} {h : H} {E : TypeId} {v : Value} {xs : List t.D} (s : OwQ Q S t O h E v xs) : OwL S t O h E v xs := by
  obtain ⟨rows, h1, h2, h3, _⟩ := s; exact ⟨rows, h1, h2, h3⟩
theorem OwQ.nil {Q : H → List Value → Prop} {S O : Nat → Prop} {t : Ty} {h : H} {E : TypeId} : OwQ Q S t O h E (.slice none 0 0) [] := ⟨[], OwK.nil, rfl, fun i r x hr => by simp at hr, fun r hr => by simp at hr⟩
theorem OwQ.ext {Q : H → List Value → Prop} {S O : Nat → Prop} {t : Ty} {h h' : H} {E : TypeId} {v : Value} {xs : List t.D} (s : OwQ Q S t O h E v xs) (e : Ext h h') (hQ : ∀ r, Q h r → Q h' r) : OwQ Q S t O h' E v xs := by
  obtain ⟨rows, h1, h2, h3, h4⟩ := s
  exact ⟨rows, h1.ext e, h2, fun i r x hr hx => (h3 i r x hr hx).ext e, fun r hr => hQ r (h4 r hr)⟩
theorem OwQ.fr {Q : H → List Value → Prop} {S O T : Nat → Prop} {t : Ty} {h h' : H} {E : TypeId} {v : Value} {xs : List t.D} (s : OwQ Q S t O h E v xs) (f : Fr T h h') (h1 : ∀ x, T x → S x) (h2 : ∀ x, T x → O x → ¬ isAt v x) (hQ : ∀ r, Q h r → Q h' r) : OwQ Q S t O h' E v xs := by
  obtain ⟨rows, g1, g2, g3, g4⟩ := s
  exact ⟨rows, g1.fr f h2, g2, fun i r x hr hx => (g3 i r x hr hx).fr f fun y hy => .inr (h1 y hy), fun r hr => hQ r (g4 r hr)⟩
theorem OwQ.imp {Q Q' : H → List Value → Prop} {S S' O O' : Nat → Prop} {t : Ty} {h : H} {E : TypeId} {v : Value} {xs : List t.D} (s : OwQ Q S t O h E v xs) (hS : ∀ y, S' y → S y) (hO : ∀ x o, h x = some o → O x → O' x) (hQ : ∀ r, Q h r → Q' h r) : OwQ Q' S' t O' h E v xs := by
  obtain ⟨rows, h1, h2, h3, h4⟩ := s
  exact ⟨rows, h1.mono hO, h2, fun i r x hr hx => (h3 i r x hr hx).mono fun y _ _ hy => hy.imp id (hS y), fun r hr => hQ r (h4 r hr)⟩
theorem OwQ.push {Q : H → List Value → Prop} {S O : Nat → Prop} {t : Ty} {h : H} {E : TypeId} {v : Value} {xs : List t.D} {bytes : Nat} {z : Array Value} {row : List Value} {x : t.D} {V : Nat → Value → H → Prop} (k : Nat) (hk : t.sz = k) (hs : OwQ Q S t O h E v xs) (hO : ∀ b, h b = none → O b) (hx : Rep (fun y => isAt v y ∨ S y) t h row x) (hz : z.size = k)
    (hlen : 2 * ((xs.length + 1) * bytes) ≤ 281474976710656) (hlen' : xs.length + 1 ≤ 9223372036854775807) (hq : Q h row)
    (hQ : ∀ h', (∀ rows, OwK t.sz O h E v rows → Fr (fun y => O y ∧ isAt v y) h h' → ∀ r, Q h r → Q h' r))
    (hV : ∀ (b : Nat) s' h', h b = none → OwQ Q S t O h' E s' (xs ++ [x]) → Fr (fun y => O y ∧ isAt v y) h h' → V b s' h') :
    ∀ b, h b = none → appM E k bytes z v (.slice (some ⟨b, 0, none⟩) 1 1) (hupd h b (.cells row.toArray E)) (V b) := by
  subst hk
  obtain ⟨rows, h1, h2, h3, h5⟩ := hs
  refine pushk h1 hO hx.len hz hx.cells (by rw [h2]; exact hlen) (by rw [h2]; exact hlen') ?_
  intro c s' h' hc ho hf hat
  have hrep : ∀ r y, Rep (fun y => isAt v y ∨ S y) t h r y → Rep (fun y => isAt s' y ∨ S y) t h' r y := by
    intro r y hr
    have h4 : Rep (fun z => isAt v z ∨ h z = none ∨ S z) t h r y := by
      refine (hr.mono (T := fun z => isAt v z ∨ h z = none ∨ S z) ?_)
      rintro z o hz (h1 | h1 | h1)
      · exact .inl h1
      · rw [h1] at hz; cases hz
      · exact .inr h1
    have h5 : Rep (fun z => isAt v z ∨ h z = none ∨ S z) t h' r y := h4.fr hf fun z hz => .inl hz.2
    exact h5.mono fun z o _ hz => hz.elim (fun h1 => (hat z h1).elim .inl fun h2 => .inr (.inl h2)) fun h1 => .inr (.inr h1)
  have hqs := hQ h' rows h1 hf
  refine hV c s' h' hc ⟨_, ho, by simp [h2], ?_, ?_⟩ hf
  · intro i r y hr hy
    by_cases hi : i < rows.length
    · rw [List.getElem?_append_left hi] at hr
      rw [List.getElem?_append_left (by omega)] at hy
      exact hrep _ _ (h3 i r y hr hy)
    · rw [List.getElem?_append_right (by omega)] at hr
      rw [List.getElem?_append_right (by omega)] at hy
      rw [h2] at hr
      generalize i - xs.length = j at hr hy
      cases j with
      | zero =>
        simp only [List.getElem?_cons_zero, Option.some.injEq] at hr hy
        subst hr hy
        exact hrep _ _ hx
      | succ j => simp at hr
  · intro r hr
    rcases List.mem_append.1 hr with hr | hr
    · exact hqs r (h5 r hr)
    · simp only [List.mem_singleton] at hr; subst hr; exact hqs _ hq
/-- A record's row whose bytes may be written. -/
def WRow (U : TypeId) (O : Nat → Prop) (h : H) (r : List Value) : Prop := ∃ t k v lk lv, r = [.int .i64 t, k, v] ∧ OwB O h U k lk ∧ OwB O h U v lv ∧ lk.length ≤ 140737488355328 ∧ lv.length ≤ 140737488355328
theorem WRow.fr {U E : TypeId} {k : Nat} {O O' T : Nat → Prop} {h h' : H} {v : Value} {rows : List (List Value)} (hU : U ≠ E) (s : OwK k O' h E v rows) (f : Fr T h h') (hT : ∀ x, T x → isAt v x) {r : List Value} (w : WRow U O h r) : WRow U O h' r := by
  obtain ⟨t, kk, vv, lk, lv, rfl, h1, h2, hlb⟩ := w
  exact ⟨t, kk, vv, lk, lv, rfl, OwK.fr h1 f fun x hx _ hx' => OwK.unlike h1 s hU hx' (hT x hx), OwK.fr h2 f fun x hx _ hx' => OwK.unlike h2 s hU hx' (hT x hx), hlb⟩
theorem WRow.ext {U : TypeId} {O : Nat → Prop} {h h' : H} (e : Ext h h') {r : List Value} (w : WRow U O h r) : WRow U O h' r := by
  obtain ⟨t, kk, vv, lk, lv, rfl, h1, h2, hlb⟩ := w
  exact ⟨t, kk, vv, lk, lv, rfl, OwK.ext h1 e, OwK.ext h2 e, hlb⟩
theorem WRow.mono {U : TypeId} {O O' : Nat → Prop} {h : H} (hO : ∀ x o, h x = some o → O x → O' x) {r : List Value} (w : WRow U O h r) : WRow U O' h r := by
  obtain ⟨t, kk, vv, lk, lv, rfl, h1, h2, hlb⟩ := w
  exact ⟨t, kk, vv, lk, lv, rfl, OwK.mono h1 hO, OwK.mono h2 hO, hlb⟩
theorem rc_len {S : Nat → Prop} {h : H} {cs : List Value} {x : rc.D} (r : Rep S rc h cs x) : ∃ ka kc va vc, cs = [.int .i64 x.1, .slice ka x.2.1.length kc, .slice va x.2.2.length vc] ∧ (-9223372036854775808 ≤ x.1 ∧ x.1 ≤ 9223372036854775807) ∧ By S h (.slice ka x.2.1.length kc) x.2.1 ∧ By S h (.slice va x.2.2.length vc) x.2.2 := by
  obtain ⟨k, v, rfl, hb, hk, hv⟩ := rep_rc.1 r
  obtain ⟨ka, kc, rfl⟩ := hk.len
  obtain ⟨va, vc, rfl⟩ := hv.len
  exact ⟨ka, kc, va, vc, rfl, hb, hk, hv⟩
theorem sz_rc : rc.sz = 3 := rfl
end Go.Proofs.Ytojhnclkhiffkaa
