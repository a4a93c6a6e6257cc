/-
  Ranges over functions whose rounds may make new blocks; records; growing a slice that is not there.
-/
import Derived.Test.YtojhnclkhiffkaaQ4
import Derived.Test.YtojhnclkhiffkaaQ3
/-
  Ranges over functions whose rounds may make new blocks; records; growing a slice that is not there.
-/
namespace Go.Proofs.Ytojhnclkhiffkaa
set_option linter.unusedVariables false
set_option linter.unusedSimpArgs false

/-! ### Ranges over functions -/
/-! ### append of so many zero elements, to nothing -/
theorem raw_grow {Pg : Program} {P : Cx Pg} {e : Env} {h : H} {V : Value → H → Prop} {X : List PanicEntry → H → Prop} {d : Option Nat} {s t E ty : TypeId} {kk : IntKind} {x y : Operand} {i : TypeInfo} {z : Value} {n c : Nat} {m : Int}
    (hs : P.prog.underlying s = some (.slice E)) (ht : P.prog.underlying t = some (.int kk)) (hi : P.prog.info? E = some i) (hz : i.zero = some z) (hx : ev e x = some (.slice none 0 c)) (hy : ev e y = some (.int .i64 m)) (hm : m = n) (hc : c < n) (hc0 : c = 0) (hn : 2 * (n * i.bytes) ≤ 281474976710656) (hn' : n ≤ 9223372036854775807) (hsz : i.size ≠ 0)
    (hV : ∀ cp, n ≤ cp → ∀ b, h b = none → V (.slice (some ⟨b, 0, none⟩) n cp) (hupd h b (.cells (Builtin.zeroCells z.cells n ++ Builtin.zeroCells z.cells (cp - n)) E))) :
    lM P (.raw ⟨d, .call ⟨.builtin .append, #[x, y], #[s, t]⟩, ty, "", #[], none⟩) e h V X := by
  intro a ha
  refine does_of fun w hh => ?_
  subst hc0 hm
  replace hs : Pg.underlying s = _ := hs
  replace ht : Pg.underlying t = _ := ht
  replace hi : Pg.info? E = _ := hi
  have hwr : IntKind.i64.wrap (n : Int) = n := by
    exact wrap_i64 (by omega) (by omega)
  let q := (Question.appendCap (0 + n) 0 E).cut (w.tape w.drawn (Question.appendCap (0 + n) 0 E))
  have hq : n ≤ q := Nat.le_trans (by omega) (Nat.le_add_right (0 + n) _)
  have hns : Builtin.nextslicecap n 0 = n := by unfold Builtin.nextslicecap; rw [if_pos (by omega)]
  have hb : ¬ (281474976710656 < n * i.bytes) := by omega
  have hb' : ¬ (281474976710656 < (n : Int) * i.bytes) := by
    have : ((n * i.bytes : Nat) : Int) = (n : Int) * i.bytes := by simp
    omega
  have h63 : ¬ (9223372036854775807 < (n : Int)) := by omega
  have h0 : ¬ n = 0 := by omega
  have hng : ¬ ((n : Int) < 0) := by omega
  have hns' : ¬ (n * i.size = 0) := Nat.mul_ne_zero h0 hsz
  have has : (asInt (.int .i64 (n : Int))).run Pg w = .ok (n : Int) w := by simp [asInt, asIntOf]
  have has2 : ∀ es, (asInt (.int .i64 (n : Int))).events Pg w es = es := fun es => by simp [asInt, asIntOf]
  have hg : (Builtin.append_ #[s, t] ty #[.slice none 0 0, .int .i64 (n : Int)]).run Pg w = .ok (.slice (some ⟨w.heap.size, 0, none⟩) n q) (w.drew.alloc (.cells (Builtin.zeroCells z.cells n ++ Builtin.zeroCells z.cells (q - n)) E)) := by
    simp [Builtin.append_, run_underlying hs, run_underlying ht, run_size hi, run_info hi, run_zero hi hz, hwr, hb, hb', h63, h0, hng, hns', hsz, hns, Question.forced, newRow, q, has, Builtin.firstCells]
  have hev : (Builtin.append_ #[s, t] ty #[.slice none 0 0, .int .i64 (n : Int)]).events Pg w #[] = (askRoom (q * i.bytes)).events Pg w.drew #[] := by
    simp [Builtin.append_, run_underlying hs, run_underlying ht, run_size hi, run_info hi, run_zero hi hz, hwr, hb, hb', h63, h0, hng, hns', hsz, hns, Question.forced, newRow, q, has, has2, Builtin.firstCells]
  refine ⟨_, w.drew.alloc (.cells (Builtin.zeroCells z.cells n ++ Builtin.zeroCells z.cells (q - n)) E), _, .inl ?_, Fra.new hh rfl rfl rfl rfl (HolO_new _ _) fun e he => ?_, hV q hq w.heap.size (hol_new hh)⟩
  · simp [execOp, resolve, invoke, builtin, ev_sound ha hx, ev_sound ha hy, hg]
  · have hev' : (execOp a.eval ⟨d, .call ⟨.builtin .append, #[x, y], #[s, t]⟩, ty, "", #[], none⟩).events Pg w #[] = (Builtin.append_ #[s, t] ty #[.slice none 0 0, .int .i64 (n : Int)]).events Pg w #[] := by
      simp [execOp, resolve, invoke, builtin, ev_sound ha hx, ev_sound ha hy, hg]
    rw [hev', hev] at he
    exact (ev_room _ _ _ e he).resolve_left (by simp)

/-! ### Blocks that were just made -/
theorem Ext.trans {a b c : H} (h : Ext a b) (k : Ext b c) : Ext a c := Fr.trans h k
theorem Ext.refl (h : H) : Ext h h := Fr.refl _ h
theorem cellAt_ext {h h' : H} {a : Addr} {v : Value} (e : Ext h h') (ha : cellAt h a = some v) : cellAt h' a = some v := by
  unfold cellAt at ha ⊢
  split at ha
  · rename_i c E fr hb
    rw [e.at hb]; exact ha
  · rename_i o hno hb
    rw [e.at hb]
    cases o with
    | cells c E fr => exact absurd rfl (hno c E fr)
    | _ => exact ha
  · cases ha
theorem RepL.ext {S : Nat → Prop} {t : Ty} {h h' : H} {v : Value} {xs : List t.D} (r : RepL S t h v xs) (e : Ext h h') : RepL S t h' v xs := Rep.ext r e
theorem RepL.fr {S T : Nat → Prop} {t : Ty} {h h' : H} {v : Value} {xs : List t.D} (r : RepL S t h v xs) (e : Fr T h h') (hs : ∀ x, T x → S x) : RepL S t h' v xs := Rep.fr r e hs
theorem RepL.mono {S T : Nat → Prop} {t : Ty} {h : H} {v : Value} {xs : List t.D} (r : RepL S t h v xs) (hs : ∀ x o, h x = some o → T x → S x) : RepL T t h v xs := Rep.mono r hs
theorem OwK.own {k : Nat} {O : Nat → Prop} {h : H} {E : TypeId} {v : Value} {rows : List (List Value)} (s : OwK k O h E v rows) {y : Nat} (hy : isAt v y) : O y := by
  obtain ⟨_, ⟨rfl, _⟩ | ⟨b, o, cp, c, fr, rfl, _, _, _, _, h6, _⟩⟩ := s
  · obtain ⟨_, _, _, he⟩ := hy; simp at he
  · obtain ⟨_, _, _, he⟩ := hy
    simp only [Value.slice.injEq, Option.some.injEq, Addr.mk.injEq] at he
    obtain ⟨⟨rfl, _⟩, _⟩ := he
    exact h6
theorem OwL.own {S : Nat → Prop} {t : Ty} {O : Nat → Prop} {h : H} {E : TypeId} {v : Value} {xs : List t.D} (s : OwL S t O h E v xs) {y : Nat} (hy : isAt v y) : O y := by
  obtain ⟨rows, h1, _⟩ := s; exact h1.own hy
theorem all_flat {rows : List (List Value)} (h : ∀ r ∈ rows, r.all isCell = true) : (flat rows).all isCell = true := by
  induction rows with
  | nil => rfl
  | cons r t ih =>
    rw [flat_cons, List.all_append, h r (by simp), ih fun r hr => h r (by simp [hr])]; rfl
/-- append of a list of data. -/
theorem OwL.app {S O : Nat → Prop} {t : Ty} {h : H} {E : TypeId} {v x : Value} {xs new : List t.D} {bytes : Nat} {z : Array Value} {V : Value → H → Prop} (k : Nat) (hk : t.sz = k) (hs : OwL S t O h E v xs) (hO : ∀ b, h b = none → O b)
    (hx : RepL (fun y => isAt v y ∨ S y) t h x new) (hz : z.size = k) (hlen : 2 * ((xs.length + new.length) * bytes) ≤ 281474976710656) (hlen' : xs.length + new.length ≤ 9223372036854775807)
    (hV : ∀ s' h', OwL S t O h' E s' (xs ++ new) → Fr (fun y => O y ∧ isAt v y) h h' → (∀ y, isAt s' y → isAt v y ∨ h y = none) → V s' h') : appM E k bytes z v x h V := by
  subst hk
  obtain ⟨rows, h1, h2, h3⟩ := hs
  obtain ⟨nrows, n1, n2, n3⟩ := repL_iff.1 hx
  obtain ⟨s1, s2⟩ := n1.src
  have s3 := s2 nrows.length (Nat.le_refl _)
  rw [List.take_length] at s3
  refine app_ow h1 hO n1.rect s1 s3 (all_flat fun r hr => ?_) hz (by rw [h2, n2]; exact hlen) (by rw [h2, n2]; exact hlen') ?_
  · obtain ⟨i, hi, rfl⟩ := List.getElem_of_mem hr
    exact (n3 i _ new[i] (by simp [hi]) (by simp)).cells
  intro s' h' ho hf hat
  have hrep : ∀ r y, Rep (fun y => isAt v y ∨ S y) t h r y → Rep (fun y => isAt s' y ∨ S y) t h' r y := by
    intro r y hr
    have h4 : Rep (fun z => isAt v z ∨ h z = none ∨ S z) t h r y := by
      refine (Rep.mono hr (T := fun z => isAt v z ∨ h z = none ∨ S z) ?_)
      rintro z o hz (h1 | h1 | h1)
      · exact .inl h1
      · rw [h1] at hz; cases hz
      · exact .inr h1
    have h5 : Rep (fun z => isAt v z ∨ h z = none ∨ S z) t h' r y := h4.fr hf fun z hz => .inl hz.2
    exact h5.mono fun z o _ hz => hz.elim (fun h1 => (hat z h1).elim .inl fun h2 => .inr (.inl h2)) fun h1 => .inr (.inr h1)
  refine hV s' h' ⟨_, ho, by simp [h2, n2], ?_⟩ hf hat
  intro i r y hr hy
  by_cases hi : i < rows.length
  · rw [List.getElem?_append_left hi] at hr
    rw [List.getElem?_append_left (by omega)] at hy
    exact hrep _ _ (h3 i r y hr hy)
  · rw [List.getElem?_append_right (by omega)] at hr
    rw [List.getElem?_append_right (by omega)] at hy
    rw [h2] at hr
    exact hrep _ _ (n3 _ r y hr hy)
theorem RepL.cap {S : Nat → Prop} {t : Ty} {h : H} {a : Option Addr} {n c : Nat} {xs : List t.D} (r : RepL S t h (.slice a n c) xs) : n = xs.length ∧ n ≤ c ∧ xs.length ≤ c := by
  obtain ⟨rows, h1, h2, _⟩ := repL_iff.1 r
  have := h1.cap
  omega
theorem RepL.fresh {S : Nat → Prop} {t : Ty} {h : H} {v : Value} {xs : List t.D} (r : RepL S t h v xs) : RepL (fun y => h y = none) t h v xs := Rep.old r fun _ h => h
/-! ### Records -/
abbrev rc : Ty := .pair (.int .i64) (.pair (.sl .byte) (.sl .byte))
/-! ### Lists of data whose rows have something more -/
theorem OwK.ty {k : Nat} {O : Nat → Prop} {h : H} {E : TypeId} {v : Value} {rows : List (List Value)} (s : OwK k O h E v rows) {y : Nat} (hy : isAt v y) : ∃ c fr, h y = some (.cells c E fr) := by
  obtain ⟨_, ⟨rfl, _⟩ | ⟨b, o, cp, c, fr, rfl, h2, _⟩⟩ := s
  · obtain ⟨_, _, _, he⟩ := hy; simp at he
  · obtain ⟨_, _, _, he⟩ := hy
    simp only [Value.slice.injEq, Option.some.injEq, Addr.mk.injEq] at he
    obtain ⟨⟨rfl, _⟩, _⟩ := he
    exact ⟨_, _, h2⟩
/-- Slices over blocks of unlike types lie apart. -/
theorem OwK.unlike {k k' : Nat} {O O' : Nat → Prop} {h : H} {E E' : TypeId} {v v' : Value} {rows rows' : List (List Value)} (s : OwK k O h E v rows) (s' : OwK k' O' h E' v' rows') (hE : E ≠ E') {y : Nat} (hy : isAt v y) : ¬ isAt v' y := by
  intro hy'
  obtain ⟨c, fr, h1⟩ := s.ty hy
  obtain ⟨c', fr', h2⟩ := s'.ty hy'
  rw [h1] at h2
  simp only [Option.some.injEq, Obj.cells.injEq] at h2
  exact hE h2.2.1
def OwQ (Q : H → List Value → Prop) (S : Nat → Prop) (t : Ty) (O : Nat → Prop) (h : H) (E : TypeId) (v : Value) (xs : List t.D) : Prop :=
  ∃ rows, OwK t.sz O h E v rows ∧ rows.length = xs.length ∧ (∀ (i : Nat) r x, rows[i]? = some r → xs[i]? = some x → Rep (fun y => isAt v y ∨ S y) t h r x) ∧ ∀ r ∈ rows, Q h r
theorem OwQ.l {Q : H → List Value → Prop} {S O : Nat → Prop} {t : Ty} {h : H} {E : TypeId} {v : Value} {xs : List t.D} (s : OwQ Q S t O h E v xs) : OwL S t O h E v xs := by
  obtain ⟨rows, h1, h2, h3, _⟩ := s; exact ⟨rows, h1, h2, h3⟩
theorem OwQ.nil {Q : H → List Value → Prop} {S O : Nat → Prop} {t : Ty} {h : H} {E : TypeId} : OwQ Q S t O h E (.slice none 0 0) [] := ⟨[], OwK.nil, rfl, fun i r x hr => by simp at hr, fun r hr => by simp at hr⟩
theorem OwQ.ext {Q : H → List Value → Prop} {S O : Nat → Prop} {t : Ty} {h h' : H} {E : TypeId} {v : Value} {xs : List t.D} (s : OwQ Q S t O h E v xs) (e : Ext h h') (hQ : ∀ r, Q h r → Q h' r) : OwQ Q S t O h' E v xs := by
  obtain ⟨rows, h1, h2, h3, h4⟩ := s
  exact ⟨rows, h1.ext e, h2, fun i r x hr hx => (h3 i r x hr hx).ext e, fun r hr => hQ r (h4 r hr)⟩
theorem OwQ.fr {Q : H → List Value → Prop} {S O T : Nat → Prop} {t : Ty} {h h' : H} {E : TypeId} {v : Value} {xs : List t.D} (s : OwQ Q S t O h E v xs) (f : Fr T h h') (h1 : ∀ x, T x → S x) (h2 : ∀ x, T x → O x → ¬ isAt v x) (hQ : ∀ r, Q h r → Q h' r) : OwQ Q S t O h' E v xs := by
  obtain ⟨rows, g1, g2, g3, g4⟩ := s
  exact ⟨rows, g1.fr f h2, g2, fun i r x hr hx => (g3 i r x hr hx).fr f fun y hy => .inr (h1 y hy), fun r hr => hQ r (g4 r hr)⟩
theorem OwQ.imp {Q Q' : H → List Value → Prop} {S S' O O' : Nat → Prop} {t : Ty} {h : H} {E : TypeId} {v : Value} {xs : List t.D} (s : OwQ Q S t O h E v xs) (hS : ∀ y, S' y → S y) (hO : ∀ x o, h x = some o → O x → O' x) (hQ : ∀ r, Q h r → Q' h r) : OwQ Q' S' t O' h E v xs := by
  obtain ⟨rows, h1, h2, h3, h4⟩ := s
  exact ⟨rows, h1.mono hO, h2, fun i r x hr hx => (h3 i r x hr hx).mono fun y _ _ hy => hy.imp id (hS y), fun r hr => hQ r (h4 r hr)⟩
theorem OwQ.push {Q : H → List Value → Prop} {S O : Nat → Prop} {t : Ty} {h : H} {E : TypeId} {v : Value} {xs : List t.D} {bytes : Nat} {z : Array Value} {row : List Value} {x : t.D} {V : Nat → Value → H → Prop} (k : Nat) (hk : t.sz = k) (hs : OwQ Q S t O h E v xs) (hO : ∀ b, h b = none → O b) (hx : Rep (fun y => isAt v y ∨ S y) t h row x) (hz : z.size = k)
    (hlen : 2 * ((xs.length + 1) * bytes) ≤ 281474976710656) (hlen' : xs.length + 1 ≤ 9223372036854775807) (hq : Q h row)
    (hQ : ∀ h', (∀ rows, OwK t.sz O h E v rows → Fr (fun y => O y ∧ isAt v y) h h' → ∀ r, Q h r → Q h' r))
    (hV : ∀ (b : Nat) s' h', h b = none → OwQ Q S t O h' E s' (xs ++ [x]) → Fr (fun y => O y ∧ isAt v y) h h' → V b s' h') :
    ∀ b, h b = none → appM E k bytes z v (.slice (some ⟨b, 0, none⟩) 1 1) (hupd h b (.cells row.toArray E)) (V b) := by
  subst hk
  obtain ⟨rows, h1, h2, h3, h5⟩ := hs
  refine pushk h1 hO hx.len hz hx.cells (by rw [h2]; exact hlen) (by rw [h2]; exact hlen') ?_
  intro c s' h' hc ho hf hat
  have hrep : ∀ r y, Rep (fun y => isAt v y ∨ S y) t h r y → Rep (fun y => isAt s' y ∨ S y) t h' r y := by
    intro r y hr
    have h4 : Rep (fun z => isAt v z ∨ h z = none ∨ S z) t h r y := by
      refine (hr.mono (T := fun z => isAt v z ∨ h z = none ∨ S z) ?_)
      rintro z o hz (h1 | h1 | h1)
      · exact .inl h1
      · rw [h1] at hz; cases hz
      · exact .inr h1
    have h5 : Rep (fun z => isAt v z ∨ h z = none ∨ S z) t h' r y := h4.fr hf fun z hz => .inl hz.2
    exact h5.mono fun z o _ hz => hz.elim (fun h1 => (hat z h1).elim .inl fun h2 => .inr (.inl h2)) fun h1 => .inr (.inr h1)
  have hqs := hQ h' rows h1 hf
  refine hV c s' h' hc ⟨_, ho, by simp [h2], ?_, ?_⟩ hf
  · intro i r y hr hy
    by_cases hi : i < rows.length
    · rw [List.getElem?_append_left hi] at hr
      rw [List.getElem?_append_left (by omega)] at hy
      exact hrep _ _ (h3 i r y hr hy)
    · rw [List.getElem?_append_right (by omega)] at hr
      rw [List.getElem?_append_right (by omega)] at hy
      rw [h2] at hr
      generalize i - xs.length = j at hr hy
      cases j with
      | zero =>
        simp only [List.getElem?_cons_zero, Option.some.injEq] at hr hy
        subst hr hy
        exact hrep _ _ hx
      | succ j => simp at hr
  · intro r hr
    rcases List.mem_append.1 hr with hr | hr
    · exact hqs r (h5 r hr)
    · simp only [List.mem_singleton] at hr; subst hr; exact hqs _ hq
/-- A record's row whose bytes may be written. -/
def WRow (U : TypeId) (O : Nat → Prop) (h : H) (r : List Value) : Prop := ∃ t k v lk lv, r = [.int .i64 t, k, v] ∧ OwB O h U k lk ∧ OwB O h U v lv ∧ lk.length ≤ 140737488355328 ∧ lv.length ≤ 140737488355328
theorem WRow.fr {U E : TypeId} {k : Nat} {O O' T : Nat → Prop} {h h' : H} {v : Value} {rows : List (List Value)} (hU : U ≠ E) (s : OwK k O' h E v rows) (f : Fr T h h') (hT : ∀ x, T x → isAt v x) {r : List Value} (w : WRow U O h r) : WRow U O h' r := by
  obtain ⟨t, kk, vv, lk, lv, rfl, h1, h2, hlb⟩ := w
  exact ⟨t, kk, vv, lk, lv, rfl, OwK.fr h1 f fun x hx _ hx' => OwK.unlike h1 s hU hx' (hT x hx), OwK.fr h2 f fun x hx _ hx' => OwK.unlike h2 s hU hx' (hT x hx), hlb⟩
theorem WRow.ext {U : TypeId} {O : Nat → Prop} {h h' : H} (e : Ext h h') {r : List Value} (w : WRow U O h r) : WRow U O h' r := by
  obtain ⟨t, kk, vv, lk, lv, rfl, h1, h2, hlb⟩ := w
  exact ⟨t, kk, vv, lk, lv, rfl, OwK.ext h1 e, OwK.ext h2 e, hlb⟩
theorem WRow.mono {U : TypeId} {O O' : Nat → Prop} {h : H} (hO : ∀ x o, h x = some o → O x → O' x) {r : List Value} (w : WRow U O h r) : WRow U O' h r := by
  obtain ⟨t, kk, vv, lk, lv, rfl, h1, h2, hlb⟩ := w
  exact ⟨t, kk, vv, lk, lv, rfl, OwK.mono h1 hO, OwK.mono h2 hO, hlb⟩
end Go.Proofs.Ytojhnclkhiffkaa

/-
  Arguments opened, with a bound of their bulk.
-/
namespace Go.Proofs.Ytojhnclkhiffkaa
open Go.ChangeShapes Go.WideShapes Go.ChangeAt Go.RowKit
set_option linter.unusedVariables false
set_option linter.unusedSimpArgs false
/-- No list in it is longer than B. -/
def Ty.lim (B : Nat) : (t : Ty) → t.D → Prop
  | .sl t, xs => List.length xs ≤ B ∧ ∀ y ∈ xs, Ty.lim B t y
  | .pair a b, x => Ty.lim B a x.1 ∧ Ty.lim B b x.2
  | .int _, _ => True
  | .byte, _ => True
  | .bool, _ => True
  | .str, _ => True
  | .flt, _ => True
section
variable {H' : Type} {enc : TypeId × Value → H'} {P : Program} {W : World}
theorem rep_all2 (B : Nat) (bulk : DataW H' → Nat) (hbs : ∀ es rs, es.length ≤ bulk (.slice es rs) ∧ ∀ e ∈ es ++ rs, bulk e ≤ bulk (.slice es rs)) (hba : ∀ ps, ∀ e ∈ ps, bulk e ≤ bulk (.agg ps)) : ∀ n : Nat,
    (∀ (t : TypeId) (ty : Ty), tyB P n t ty = true → ∀ (fuel : Nat) (cs : List Value) (x : DataW H' × List MemPlace), DataW.trod enc P W 0 (fun _ => true) true fuel t cs = some x → bulk x.1 ≤ B → ∃ d : ty.D, Rep nos ty (hp W) cs d ∧ ty.lim B d) ∧
    (∀ (o : Nat) (fs : List Field) (ty : Ty), tyBs P n o fs ty = true → ∀ (fuel : Nat) (cs : List Value), (∀ f ∈ fs, ∃ y, DataW.trod enc P W 0 (fun _ => true) true fuel f.type ((cs.drop f.offset).take (P.cellsOf f.type)) = some y ∧ bulk y.1 ≤ B) → ∃ d : ty.D, Rep nos ty (hp W) ((cs.drop o).take ty.sz) d ∧ ty.lim B d) := by
  intro n
  induction n with
  | zero => exact ⟨fun t ty h => by simp [tyB] at h, fun o fs ty h => by simp [tyBs] at h⟩
  | succ n ih =>
    obtain ⟨ih1, ih2⟩ := ih
    refine ⟨?_, ?_⟩
    · intro t ty h fuel cs x hx hxB
      have hcell := rep_cells h
      simp only [tyB, Bool.and_eq_true] at h
      obtain ⟨-, h⟩ := h
      split at h
      · rename_i hu
        obtain ⟨m, rfl, _, hw⟩ := DataW.trod_int hu hx
        have hw' : (decide ((0 : Int) ≤ m) && decide (m ≤ 255)) = true := hw
        simp only [Bool.and_eq_true, decide_eq_true_eq] at hw'
        refine ⟨UInt8.ofNat m.toNat, ?_, trivial⟩
        show [_] = [_]
        congr 1
        simp only [bv, Value.int.injEq, true_and, UInt8.toNat_ofNat']
        omega
      · rename_i hu
        obtain ⟨m, rfl, _, hw⟩ := DataW.trod_int hu hx
        have h := of_decide_eq_true h
        subst h
        simp only [Lit.wf, Bool.and_eq_true, decide_eq_true_eq] at hw
        exact ⟨m, ⟨rfl, hw.1, hw.2⟩, trivial⟩
      · rename_i hu
        obtain ⟨b, rfl, _⟩ := DataW.trod_bool hu hx
        exact ⟨b, rfl, trivial⟩
      · rename_i hu
        obtain ⟨s, rfl, _, hs⟩ := DataW.trod_string hu hx
        refine ⟨s.data.toList, ⟨?_, ?_⟩, trivial⟩
        · rw [← bytes_of]
        · rw [Array.length_toList]; exact hs
      · rename_i hu
        obtain ⟨b, rfl, hw⟩ := trod_f64 hu hx
        exact ⟨b, ⟨rfl, hw⟩, trivial⟩
      · rename_i e ty' hu
        rcases DataW.trod_slice hu hx with ⟨rfl, _⟩ | ⟨a, len, cap, elems, rest, m, _, rfl, hxe, hb, hl, hm, hlen, hel, hsp, _⟩
        · exact ⟨[], ⟨.slice none 0 0, [], rfl, ⟨fun r hr => by simp at hr, .inl ⟨_, rfl, rfl⟩⟩, rfl, fun i r x hr => by simp at hr⟩, by simp [Ty.lim]⟩
        · have hce := rep_cells h
          obtain ⟨hrl, hr⟩ := hsp rfl
          obtain ⟨hb1, hb2⟩ := hbs (elems.map (·.1)) (rest.map (·.1))
          have hxB' : bulk (.slice (elems.map (·.1)) (rest.map (·.1))) ≤ B := by rw [hxe] at hxB; simpa using hxB
          have each : ∀ i, i < cap → ∃ row, W.cells? 0 (a.add (i * ty'.sz)) ty'.sz = some row ∧ ∃ d, Rep nos ty' (hp W) row d ∧ ty'.lim B d := by
            intro i hi
            have hb' : ∃ y, (W.cells? 0 (a.add (i * P.cellsOf e)) (P.cellsOf e)).bind (DataW.trod enc P W 0 (fun _ => true) true m e) = some y ∧ bulk y.1 ≤ B := by
              by_cases hil : i < len
              · exact ⟨elems[i], by rw [hel i hil]; simp [hlen, hil], Nat.le_trans (hb2 _ (List.mem_append_left _ (List.mem_map_of_mem (List.getElem_mem _)))) hxB'⟩
              · refine ⟨rest[i - len]'(by omega), ?_, Nat.le_trans (hb2 _ (List.mem_append_right _ (List.mem_map_of_mem (List.getElem_mem _)))) hxB'⟩
                have := hr (i - len) (by omega)
                rw [show len + (i - len) = i by omega] at this
                rw [this]; simp
            obtain ⟨y, hy, hyB⟩ := hb'
            rw [Option.bind_eq_some_iff, hce] at hy
            obtain ⟨row, h1, h2⟩ := hy
            exact ⟨row, h1, ih1 e ty' h m row y h2 hyB⟩
          have hrow : ∀ i, ∃ row : List Value, i < cap → W.cells? 0 (a.add (i * ty'.sz)) ty'.sz = some row ∧ ∃ d, Rep nos ty' (hp W) row d ∧ ty'.lim B d := by
            intro i
            by_cases hi : i < cap
            · obtain ⟨row, hr⟩ := each i hi
              exact ⟨row, fun _ => hr⟩
            · exact ⟨[], fun h => absurd h hi⟩
          obtain ⟨rowf, hrf⟩ := Classical.axiomOfChoice hrow
          have hdf' : ∀ i, ∃ d : ty'.D, i < cap → Rep nos ty' (hp W) (rowf i) d ∧ ty'.lim B d := by
            intro i
            by_cases hi : i < cap
            · obtain ⟨_, d, hd⟩ := hrf i hi
              exact ⟨d, fun _ => hd⟩
            · by_cases hc0 : 0 < cap
              · obtain ⟨_, d, hd⟩ := hrf 0 hc0
                exact ⟨d, fun h => absurd h hi⟩
              · exact ⟨Classical.choice (by
                  have : ∀ t : Ty, Nonempty t.D := by
                    intro t
                    induction t with
                    | int k => exact ⟨(0 : Int)⟩
                    | byte => exact ⟨(0 : UInt8)⟩
                    | bool => exact ⟨false⟩
                    | str => exact ⟨[]⟩
                    | flt => exact ⟨(0 : Nat)⟩
                    | sl t _ => exact ⟨[]⟩
                    | pair a b iha ihb => exact iha.elim fun x => ihb.elim fun y => ⟨(x, y)⟩
                  exact this ty'), fun h => absurd h hi⟩
          obtain ⟨df, hdf⟩ := Classical.axiomOfChoice hdf'
          have hrows : ((List.range cap).map rowf).length = cap := by simp
          have hs := slk_of (W := W) (k := ty'.sz) (a := a) (len := len) (cap := cap) (rows := (List.range cap).map rowf) ty'.sz_pos hl (by simp) (fun r hr => by
            obtain ⟨i, hi, rfl⟩ := List.mem_map.1 hr
            exact (cellsOk (hrf i (List.mem_range.1 hi)).1).1) (fun i hi j hj => by
            simp at hi
            simp only [List.getElem_map, List.getElem_range] at hj ⊢
            rw [← (cellsOk (hrf i hi).1).2 j hj]
            congr 1
            rw [add_add'])
          refine ⟨(List.range len).map df, ⟨.slice (some a) len cap, _, rfl, hs, by simp; omega, ?_⟩, ?_, ?_⟩
          rotate_left
          · simp only [List.length_map, List.length_range] at hb1 ⊢; omega
          · intro y hy
            obtain ⟨i, hi, rfl⟩ := List.mem_map.1 hy
            exact (hdf i (by have := List.mem_range.1 hi; omega)).2
          intro i r x hr hx
          rw [List.getElem?_take] at hr
          split at hr
          · rename_i hil
            rw [List.getElem?_map, List.getElem?_range (by omega)] at hr hx
            simp only [Option.map_some, Option.some.injEq] at hr hx
            subst hr hx
            exact (hdf i (by omega)).1
          · cases hr
      · rename_i fs hu
        obtain ⟨xs, m, _, hxe, hl, hlen, hf⟩ := DataW.trod_struct hu hx
        have hxB' : bulk (.agg (xs.map (·.1))) ≤ B := by rw [hxe] at hxB; simpa using hxB
        obtain ⟨d, hd, hdl⟩ := ih2 0 fs.toList _ h m cs (fun f hmem => by
          obtain ⟨i, hi⟩ := List.getElem?_of_mem hmem
          rw [Array.getElem?_toList] at hi
          have h1 := hf i f hi
          have hlt : i < fs.size := (Array.getElem?_eq_some_iff.1 hi).1
          exact ⟨xs[i], by rw [h1]; simp [hlen, hlt], Nat.le_trans (hba _ _ (List.mem_map_of_mem (List.getElem_mem _))) hxB'⟩)
        refine ⟨d, ?_, hdl⟩
        rw [List.drop_zero, List.take_of_length_le (by omega)] at hd
        exact hd
      · cases h
    · intro o fs ty h fuel cs hcs
      unfold tyBs at h
      split at h
      · cases h
      · rename_i n' f heq
        obtain rfl := Nat.succ.inj heq
        simp only [Bool.and_eq_true, beq_iff_eq] at h
        obtain ⟨⟨h1, h2⟩, h3⟩ := h
        obtain ⟨y, hy, hyB⟩ := hcs f (by simp)
        rw [h1, h2] at hy
        exact ih1 _ _ h3 fuel _ _ hy hyB
      · rename_i n' f r a b hne heq
        obtain rfl := Nat.succ.inj heq
        simp only [Bool.and_eq_true, beq_iff_eq] at h
        obtain ⟨⟨⟨h1, h2⟩, h3⟩, h4⟩ := h
        obtain ⟨y, hy, hyB⟩ := hcs f (by simp)
        rw [h1, h2] at hy
        obtain ⟨d1, hd1, hl1⟩ := ih1 _ _ h3 fuel _ _ hy hyB
        obtain ⟨d2, hd2, hl2⟩ := ih2 _ _ _ h4 fuel cs (fun g hg => hcs g (by simp [hg]))
        refine ⟨(d1, d2), ⟨_, _, ?_, hd1, hd2⟩, hl1, hl2⟩
        show List.take (a.sz + b.sz) _ = _
        rw [List.take_add, List.drop_drop]
      · cases h

theorem rep_open2 {n : Nat} {t : TypeId} (ty : Ty) (B : Nat) (bulk : DataW H' → Nat) (hbs : ∀ es rs, es.length ≤ bulk (.slice es rs) ∧ ∀ e ∈ es ++ rs, bulk e ≤ bulk (.slice es rs)) (hba : ∀ ps, ∀ e ∈ ps, bulk e ≤ bulk (.agg ps)) {v : Value} {d : DataW H'} {p : List MemPlace} (ht : tyB P n t ty = true) (h : DataW.Trod enc P W 0 (fun _ => true) true t v d p) (hB : bulk d ≤ B) : ∃ x : ty.D, Rep nos ty (hp W) v.cells.toList x ∧ ty.lim B x := by
  obtain ⟨fuel, h⟩ := h
  exact (rep_all2 B bulk hbs hba n).1 t ty ht fuel _ _ h hB
end
end Go.Proofs.Ytojhnclkhiffkaa

/-
  (Ranges over functions are not walked in company.)
-/

/-
  Draws with new variables in any order; stores and loads by looking at the heap's own term; numbers in a row.
-/
namespace Go.Proofs.Ytojhnclkhiffkaa
set_option linter.unusedVariables false
set_option linter.unusedSimpArgs false

theorem hupd_none {h : H} {b x : Nat} {o : Obj} : hupd h b o x = none ↔ x ≠ b ∧ h x = none := by
  unfold hupd
  by_cases hx : x = b
  · subst hx; simp
  · simp [hx]
theorem Ext.upd {h g : H} {b : Nat} {o : Obj} (e : Ext h g) (hb : h b = none) : Ext h (hupd g b o) := fun x o' hx hn => by
  rw [hupd_ne]
  · exact e x o' hx hn
  · rintro rfl; rw [hb] at hx; cases hx
theorem new_ext {g G : H} {a : Nat} {o : Obj} (hG : hupd g a o = G) (ha : g a = none) : Ext g G ∧ G a = some o := by
  subst hG; exact ⟨Ext.new ha o, hupd_same _ _ _⟩
/-- A store, by what the heap's term says of its block. -/
def stO (ob : Option Obj) (h : H) (b o : Nat) (v : Value) (K : H → Prop) : Prop :=
  match ob with
  | some (.cells c E fr) => (fr.2 ≤ o ∨ o + 1 ≤ fr.1) ∧ o < c.size ∧ isCell v = true ∧ K (hupd h b (.cells (c.setIfInBounds o v) E fr))
  | some x => match oneOf x with
    | some (i, _, n, E) => o = i ∧ i < n ∧ isCell v = true ∧ K (hupd h b (oneO i v n E))
    | none => False
  | none => False
theorem storeH_look (h : H) (b o : Nat) (v : Value) (K : H → Prop) : storeH h ⟨b, o, none⟩ [v] K = stO (h b) h b o v K := by
  unfold storeH stO
  rw [if_neg (by simp)]
  cases hb : h b with
  | none => rfl
  | some ob =>
    cases ob with
    | cells c E fr => simp [splice, Nat.lt_iff_add_one_le]
    | deferred l =>
      show (match oneOf (.deferred l) with | some (i, _, n, E) => _ | none => False) = (match oneOf (.deferred l) with | some (i, _, n, E) => _ | none => False)
      split
      · simp only [eq_iff_iff, List.length_cons, List.length_nil, List.all_cons, List.all_nil, Bool.and_true, List.headD_cons, true_and]
      · rfl
    | _ => rfl
@[congr] theorem cg_stO {ob ob' : Option Obj} {h : H} {b o : Nat} {v : Value} {K : H → Prop} (hb : ob = ob') {d : Prop} (hd : dm = d) : stO ob h b o v K = stO ob' h b o v K := by rw [hb]
theorem stO_1 (i n : Nat) (u : Value) (E : TypeId) (h : H) (b o : Nat) (v : Value) (K : H → Prop) : stO (some (oneO i u n E)) h b o v K = (o = i ∧ i < n ∧ isCell v = true ∧ K (hupd h b (oneO i v n E))) := rfl
/-- A load, likewise. -/
def cellO (ob : Option Obj) (o : Nat) : Option Value :=
  match ob with
  | some (.cells c _ _) => c[o]?
  | some x => match oneOf x with
    | some (i, v, _, _) => if o = i then some v else none
    | none => none
  | none => none
theorem cellAt_look (h : H) (b o : Nat) : cellAt h ⟨b, o, none⟩ = cellO (h b) o := by
  unfold cellAt cellO
  simp
  cases h b with
  | none => rfl
  | some ob => cases ob <;> rfl
theorem cellO_1 (i n : Nat) (v : Value) (E : TypeId) : cellO (some (oneO i v n E)) i = some v := by
  show (if i = i then some v else none) = some v
  rw [if_pos rfl]

/-! The walk's rules without those that go into a next block. -/
theorem SlF.sub {S T : Nat → Prop} {h : H} {v : Value} {xs : List Value} (s : SlF S h v xs) (hst : ∀ x, T x → h x ≠ none → S x) : SlF T h v xs := by
  rcases s with s | ⟨b, o, cp, c, E, fr, h1, h2, h3, h4, h5, h6⟩
  · exact .inl s
  · exact .inr ⟨b, o, cp, c, E, fr, h1, h2, h3, h4, h5, fun hb => h6 (hst b hb (by rw [h2]; simp))⟩
theorem SlF.ext {S : Nat → Prop} {h h' : H} {v : Value} {xs : List Value} (s : SlF S h v xs) (e : Ext h h') : SlF S h' v xs := s.fr (e.mono fun _ h => h.elim)
theorem Ext.hdel (h : H) (L : Nat) : Ext (hdel h L) h := fun x o hx _ => by
  unfold Go.Proofs.Ytojhnclkhiffkaa.hdel at hx
  split at hx
  · cases hx
  · exact hx
theorem Own.isNew {h0 h : H} {E : TypeId} {v : Value} {xs : List Value} (s : Own h0 h E v xs) {y : Nat} (hy : isAt v y) : h0 y = none := by
  rcases s with ⟨rfl, _⟩ | ⟨b, cp, c, rfl, _, _, _, _, h6⟩
  · obtain ⟨o, n, c, h⟩ := hy; simp at h
  · obtain ⟨o, n, c', h⟩ := hy
    simp only [Value.slice.injEq, Option.some.injEq, Addr.mk.injEq] at h
    obtain ⟨⟨rfl, _⟩, _⟩ := h
    exact h6
theorem Own.o1 {h0 h : H} {E : TypeId} {v : Value} {xs : List Value} (s : Own h0 h E v xs) : O1 (fun y => h0 y = none) h E v xs := by
  rcases s with ⟨rfl, rfl⟩ | ⟨b, cp, c, rfl, h2, h3, h4, h5, h6⟩
  · exact OwK.nil
  · refine ⟨rect_one _, .inr ⟨b, 0, cp, c, (0, 0), by rw [one_len], h2, by omega, by rw [one_len]; exact h4, ?_, h6, .inl rfl⟩⟩
    rw [flat_one]
    intro m hm
    rw [Nat.zero_add]; exact h5 m hm
/-- An element of an own slice, written. -/
theorem O1.put {O : Nat → Prop} {h : H} {E : TypeId} {v : Value} {xs : List Value} (s : O1 O h E v xs) {i : Nat} (hi : i < xs.length) (kk : IntKind) :
    ∃ b o, idxV1 1 v (.int kk (i : Int)) = some (.pointer (some ⟨b, o, none⟩)) ∧ isAt v b ∧ cellAt h ⟨b, o, none⟩ = some xs[i] ∧ ∀ (w : Value) (K : H → Prop), isCell w = true →
      (∀ h', O1 O h' E v (xs.set i w) → Fr (fun y => y = b) h h' → K h') → storeH h ⟨b, o, none⟩ [w] K := by
  obtain ⟨b, o, h1, h2, h3, h4⟩ := OwK.put s (i := i) (by rw [one_len]; exact hi) kk
  obtain ⟨b', o', q1, q2⟩ := S1.load (S := nos) s.s0 hi kk
  rw [h1] at q1
  simp only [Option.some.injEq, Value.pointer.injEq, Addr.mk.injEq, and_true] at q1
  obtain ⟨rfl, rfl⟩ := q1
  refine ⟨b, o, h1, h3, q2, fun w K hw hK => ?_⟩
  refine h4 0 [w] K (by simp) (by simp [hw]) fun h' h5 h6 => hK h' ?_ h6
  have : (one xs).set i (((one xs)[i]'(by rw [one_len]; exact hi)).take 0 ++ [w] ++ ((one xs)[i]'(by rw [one_len]; exact hi)).drop (0 + [w].length)) = one (xs.set i w) := by
    simp [one, List.map_set]
  rw [this] at h5
  exact h5
theorem OwK.tyno {k T' : Nat} {O' : Nat → Prop} {g : H} {v : Value} {rows : List (List Value)} {y : Nat} {c : Array Value} {T : TypeId} {fr : Nat × Nat} (s : OwK k O' g T' v rows) (hy : g y = some (.cells c T fr)) (hT : T ≠ T') : ¬ isAt v y := by
  intro hat
  obtain ⟨c', fr, h'⟩ := s.ty hat
  rw [hy] at h'
  simp only [Option.some.injEq, Obj.cells.injEq] at h'
  exact hT h'.2.1
theorem cellsAt_ext {h h' : H} {a : Addr} {n : Nat} {cs : Array Value} (e : Ext h h') (hc : cellsAt h a n = some cs) : cellsAt h' a n = some cs := by
  unfold cellsAt at *
  split at hc
  · rename_i h0; rw [if_pos h0]; exact hc
  · rename_i h0
    rw [if_neg h0]
    split at hc
    · rename_i c E fr hb
      rw [e.at hb]; exact hc
    · cases hc
theorem slcV_pre (k : Nat) (a : Option Addr) (n c u : Nat) (hu : u ≤ c) : slcV k a n c false 0 (u : Int) (c : Int) = some (.slice a u c) := by
  rw [slcV_eq, chk_pos ⟨by omega, by omega, by omega, by omega, .inr rfl⟩]
  have : (if (c : Int) = 0 then a else Option.map (fun x => x.add ((0 : Int).toNat * k)) a) = a := by
    split
    · rfl
    · cases a <;> simp [Addr.add]
  rw [this]
  simp
theorem O1.pre {O : Nat → Prop} {h : H} {E : TypeId} {a : Option Addr} {n c m : Nat} {xs : List Value} (o : O1 O h E (.slice a n c) xs) (hm : m ≤ n) (hc : n ≤ c) : O1 O h E (.slice a m c) (xs.take m) := by
  obtain ⟨v, h1, h2, _⟩ := O1.cut o (m3 := false) (lo := 0) (hi := m) (mx := c) (l := 0) (u := m) (m := c) rfl rfl rfl (by omega) hm (by omega) (by omega) (.inr rfl)
  rw [slcV_pre 1 a n c m (by omega)] at h1
  simp only [Option.some.injEq] at h1
  subst h1
  simpa using h2
end Go.Proofs.Ytojhnclkhiffkaa

/-
  Arguments opened, with the reach of each list in them.
-/
namespace Go.Proofs.Ytojhnclkhiffkaa
open Go.ChangeShapes Go.WideShapes Go.ChangeAt Go.RowKit
set_option linter.unusedVariables false
set_option linter.unusedSimpArgs false
/-- At least so many bytes. -/
def Ty.by : Ty → Nat
  | .int k => k.bits / 8
  | .byte => 1
  | .bool => 1
  | .str => 16
  | .flt => 8
  | .sl _ => 24
  | .pair a b => a.by + b.by
section
variable {H' : Type} {enc : TypeId × Value → H'} {P : Program} {W : World}
end
end Go.Proofs.Ytojhnclkhiffkaa

/-
  Own lists of data: an element written, append with the new block's place.
-/
namespace Go.Proofs.Ytojhnclkhiffkaa
set_option linter.unusedVariables false
set_option linter.unusedSimpArgs false
section
variable {S : Nat → Prop} {t : Ty} {O O' : Nat → Prop} {h h' : H} {E : TypeId} {v : Value} {xs : List t.D}
theorem OwL.k (s : OwL S t O h E v xs) : ∃ rows, OwK t.sz O h E v rows := by obtain ⟨rows, h1, _⟩ := s; exact ⟨rows, h1⟩
theorem OwL.tyno {y T : Nat} {c : Array Value} {fr : Nat × Nat} (s : OwL S t O h E v xs) (hy : h y = some (.cells c T fr)) (hT : T ≠ E) : ¬ isAt v y := by
  obtain ⟨rows, h1, _⟩ := s; exact h1.tyno hy hT
/-- Cells of an element written. -/
theorem OwL.set (s : OwL S t O h E v xs) {i : Nat} (hi : i < xs.length) (kk : IntKind) (k : Nat) (hk : t.sz = k) :
    ∃ b o cs, idxV1 k v (.int kk (i : Int)) = some (.pointer (some ⟨b, o, none⟩)) ∧ isAt v b ∧ O b ∧ (∀ j (hj : j < k), cellAt h ⟨b, o + j, none⟩ = cs[j]?) ∧ Rep (fun y => isAt v y ∨ S y) t h cs xs[i] ∧
      ∀ (j : Nat) (new : List Value) (x' : t.D) (K : H → Prop), j + new.length ≤ k → new.all isCell = true → Rep (fun y => isAt v y ∨ S y) t h (cs.take j ++ new ++ cs.drop (j + new.length)) x' →
        (∀ h', OwL S t O h' E v (xs.set i x') → Fr (fun y => y = b) h h' → K h') → storeH h ⟨b, o + j, none⟩ new K := by
  subst hk
  obtain ⟨rows, h1, h2, h3⟩ := s
  have hir : i < rows.length := by omega
  obtain ⟨b, o, g1, g2, g3, g4⟩ := OwK.put h1 (i := i) hir kk
  obtain ⟨b', o', q1, q2, q3, q4⟩ := h1.s0.row (i := i) hir kk
  rw [g1] at q1
  simp only [Option.some.injEq, Value.pointer.injEq, Addr.mk.injEq, and_true] at q1
  obtain ⟨rfl, rfl⟩ := q1
  refine ⟨b, o, rows[i], g1, g3, g2, q3, h3 i _ _ (by simp) (by simp [hi]), ?_⟩
  intro j new x' K hj hc hr hK
  refine g4 j new K hj hc fun h' k1 k2 => hK h' ⟨_, k1, by simp [h2], ?_⟩ k2
  intro m r x hr' hx'
  rw [List.getElem?_set] at hr' hx'
  have hT : ∀ y, y = b → (isAt v y ∨ S y) := fun y hy => .inl (hy ▸ g3)
  by_cases hm : i = m
  · subst hm
    rw [if_pos rfl, if_pos (by omega)] at hr' hx'
    simp only [Option.some.injEq] at hr' hx'
    subst hr' hx'
    exact hr.fr k2 hT
  · rw [if_neg hm] at hr' hx'
    exact (h3 m r x hr' hx').fr k2 hT
end
/-- Data goes along: the blocks it avoids may change. -/
theorem Rep.move {t : Ty} {S S' T : Nat → Prop} {h h' : H} {cs : List Value} {x : t.D} (r : Rep S t h cs x) (f : Fr T h h') (hT : ∀ y, T y → S y) (hS : ∀ y, S' y → S y ∨ h y = none) : Rep S' t h' cs x := by
  have r1 : Rep (fun y => S y ∨ h y = none) t h cs x := r.mono fun y o hy hs => hs.elim id fun hn => by rw [hn] at hy; cases hy
  exact (r1.fr f fun y hy => .inl (hT y hy)).mono fun y _ _ hy => hS y hy
end Go.Proofs.Ytojhnclkhiffkaa

/-
  Functions whose results lie in cells, in company: the loads at the end are listed.
-/
namespace Go.Proofs.Ytojhnclkhiffkaa
open Go.Conc
set_option linter.unusedVariables false
/-! Results in slots, or in cells that slots point to. -/
inductive Rv where
  | t (n : Nat)
  | c (a : Nat) (T : TypeId)
  | cn (a n : Nat) (T : TypeId)
def Rv.var : Rv → ResultVar
  | .t n => .tmp n
  | .c a T => .cell a T
  | .cn a _ T => .cell a T
def Rv.ok (P : Program) : Rv → Bool
  | .t _ => true
  | .c _ T => match P.underlying T with
    | some (.struct _) | some (.array _ _) | none => false
    | some _ => true
  | .cn _ n T => (match P.underlying T with
    | some (.struct _) | some (.array _ _) => true
    | _ => false) && ((P.info? T).map (·.size) == some n)
def rvV (e : Env) (h : H) : Rv → Option Value
  | .t n => e.get n
  | .c a _ => (e.get a).bind fun v => match v with
    | .pointer (some p) => cellAt h p
    | _ => none
  | .cn a n _ => (e.get a).bind fun v => match v with
    | .pointer (some p) => (cellsAt h p n).map .agg
    | _ => none
def rvVs (e : Env) (h : H) : List Rv → Option (List Value)
  | [] => some []
  | x :: r => (rvV e h x).bind fun v => (rvVs e h r).bind fun vs => some (v :: vs)
/-- A function's end, its results wherever they are. -/
def retC (res : List Rv) (R : Ending → H → Prop) : Post := fun x e h =>
  match x with
  | .ret | .normal => match rvVs e h res with
    | some [v] => R (.returned v) h
    | some vs => R (.returned (.tuple vs.toArray)) h
    | none => False
  | .panic c => R (.panicked c) h
  | _ => False
section
variable {P : Program} {w : World} {h : H} {e : Env} {a : Act}
end
section
variable {Pg : Program} {P : Cx Pg}
end
section
variable {e : Env} {h : H}
theorem retC_ret (res : List Rv) (R : Ending → H → Prop) : retC res R .ret e h = retM R (rvVs e h res) h := rfl
theorem retC_normal (res : List Rv) (R : Ending → H → Prop) : retC res R .normal e h = retM R (rvVs e h res) h := rfl
theorem retC_panic (res : List Rv) (R : Ending → H → Prop) (c : List PanicEntry) : retC res R (.panic c) e h = R (.panicked c) h := rfl
theorem rvVs_nil : rvVs e h [] = some [] := rfl
theorem rvVs_cons (x : Rv) (r : List Rv) : rvVs e h (x :: r) = ob (rvV e h x) fun v => ob (rvVs e h r) fun vs => some (v :: vs) := rfl
theorem rvV_t (n : Nat) : rvV e h (.t n) = e.get n := rfl
theorem rvV_c (a : Nat) (T : TypeId) : rvV e h (.c a T) = ob (e.get a) fun v => ldV h v := by
  show ob (e.get a) _ = _
  congr 1
theorem rvV_cn (a n : Nat) (T : TypeId) : rvV e h (.cn a n T) = ob (e.get a) fun v => ldnV h n v := by
  show ob (e.get a) _ = _
  congr 1
theorem wD : type_of% (And.intro @retC_ret (And.intro @retC_normal (And.intro @retC_panic (And.intro @rvVs_nil (And.intro @rvVs_cons (And.intro @rvV_t (And.intro @rvV_c @rvV_cn))))))) :=
  And.intro @retC_ret (And.intro @retC_normal (And.intro @retC_panic (And.intro @rvVs_nil (And.intro @rvVs_cons (And.intro @rvV_t (And.intro @rvV_c @rvV_cn))))))
end
end Go.Proofs.Ytojhnclkhiffkaa

/-
  The walk's rules in a bundle.
-/
namespace Go.Proofs.Ytojhnclkhiffkaa
set_option linter.unusedVariables false
theorem wDY : type_of% (And.intro @wD @wY) := And.intro @wD @wY
theorem wZ : type_of% (And.intro @wA (And.intro @wB (And.intro @wL (And.intro @wW (And.intro @wDY (And.intro @Int.fdiv_eq_ediv_of_nonneg (And.intro @Int.tdiv_eq_ediv_of_nonneg (And.intro @Int.tmod_eq_emod_of_nonneg (And.intro @chk_pos (And.intro @decT (And.intro @decF (And.intro @br_pos (And.intro @br_neg (And.intro @wX (And.intro @and_self (And.intro @decide_eq_true_eq @decide_eq_false_iff_not)))))))))))))))) := (And.intro @wA (And.intro @wB (And.intro @wL (And.intro @wW (And.intro @wDY (And.intro @Int.fdiv_eq_ediv_of_nonneg (And.intro @Int.tdiv_eq_ediv_of_nonneg (And.intro @Int.tmod_eq_emod_of_nonneg (And.intro @chk_pos (And.intro @decT (And.intro @decF (And.intro @br_pos (And.intro @br_neg (And.intro @wX (And.intro @and_self (And.intro @decide_eq_true_eq @decide_eq_false_iff_not))))))))))))))))
theorem wS : type_of% ((And.intro @wZ (And.intro @Nat.min_eq_left (And.intro @eq_self.{1} (And.intro @implies_true.{1} (And.intro @exists_const.{1} (And.intro @Option.isNone_some.{0} (And.intro @Option.isNone_none.{0} (And.intro @Option.isSome_some.{0} (And.intro @Option.isSome_none.{0} @Option.getD_some.{0})))))))))) := (And.intro @wZ (And.intro @Nat.min_eq_left (And.intro @eq_self.{1} (And.intro @implies_true.{1} (And.intro @exists_const.{1} (And.intro @Option.isNone_some.{0} (And.intro @Option.isNone_none.{0} (And.intro @Option.isSome_some.{0} (And.intro @Option.isSome_none.{0} @Option.getD_some.{0})))))))))
end Go.Proofs.Ytojhnclkhiffkaa

/-
  (nothing: no gotos in company)
-/
namespace Go.Proofs.Ytojhnclkhiffkaa
end Go.Proofs.Ytojhnclkhiffkaa

