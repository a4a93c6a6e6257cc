/-
  Slices whose elements have k cells; slices of the call's own, at any place of their block; bytes and texts.
-/
import Derived.Test.YtojhnclkhiffkaaK11
namespace Go.Proofs.Ytojhnclkhiffkaa
set_option linter.unusedVariables false
set_option linter.unusedSimpArgs false

/-! ### More rules of the walk -/
section
variable {Pg : Program} {P : Cx Pg} {e : Env} {h : H} {V : Value → H → Prop} {X : List PanicEntry → H → Prop}
def cvbsM (o : Option Value) (h : H) (K : Value → H → Prop) : Prop :=
  match o with
  | some (.slice none _ _) => K (.string .empty) h
  | some (.slice (some p) n _) => match cellsAt h p n with
    | some cs => (cs.toList.all isByte = true) ∧ K (.string (ofCells cs)) h
    | none => False
  | _ => False
@[congr] theorem cg_cvbsM {o o' : Option Value} (ho : o = o') {d : Prop} (hd : dm = d) : cvbsM o h V = cvbsM o' h V := by rw [ho]
def cvsbM (E : TypeId) (o : Option Value) (h : H) (K : Value → H → Prop) : Prop :=
  match o with
  | some (.string s) => ∀ c, s.size ≤ c → ∀ b, h b = none → K (.slice (some ⟨b, 0, none⟩) s.size c) (hupd h b (.cells (strCells s c) E (c, c + 1)))
  | _ => False
@[congr] theorem cg_cvsbM {E : TypeId} {o o' : Option Value} (ho : o = o') {d : Prop} (hd : dm = d) : cvsbM E o h V = cvsbM E o' h V := by rw [ho]
def slcaV1 (n size : Nat) (m3 : Bool) (m hi lo : Option Int) (v : Value) : Option Value :=
  match v with
  | .pointer (some a) => ob m fun m => ob hi fun h' => ob lo fun l' => slcV size (some a) n n m3 l' h' m
  | _ => none
theorem qV_slca (n k : Nat) (x : Operand) (lo hi mx : Option Operand) : qV (.slca n k x lo hi mx) e h = ob (ev e x) (slcaV1 n k mx.isSome (bnd e mx n) (bnd e hi n) (bnd e lo 0)) := by
  show ob (ev e x) _ = _
  congr 1
theorem slca1_s (n k : Nat) (m3 : Bool) (m hi lo : Option Int) (a : Addr) : slcaV1 n k m3 m hi lo (.pointer (some a)) = ob m fun m => ob hi fun h' => ob lo fun l' => slcV k (some a) n n m3 l' h' m := rfl
def idxvnV1 (n size : Nat) (v j : Value) : Option Value :=
  match v, j with
  | .agg cs, .int _ j => chk (0 ≤ j ∧ j < n) (.agg (cs.extract (j.toNat * size) (j.toNat * size + size)))
  | _, _ => none
theorem qV_idxvn (n k : Nat) (x i : Operand) : qV (.idxvn n k x i) e h = ob (ev e x) fun v => ob (ev e i) fun j => idxvnV1 n k v j := by
  show ob (ev e x) _ = _
  congr 1
theorem idxvn_s (n size : Nat) (cs : Array Value) (k : IntKind) (j : Int) : idxvnV1 n size (.agg cs) (.int k j) = chk (0 ≤ j ∧ j < n) (.agg (cs.extract (j.toNat * size) (j.toNat * size + size))) := rfl
theorem fdiv_pow (a : Int) (n : Nat) : a.fdiv (2 ^ n) = a / 2 ^ n := Int.fdiv_eq_ediv_of_nonneg _ (by exact Int.le_of_lt (Int.pow_pos (by decide)))
theorem chk_T {α : Type} (v : α) : chk True v = some v := if_pos trivial
theorem f_eql (q : EqK) (k : FloatKind) (a b : Nat) : binV .eql q (.float k a) (.float k b) = some (.bool (k.format.order a b == some .eq)) := by simp [binV]
theorem f_neq (q : EqK) (k : FloatKind) (a b : Nat) : binV .neq q (.float k a) (.float k b) = some (.bool (k.format.order a b != some .eq)) := by simp [binV]
theorem noGQ_normal (Q : Post) : noGQ Q .normal e h = Q .normal e h := rfl
theorem noGQ_ret (Q : Post) : noGQ Q .ret e h = Q .ret e h := rfl
theorem noGQ_exit (Q : Post) (i : Nat) : noGQ Q (.exit i) e h = Q (.exit i) e h := rfl
theorem noGQ_panic (Q : Post) (c : List PanicEntry) : noGQ Q (.panic c) e h = Q (.panic c) e h := rfl
theorem wY : type_of% (And.intro @f_eql (And.intro @f_neq (And.intro @chk_T (And.intro @qV_slca (And.intro @slca1_s (And.intro @qV_idxvn (And.intro @idxvn_s (@fdiv_pow)))))))) :=
  And.intro @f_eql (And.intro @f_neq (And.intro @chk_T (And.intro @qV_slca (And.intro @slca1_s (And.intro @qV_idxvn (And.intro @idxvn_s (@fdiv_pow)))))))
/-- What follows a round's body: the answer to the function ranged over. -/
def rqB (L : Nat) (Y : Exit → H → Prop) : Post := fun x _ h3 => h3 L = none → Y x h3
theorem rqB_any (L : Nat) (Y : Exit → H → Prop) (x : Exit) : rqB L Y x e h = (h L = none → Y x h) := rfl
/-- .. and what follows its parameters' assignment. -/
def rqA {Pg : Program} (P : Cx Pg) (Kb : List Nat) (b : LC) (L : Nat) (Y : Exit → H → Prop) (h1 : H) : Post := fun x e1 h2 => x = .normal ∧ h2 L = h1 L ∧ vc P b (rqB L Y) (e1.keep Kb) (hdel h2 L)
theorem rqA_normal (Kb : List Nat) (b : LC) (L : Nat) (Y : Exit → H → Prop) (h1 : H) : rqA P Kb b L Y h1 .normal e h = (h L = h1 L ∧ vc P b (rqB L Y) (e.keep Kb) (hdel h L)) := by simp [rqA]
end

/-! ### Cells in a row -/
/-- The cells from o on are l. -/
def At' (c : Array Value) (o : Nat) (l : List Value) : Prop := ∀ m (hm : m < l.length), c[o + m]? = some l[m]
theorem At'.get {c : Array Value} {o : Nat} {l : List Value} (a : At' c o l) {m : Nat} (hm : m < l.length) : c[o + m]? = some l[m] := a m hm
theorem At'.le {c : Array Value} {o : Nat} {l : List Value} (a : At' c o l) (h0 : l ≠ []) : o + l.length ≤ c.size := by
  have hl : 0 < l.length := List.length_pos_iff.2 h0
  have := (Array.getElem?_eq_some_iff.1 (a (l.length - 1) (by omega))).1
  omega
theorem At'.sub {c : Array Value} {o : Nat} {l : List Value} (a : At' c o l) (i n : Nat) : At' c (o + i) ((l.drop i).take n) := by
  intro m hm
  simp at hm
  rw [Nat.add_assoc, a (i + m) (by omega)]
  simp
theorem At'.ext {c : Array Value} {o : Nat} {l : List Value} (a : At' c o l) (hl : o + l.length ≤ c.size) : c.extract o (o + l.length) = l.toArray := by
  apply Array.ext'
  apply List.ext_getElem?
  intro i
  rw [Array.getElem?_toList, Array.getElem?_extract]
  by_cases hi : i < l.length
  · rw [if_pos (by omega), a i hi]; simp [hi]
  · rw [if_neg (by omega)]; simp; omega
theorem At'.splice {c : Array Value} {o p : Nat} {l new : List Value} (a : At' c o l) (hl : p + new.length ≤ c.size) (h : o + l.length ≤ p ∨ p + new.length ≤ o) : At' (splice c p new) o l := by
  intro m hm
  rw [get_splice _ _ _ _ hl, if_neg (by omega)]
  exact a m hm
theorem at_splice {c : Array Value} {p : Nat} {new : List Value} (hl : p + new.length ≤ c.size) : At' (splice c p new) p new := by
  intro m hm
  rw [get_splice _ _ _ _ hl, if_pos (by omega), Nat.add_sub_cancel_left]
  simp [hm]
theorem At'.append {c : Array Value} {o : Nat} {l r : List Value} (a : At' c o l) (b : At' c (o + l.length) r) : At' c o (l ++ r) := by
  intro m hm
  simp at hm
  by_cases h : m < l.length
  · rw [a m h]; simp [h]
  · have := b (m - l.length) (by omega)
    rw [show o + l.length + (m - l.length) = o + m by omega] at this
    rw [this, List.getElem_append_right (by omega)]
theorem At'.split {c : Array Value} {o : Nat} {l r : List Value} (a : At' c o (l ++ r)) : At' c o l ∧ At' c (o + l.length) r := by
  refine ⟨fun m hm => ?_, fun m hm => ?_⟩
  · rw [a m (by simp; omega)]; simp [hm]
  · rw [show o + l.length + m = o + (l.length + m) by omega, a (l.length + m) (by simp; omega)]
    simp
theorem At'.off {c : Array Value} {o o' : Nat} {l : List Value} (a : At' c o l) (h : o = o') : At' c o' l := h ▸ a
theorem at_arr (l : List Value) (r : Array Value) : At' (l.toArray ++ r) 0 l := by
  intro m hm
  rw [Nat.zero_add, Array.getElem?_append_left (by simpa using hm)]
  simp

/-- Rows of k cells, one behind the other. -/
def flat : List (List Value) → List Value
  | [] => []
  | r :: t => r ++ flat t
theorem flat_nil : flat [] = [] := rfl
theorem flat_cons (r : List Value) (t : List (List Value)) : flat (r :: t) = r ++ flat t := rfl
theorem flat_append (a b : List (List Value)) : flat (a ++ b) = flat a ++ flat b := by
  induction a with
  | nil => rfl
  | cons r t ih => simp [flat, ih]
def one (xs : List Value) : List (List Value) := xs.map fun x => [x]
theorem flat_one (xs : List Value) : flat (one xs) = xs := by
  induction xs with
  | nil => rfl
  | cons x t ih => show [x] ++ flat (one t) = _; rw [ih]; rfl
theorem one_len (xs : List Value) : (one xs).length = xs.length := by simp [one]
theorem one_append (a b : List Value) : one (a ++ b) = one a ++ one b := by simp [one]
/-- Each row has k cells. -/
def Rect (k : Nat) (rows : List (List Value)) : Prop := ∀ r ∈ rows, r.length = k
theorem Rect.flat {k : Nat} {rows : List (List Value)} (r : Rect k rows) : (flat rows).length = rows.length * k := by
  induction rows with
  | nil => simp [Go.Proofs.Ytojhnclkhiffkaa.flat]
  | cons x t ih =>
    have := ih fun y hy => r y (by simp [hy])
    simp [Go.Proofs.Ytojhnclkhiffkaa.flat, this, r x (by simp), Nat.add_mul, Nat.add_comm]
theorem rect_one (xs : List Value) : Rect 1 (one xs) := by
  intro r hr
  obtain ⟨x, _, rfl⟩ := List.mem_map.1 hr; rfl
theorem Rect.append {k : Nat} {a b : List (List Value)} (h : Rect k a) (g : Rect k b) : Rect k (a ++ b) := fun r hr => (List.mem_append.1 hr).elim (h r) (g r)
theorem Rect.sub {k : Nat} {a b : List (List Value)} (h : Rect k a) (hs : ∀ r ∈ b, r ∈ a) : Rect k b := fun r hr => h r (hs r hr)
theorem flat_take {k : Nat} : ∀ {rows : List (List Value)} (r : Rect k rows) (n : Nat), flat (rows.take n) = (flat rows).take (n * k)
  | [], r, n => by simp [flat]
  | x :: t, r, 0 => by simp [flat]
  | x :: t, r, n + 1 => by
    have hx : x.length = k := r x (by simp)
    have ih := flat_take (rows := t) (fun y hy => r y (by simp [hy])) n
    simp only [List.take_succ_cons, flat, ih]
    rw [show (n + 1) * k = x.length + n * k by rw [hx, Nat.add_mul]; omega, List.take_length_add_append]
theorem flat_drop {k : Nat} : ∀ {rows : List (List Value)} (r : Rect k rows) (n : Nat), flat (rows.drop n) = (flat rows).drop (n * k)
  | [], r, n => by simp [flat]
  | x :: t, r, 0 => by simp [flat]
  | x :: t, r, n + 1 => by
    have hx : x.length = k := r x (by simp)
    have ih := flat_drop (rows := t) (fun y hy => r y (by simp [hy])) n
    simp only [List.drop_succ_cons, flat, ih]
    rw [show (n + 1) * k = x.length + n * k by rw [hx, Nat.add_mul]; omega, List.drop_length_add_append]
theorem flat_row {k : Nat} {rows : List (List Value)} (r : Rect k rows) {i : Nat} (hi : i < rows.length) : ((flat rows).drop (i * k)).take k = rows[i] := by
  have := flat_take (r.sub (b := rows.drop i) fun y hy => List.mem_of_mem_drop hy) 1
  rw [Nat.one_mul, flat_drop r] at this
  rw [← this, List.drop_eq_getElem_cons hi, List.take_succ_cons, List.take_zero, flat_cons, flat_nil, List.append_nil]

/-! ### Slices -/
/-- A slice that reads as rows of k cells, its block none of S. -/
def SlK (k : Nat) (S : Nat → Prop) (h : H) (v : Value) (rows : List (List Value)) : Prop :=
  Rect k rows ∧ ((∃ a, v = .slice a 0 0 ∧ rows = []) ∨
  ∃ b o cp c E fr, v = .slice (some ⟨b, o, none⟩) rows.length cp ∧ h b = some (.cells c E fr) ∧ o + cp * k ≤ c.size ∧ rows.length ≤ cp ∧ At' c o (flat rows) ∧ ¬ S b)
abbrev nos : Nat → Prop := fun _ => False
theorem SlK.rect {k : Nat} {S : Nat → Prop} {h : H} {v : Value} {rows : List (List Value)} (s : SlK k S h v rows) : Rect k rows := s.1
theorem SlK.len {k : Nat} {S : Nat → Prop} {h : H} {v : Value} {rows : List (List Value)} (s : SlK k S h v rows) : ∃ a c, v = .slice a rows.length c := by
  obtain ⟨_, ⟨a, rfl, rfl⟩ | ⟨b, o, cp, c, E, fr, rfl, _⟩⟩ := s
  · exact ⟨_, _, rfl⟩
  · exact ⟨_, _, rfl⟩
theorem SlK.fr {k : Nat} {S T : Nat → Prop} {h h' : H} {v : Value} {rows : List (List Value)} (s : SlK k S h v rows) (e : Fr T h h') (hst : ∀ x, T x → S x) : SlK k S h' v rows := by
  obtain ⟨hr, s | ⟨b, o, cp, c, E, fr, h1, h2, h3, h4, h5, h6⟩⟩ := s
  · exact ⟨hr, .inl s⟩
  · exact ⟨hr, .inr ⟨b, o, cp, c, E, fr, h1, e _ _ h2 fun h => h6 (hst _ h), h3, h4, h5, h6⟩⟩
theorem SlK.ext {k : Nat} {S : Nat → Prop} {h h' : H} {v : Value} {rows : List (List Value)} (s : SlK k S h v rows) (e : Ext h h') : SlK k S h' v rows := s.fr e fun _ h => h.elim
theorem SlK.mono {k : Nat} {S T : Nat → Prop} {h : H} {v : Value} {rows : List (List Value)} (s : SlK k S h v rows) (hst : ∀ x o, h x = some o → T x → S x) : SlK k T h v rows := by
  obtain ⟨hr, s | ⟨b, o, cp, c, E, fr, h1, h2, h3, h4, h5, h6⟩⟩ := s
  · exact ⟨hr, .inl s⟩
  · exact ⟨hr, .inr ⟨b, o, cp, c, E, fr, h1, h2, h3, h4, h5, fun h => h6 (hst _ _ h2 h)⟩⟩
theorem SlK.row {k : Nat} {S : Nat → Prop} {h : H} {v : Value} {rows : List (List Value)} (s : SlK k S h v rows) {i : Nat} (hi : i < rows.length) (kk : IntKind) :
    ∃ b o, idxV1 k v (.int kk (i : Int)) = some (.pointer (some ⟨b, o, none⟩)) ∧ (rows[i]).length = k ∧ (∀ j (hj : j < k), cellAt h ⟨b, o + j, none⟩ = (rows[i])[j]?) ∧ cellsAt h ⟨b, o, none⟩ k = some (rows[i]).toArray := by
  obtain ⟨hr, ⟨a, rfl, rfl⟩ | ⟨b, o, cp, c, E, fr, rfl, h2, h3, h4, h5, h6⟩⟩ := s
  · simp at hi
  · have hk : (rows[i]).length = k := hr _ (List.getElem_mem hi)
    have hfl := hr.flat
    have hmul : i * k + k ≤ rows.length * k := by rw [← Nat.succ_mul]; exact Nat.mul_le_mul_right _ hi
    have hcp : rows.length * k ≤ cp * k := Nat.mul_le_mul_right _ h4
    have hsub := h5.sub (i * k) k
    rw [flat_row hr hi] at hsub
    refine ⟨b, o + i * k, ?_, hk, ?_, ?_⟩
    · rw [idx_s, chk_pos (by omega)]
      simp
    · intro j hj
      rw [cellAt_of h2, hsub j (by omega)]
      simp [hk, hj]
    · rw [cellsAt_of h2 (by omega)]
      have := hsub.ext (by omega)
      rw [hk] at this
      rw [this]
theorem SlK.src {k : Nat} {S : Nat → Prop} {h : H} {v : Value} {rows : List (List Value)} (s : SlK k S h v rows) : srcLen v = some rows.length ∧ ∀ n, n ≤ rows.length → srcCells h k n v = some (flat (rows.take n)).toArray := by
  obtain ⟨hr, ⟨a, rfl, rfl⟩ | ⟨b, o, cp, c, E, fr, rfl, h2, h3, h4, h5, h6⟩⟩ := s
  · refine ⟨rfl, fun n hn => ?_⟩
    simp at hn; subst hn
    cases a with
    | none => rfl
    | some a => show cellsAt h a (0 * k) = _; rw [Nat.zero_mul]; rfl
  · refine ⟨rfl, fun n hn => ?_⟩
    have hfl := hr.flat
    have hmul : n * k ≤ rows.length * k := Nat.mul_le_mul_right _ hn
    have hcp : rows.length * k ≤ cp * k := Nat.mul_le_mul_right _ h4
    show cellsAt h ⟨b, o, none⟩ (n * k) = _
    rw [cellsAt_of h2 (by omega), flat_take hr]
    have := h5.sub 0 (n * k)
    rw [List.drop_zero] at this
    have h7 := this.ext (by rw [List.length_take, hfl, Nat.min_eq_left hmul]; omega)
    simp only [List.length_take, hfl, Nat.min_eq_left hmul, Nat.add_zero] at h7
    rw [h7]
/-- A slice of it. -/
theorem SlK.cut {k : Nat} {S : Nat → Prop} {h : H} {a : Option Addr} {n c : Nat} {rows : List (List Value)} (s : SlK k S h (.slice a n c) rows) {m3 : Bool} {lo hi mx : Int} {l u m : Nat} (hl : lo = l) (hu : hi = u) (hm : mx = m) (h2 : l ≤ u) (h3 : u ≤ n) (h4 : u ≤ m) (h5 : m ≤ c) (h6 : m3 = true ∨ m = c) :
    ∃ v, slcV k a n c m3 lo hi mx = some v ∧ SlK k S h v ((rows.drop l).take (u - l)) := by
  subst hl hu hm
  obtain ⟨hr, ⟨a', s1, rfl⟩ | ⟨b, o, cp, cc, E, fr, s1, s2, s3, s4, s5, s6⟩⟩ := s
  · simp only [Value.slice.injEq] at s1
    obtain ⟨rfl, rfl, rfl⟩ := s1
    have : u = 0 := by omega
    have : l = 0 := by omega
    have : m = 0 := by omega
    subst_vars
    exact ⟨_, chk_pos (by simp), fun r hr => by simp at hr, .inl ⟨_, rfl, by simp⟩⟩
  · simp only [Value.slice.injEq] at s1
    obtain ⟨rfl, rfl, rfl⟩ := s1
    have hr' : Rect k ((rows.drop l).take (u - l)) := hr.sub fun r hr => List.mem_of_mem_drop (List.mem_of_mem_take hr)
    have hlen : ((rows.drop l).take (u - l)).length = u - l := by simp; omega
    rw [slcV_eq, chk_pos ⟨by omega, by omega, by omega, by omega, h6.imp id (by omega)⟩]
    refine ⟨_, rfl, hr', ?_⟩
    by_cases hc : (m : Int) = l
    · refine .inr ⟨b, o, 0, cc, E, fr, ?_, s2, by omega, by omega, ?_, s6⟩
      · rw [if_pos hc, hlen]
        simp only [Value.slice.injEq, true_and]; omega
      · have : (rows.drop l).take (u - l) = [] := List.eq_nil_of_length_eq_zero (by omega)
        rw [this]; intro m hm; simp [flat] at hm
    · refine .inr ⟨b, o + l * k, m - l, cc, E, fr, ?_, s2, ?_, by omega, ?_, s6⟩
      · rw [if_neg hc, hlen]
        simp only [Value.slice.injEq, Option.map_some, Option.some.injEq, Addr.add, Int.toNat_natCast]
        refine ⟨by simp, ?_, ?_⟩ <;> simp <;> omega
      · have : l * k + (m - l) * k = m * k := by rw [← Nat.add_mul]; congr 1; omega
        have : m * k ≤ c * k := Nat.mul_le_mul_right _ (by omega)
        omega
      · rw [flat_take (hr.sub fun r hr => List.mem_of_mem_drop hr), flat_drop hr]
        exact s5.sub (l * k) _

/-- A slice whose block is of O, that may be grown and written. -/
def OwK (k : Nat) (O : Nat → Prop) (h : H) (E : TypeId) (v : Value) (rows : List (List Value)) : Prop :=
  Rect k rows ∧ ((v = .slice none 0 0 ∧ rows = []) ∨
  ∃ b o cp c fr, v = .slice (some ⟨b, o, none⟩) rows.length cp ∧ h b = some (.cells c E fr) ∧ o + cp * k ≤ c.size ∧ rows.length ≤ cp ∧ At' c o (flat rows) ∧ O b ∧ (fr.2 = 0 ∨ c.size ≤ fr.1 ∨ o + cp * k ≤ fr.1))
theorem OwK.sl {k : Nat} {O S : Nat → Prop} {h : H} {E : TypeId} {v : Value} {rows : List (List Value)} (s : OwK k O h E v rows) (hs : ∀ x, O x → ¬ S x) : SlK k S h v rows := by
  obtain ⟨hr, ⟨rfl, rfl⟩ | ⟨b, o, cp, c, fr, h1, h2, h3, h4, h5, h6, h7⟩⟩ := s
  · exact ⟨hr, .inl ⟨_, rfl, rfl⟩⟩
  · exact ⟨hr, .inr ⟨b, o, cp, c, E, fr, h1, h2, h3, h4, h5, hs _ h6⟩⟩
theorem OwK.s0 {k : Nat} {O : Nat → Prop} {h : H} {E : TypeId} {v : Value} {rows : List (List Value)} (s : OwK k O h E v rows) : SlK k nos h v rows := s.sl fun _ _ h => h
theorem OwK.mono {k : Nat} {O O' : Nat → Prop} {h : H} {E : TypeId} {v : Value} {rows : List (List Value)} (s : OwK k O h E v rows) (hs : ∀ x o, h x = some o → O x → O' x) : OwK k O' h E v rows := by
  obtain ⟨hr, ⟨rfl, rfl⟩ | ⟨b, o, cp, c, fr, h1, h2, h3, h4, h5, h6, h7⟩⟩ := s
  · exact ⟨hr, .inl ⟨rfl, rfl⟩⟩
  · exact ⟨hr, .inr ⟨b, o, cp, c, fr, h1, h2, h3, h4, h5, hs _ _ h2 h6, h7⟩⟩
theorem OwK.fr {k : Nat} {O T : Nat → Prop} {h h' : H} {E : TypeId} {v : Value} {rows : List (List Value)} (s : OwK k O h E v rows) (e : Fr T h h') (hst : ∀ x, T x → O x → ¬ isAt v x) : OwK k O h' E v rows := by
  obtain ⟨hr, ⟨rfl, rfl⟩ | ⟨b, o, cp, c, fr, h1, h2, h3, h4, h5, h6, h7⟩⟩ := s
  · exact ⟨hr, .inl ⟨rfl, rfl⟩⟩
  · exact ⟨hr, .inr ⟨b, o, cp, c, fr, h1, e _ _ h2 fun h => hst _ h h6 ⟨_, _, _, h1⟩, h3, h4, h5, h6, h7⟩⟩
theorem OwK.ext {k : Nat} {O : Nat → Prop} {h h' : H} {E : TypeId} {v : Value} {rows : List (List Value)} (s : OwK k O h E v rows) (e : Ext h h') : OwK k O h' E v rows := s.fr e fun _ h => h.elim
theorem OwK.nil {k : Nat} {O : Nat → Prop} {h : H} {E : TypeId} : OwK k O h E (.slice none 0 0) [] := ⟨fun r hr => by simp at hr, .inl ⟨rfl, rfl⟩⟩
/-- A fresh literal, or what was made. -/
theorem OwK.lit {k : Nat} {O : Nat → Prop} {h : H} {b n cp : Nat} {c : Array Value} {E : TypeId} {rows : List (List Value)} {fr : Nat × Nat} (hr : Rect k rows) (hn : rows.length = n) (hc : cp * k ≤ c.size) (hl : n ≤ cp) (hx : At' c 0 (flat rows)) (ho : O b) (hf : fr.2 = 0 ∨ c.size ≤ fr.1 ∨ cp * k ≤ fr.1) :
    OwK k O (hupd h b (.cells c E fr)) E (.slice (some ⟨b, 0, none⟩) n cp) rows :=
  ⟨hr, .inr ⟨b, 0, cp, c, fr, by rw [hn], hupd_same _ _ _, by omega, by omega, hx, ho, by omega⟩⟩
theorem OwK.cut {k : Nat} {O : Nat → Prop} {h : H} {E : TypeId} {a : Option Addr} {n c : Nat} {rows : List (List Value)} (s : OwK k O h E (.slice a n c) rows) {m3 : Bool} {lo hi mx : Int} {l u m : Nat} (hl : lo = l) (hu : hi = u) (hm : mx = m) (h2 : l ≤ u) (h3 : u ≤ n) (h4 : u ≤ m) (h5 : m ≤ c) (h6 : m3 = true ∨ m = c) :
    ∃ v, slcV k a n c m3 lo hi mx = some v ∧ OwK k O h E v ((rows.drop l).take (u - l)) ∧ ∀ x, isAt v x → isAt (.slice a n c) x := by
  subst hl hu hm
  obtain ⟨hr, ⟨s1, rfl⟩ | ⟨b, o, cp, cc, fr, s1, s2, s3, s4, s5, s6, s7⟩⟩ := s
  · simp only [Value.slice.injEq] at s1
    obtain ⟨rfl, rfl, rfl⟩ := s1
    have : u = 0 := by omega
    have : l = 0 := by omega
    have : m = 0 := by omega
    subst_vars
    exact ⟨.slice none 0 0, by rw [slcV_eq, chk_pos (by simp)]; rfl, ⟨fun r hr => by simp at hr, .inl ⟨rfl, by simp⟩⟩, fun x h => h⟩
  · simp only [Value.slice.injEq] at s1
    obtain ⟨rfl, rfl, rfl⟩ := s1
    have hr' : Rect k ((rows.drop l).take (u - l)) := hr.sub fun r hr => List.mem_of_mem_drop (List.mem_of_mem_take hr)
    have hlen : ((rows.drop l).take (u - l)).length = u - l := by simp; omega
    rw [slcV_eq, chk_pos ⟨by omega, by omega, by omega, by omega, h6.imp id (by omega)⟩]
    refine ⟨_, rfl, ⟨hr', ?_⟩, ?_⟩
    · by_cases hc : (m : Int) = l
      · refine .inr ⟨b, o, 0, cc, fr, ?_, s2, by omega, by omega, ?_, s6, by omega⟩
        · rw [if_pos hc, hlen]
          simp only [Value.slice.injEq, true_and]; omega
        · have : (rows.drop l).take (u - l) = [] := List.eq_nil_of_length_eq_zero (by omega)
          rw [this]; intro m hm; simp [flat] at hm
      · have e1 : l * k + (m - l) * k = m * k := by rw [← Nat.add_mul]; congr 1; omega
        have e2 : m * k ≤ c * k := Nat.mul_le_mul_right _ (by omega)
        refine .inr ⟨b, o + l * k, m - l, cc, fr, ?_, s2, by omega, by omega, ?_, s6, by omega⟩
        · rw [if_neg hc, hlen]
          simp only [Value.slice.injEq, Option.map_some, Option.some.injEq, Addr.add, Int.toNat_natCast]
          refine ⟨by simp, ?_, ?_⟩ <;> simp <;> omega
        · rw [flat_take (hr.sub fun r hr => List.mem_of_mem_drop hr), flat_drop hr]
          exact s5.sub (l * k) _
    · rintro x ⟨o', n', c', hx⟩
      by_cases hc : (m : Int) = l
      · rw [if_pos hc] at hx
        simp only [Value.slice.injEq, Option.some.injEq, Addr.mk.injEq] at hx
        obtain ⟨⟨rfl, _, _⟩, _⟩ := hx
        exact ⟨_, _, _, rfl⟩
      · rw [if_neg hc] at hx
        simp only [Value.slice.injEq, Option.map_some, Option.some.injEq, add_mk, Addr.mk.injEq] at hx
        obtain ⟨⟨rfl, _, _⟩, _⟩ := hx
        exact ⟨_, _, _, rfl⟩

/-- append. -/
theorem app_ow {k : Nat} {O : Nat → Prop} {h : H} {E : TypeId} {bytes : Nat} {z : Array Value} {s x : Value} {rows new : List (List Value)} {V : Value → H → Prop} (hs : OwK k O h E s rows) (hO : ∀ b, h b = none → O b)
    (hnr : Rect k new) (hx : srcLen x = some new.length) (hc : srcCells h k new.length x = some (flat new).toArray) (hcell : (flat new).all isCell = true) (hz : z.size = k) (hlen : 2 * ((rows.length + new.length) * bytes) ≤ 281474976710656) (hlen' : rows.length + new.length ≤ 9223372036854775807)
    (hk : ∀ v h', OwK k O h' E v (rows ++ new) → Fr (fun y => O y ∧ isAt s y) h h' → (∀ y, isAt v y → isAt s y ∨ h y = none) → V v h') : appM E k bytes z s x h V := by
  have hr := hs.1
  have hnl := hnr.flat
  have hrl := hr.flat
  have hrn : Rect k (rows ++ new) := hr.append hnr
  have grow : ∀ cap : Nat, cap < rows.length + new.length → ∀ c, rows.length + new.length ≤ c → ∀ b, h b = none →
      V (.slice (some ⟨b, 0, none⟩) (rows.length + new.length) c) (hupd h b (.cells ((flat rows).toArray ++ (flat new).toArray ++ Builtin.zeroCells z (c - (rows.length + new.length))) E)) := by
    intro cap hcap c hcl b hb
    refine hk _ _ ⟨hrn, .inr ⟨b, 0, c, _, (0, 0), by simp, hupd_same _ _ _, ?_, by simp; omega, ?_, hO b hb, .inl rfl⟩⟩ ((Ext.new hb _).mono fun _ h => h.elim) (by rintro y ⟨_, _, _, he⟩; simp only [Value.slice.injEq, Option.some.injEq, Addr.mk.injEq] at he; obtain ⟨⟨rfl, _⟩, _⟩ := he; exact .inr hb)
    · have : (rows.length + new.length) * k + (c - (rows.length + new.length)) * k = c * k := by rw [← Nat.add_mul]; congr 1; omega
      have e2 : (rows.length + new.length) * k = rows.length * k + new.length * k := Nat.add_mul _ _ _
      simp [Builtin.zeroCells, hz, hrl, hnl]; omega
    · rw [flat_append, show (flat rows).toArray ++ (flat new).toArray = (flat rows ++ flat new).toArray by simp]
      exact at_arr _ _
  have hfit : ∀ cap, cap < rows.length + new.length → Builtin.nextslicecap (rows.length + new.length) cap * bytes ≤ 281474976710656 := by
    intro cap hcap
    have h1 := nextslicecap_le hcap
    have h2 : Builtin.nextslicecap (rows.length + new.length) cap * bytes ≤ (2 * (rows.length + new.length)) * bytes := Nat.mul_le_mul_right _ h1
    have h3 : (2 * (rows.length + new.length)) * bytes = 2 * ((rows.length + new.length) * bytes) := Nat.mul_assoc _ _ _
    omega
  have hold : srcCells h k rows.length s = some (flat rows).toArray := by
    have := (hs.s0.src).2 rows.length (Nat.le_refl _)
    rwa [List.take_length] at this
  obtain ⟨_, ⟨rfl, rfl⟩ | ⟨b, o, cp, c, fr, rfl, h2, h3, h4, h5, h6, h7⟩⟩ := hs
  · unfold appM
    simp only [hx]
    simp only [List.length_nil, Nat.zero_add] at *
    by_cases hn : new.length ≤ 0
    · rw [if_pos hn, hc]
      have : new = [] := by cases new <;> simp_all
      subst this
      exact hk _ _ ⟨hr, .inl ⟨rfl, rfl⟩⟩ (Fr.refl _ _) (fun y h => .inl h)
    · rw [if_neg hn]
      refine ⟨⟨hlen', hfit 0 (by omega)⟩, ?_⟩
      rw [hc, hold]
      intro c hcl b hb
      exact grow 0 (by omega) c hcl b hb
  · unfold appM
    simp only [hx]
    by_cases hn : rows.length + new.length ≤ cp
    · have hm1 : (rows.length + new.length) * k = rows.length * k + new.length * k := Nat.add_mul _ _ _
      have hm2 : (rows.length + new.length) * k ≤ cp * k := Nat.mul_le_mul_right _ hn
      rw [if_pos hn, hc]
      simp only []
      rw [add_mk]
      have hle : o + rows.length * k + (flat new).length ≤ c.size := by omega
      refine storeH_in h2 (by omega) (by simpa using hle) (by simpa using hcell) ?_
      refine hk _ _ ⟨hrn, .inr ⟨b, o, cp, _, fr, by simp, hupd_same _ _ _, by rw [size_splice]; exact h3, by simp; omega, ?_, h6, by rw [size_splice]; exact h7⟩⟩ (fun y ob hy hne => ?_) (by rintro y ⟨_, _, _, he⟩; simp only [Value.slice.injEq, Option.some.injEq, Addr.mk.injEq] at he; obtain ⟨⟨rfl, _⟩, _⟩ := he; exact .inl ⟨_, _, _, rfl⟩)
      · rw [flat_append]
        refine At'.append (h5.splice hle (.inl (by omega))) ?_
        rw [hrl]
        exact at_splice hle
      · rw [hupd_ne]
        · exact hy
        · rintro rfl; exact hne ⟨h6, _, _, _, rfl⟩
    · rw [if_neg hn]
      refine ⟨⟨hlen', hfit cp (by omega)⟩, ?_⟩
      rw [hold, hc]
      intro c' hcl b' hb
      exact grow cp (by omega) c' hcl b' hb

/-- copy. -/
theorem cpy_ow {k : Nat} {O : Nat → Prop} {h : H} {E : TypeId} {a : Option Addr} {n cap : Nat} {x : Value} {rows src : List (List Value)} {V : Value → H → Prop} (hs : OwK k O h E (.slice a n cap) rows) {S : Nat → Prop} (hx : SlK k S h x src) (hcell : (flat src).all isCell = true)
    (hk : ∀ h', OwK k O h' E (.slice a n cap) (src.take n ++ rows.drop src.length) → Fr (fun y => O y ∧ isAt (.slice a n cap) y) h h' → V (.int .i64 (min src.length n : Nat)) h') : cpyM k a n x h V := by
  obtain ⟨hx1, hx2⟩ := hx.src
  have hn : n = rows.length := by
    obtain ⟨a', c', he⟩ := hs.s0.len
    simpa using congrArg (fun v => match v with | Value.slice _ n _ => n | _ => 0) he
  subst hn
  have hsr := hx.rect
  have hmin := hx2 (min src.length rows.length) (by omega)
  unfold cpyM
  simp only [hx1, hmin]
  have htk : src.take (min src.length rows.length) = src.take rows.length := by
    by_cases hle : src.length ≤ rows.length
    · rw [Nat.min_eq_left hle, List.take_length, List.take_of_length_le hle]
    · rw [Nat.min_eq_right (by omega)]
  rw [htk]
  obtain ⟨hr, ⟨s1, rfl⟩ | ⟨b, o, cp, c, fr, s1, h2, h3, h4, h5, h6, h7⟩⟩ := hs
  · simp only [Value.slice.injEq] at s1
    obtain ⟨rfl, _, rfl⟩ := s1
    exact hk _ ⟨fun r hr => by simp at hr, .inl ⟨rfl, by simp⟩⟩ (Fr.refl _ _)
  · simp only [Value.slice.injEq] at s1
    obtain ⟨rfl, _, rfl⟩ := s1
    have hrl := hr.flat
    have hst : Rect k (src.take rows.length) := hsr.sub fun r hr => List.mem_of_mem_take hr
    have hsl := hst.flat
    have hle1 : (src.take rows.length).length * k ≤ rows.length * k := Nat.mul_le_mul_right _ (by rw [List.length_take]; omega)
    have hle2 : rows.length * k ≤ cap * k := Nat.mul_le_mul_right _ h4
    have hle : o + (flat (src.take rows.length)).length ≤ c.size := by omega
    have h8 : fr.2 ≤ o ∨ o + (flat (src.take rows.length)).length ≤ fr.1 := by omega
    refine storeH_in h2 (by simpa using h8) (by simpa using hle) ?_ ?_
    · rw [List.all_eq_true] at hcell ⊢
      intro y hy
      refine hcell y ?_
      simp only [] at hy
      rw [flat_take hsr] at hy
      exact List.mem_of_mem_take hy
    have hlen : (src.take rows.length ++ rows.drop src.length).length = rows.length := by rw [List.length_append, List.length_take, List.length_drop]; omega
    refine hk _ ⟨hst.append (hr.sub fun r hr => List.mem_of_mem_drop hr), .inr ⟨b, o, cap, _, fr, by rw [hlen], hupd_same _ _ _, by rw [size_splice]; exact h3, by omega, ?_, h6, by rw [size_splice]; exact h7⟩⟩ (fun y ob hy hne => ?_)
    · rw [flat_append]
      refine At'.append (at_splice hle) ?_
      rw [flat_drop hr, hsl]
      by_cases hcmp : src.length ≤ rows.length
      · rw [show (src.take rows.length).length = src.length by simp; omega] at hle1 hsl ⊢
        have := (h5.sub (src.length * k) (rows.length * k))
        rw [List.take_of_length_le (by simp [hrl])] at this
        refine this.splice hle (.inr ?_)
        rw [hsl]; exact Nat.le_refl _
      · have : (flat rows).drop (src.length * k) = [] := List.drop_eq_nil_of_le (by rw [hrl]; exact Nat.mul_le_mul_right _ (by omega))
        rw [this]; intro m hm; simp at hm
    · rw [hupd_ne]
      · exact hy
      · rintro rfl; exact hne ⟨h6, _, _, _, rfl⟩

/-- An element (or part of one) of an own slice, written. -/
theorem OwK.put {k : Nat} {O : Nat → Prop} {h : H} {E : TypeId} {v : Value} {rows : List (List Value)} (s : OwK k O h E v rows) {i : Nat} (hi : i < rows.length) (kk : IntKind) :
    ∃ b o, idxV1 k v (.int kk (i : Int)) = some (.pointer (some ⟨b, o, none⟩)) ∧ O b ∧ isAt v b ∧ ∀ (j : Nat) (new : List Value) (K : H → Prop), j + new.length ≤ k → new.all isCell = true →
      (∀ h', OwK k O h' E v (rows.set i ((rows[i]).take j ++ new ++ (rows[i]).drop (j + new.length))) → Fr (fun y => y = b) h h' → K h') → storeH h ⟨b, o + j, none⟩ new K := by
  obtain ⟨hr, ⟨rfl, rfl⟩ | ⟨b, o, cp, c, fr, rfl, h2, h3, h4, h5, h6, h7⟩⟩ := s
  · simp at hi
  · have hki : (rows[i]).length = k := hr _ (List.getElem_mem hi)
    have hfl := hr.flat
    have hmul : i * k + k ≤ rows.length * k := by rw [← Nat.succ_mul]; exact Nat.mul_le_mul_right _ hi
    have hcp : rows.length * k ≤ cp * k := Nat.mul_le_mul_right _ h4
    refine ⟨b, o + i * k, ?_, h6, ⟨_, _, _, rfl⟩, ?_⟩
    · rw [idx_s, chk_pos (by omega)]
      simp
    · intro j new K hj hc hK
      have hle : o + i * k + j + new.length ≤ c.size := by omega
      refine storeH_in h2 (by omega) hle hc (hK _ ⟨?_, .inr ⟨b, o, cp, _, fr, by simp, hupd_same _ _ _, by rw [size_splice]; exact h3, by simp; omega, ?_, h6, by rw [size_splice]; exact h7⟩⟩ (Fr.upd (S := fun y => y = b) rfl _))
      · intro r hr'
        rcases List.mem_or_eq_of_mem_set hr' with hm | rfl
        · exact hr r hm
        · simp [hki]; omega
      · have e1 : rows = rows.take i ++ rows[i] :: rows.drop (i + 1) := by simp
        have e2 : rows.set i ((rows[i]).take j ++ new ++ (rows[i]).drop (j + new.length)) = rows.take i ++ ((rows[i]).take j ++ new ++ (rows[i]).drop (j + new.length)) :: rows.drop (i + 1) := by
          rw [List.set_eq_take_append_cons_drop, if_pos hi]
        have hti : (flat (rows.take i)).length = i * k := by
          rw [(hr.sub fun r hr => List.mem_of_mem_take hr).flat, List.length_take, Nat.min_eq_left (by omega)]
        have h5' : At' c o (flat (rows.take i) ++ (rows[i] ++ flat (rows.drop (i + 1)))) := by
          rw [← flat_cons, ← flat_append, ← e1]; exact h5
        obtain ⟨a1, a2⟩ := h5'.split
        obtain ⟨a3, a4⟩ := a2.split
        rw [hti] at a3 a4
        rw [hki] at a4
        rw [e2, flat_append, flat_cons]
        simp only [List.append_assoc]
        have r1 := a3.sub 0 j
        have r3 := a3.sub (j + new.length) k
        rw [List.drop_zero] at r1
        rw [List.take_of_length_le (by simp [hki])] at r3
        have l1 : ((rows[i]).take j).length = j := by rw [List.length_take]; omega
        have l3 : ((rows[i]).drop (j + new.length)).length = k - (j + new.length) := by simp [hki]
        refine (a1.splice hle (.inl (by omega))).append ?_
        rw [hti]
        refine ((r1.splice hle (.inl (by omega))).off (by omega)).append ?_
        rw [l1]
        refine (at_splice hle).append ?_
        refine ((r3.splice hle (.inr (by omega))).off (by omega)).append ?_
        rw [l3]
        exact (a4.splice hle (.inr (by omega))).off (by omega)
end Go.Proofs.Ytojhnclkhiffkaa
