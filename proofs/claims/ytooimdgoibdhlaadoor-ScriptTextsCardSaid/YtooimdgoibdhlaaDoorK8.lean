/-
  The walk of a checked tree serves every order; lowering of code; the walk of lowered code is sound.
-/
import Derived.Test.YtooimdgoibdhlaaDoorK7
import Derived.Scope
namespace Go.Proofs.YtooimdgoibdhlaaDoor
set_option linter.unusedVariables false

/-- The two fences of a walk: none, and a round's. -/
def Opn (F : Fence) : Prop := F = Fence.wide ∨ ∃ l, F = Fence.wide.inRound l
section
variable {F : Fence} {P : Program} {m : Nat}
theorem Opn.fn (h : Opn F) (f : FuncId) : F.fn f := by
  rcases h with rfl | ⟨l, rfl⟩ <;> trivial
theorem Opn.room (h : Opn F) (n : Nat) : F.room n := by
  rcases h with rfl | ⟨l, rfl⟩ <;> exact room_wide n
theorem Opn.depth (h : Opn F) : F.depth.isSome = true → 1 ≤ m := by
  rcases h with rfl | ⟨l, rfl⟩ <;> exact fun h => by cases h
theorem Opn.calls (h : Opn F) {n : Nat} {f : FuncId} {args : Array Value} {w : World} {R : Ending → World → Prop} (hc : CallsIn Fence.wide n P f args w R) : CallsIn F m P f args w R := by
  rcases h with rfl | ⟨l, rfl⟩
  · exact ⟨trivial, fun cs _ => hc.2 cs (room_wide _)⟩
  · exact ⟨trivial, fun cs _ => hc.2 cs (room_wide _)⟩
theorem Opn.rows (h : Opn F) {n : Nat} {row : String} {args : Array Value} {w : World} {R : Value → World → Prop} (hc : RowsIn Fence.wide n P row args w R) : RowsIn F m P row args w R := by
  rcases h with rfl | ⟨l, rfl⟩
  · exact fun c cs _ => hc c cs (room_wide _)
  · exact fun c cs _ => hc c cs (room_wide _)
theorem Opn.rounds (h : Opn F) {n : Nat} {l : Nat} {f : FuncId} {tm : Array Value} {as bo : Code} {w : World} {R : Ending → World → Prop} (hc : RoundIn Fence.wide n P l f tm as bo w R) : RoundIn F m P l f tm as bo w R := by
  rcases h with rfl | ⟨l, rfl⟩
  · exact ⟨trivial, fun c cs _ => hc.2 c cs (room_wide _)⟩
  · exact ⟨trivial, fun c cs _ => hc.2 c cs (room_wide _)⟩
theorem wpZ_in (hF : Opn F) {o : Oper} {a : Act} {w : World} {K : Act → World → Prop} {Q : Exit → Act → World → Prop} (hd : ∀ c, o.op ≠ .defer c) (h : wpZ P o a w K Q) : o.wpIn F m P a w K Q := by
  refine ⟨fun _ _ => hF.fn _, ?_⟩
  rw [Oper.semAt_eq _ _ _ hd]
  unfold wpZ at h
  generalize (execOp a.eval o).run P w = r at *
  cases r with
  | ok x w' =>
    cases x <;> simp only [Oper.uponIn] at h ⊢ <;>
      first
        | exact h
        | exact ⟨hF.depth, hF.calls h.2⟩
        | exact ⟨hF.depth, hF.rows h.2⟩
        | exact ⟨hF.depth, hF.rounds h.2⟩
  | halt x w' => cases x <;> simp only [Oper.uponIn] at h ⊢ <;> exact h
end
section
variable {P : Program} {ops : Array Oper} {Q : Exit → Act → World → Prop} {A : List (List Nat)}

structure Inv (ops : Array Oper) (t : HT) (listed : Array Bool) : Prop where
  size : listed.size = ops.size
  all : ∀ y, y < ops.size → (listed.getD y true = false ↔ y ∈ t.all)
  lt : ∀ y ∈ t.all, y < ops.size
  closed : ∀ j, j < ops.size → listed.getD j false = true → ∀ d ∈ depsOf ops j, listed.getD d false = true

theorem getD_tf {listed : Array Bool} {i : Nat} (h : i < listed.size) : listed.getD i true = listed.getD i false := by
  simp [h]
theorem mem_deps {ops : Array Oper} {i : Nat} {o : Oper} (ho : ops[i]? = some o) (d : Nat) : d ∈ depsOf ops i ↔ ∃ e ∈ o.after, Region.binds .any e = true ∧ e.on = d := by
  unfold depsOf
  rw [ho]
  simp only [List.mem_map, List.mem_filter, Array.mem_toList_iff]
  constructor
  · rintro ⟨e, ⟨h1, h2⟩, h3⟩; exact ⟨e, h1, h2, h3⟩
  · rintro ⟨e, h1, h2, h3⟩; exact ⟨e, ⟨h1, h2⟩, h3⟩

theorem anc_listed (hA : okA ops A = true) {listed : Array Bool} (hs : listed.size = ops.size) (hc : ∀ j, j < ops.size → listed.getD j false = true → ∀ d ∈ depsOf ops j, listed.getD d false = true) :
    ∀ (i : Nat) (x : Nat), i < ops.size → (∀ d ∈ depsOf ops i, listed.getD d false = true) → ancB A x i = true → listed.getD x false = true := by
  intro i
  induction i using Nat.strongRecOn with
  | _ i ih =>
    intro x hi hd hx
    unfold okA at hA
    have h1 := List.all_eq_true.1 hA i (List.mem_range.2 hi)
    have hx' : x ∈ A.getD i [] := by simpa [ancB] using hx
    have h2 := List.all_eq_true.1 h1 x hx'
    simp only [Bool.or_eq_true, List.contains_eq_mem, decide_eq_true_eq, List.any_eq_true, Bool.and_eq_true] at h2
    rcases h2 with h2 | ⟨d, hd1, hd2, hd3⟩
    · exact hd x h2
    · exact ih d hd2 x (by omega) (hc d (by omega) (hd d hd1)) hd3

theorem Inv.set {t t' : HT} {listed : Array Bool} (inv : Inv ops t listed) {i : Nat} (hr : i ∈ Region.ready .any ops listed) (ha : ∀ y, y ∈ t'.all ↔ y ∈ t.all ∧ y ≠ i) : Inv ops t' (listed.setIfInBounds i true) := by
  obtain ⟨h0, o, ho, hall⟩ := mem_ready.1 hr
  have hi : i < ops.size := (Array.getElem?_eq_some_iff.1 ho).1
  refine ⟨by simp [inv.size], fun y hy => ?_, fun y hy => inv.lt y ((ha y).1 hy).1, fun j hj hl d hd => ?_⟩
  · rw [ha]
    by_cases hyi : y = i
    · subst hyi
      have : (listed.setIfInBounds y true).getD y true = true := by simp [inv.size, hi]
      rw [this]; simp
    · rw [getD_set_ne true (Ne.symm hyi), inv.all y hy]
      simp [hyi]
  · by_cases hji : j = i
    · subst hji
      obtain ⟨e, he, hb, hon⟩ := (mem_deps ho d).1 hd
      subst hon
      exact getD_set_true (hall e he hb)
    · rw [getD_set_ne false (Ne.symm hji)] at hl
      exact getD_set_true (inv.closed j hj hl d hd)

variable (hsel : ∀ (j : Nat) (o : Oper) cs b, ops[j]? = some o → o.op ≠ .select cs b)
include hsel

theorem any_of_tree {F : Fence} {m : Nat} (hF : Opn F) (hdf : ∀ (j : Nat) (o : Oper), ops[j]? = some o → ∀ c, o.op ≠ .defer c) (hA : okA ops A = true) (hQ : ∀ c d v a w, DstOk ops d → Q (.panic c) (a.put d v) w → Q (.panic c) a w) : ∀ (fuel : Nat) (t : HT) (listed : Array Bool) (S : Sts) (a : Act) (w : World),
    t.all.length = fuel → okT ops A [] none t = true → Inv ops t listed → wpT P ops Q t S a w → wpAnyIn F m P .any ops Q fuel listed a w := by
  intro fuel
  induction fuel with
  | zero =>
    intro t listed S a w hl hk inv h
    have ht : t = .done := by cases t <;> simp [HT.all] at hl ⊢
    subst ht
    refine ⟨?_, h⟩
    rw [List.eq_nil_iff_forall_not_mem]
    intro i hi
    obtain ⟨h0, o, ho, _⟩ := mem_ready.1 hi
    have := (inv.all i (Array.getElem?_eq_some_iff.1 ho).1).1 h0
    cases this
  | succ fuel ih =>
    intro t listed S a w hl hk inv h
    refine ⟨fun hnil => ?_, fun i hi => ?_⟩
    · -- something is ready
      exfalso
      have hfirst : ∃ i, i ∈ t.all ∧ i < ops.size ∧ ∀ d ∈ depsOf ops i, d < ops.size ∧ d ∉ t.all := by
        cases t with
        | done => simp [HT.all] at hl
        | q i r =>
          simp only [okT, Bool.and_eq_true, List.all_eq_true, decide_eq_true_eq, bne_iff_ne, Bool.not_eq_true', List.contains_eq_mem, decide_eq_false_iff_not] at hk
          exact ⟨i, List.mem_cons_self, hk.1.1.1.1.2, fun d hd => ⟨(hk.1.1.2 d hd).1.1, fun hm => (List.mem_cons.1 hm).elim (hk.1.1.2 d hd).1.2 (hk.1.1.2 d hd).2⟩⟩
        | e i Z r =>
          obtain ⟨b1, _, b3, _⟩ := okB_spec (alt_get (.e i Z r) hk ⟨rfl, rfl, rfl⟩).1
          exact ⟨i, List.mem_cons_self, b1, fun d hd => ⟨(b3 d hd).1, fun hm => (List.mem_cons.1 hm).elim (b3 d hd).2.1 (b3 d hd).2.2⟩⟩
        | al i Z r t =>
          obtain ⟨b1, _, b3, _⟩ := okB_spec (alt_get (.al i Z r t) hk (.inl ⟨rfl, rfl, rfl⟩)).1
          exact ⟨i, List.mem_cons_self, b1, fun d hd => ⟨(b3 d hd).1, fun hm => (List.mem_cons.1 hm).elim (b3 d hd).2.1 (b3 d hd).2.2⟩⟩
      obtain ⟨i, h1, h2, h3⟩ := hfirst
      have : i ∈ Region.ready .any ops listed := by
        rw [mem_ready]
        refine ⟨(inv.all i h2).2 h1, ops[i], by simp [h2], fun e he hb => ?_⟩
        obtain ⟨h4, h5⟩ := h3 e.on ((mem_deps (by simp [h2] : ops[i]? = some ops[i]) e.on).2 ⟨e, he, hb, rfl⟩)
        have h6 : ¬ listed.getD e.on true = false := fun hf => h5 ((inv.all _ h4).1 hf)
        rw [getD_tf (by rw [inv.size]; exact h4)] at h6
        simpa using h6
      rw [hnil] at this
      cases this
    · obtain ⟨h0, o, ho, hall⟩ := mem_ready.1 hi
      have hin : i < ops.size := (Array.getElem?_eq_some_iff.1 ho).1
      have hmem := (inv.all i hin).1 h0
      have hno : ∀ x ∈ t.all, ancB A x i = false := by
        intro x hx
        cases hb : ancB A x i with
        | false => rfl
        | true =>
          have h1 := anc_listed hA inv.size inv.closed i x hin (fun d hd => by
            obtain ⟨e, he, hb, rfl⟩ := (mem_deps ho d).1 hd
            exact hall e he hb) hb
          have hxl := inv.lt x hx
          have h2 := (inv.all x hxl).2 hx
          rw [getD_tf (by rw [inv.size]; exact hxl), h1] at h2
          cases h2
      unfold wpOpIn
      rw [ho]
      simp only []
      rcases cases_of t hk hmem hno with hp | ⟨Z, r0, hn⟩
      · obtain ⟨hd1, hd2⟩ := del_all t hk hp
        have hk' := okT_del t hk hp
        have inv' := inv.set hi hd1
        rcases first_q hsel ho t hp (apB_of t hk hp hno) h with ⟨hw, v, hv, h'⟩ | ⟨hw, h'⟩
        · rw [if_pos hw]
          exact wpZ_in hF (hdf i o ho) (wp_value hv (ih _ _ _ _ _ (by omega) hk' inv' h'))
        · rw [if_neg (by rw [hw]; simp)]
          exact ⟨fun _ _ => hF.fn _, ih _ _ _ _ _ (by omega) hk' inv' h'⟩
      · obtain ⟨hd1, hd2⟩ := att_all t hk hn
        have hk' := okT_att t hk hn
        have inv' := inv.set hi hd1
        rcases first_e hsel ho hQ t hn (preE_of t hk hn hno) h with ⟨hw, h'⟩ | ⟨hw, h'⟩
        · rw [if_pos hw]
          exact wpZ_in hF (hdf i o ho) (wpZ_mono (fun a' w' h => ih _ _ _ _ _ (by omega) hk' inv' h.2) h')
        · rw [if_neg (by rw [hw]; simp)]
          exact ⟨fun _ _ => hF.fn _, ih _ _ _ _ _ (by omega) hk' inv' h'⟩
omit hsel
/-- A drawn region. -/
theorem wp_region_tree {F : Fence} {m : Nat} (hF : Opn F) (hdf : ∀ (j : Nat) (o : Oper), ops[j]? = some o → ∀ c, o.op ≠ .defer c) {id : Nat} {a : Act} {w : World} {t : HT} (hm : P.follows .mixedOrders = true) (hA : okA ops A = true) (hk : okT ops A [] none t = true) (hl : t.all.length = ops.size) (hs : Region.noSelect ops = true)
    (hal : ((List.range ops.size).all fun y => t.all.contains y) = true)
    (hQ : ∀ c d v a w, DstOk ops d → Q (.panic c) (a.put d v) w → Q (.panic c) a w) (h : wpT P ops Q t [] a w.drew) : (Code.region id ops true).wpIn F m P Q a w := by
  refine wpIn_region_any hm ?_
  have hlt : ∀ y ∈ t.all, y < ops.size := by
    have : ∀ (t : HT) {E : List Nat}, okT ops A E none t = true → ∀ y ∈ t.all, y < ops.size := by
      intro t
      induction t with
      | done => intro E _ y hy; cases hy
      | q i r ihr =>
        intro E hk y hy
        simp only [okT, Bool.and_eq_true, decide_eq_true_eq] at hk
        rcases List.mem_cons.1 hy with rfl | hy
        · exact hk.1.1.1.1.2
        · exact ihr hk.2 y hy
      | e i Z r ihr =>
        intro E hk y hy
        obtain ⟨k1, k2, _⟩ := alt_get (.e i Z r) hk ⟨rfl, rfl, rfl⟩
        rcases List.mem_cons.1 hy with rfl | hy
        · exact (okB_spec k1).1
        · exact ihr k2 y hy
      | al i Z r t ihr _ =>
        intro E hk y hy
        obtain ⟨k1, k2, _⟩ := alt_get (.al i Z r t) hk (.inl ⟨rfl, rfl, rfl⟩)
        rcases List.mem_cons.1 hy with rfl | hy
        · exact (okB_spec k1).1
        · exact ihr k2 y hy
    exact this t hk
  refine any_of_tree (Region.noSelect_spec hs) hF hdf hA hQ ops.size t _ [] a _ hl hk ⟨by simp, fun y hy => ?_, hlt, fun j hj hl' => ?_⟩ h
  · have := List.all_eq_true.1 hal y (List.mem_range.2 hy)
    simp only [List.contains_eq_mem, decide_eq_true_eq] at this
    simp [hy, this]
  · simp [hj] at hl'
end

/-! ### Lowering of code -/
inductive Hint where
  | leaf
  | seq (a : Hint) (L : List Nat) (b : Hint)
  | cond (a b : Hint)
  | block (a : Hint)
  | loop (S K : List Nat) (a : Hint)
  | draw (A : List (List Nat)) (t : HT)
  | scope (a : Hint)
  | rf (K Kb : List Nat) (a b : Hint)

/-- The slots that code may write. -/
structure NN where
  lo : Nat
  hi : Nat
instance (n : Nat) : OfNat NN n := ⟨⟨0, n⟩⟩
def NN.ok (n : NN) (d : Nat) : Bool := decide (n.lo ≤ d) && decide (d < n.hi)
theorem NN.ok_spec {n : NN} {d : Nat} (h : n.ok d = true) : n.lo ≤ d ∧ d < n.hi := by simpa [NN.ok] using h
def okDst (n : NN) (ops : Array Oper) : Bool := ops.toList.all fun o => o.dst.all n.ok
theorem okDst_spec {n : NN} {ops : Array Oper} (h : okDst n ops = true) {d : Nat} (hd : DstOk ops (some d)) : n.lo ≤ d ∧ d < n.hi := by
  obtain ⟨j, o, ho, hd⟩ := hd
  have h1 := List.all_eq_true.1 h o (by rw [Array.mem_toList_iff]; exact Array.mem_of_getElem? ho)
  rw [hd] at h1
  exact NN.ok_spec h1
def lowLO (P : Program) (n : NN) (ops : Array Oper) (o : Oper) : LO :=
  match o.dst.all n.ok, o.guard with
  | true, none => ⟨o.dst, none, lowOp P o⟩
  | true, some (j, want) => (match (ops[j]?).bind (·.dst) with
    | some t => ⟨o.dst, some (t, want), lowOp P o⟩
    | none => ⟨o.dst, none, .bad⟩)
  | false, _ => ⟨o.dst, none, .bad⟩
def lowDT (P : Program) (n : NN) (ops : Array Oper) : HT → DT
  | .done => .done
  | .q i r => match ops[i]? with
    | some o => if isQ (lowOp P o) = true then .q i (lowLO P n ops o) (lowDT P n ops r) else .q i ⟨none, none, .bad⟩ .done
    | none => .q i ⟨none, none, .bad⟩ .done
  | .e i Z r => match ops[i]? with
    | some o => .e i Z (lowLO P n ops o) (lowDT P n ops r)
    | none => .q i ⟨none, none, .bad⟩ .done
  | .al i Z r t => match ops[i]? with
    | some o => .al i Z (lowLO P n ops o) (lowDT P n ops r) (lowDT P n ops t)
    | none => .q i ⟨none, none, .bad⟩ .done
def okDraw (P : Program) (ops : Array Oper) (A : List (List Nat)) (t : HT) : Bool :=
  P.follows .mixedOrders && okA ops A && okT ops A [] none t && (t.all.length == ops.size) && Region.noSelect ops && ((List.range ops.size).all fun y => t.all.contains y)
def isDefer (o : Oper) : Bool :=
  match o.op with
  | .defer _ => true
  | _ => false
def noDefer (ops : Array Oper) : Bool := ops.toList.all fun o => !isDefer o
theorem noDefer_spec {ops : Array Oper} (h : noDefer ops = true) (j : Nat) (o : Oper) (ho : ops[j]? = some o) (c : Call) : o.op ≠ .defer c := by
  intro hc
  have h1 := List.all_eq_true.1 h o (by rw [Array.mem_toList_iff]; exact Array.mem_of_getElem? ho)
  simp [isDefer, hc] at h1
/-- Neither a range over a function nor a scope within. -/
def flatC : Code → Bool
  | .seq a b | .cond _ a b => flatC a && flatC b
  | .block _ a | .loop a => flatC a
  | .rangeFunc .. | .scope _ => false
  | _ => true
def okPs (n : Nat) (ps : List Nat) : Bool := (ps.all fun t => decide (t < n)) && decide ps.Nodup
def lowC (P : Program) (n : NN) : Hint → Code → LC
  | .leaf, .skip => .skip
  | .leaf, .ret => .ret
  | .leaf, .exit id => .exit id
  | .leaf, .goto l => .goto l
  | .leaf, .label _ => .skip
  | .leaf, .region _ ops false => if noDefer ops = true then .ops (ops.toList.map (lowLO P n ops)) else .bad
  | .draw A t, .region _ ops true => if okDraw P ops A t = true ∧ noDefer ops = true ∧ okDst n ops = true then .draw (lowDT P n ops t) else .bad
  | .scope a, .scope x => .scope (lowC P n a x)
  | .rf K Kb a b, .rangeFunc g ps x y => if okPs n.hi ps.toList = true ∧ flatC x = true ∧ flatC y = true then .rf g ps.toList K Kb (lowC P n a x) (lowC P n b y) else .bad
  | .seq a L b, .seq x y => .seq (lowC P n a x) L (lowC P n b y)
  | .cond a b, .cond c x y => .cond c (lowC P n a x) (lowC P n b y)
  | .block a, .block id x => .block id (lowC P n a x)
  | .loop S K a, .loop x => .loop S K (lowC P n a x)
  | _, _ => .bad

/-! ### Soundness -/
section
variable {P : Program}

/-- Deferred calls: none but the marks of ranges over functions, their lists empty. -/
def MarksL (mb : Nat) (ds : List Deferred) (w : World) : Prop := (∀ d ∈ ds, ∃ D, d = { target := .collected D, args := #[] } ∧ w.heap[D]? = some (.deferred (some [])) ∧ mb ≤ D) ∧ ds.Pairwise fun d d' => d.target ≠ d'.target
/-- .. ahead of the function's own deferred calls. -/
structure MB where
  n : Nat
  B : List Deferred
  lo : Nat
  T : Array Value
  fl : Bool
/-- .. and slots that are not written. -/
def Marks (mb : MB) (a : Act) (w : World) : Prop := (∃ ds, a.defers = ds ++ mb.B ∧ MarksL mb.n ds w ∧ (mb.fl = true → ds = [])) ∧ ∀ t, t < mb.lo → a.tmps[t]? = mb.T[t]?
theorem Marks.none (n : Nat) (fl : Bool) {a : Act} {w : World} (h : a.defers = []) : Marks ⟨n, [], 0, #[], fl⟩ a w := ⟨⟨[], by rw [h]; rfl, ⟨fun d hd => (by cases hd), List.Pairwise.nil⟩, fun _ => rfl⟩, fun t ht => absurd ht (Nat.not_lt_zero t)⟩
theorem Marks.kin {mb : MB} {a a' : Act} {w w' : World} (m : Marks mb a w) (h : a'.defers = a.defers) (ht : ∀ t, t < mb.lo → a'.tmps[t]? = a.tmps[t]?) (k : Kin w w') : Marks mb a' w' := by
  obtain ⟨⟨ds, m0, ⟨m1, m2⟩, m4⟩, m3⟩ := m
  refine ⟨⟨ds, by rw [h, m0], ⟨fun d hd => ?_, m2⟩, m4⟩, fun t hl => (ht t hl).trans (m3 t hl)⟩
  obtain ⟨D, h1, h2, h3⟩ := m1 d hd
  exact ⟨D, h1, k.ctl _ _ h2 rfl, h3⟩
theorem put_low (a : Act) (d : Option Nat) (v : Value) {lo : Nat} (hd : ∀ t, d = some t → lo ≤ t) (t : Nat) (ht : t < lo) : (a.put d v).tmps[t]? = a.tmps[t]? := by
  cases d with
  | none => rfl
  | some d =>
    have := hd d rfl
    simp only [Act.put]
    rw [Array.getElem?_setIfInBounds_ne (by omega)]
theorem put_defers (a : Act) (d : Option Nat) (v : Value) : (a.put d v).defers = a.defers := by cases d <;> rfl
/-- A walk's end, told of frames and worlds. -/
def Lift (w0 : World) (mb : MB) (n : NN) (Q : Post) : Exit → Act → World → Prop := fun x a w =>
  Kin w0 w ∧ Marks mb a w ∧ a.tmps.size = n.hi ∧ ∃ e, agree e a ∧ (∀ c, x = .panic c → e = []) ∧ Q x e (hp w)
theorem agree_nil (a : Act) : agree [] a := fun t v hg => by cases hg

structure At (w0 : World) (mb : MB) (n : NN) (e : Env) (h : H) (a : Act) (w : World) : Prop where
  kin : Kin w0 w
  base : mb.n ≤ w0.heap.size ∧ mb.lo ≤ n.lo
  defers : Marks mb a w
  size : a.tmps.size = n.hi
  agree : agree e a
  heap : hp w = h

theorem At.put {w0 : World} {mb : MB} {n : NN} {e : Env} {h h' : H} {a : Act} {w w' : World} (x : At w0 mb n e h a w) (hk : Kin w w') (hh : hp w' = h') {d : Option Nat} (hd : ∀ t, d = some t → n.lo ≤ t ∧ t < n.hi) (v : Value) :
    At w0 mb n (e.put d v) h' (a.put d v) w' := by
  refine ⟨x.kin.trans hk, x.base, x.defers.kin (put_defers _ _ _) (put_low a d v fun t ht => Nat.le_trans x.base.2 (hd t ht).1) hk, ?_, ?_, hh⟩
  · cases d with
    | none => exact x.size
    | some t => simp [Act.put, x.size]
  · cases d with
    | none => exact x.agree
    | some d =>
      intro t u hg
      have hlt : d < a.tmps.size := by rw [x.size]; exact (hd d rfl).2
      simp only [Env.put, Env.get] at hg
      by_cases hdt : d = t
      · subst hdt
        simp only [if_true, Option.some.injEq] at hg
        subst hg
        simp [Act.put, hlt]
      · rw [if_neg hdt] at hg
        have := x.agree t u hg
        simp only [Act.put]
        rw [Array.getElem?_setIfInBounds_ne hdt]
        exact this

theorem wanted_of {ops : Array Oper} {o : Oper} {e : Env} {a : Act} (ha : agree e a) {j : Nat} {want : Bool} {t : Nat} {v : Value} (hg : o.guard = some (j, want)) (ht : (ops[j]?).bind (·.dst) = some t) (hv : e.get t = some v) :
    Region.wanted o (yielded ops a.tmps) = gW v want := by
  unfold Region.wanted yielded
  rw [hg]
  simp only [ht, Option.bind_some, ha t v hv]
  cases v <;> simp [gW]
theorem wanted_none {o : Oper} {y : Nat → Option Bool} (hg : o.guard = none) : Region.wanted o y = true := by
  unfold Region.wanted; rw [hg]

/-- One operation under its guard. -/
theorem guard_sound {n : NN} {ops : Array Oper} {o : Oper} {e : Env} {a : Act} (ha : agree e a) {A B : Prop} {X : Prop} (hbad : ∀ {K : Value → H → Prop} {Xp : List PanicEntry → H → Prop} {h : H}, lM P .bad e h K Xp → X)
    (hA : (lowLO P n ops o).l = lowOp P o → (lowLO P n ops o).d = o.dst → (∀ t, o.dst = some t → n.lo ≤ t ∧ t < n.hi) → Region.wanted o (yielded ops a.tmps) = true → A → X)
    (hB : (lowLO P n ops o).d = o.dst → (∀ t, o.dst = some t → n.lo ≤ t ∧ t < n.hi) → Region.wanted o (yielded ops a.tmps) = false → B → X)
    (hAbad : (lowLO P n ops o).l = .bad → (lowLO P n ops o).g = none → A → X)
    (hm : guardM e (lowLO P n ops o).g A B) : X := by
  have key := hm
  unfold lowLO at hm
  split at hm
  · rename_i h1 h2
    have hd : ∀ t, o.dst = some t → n.lo ≤ t ∧ t < n.hi := by
      intro t ht; rw [ht] at h1; exact NN.ok_spec h1
    refine hA (by unfold lowLO; rw [h1, h2]) (by unfold lowLO; rw [h1, h2]) hd (wanted_none h2) hm
  · rename_i j want h1 h2
    have hd : ∀ t, o.dst = some t → n.lo ≤ t ∧ t < n.hi := by
      intro t ht; rw [ht] at h1; exact NN.ok_spec h1
    split at hm
    · rename_i t ht
      have e1 : (lowLO P n ops o).l = lowOp P o := by unfold lowLO; rw [h1, h2]; simp only [ht]
      have e2 : (lowLO P n ops o).d = o.dst := by unfold lowLO; rw [h1, h2]; simp only [ht]
      unfold guardM at hm
      simp only at hm
      split at hm
      · rename_i v hv
        have hw := wanted_of ha h2 ht hv
        cases hgw : gW v want with
        | true => exact hA e1 e2 hd (hw.trans hgw) (hm.1 hgw)
        | false => exact hB e2 hd (hw.trans hgw) (hm.2 hgw)
      · exact hm.elim
    · rename_i ht
      exact hAbad (by unfold lowLO; rw [h1, h2]; simp only [ht]) (by unfold lowLO; rw [h1, h2]; simp only [ht]) hm
  · rename_i h1
    exact hAbad (by unfold lowLO; rw [h1]) (by unfold lowLO; rw [h1]) hm


theorem At.hp' {w0 : World} {mb : MB} {n : NN} {e : Env} {h : H} {a : Act} {w : World} (x : At w0 mb n e h a w) : At w0 mb n [] h a w := ⟨x.kin, x.base, x.defers, x.size, agree_nil a, x.heap⟩
theorem At.world {w0 : World} {mb : MB} {n : NN} {e : Env} {h h' : H} {a : Act} {w w' : World} (x : At w0 mb n e h a w) (hk : Kin w w') (hh : hp w' = h') : At w0 mb n e h' a w' := ⟨x.kin.trans hk, x.base, x.defers.kin rfl (fun _ _ => rfl) hk, x.size, x.agree, hh⟩

theorem ops_soundR {F : Fence} {m : Nat} (hF : Opn F) {w0 : World} {mb : MB} {n : NN} {ops : Array Oper} {K : Env → H → Prop} {X : List PanicEntry → H → Prop} {Q : Exit → Act → World → Prop} {rest : List Oper}
    (hK : ∀ e h a w, At w0 mb n e h a w → K e h → wpListIn F m P ops Q rest a w) (hX : ∀ c h a w, At w0 mb n [] h a w → X c h → Q (.panic c) a w) : ∀ (l : List Oper) (e : Env) (h : H) (a : Act) (w : World), At w0 mb n e h a w →
    vcOps P (l.map (lowLO P n ops)) K X e h → (∀ o ∈ l, ∀ c, o.op ≠ .defer c) → wpListIn F m P ops Q (l ++ rest) a w
  | [], e, h, a, w, x, hm, _ => hK e h a w x hm
  | o :: r, e, h, a, w, x, hm, hnd => by
    have hnr : ∀ o ∈ r, ∀ c, o.op ≠ .defer c := fun o ho => hnd o (by simp [ho])
    simp only [List.map_cons, vcOps] at hm
    rw [List.cons_append]
    unfold wpListIn
    refine guard_sound (P := P) (n := n) (ops := ops) (o := o) x.agree (fun h => h.elim) ?_ ?_ ?_ hm
    · intro e1 e2 hd hw hA
      rw [if_pos hw]
      rw [e1, e2] at hA
      refine wpZ_in hF (hnd o (by simp)) (l_sound x.agree x.heap o hA ?_ ?_)
      · intro v w' hk hKv
        exact ops_soundR hF hK hX r _ _ _ _ (x.put hk rfl hd v) hKv hnr
      · intro c w' hk hXc
        exact hX c _ a w' (x.hp'.world hk rfl) hXc
    · intro e2 hd hw hB
      rw [if_neg (by rw [hw]; simp)]
      rw [e2] at hB
      exact ⟨fun _ _ => hF.fn _, ops_soundR hF hK hX r _ _ _ _ (x.put (Kin.refl w) x.heap hd undef) hB hnr⟩
    · intro e1 _ hA
      rw [e1] at hA
      exact hA.elim

theorem ops_sound {F : Fence} {m : Nat} (hF : Opn F) {w0 : World} {mb : MB} {n : NN} {ops : Array Oper} {K : Env → H → Prop} {X : List PanicEntry → H → Prop} {Q : Exit → Act → World → Prop}
    (hK : ∀ e h a w, At w0 mb n e h a w → K e h → Q .normal a w) (hX : ∀ c h a w, At w0 mb n [] h a w → X c h → Q (.panic c) a w) (l : List Oper) (e : Env) (h : H) (a : Act) (w : World) (x : At w0 mb n e h a w)
    (hm : vcOps P (l.map (lowLO P n ops)) K X e h) (hd : ∀ o ∈ l, ∀ c, o.op ≠ .defer c) : wpListIn F m P ops Q l a w := by
  have := ops_soundR (m := m) (rest := []) hF hK hX l e h a w x hm hd
  rwa [List.append_nil] at this

theorem qV_noLd {l : L} {e : Env} {h h' : H} (hq : isQ l = true) (hl : isLd l = false) : qV l e h = qV l e h' := by
  cases l <;> first | rfl | (simp [isLd] at hl; done)

def Srel (S : List (Nat × L × Env × Value)) (S' : Sts) : Prop :=
  ∀ p' ∈ S', (∀ w, p'.2 w) ∨ ∃ p ∈ S, p.1 = p'.1 ∧ ∀ w, qV p.2.1 p.2.2.1 (hp w) = some p.2.2.2 → p'.2 w
theorem stab_mem {Z : List Nat} {S : List (Nat × L × Env × Value)} {h : H} (hs : stab Z S h) : ∀ p ∈ S, p.1 ∈ Z → qV p.2.1 p.2.2.1 h = some p.2.2.2 := by
  induction S with
  | nil => intro p hp; cases hp
  | cons q r ih =>
    intro p hp hz
    have hs' : if Z.contains q.1 = true then qV q.2.1 q.2.2.1 h = some q.2.2.2 ∧ stab Z r h else stab Z r h := hs
    rcases List.mem_cons.1 hp with hp | hp
    · subst hp
      rw [if_pos (by simpa using hz)] at hs'
      exact hs'.1
    · split at hs'
      · exact ih hs'.2 p hp hz
      · exact ih hs' p hp hz
theorem Srel.stab {S : List (Nat × L × Env × Value)} {S' : Sts} (hr : Srel S S') {Z : List Nat} {w : World} (hs : stab Z S (hp w)) : stabW Z S' w := by
  intro p' hp' hz
  rcases hr p' hp' with h | ⟨p, hp, he, h⟩
  · exact h w
  · exact h w (stab_mem hs p hp (he ▸ hz))

theorem dt_sound {w0 : World} {mb : MB} {n : NN} {ops : Array Oper} {K : Env → H → Prop} {X : List PanicEntry → H → Prop} {Q : Exit → Act → World → Prop}
    (hK : ∀ e h a w, At w0 mb n e h a w → K e h → Q .normal a w) (hX : ∀ c h a w, At w0 mb n [] h a w → X c h → Q (.panic c) a w) : ∀ (t : HT) (S : List (Nat × L × Env × Value)) (S' : Sts) (e : Env) (h : H) (a : Act) (w : World), At w0 mb n e h a w → Srel S S' →
    vcDT P (lowDT P n ops t) K X S e h → wpT P ops Q t S' a w
  | .done, S, S', e, h, a, w, x, hr, hm => hK e h a w x hm
  | .q i r, S, S', e, h, a, w, x, hr, hm => by
    have bad : ¬ vcDT P (.q i ⟨none, none, .bad⟩ .done) K X S e h := by
      intro hm; exact hm.elim
    unfold lowDT at hm
    split at hm
    · rename_i o ho
      split at hm
      · rename_i hq
        refine ⟨o, ho, ?_⟩
        simp only [vcDT] at hm
        refine guard_sound (P := P) (n := n) (ops := ops) (o := o) x.agree (fun h => h.elim) ?_ ?_ ?_ hm
        · intro e1 e2 hd hw hA
          rw [e1, e2] at hA
          unfold opt at hA
          split at hA
          · rename_i v hv
            have hy : ∀ w', qV (lowOp P o) e (hp w') = some v → QY P o a w' v := fun w' h' => q_sound x.agree rfl o hq h'
            refine .inl ⟨hw, v, hy w (by rw [x.heap]; exact hv), ?_⟩
            refine dt_sound hK hX r _ _ _ _ _ _ (x.put (Kin.refl w) x.heap hd v) ?_ hA
            intro p' hp'
            rcases List.mem_cons.1 hp' with rfl | hp'
            · cases hl : isLd (lowOp P o) with
              | true => exact .inr ⟨_, by simp only [if_true]; exact List.mem_cons_self, rfl, hy⟩
              | false => exact .inl fun w' => hy w' (by rw [qV_noLd hq hl (h' := h)]; exact hv)
            · rcases hr p' hp' with h' | ⟨p, hp, h'⟩
              · exact .inl h'
              · refine .inr ⟨p, ?_, h'⟩
                split
                · exact List.mem_cons_of_mem _ hp
                · exact hp
          · exact hA.elim
        · intro e2 hd hw hB
          rw [e2] at hB
          exact .inr ⟨hw, dt_sound hK hX r _ _ _ _ _ _ (x.put (Kin.refl w) x.heap hd undef) hr hB⟩
        · intro e1 _ hA
          rw [e1] at hA
          exact hA.elim
      · exact (bad hm).elim
    · exact (bad hm).elim
  | .e i Z r, S, S', e, h, a, w, x, hr, hm => by
    have bad : ¬ vcDT P (.q i ⟨none, none, .bad⟩ .done) K X S e h := by
      intro hm; exact hm.elim
    unfold lowDT at hm
    split at hm
    · rename_i o ho
      refine ⟨o, ho, ?_⟩
      simp only [vcDT] at hm
      refine guard_sound (P := P) (n := n) (ops := ops) (o := o) x.agree (fun h => h.elim) ?_ ?_ ?_ hm
      · intro e1 e2 hd hw hA
        rw [e1, e2] at hA
        refine .inl ⟨hw, l_sound x.agree x.heap o hA ?_ ?_⟩
        · intro v w' hk hKv
          exact ⟨hr.stab hKv.1, dt_sound hK hX r _ _ _ _ _ _ (x.put hk rfl hd v) hr hKv.2⟩
        · intro c w' hk hXc
          exact hX c _ a w' (x.hp'.world hk rfl) hXc
      · intro e2 hd hw hB
        rw [e2] at hB
        exact .inr ⟨hw, dt_sound hK hX r _ _ _ _ _ _ (x.put (Kin.refl w) x.heap hd undef) hr hB⟩
      · intro e1 _ hA
        rw [e1] at hA
        exact hA.elim
    · exact (bad hm).elim
  | .al i Z r t, S, S', e, h, a, w, x, hr, hm => by
    have bad : ¬ vcDT P (.q i ⟨none, none, .bad⟩ .done) K X S e h := by
      intro hm; exact hm.elim
    unfold lowDT at hm
    split at hm
    · rename_i o ho
      simp only [vcDT] at hm
      obtain ⟨hm, hm'⟩ := hm
      refine ⟨⟨o, ho, ?_⟩, dt_sound hK hX t _ _ _ _ _ _ x hr hm'⟩
      refine guard_sound (P := P) (n := n) (ops := ops) (o := o) x.agree (fun h => h.elim) ?_ ?_ ?_ hm
      · intro e1 e2 hd hw hA
        rw [e1, e2] at hA
        refine .inl ⟨hw, l_sound x.agree x.heap o hA ?_ ?_⟩
        · intro v w' hk hKv
          exact ⟨hr.stab hKv.1, dt_sound hK hX r _ _ _ _ _ _ (x.put hk rfl hd v) hr hKv.2⟩
        · intro c w' hk hXc
          exact hX c _ a w' (x.hp'.world hk rfl) hXc
      · intro e2 hd hw hB
        rw [e2] at hB
        exact .inr ⟨hw, dt_sound hK hX r _ _ _ _ _ _ (x.put (Kin.refl w) x.heap hd undef) hr hB⟩
      · intro e1 _ hA
        rw [e1] at hA
        exact hA.elim
    · exact (bad hm).elim

theorem evs_get {e : Env} {a : Act} (ha : agree e a) : ∀ {S : List Nat} {vs : List Value}, evs e (S.map .tmp) = some vs → vs.length = S.length ∧ ∀ t v, Env.get (S.zip vs) t = some v → a.tmps[t]? = some v
  | [], vs, h => by
    simp only [List.map_nil, evs, Option.some.injEq] at h; subst h
    exact ⟨rfl, fun t v h => by cases h⟩
  | s :: r, vs, h => by
    simp only [List.map_cons, evs] at h
    obtain ⟨v, h1, h2⟩ := bindo h
    obtain ⟨ws, h3, h4⟩ := bindo h2
    simp only [Option.some.injEq] at h4; subst h4
    obtain ⟨h5, h6⟩ := evs_get ha h3
    refine ⟨by simp [h5], fun t u hg => ?_⟩
    simp only [List.zip_cons_cons, Env.get] at hg
    by_cases hst : s = t
    · rw [if_pos hst] at hg
      simp only [Option.some.injEq] at hg; subst hg; subst hst
      exact ha s v h1
    · rw [if_neg hst] at hg
      exact h6 t u hg
theorem keep_get (e : Env) : ∀ (L : List Nat) (t : Nat) (v : Value), (e.keep L).get t = some v → e.get t = some v
  | [], t, v, h => by cases h
  | s :: r, t, v, h => by
    unfold Env.keep at h
    split at h
    · rename_i u hu
      simp only [Env.get] at h
      by_cases hst : s = t
      · rw [if_pos hst] at h
        rw [← hst, hu]; exact h
      · rw [if_neg hst] at h
        exact keep_get e r t v h
    · exact keep_get e r t v h
theorem get_append (e f : Env) (t : Nat) (v : Value) (h : Env.get (e ++ f) t = some v) : e.get t = some v ∨ f.get t = some v := by
  induction e with
  | nil => exact .inr h
  | cons p r ih =>
    simp only [List.cons_append, Env.get] at h ⊢
    split at h
    · rename_i hp; left; rw [if_pos hp]; exact h
    · rename_i hp; rw [if_neg hp]; exact ih h

theorem kin_put {w : World} {l : Nat} {r : Loop} (o : Obj) (h : w.heap[l]? = some (.loop r)) (hv : hid (some (.loop r)) ≠ none) : Kin w (w.putObj l o) :=
  ⟨rfl, rfl, rfl, by simp, fun b x hb hx => by
    by_cases hbl : b = l
    · subst hbl; rw [h] at hb; simp only [Option.some.injEq] at hb; subst hb; exact absurd hx hv
    · rw [World.putObj_heap_other hbl]; exact hb⟩
theorem hp_put {w : World} {l : Nat} (o : Obj) (h : l < w.heap.size) : hp (w.putObj l o) = fun x => if x = l then hid (some o) else hp w x := by
  funext x
  show hid (w.putObj l o).heap[x]? = _
  by_cases hx : x = l
  · subst hx; rw [if_pos rfl, World.putObj_heap_same h]
  · rw [if_neg hx, World.putObj_heap_other hx]; rfl
theorem fold_get (n : Nat) : ∀ (ps : List Nat) (args : List Value) (t : Array Value), args.length = ps.length → t.size = n → okPs n ps = true →
    ((ps.zip args).foldl (fun tmps x => tmps.setIfInBounds x.1 x.2) t).size = n ∧ ∀ s v, Env.get (ps.zip args) s = some v → ((ps.zip args).foldl (fun tmps x => tmps.setIfInBounds x.1 x.2) t)[s]? = some v
  | [], [], t, _, ht, _ => ⟨ht, fun s v h => by cases h⟩
  | p :: ps, v :: args, t, hl, ht, hp => by
    simp only [okPs, List.all_cons, Bool.and_eq_true, decide_eq_true_eq, List.nodup_cons] at hp
    obtain ⟨⟨h1, h2⟩, h3, h4⟩ := hp
    have ih := fold_get n ps args (t.setIfInBounds p v) (by simpa using hl) (by simp [ht]) (by simp only [okPs, Bool.and_eq_true, decide_eq_true_eq]; exact ⟨h2, h4⟩)
    simp only [List.zip_cons_cons, List.foldl_cons]
    refine ⟨ih.1, fun s u hg => ?_⟩
    simp only [Env.get] at hg
    by_cases hps : p = s
    · subst hps
      rw [if_pos rfl] at hg
      simp only [Option.some.injEq] at hg; subst hg
      have keep : ∀ (ps : List Nat) (args : List Value) (t : Array Value), p ∉ ps → ((ps.zip args).foldl (fun tmps x => tmps.setIfInBounds x.1 x.2) t)[p]? = t[p]? := by
        intro ps
        induction ps with
        | nil => intro args t _; rfl
        | cons q qs ihq =>
          intro args t hq
          cases args with
          | nil => rfl
          | cons x xs =>
            simp only [List.zip_cons_cons, List.foldl_cons]
            rw [ihq xs _ (fun h => hq (by simp [h])), Array.getElem?_setIfInBounds_ne (by rintro rfl; exact hq (by simp))]
      rw [keep ps args _ h3]
      simp [ht, h1]
    · rw [if_neg hps] at hg
      exact ih.2 s u hg
  | [], _ :: _, _, hl, _, _ => by simp at hl
  | _ :: _, [], _, hl, _, _ => by simp at hl
theorem fold_keep : ∀ (ps : List Nat) (args : List Value) (t : Array Value) (s : Nat), s ∉ ps → ((ps.zip args).foldl (fun tmps x => tmps.setIfInBounds x.1 x.2) t)[s]? = t[s]?
  | [], args, t, s, _ => rfl
  | q :: qs, [], t, s, _ => rfl
  | q :: qs, x :: xs, t, s, hq => by
    simp only [List.zip_cons_cons, List.foldl_cons]
    rw [fold_keep qs xs _ s (fun h => hq (by simp [h])), Array.getElem?_setIfInBounds_ne (by rintro rfl; exact hq (by simp))]
theorem zip_get {ps : List Nat} {args : List Value} (hl : args.length = ps.length) {s : Nat} (h : s ∈ ps) : ∃ v, Env.get (ps.zip args) s = some v := by
  induction ps generalizing args with
  | nil => cases h
  | cons p r ih =>
    cases args with
    | nil => simp at hl
    | cons v vs =>
      simp only [List.zip_cons_cons, Env.get]
      by_cases hps : p = s
      · exact ⟨v, by rw [if_pos hps]⟩
      · rw [if_neg hps]
        exact ih (by simpa using hl) ((List.mem_cons.1 h).resolve_left fun h => hps h.symm)
theorem get_app_some {e f : Env} {t : Nat} {v : Value} (h : e.get t = some v) : Env.get (e ++ f) t = some v := by
  induction e with
  | nil => cases h
  | cons p r ih =>
    simp only [List.cons_append, Env.get] at h ⊢
    split at h
    · rename_i hp; rw [if_pos hp]; exact h
    · rename_i hp; rw [if_neg hp]; exact ih h

theorem vc_sound : ∀ (c : Code) (F : Fence) (m : Nat), Opn F → ∀ {mb : MB}, ((F.round = none ∧ mb.fl = false) ∨ flatC c = true) → ∀ {w0 : World} {n : NN} (ht : Hint) (Q : Post) (e : Env) (h : H) (a : Act) (w : World), At w0 mb n e h a w → vc P (lowC P n ht c) Q e h → c.wpIn F m P (Lift w0 mb n Q) a w := by
  intro c
  induction c with
  | skip =>
    intro F m hF mb hfl w0 n ht Q e h a w x hm
    cases ht <;> simp only [lowC, vc] at hm
    exact wpIn_skip ⟨x.kin, x.defers, x.size, e, x.agree, (fun c h => by cases h), x.heap ▸ hm⟩
  | label l =>
    intro F m hF mb hfl w0 n ht Q e h a w x hm
    cases ht <;> simp only [lowC, vc] at hm
    exact wpIn_label ⟨x.kin, x.defers, x.size, e, x.agree, (fun c h => by cases h), x.heap ▸ hm⟩
  | ret =>
    intro F m hF mb hfl w0 n ht Q e h a w x hm
    cases ht <;> simp only [lowC, vc] at hm
    exact wpIn_ret ⟨x.kin, x.defers, x.size, e, x.agree, (fun c h => by cases h), x.heap ▸ hm⟩
  | exit id =>
    intro F m hF mb hfl w0 n ht Q e h a w x hm
    cases ht <;> simp only [lowC, vc] at hm
    exact wpIn_exit ⟨x.kin, x.defers, x.size, e, x.agree, (fun c h => by cases h), x.heap ▸ hm⟩
  | goto l =>
    intro F m hF mb hfl w0 n ht Q e h a w x hm
    cases ht <;> simp only [lowC, vc] at hm
    exact wpIn_goto ⟨x.kin, x.defers, x.size, e, x.agree, (fun c h => by cases h), x.heap ▸ hm⟩
  | region id ops draw =>
    intro F m hF mb hfl w0 n ht Q e h a w x hm
    cases ht with
    | leaf =>
      cases draw with
      | true => simp only [lowC, vc] at hm
      | false =>
        simp only [lowC] at hm
        split at hm
        · rename_i hnd
          simp only [vc] at hm
          refine wpIn_region_list (ops_sound hF (w0 := w0) (mb := mb) (n := n) ?_ ?_ ops.toList e h a w x hm (fun o ho c => ?_))
          · intro e h a w x hK
            exact ⟨x.kin, x.defers, x.size, e, x.agree, (fun c h => by cases h), x.heap ▸ hK⟩
          · intro c h a w x hX
            exact ⟨x.kin, x.defers, x.size, [], x.agree, (fun c h => rfl), x.heap ▸ hX⟩
          · obtain ⟨j, hj⟩ := List.getElem?_of_mem ho
            rw [Array.getElem?_toList] at hj
            exact noDefer_spec hnd j o hj c
        · exact hm.elim
    | draw A t =>
      cases draw with
      | false => simp only [lowC, vc] at hm
      | true =>
        simp only [lowC] at hm
        split at hm
        · rename_i hok'
          obtain ⟨hok, hnd, hdst⟩ := hok'
          simp only [okDraw, Bool.and_eq_true, beq_iff_eq] at hok
          obtain ⟨⟨⟨⟨⟨h1, h2⟩, h3⟩, h4⟩, h5⟩, h6⟩ := hok
          simp only [vc] at hm
          refine wp_region_tree hF (noDefer_spec hnd) (t := t) h1 h2 h3 h4 h5 h6 ?_ (dt_sound (w0 := w0) (mb := mb) (n := n) ?_ ?_ t [] [] e h a w.drew (x.world (kin_drew w) (by rw [hp_drew]; exact x.heap)) (fun p hp => by cases hp) hm)
          · rintro c d v a w hd ⟨k1, k2, k3, e', k4, k6, k5⟩
            have he := k6 c rfl
            subst he
            refine ⟨k1, k2.kin (put_defers _ _ _).symm (fun t ht => (put_low a d v (fun t ht => by subst ht; exact Nat.le_trans x.base.2 (okDst_spec hdst hd).1) t ht).symm) (Kin.refl w), ?_, [], agree_nil a, (fun c h => rfl), k5⟩
            cases d with
            | none => exact k3
            | some d => simpa [Act.put] using k3
          · intro e h a w x hK
            exact ⟨x.kin, x.defers, x.size, e, x.agree, (fun c h => by cases h), x.heap ▸ hK⟩
          · intro c h a w x hX
            exact ⟨x.kin, x.defers, x.size, [], x.agree, (fun c h => rfl), x.heap ▸ hX⟩
        · exact hm.elim
    | _ => simp only [lowC, vc] at hm
  | seq x y ihx ihy =>
    intro F m hF mb hfl w0 n ht Q e h a w st hm
    have hfx : (F.round = none ∧ mb.fl = false) ∨ flatC x = true := hfl.imp id fun h => by simp only [flatC, Bool.and_eq_true] at h; exact h.1
    have hfy : (F.round = none ∧ mb.fl = false) ∨ flatC y = true := hfl.imp id fun h => by simp only [flatC, Bool.and_eq_true] at h; exact h.2
    cases ht with
    | seq hx L hy =>
      simp only [lowC, vc] at hm
      refine wpIn_seq (wpIn_mono (ihx F m hF hfx hx _ e h a w st hm) ?_)
      rintro ex a' w' ⟨k1, k2, k3, e', k4, k6, k5⟩
      cases ex with
      | normal =>
        refine ihy F m hF hfy hy Q _ _ a' w' ⟨k1, st.base, k2, k3, ?_, rfl⟩ k5
        exact fun t v hg => k4 t v (keep_get e' L t v hg)
      | _ => exact ⟨k1, k2, k3, e', k4, k6, k5⟩
    | _ => simp only [lowC, vc] at hm
  | cond c x y ihx ihy =>
    intro F m hF mb hfl w0 n ht Q e h a w st hm
    have hfx : (F.round = none ∧ mb.fl = false) ∨ flatC x = true := hfl.imp id fun h => by simp only [flatC, Bool.and_eq_true] at h; exact h.1
    have hfy : (F.round = none ∧ mb.fl = false) ∨ flatC y = true := hfl.imp id fun h => by simp only [flatC, Bool.and_eq_true] at h; exact h.2
    cases ht with
    | cond hx hy =>
      simp only [lowC, vc, condM] at hm
      split at hm
      · rename_i b hb
        refine wpIn_cond_split (t := b) (ev_sound st.agree hb) (fun ht => ihx F m hF hfx hx Q e h a w st (hm.1 ht)) (fun hf => ihy F m hF hfy hy Q e h a w st (hm.2 hf))
      · exact hm.elim
    | _ => simp only [lowC, vc] at hm
  | block id x ih =>
    intro F m hF mb hfl w0 n ht Q e h a w st hm
    cases ht with
    | block hx =>
      simp only [lowC, vc] at hm
      refine wpIn_block (wpIn_mono (ih F m hF hfl hx _ e h a w st hm) ?_)
      rintro ex a' w' ⟨k1, k2, k3, e', k4, k6, k5⟩
      cases ex with
      | exit i =>
        simp only [Exit.inBlock]
        simp only at k5
        split
        · rename_i hi; rw [if_pos hi] at k5; exact ⟨k1, k2, k3, e', k4, (fun c h => by cases h), k5⟩
        · rename_i hi; rw [if_neg hi] at k5; exact ⟨k1, k2, k3, e', k4, (fun c h => by cases h), k5⟩
      | _ => exact ⟨k1, k2, k3, e', k4, k6, k5⟩
    | _ => simp only [lowC, vc] at hm
  | loop x ih =>
    intro F m hF mb hfl w0 n ht Q e h a w st hm
    cases ht with
    | loop S K hx =>
      simp only [lowC, vc] at hm
      obtain ⟨I, μ, ⟨vs, h1, h2⟩, hround⟩ := hm
      have vsof : ∀ {e : Env} {a : Act} {vs : List Value}, agree e a → evs e (S.map .tmp) = some vs → vs = S.map fun t => a.tmps.getD t undef := by
        intro e a vs ha hv
        rw [← evs_sound ha hv, List.map_map]
        rfl
      have lift : ∀ {e e' : Env} {a : Act} {vs : List Value}, agree e' a → evs e' (S.map .tmp) = some vs → e'.keep K = e.keep K → agree (S.zip vs ++ e.keep K) a := by
        intro e e' a vs ha hv hk t v hg
        rcases get_append _ _ t v hg with hg | hg
        · exact (evs_get ha hv).2 t v hg
        · rw [← hk] at hg
          exact ha t v (keep_get e' K t v hg)
      refine wpIn_loop (fun a' w' => I (S.map fun t => a'.tmps.getD t undef) (hp w') ∧ At w0 mb n (S.zip (S.map fun t => a'.tmps.getD t undef) ++ e.keep K) (hp w') a' w') (fun a' w' => μ (S.map fun t => a'.tmps.getD t undef) (hp w')) ?_ ?_
      · have hv := vsof st.agree h1
        rw [← hv]
        exact ⟨by rw [st.heap]; exact h2, st.kin, st.base, st.defers, st.size, lift st.agree h1 rfl, rfl⟩
      · rintro a1 w1 ⟨hI, hat⟩
        refine wpIn_mono (ih F m hF hfl hx _ _ _ a1 w1 hat (hround _ (hp w1) (by simp) hI)) ?_
        rintro ex a' w' ⟨k1, k2, k3, e', k4, k6, k5⟩
        cases ex with
        | normal =>
          obtain ⟨⟨vs', m1, m2, m3⟩, m4⟩ := k5
          have hv := vsof k4 m1
          rw [hv] at m2 m3
          exact ⟨⟨m2, k1, st.base, k2, k3, by rw [← hv]; exact lift k4 m1 m4, rfl⟩, m3⟩
        | _ => exact ⟨k1, k2, k3, e', k4, k6, k5⟩
    | _ => simp only [lowC, vc] at hm
  | scope x ih =>
    intro F m hF mb hfl w0 n ht Q e h a w st hm
    cases ht with
    | scope hx =>
      simp only [lowC, vc] at hm
      obtain ⟨hr, hfl'⟩ : F.round = none ∧ mb.fl = false := hfl.elim id fun h => by simp [flatC] at h
      have hw : F = Fence.wide := by
        rcases hF with rfl | ⟨l, rfl⟩
        · rfl
        · simp at hr
      subst hw
      refine wpIn_wide.2 (wp_scope_straight (wpIn_wide.1 (wpIn_mono (ih Fence.wide m (.inl rfl) (.inl ⟨rfl, hfl'⟩) hx _ e h a w st hm) ?_)))
      rintro ex a' w' ⟨k1, k2, k3, e', k4, k6, k5⟩
      cases ex <;> first | exact k5.elim | exact ⟨k1, k2, k3, e', k4, k6, k5⟩
    | _ => simp only [lowC, vc] at hm
  | rangeFunc g ps x y ihx ihy =>
    intro F m hF mb hfl w0 n ht Q e h a w st hm
    cases ht with
    | rf K Kb hx hy' =>
      simp only [lowC] at hm
      split at hm
      · rename_i hok
        obtain ⟨hps, hflx, hfly⟩ := hok
        obtain ⟨hr, hfl'⟩ : F.round = none ∧ mb.fl = false := hfl.elim id fun h => by simp [flatC] at h
        have hw : F = Fence.wide := by
          rcases hF with rfl | ⟨l, rfl⟩
          · rfl
          · simp at hr
        subst hw
        simp only [vc, rfI] at hm
        split at hm
        · rename_i gf lb hg
          obtain ⟨hgf, hm⟩ := hm
          have hev := ev_sound st.agree hg
          refine wpIn_rangeFunc ?_
          intro fn hfn
          rw [show Fence.wide.round = none from rfl]
          obtain ⟨r, hrd⟩ : ∃ r : Loop, r = { state := .ready, pending := none, fn, tmps := a.tmps, params := ps, assign := x, body := y, defers := w.heap.size } := ⟨_, rfl⟩
          obtain ⟨w1, hw1⟩ : ∃ w1, w1 = (w.alloc (.deferred (some []))).alloc (.loop r) := ⟨_, rfl⟩
          have hvis : hid (some (.loop r)) = some (.loop r) := by rw [hrd]; rfl
          have hL1 : w1.heap[w.heap.size + 1]? = some (.loop r) := by
            rw [hw1]; have := alloc_at (w.alloc (.deferred (some []))) (.loop r); simpa using this
          have hD1 : w1.heap[w.heap.size]? = some (.deferred (some [])) := by
            rw [hw1, alloc_old _ _ (by simp)]; exact alloc_at w _
          have hk1 : Kin w w1 := by rw [hw1]; exact (kin_alloc w _).trans (kin_alloc _ _)
          have hh1 : hp w1 = hupd h (w.heap.size + 1) (.loop r) := by
            funext b
            show hid w1.heap[b]? = _
            unfold hupd
            by_cases hb : b = w.heap.size + 1
            · subst hb; rw [if_pos rfl, hL1, hvis]
            · rw [if_neg hb, ← st.heap]
              show _ = hid w.heap[b]?
              by_cases hb2 : b = w.heap.size
              · subst hb2; rw [hD1]; simp [hid]
              · rw [hw1, alloc_old _ _ (by simpa using hb), alloc_old _ _ hb2]
          have hLn : h (w.heap.size + 1) = none := by rw [← st.heap]; show hid w.heap[w.heap.size + 1]? = none; simp [hid]
          refine ⟨w.heap.size + 1, [{ target := .collected w.heap.size, args := #[] }], w1, { target := .fn (.func gf) lb, args := #[.func (.yield (w.heap.size + 1)) #[] #[]] }, w1, gf,
            #[.func (.yield (w.heap.size + 1)) #[] #[]] ++ lb, w1, ?_, ?_, fun _ _ => trivial, ?_, fun h => (by cases h), ?_⟩
          · rw [hw1, hrd]; exact run_enterLoop_outer _ _ _ _ _
          · simp only [resolve, hev]
            simp [go_sem]
          · simp [invoke, go_sem, callFunc_run hgf]
          · have hmk : ∀ {w3 w4 : World}, Kin w1 w3 → Kin w3 w4 → Marks mb { a with defers := { target := .collected w.heap.size, args := #[] } :: a.defers } w4 := by
              intro w3 w4 k3 k4
              obtain ⟨⟨ds0, hds0, ⟨sd1, sd2⟩, sd4⟩, sd3⟩ := st.defers
              refine ⟨⟨{ target := .collected w.heap.size, args := #[] } :: ds0, by rw [hds0]; rfl, ⟨fun d hd => ?_, List.pairwise_cons.2 ⟨fun d hd => ?_, sd2⟩⟩, fun h => by rw [hfl'] at h; cases h⟩, sd3⟩
              · rcases List.mem_cons.1 hd with rfl | hd
                · exact ⟨w.heap.size, rfl, k4.ctl _ _ (k3.ctl _ _ hD1 rfl) rfl, Nat.le_trans st.base.1 st.kin.size⟩
                · obtain ⟨D, h1, h2, h3⟩ := sd1 d hd
                  exact ⟨D, h1, k4.ctl _ _ (k3.ctl _ _ (hk1.ctl _ _ h2 rfl) rfl) rfl, h3⟩
              · obtain ⟨D, h1, h2, h3⟩ := sd1 d hd
                subst h1
                have := (Array.getElem?_eq_some_iff.1 h2).1
                simp only [ne_eq, Target.collected.injEq]
                omega
            have hcall := hm (w.heap.size + 1) r hLn (by rw [hrd]) (by rw [hrd]) ?_
            · refine (callsIn_wide.2 (hcall w1 hh1)).mono ?_
              rintro e' w3 ⟨hk3, hR⟩
              have back : ∀ (r' : Loop), r'.state ≠ .busy → hp w3 (w.heap.size + 1) = some (.loop r') → (Instr.endLoop (w.heap.size + 1)).run P w3 = .ok r'.pending (w3.putObj (w.heap.size + 1) (.loop { r' with state := .exhausted })) ∧
                  hp (w3.putObj (w.heap.size + 1) (.loop { r' with state := .exhausted })) = hdel (hp w3) (w.heap.size + 1) ∧ Kin w3 (w3.putObj (w.heap.size + 1) (.loop { r' with state := .exhausted })) := by
                intro r' hs hl
                have hl' := hid_some hl
                refine ⟨run_endLoop hl' hs, ?_, kin_put _ hl' (by have h5 := hl; unfold hp at h5; rw [hl'] at h5; rw [h5]; simp)⟩
                rw [hp_put _ (Array.getElem?_eq_some_iff.1 hl').1]
                funext b; unfold hdel; rfl
              cases e' with
              | returned v =>
                rcases hR with ⟨hl, hq⟩ | ⟨hl, hq⟩ | ⟨i, hl, hq⟩
                · obtain ⟨b1, b2, b3⟩ := back r (by rw [hrd]; simp) hl
                  refine ⟨none, _, b1.trans (congrArg (fun p => Result.ok p _) (show r.pending = none by rw [hrd])), ?_⟩
                  exact ⟨((st.kin.trans hk1).trans hk3).trans b3, hmk hk3 b3, st.size, e.keep K, fun t v hg => st.agree t v (keep_get e K t v hg), (fun c h => by cases h), by rw [b2]; exact hq⟩
                · obtain ⟨b1, b2, b3⟩ := back (lft r .ret) (by simp [lft]) hl
                  refine ⟨some .ret, _, by rw [b1]; rfl, ?_⟩
                  exact wpIn_ret ⟨((st.kin.trans hk1).trans hk3).trans b3, hmk hk3 b3, st.size, e.keep K, fun t v hg => st.agree t v (keep_get e K t v hg), (fun c h => by cases h), by rw [b2]; exact hq⟩
                · obtain ⟨b1, b2, b3⟩ := back (lft r (.exit i)) (by simp [lft]) hl
                  refine ⟨some (.exit i), _, by rw [b1]; rfl, ?_⟩
                  exact wpIn_exit ⟨((st.kin.trans hk1).trans hk3).trans b3, hmk hk3 b3, st.size, e.keep K, fun t v hg => st.agree t v (keep_get e K t v hg), (fun c h => by cases h), by rw [b2]; exact hq⟩
              | panicked c => exact ⟨(st.kin.trans hk1).trans hk3, hmk hk3 (Kin.refl _), st.size, [], agree_nil _, (fun _ _ => rfl), hR⟩
              | outgrown => exact hR.elim
            · intro args h1 Y hlen hL hround X W hW
              have hWL := hid_some (show hid W.heap[w.heap.size + 1]? = some (.loop r) by rw [← hW] at hL; exact hL)
              have hf := fold_get n.hi ps.toList args a.tmps hlen st.size hps
              have htm : (r.params.zip args.toArray).foldl (fun tmps x => tmps.setIfInBounds x.1 x.2) r.tmps = (ps.toList.zip args).foldl (fun tmps x => tmps.setIfInBounds x.1 x.2) a.tmps := by
                rw [hrd]
                rw [← Array.foldl_toList]
                simp
              have hy := run_yield (P := P) (args := args.toArray) hWL (by rw [hrd]; simpa using hlen)
              rw [show (r.params.zip args.toArray).foldl (fun tmps x => tmps.setIfInBounds x.1 x.2) r.tmps = _ from htm] at hy
              rw [show r.fn = fn by rw [hrd], show r.assign = x by rw [hrd], show r.body = y by rw [hrd]] at hy
              refine ⟨fn, _, x, y, hy, roundIn_of_wpIn trivial ?_⟩
              have hO : Opn (Fence.wide.inRound (w.heap.size + 1)) := .inr ⟨_, rfl⟩
              have hagr : agree (ps.toList.zip args ++ e.keep K) { tmps := (ps.toList.zip args).foldl (fun tmps x => tmps.setIfInBounds x.1 x.2) a.tmps, defers := [] } := by
                intro t v hg
                by_cases ht : t ∈ ps.toList
                · obtain ⟨u, hu⟩ := zip_get hlen ht
                  have := get_app_some (f := e.keep K) hu
                  rw [this] at hg
                  simp only [Option.some.injEq] at hg; subst hg
                  exact hf.2 t u hu
                · have h2 : (ps.toList.zip args).foldl (fun tmps x => tmps.setIfInBounds x.1 x.2) a.tmps = (ps.toList.zip args).foldl (fun tmps x => tmps.setIfInBounds x.1 x.2) a.tmps := rfl
                  show ((ps.toList.zip args).foldl (fun tmps x => tmps.setIfInBounds x.1 x.2) a.tmps)[t]? = some v
                  rw [fold_keep _ _ _ _ ht]
                  rcases get_append _ _ t v hg with hg | hg
                  · exfalso
                    have : ∀ (ps : List Nat) (args : List Value), Env.get (ps.zip args) t = some v → t ∈ ps := by
                      intro ps
                      induction ps with
                      | nil => intro args h; cases h
                      | cons q qs ihq =>
                        intro args h
                        cases args with
                        | nil => cases h
                        | cons z zs =>
                          simp only [List.zip_cons_cons, Env.get] at h
                          split at h
                          · rename_i hq; subst hq; simp
                          · exact List.mem_cons_of_mem _ (ihq zs h)
                    exact ht (this _ _ hg)
                  · exact st.agree t v (keep_get e K t v hg)
              refine wpIn_mono (ihx _ 0 hO (.inr hflx) (w0 := W) (mb := ⟨W.heap.size, [], 0, #[], false⟩) (n := n) hx _ _ h1 _ W ⟨Kin.refl W, ⟨Nat.le_refl _, Nat.zero_le _⟩, Marks.none _ _ rfl, hf.1, hagr, hW⟩ hround) ?_
              rintro ex a1 W1 ⟨k1, k2, k3, e1, k4, _, rfl, hh2, hb⟩
              have hW1L : W1.heap[w.heap.size + 1]? = some (.loop r) := hid_some hh2
              have hlt1 := (Array.getElem?_eq_some_iff.1 hW1L).1
              refine ⟨_, run_beginRound hW1L (by rw [hrd]), ?_⟩
              have hp2 : hp (W1.putObj (w.heap.size + 1) (.loop { r with state := .busy })) = hdel (hp W1) (w.heap.size + 1) := by
                rw [hp_put _ hlt1]; funext b; unfold hdel; rfl
              have hag1 : agree (e1.keep Kb) a1 := fun t v hg => k4 t v (keep_get e1 Kb t v hg)
              have hd1 : Marks ⟨W.heap.size, [], 0, #[], false⟩ a1 (W1.putObj (w.heap.size + 1) (.loop { r with state := .busy }))   := k2.kin rfl (fun _ _ => rfl) (kin_put _ hW1L (by rw [hvis]; simp))
              refine wpIn_mono (ihy _ 0 hO (.inr hfly) (w0 := W1.putObj (w.heap.size + 1) (.loop { r with state := .busy })) (mb := ⟨W.heap.size, [], 0, #[], false⟩) (n := n) hy' _ _ _ a1 _ ⟨Kin.refl _, ⟨by simpa using k1.size, Nat.zero_le _⟩, hd1, k3, hag1, hp2⟩ hb) ?_
              rintro ex a3 W3 ⟨j1, j2, j3, e3, j4, _, j5⟩
              have hbusy : W3.heap[w.heap.size + 1]? = some (.loop { r with state := .busy }) := j1.ctl _ _ (World.putObj_heap_same hlt1) rfl
              have hlt3 := (Array.getElem?_eq_some_iff.1 hbusy).1
              have j6 := j5 (by show hid W3.heap[w.heap.size + 1]? = none; rw [hbusy]; rfl)
              have fin : ∀ (jump : Option Code) (r' : Loop), r' = { r with state := if jump.isNone then .ready else .done, pending := jump } → ∀ b, b = jump.isNone → Y b (hupd (hp W3) (w.heap.size + 1) (.loop r')) →
                  ∃ v w', (Instr.endRound (w.heap.size + 1) jump).run P W3 = .ok v w' ∧ (Kin W w' ∧ ∃ b, v = Value.bool b ∧ Y b (hp w')) := by
                intro jump r' hr' b hb' hY
                refine ⟨_, _, run_endRound jump hbusy, ?_, b, by rw [hb'], ?_⟩
                · refine ⟨?_, ?_, ?_, ?_, ?_⟩
                  · exact j1.os.trans k1.os
                  · exact j1.tape.trans k1.tape
                  · exact j1.output.trans k1.output
                  · simp; exact Nat.le_trans k1.size (by have := j1.size; simpa using this)
                  · intro b o hbo hho
                    have hbl : b ≠ w.heap.size + 1 := by
                      rintro rfl; rw [hWL] at hbo; simp only [Option.some.injEq] at hbo; subst hbo; rw [hvis] at hho; cases hho
                    rw [World.putObj_heap_other hbl]
                    refine j1.ctl _ _ ?_ hho
                    rw [World.putObj_heap_other hbl]
                    exact k1.ctl _ _ hbo hho
                · have : hp (W3.putObj (w.heap.size + 1) (.loop { ({ r with state := .busy } : Loop) with state := if jump.isNone then .ready else .done, pending := jump })) = hupd (hp W3) (w.heap.size + 1) (.loop r') := by
                    rw [hp_put _ hlt3, hr']
                    funext b; unfold hupd
                    by_cases hb2 : b = w.heap.size + 1
                    · rw [if_pos hb2, if_pos hb2]
                      cases jump <;> rfl
                    · rw [if_neg hb2, if_neg hb2]
                  rw [this]; exact hY
              cases ex with
              | normal => exact fin none r (by rw [hrd]; rfl) true rfl j6
              | ret => exact fin (some .ret) (lft r .ret) rfl false rfl j6
              | exit i => exact fin (some (.exit i)) (lft r (.exit i)) rfl false rfl j6
              | goto t => exact j6.elim
              | panic c => exact j6.elim
              | outgrown => exact j6.elim
        · exact hm.elim
      · exact hm.elim
    | _ => simp only [lowC, vc] at hm
  | _ =>
    intro F m hF mb hfl w0 n ht Q e h a w st hm
    cases ht <;> simp only [lowC, vc] at hm
end
end Go.Proofs.YtooimdgoibdhlaaDoor
