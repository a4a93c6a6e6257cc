/-
  The walk of a checked tree serves every order; lowering of code; the walk of lowered code is sound: in whatever company.
-/
import Derived.Test.YtojhnclkhiffkaaK7
namespace Go.Proofs.Ytojhnclkhiffkaa
open Go.Conc (G stepG_skip stepG_label stepG_inBlock stepG_seq stepG_cond stepG_block stepG_loop stepG_inLoop stepG_exit stepG_region stepG_region_end stepG_end stepG_ret' stepG_unwanted stepG_region_draw stepG_enter stepG_leave)
set_option linter.unusedVariables false

section
variable {Pg : Program} {P : Cx Pg} {h : H}
/-- A step that turns nothing. -/
theorem Cx.idle {g g' : Goroutine} (hs : g.status = .running) (h1 : ∀ w, stepG Pg P.main g w = .go g' w #[]) (h2 : P.J g' h) : P.J g h :=
  P.ord g h hs fun w hh => by rw [h1 w]; exact ⟨h, Fra.refl hh, h2⟩
end
section
variable {Pg : Program} {P : Cx Pg} {ops : Array Oper} {Q : Act → H → Prop} {A : List (List Nat)}

def opJ (P : Cx Pg) (ops : Array Oper) (i : Nat) (K : Act → H → Prop) (a : Act) (h : H) : Prop :=
  match ops[i]? with
  | none => False
  | some o => if Region.wanted o (yielded ops a.tmps) then wpZ P o a h K else K (a.put o.dst undef) h
theorem opJ_mono {i : Nat} {K K' : Act → H → Prop} {a : Act} {h : H} (hk : ∀ a h, K a h → K' a h) (hh : opJ P ops i K a h) : opJ P ops i K' a h := by
  unfold opJ at *
  split
  · rename_i ho; rw [ho] at hh; exact hh
  · rename_i o ho
    rw [ho] at hh
    simp only at hh
    split
    · rename_i hw; rw [if_pos hw] at hh; exact wpZ_mono hk hh
    · rename_i hw; rw [if_neg hw] at hh; exact hk _ _ hh
def anyJ (P : Cx Pg) (ops : Array Oper) (Q : Act → H → Prop) : Nat → Array Bool → Act → H → Prop
  | 0, listed, a, h => Region.ready .any ops listed = [] ∧ Q a h
  | fuel + 1, listed, a, h =>
    (Region.ready .any ops listed = [] → Q a h) ∧
    ∀ i ∈ Region.ready .any ops listed, opJ P ops i (anyJ P ops Q fuel (listed.setIfInBounds i true)) a h
theorem anyJ_sound {b : Frame} {k : List Item} {cs : List Frame} (hk : b.kind ≠ .early) (hQ : ∀ a h, Q a h → P.J (G (b.at a k) cs) h) : ∀ (fuel t : Nat) (listed : Array Bool) (a : Act) (h : H), anyJ P ops Q fuel listed a h →
    P.J (G (b.at a (.inRegion ops (Region.linearise.go .any ops fuel t listed []) :: k)) cs) h := by
  have done : ∀ a h, Q a h → P.J (G (b.at a (.inRegion ops [] :: k)) cs) h := fun a h hq => Cx.idle rfl (fun _ => stepG_region_end) (hQ a h hq)
  intro fuel
  induction fuel with
  | zero => intro t listed a h hh; simpa [Region.linearise.go] using done a h hh.2
  | succ fuel ih =>
    intro t listed a h hh
    obtain ⟨h₀, h₁⟩ := hh
    simp only [Region.linearise.go]
    change P.J (G (b.at a (.inRegion ops (match (Region.ready .any ops listed)[t % (Region.ready .any ops listed).length]? with
      | some i => Region.linearise.go .any ops fuel (t / (Region.ready .any ops listed).length) (listed.setIfInBounds i true) [i]
      | none => [].reverse) :: k)) cs) h
    cases hi : (Region.ready .any ops listed)[t % (Region.ready .any ops listed).length]? with
    | none =>
      have hnil : Region.ready .any ops listed = [] := by
        cases hr : Region.ready .any ops listed with
        | nil => rfl
        | cons x xs =>
          rw [hr] at hi
          have hlt : t % (x :: xs).length < (x :: xs).length := Nat.mod_lt _ (by simp)
          simp at hi
          simp at hlt
          omega
      simpa using done a h (h₀ hnil)
    | some i =>
      simp only []
      rw [linearise_go_acc, List.reverse_singleton, List.singleton_append]
      have hop := h₁ i (List.mem_of_getElem? hi)
      unfold opJ at hop
      split at hop
      · exact hop.elim
      · rename_i o ho
        split at hop
        · rename_i hw
          exact hop b a k cs ops i _ o ho hw hk (fun _ => rfl) fun v h' hv => ih _ _ _ _ hv
        · rename_i hw
          exact Cx.idle rfl (fun _ => stepG_unwanted ho (by simpa using hw)) (ih _ _ _ _ hop)

structure Inv (ops : Array Oper) (t : HT) (listed : Array Bool) : Prop where
  size : listed.size = ops.size
  all : ∀ y, y < ops.size → (listed.getD y true = false ↔ y ∈ t.all)
  lt : ∀ y ∈ t.all, y < ops.size
  closed : ∀ j, j < ops.size → listed.getD j false = true → ∀ d ∈ depsOf ops j, listed.getD d false = true

theorem getD_tf {listed : Array Bool} {i : Nat} (h : i < listed.size) : listed.getD i true = listed.getD i false := by
  simp [h]
theorem mem_deps {ops : Array Oper} {i : Nat} {o : Oper} (ho : ops[i]? = some o) (d : Nat) : d ∈ depsOf ops i ↔ ∃ e ∈ o.after, Region.binds .any e = true ∧ e.on = d := by
  unfold depsOf
  rw [ho]
  simp only [List.mem_map, List.mem_filter, Array.mem_toList_iff]
  constructor
  · rintro ⟨e, ⟨h1, h2⟩, h3⟩; exact ⟨e, h1, h2, h3⟩
  · rintro ⟨e, h1, h2, h3⟩; exact ⟨e, ⟨h1, h2⟩, h3⟩

theorem anc_listed (hA : okA ops A = true) {listed : Array Bool} (hs : listed.size = ops.size) (hc : ∀ j, j < ops.size → listed.getD j false = true → ∀ d ∈ depsOf ops j, listed.getD d false = true) :
    ∀ (i : Nat) (x : Nat), i < ops.size → (∀ d ∈ depsOf ops i, listed.getD d false = true) → ancB A x i = true → listed.getD x false = true := by
  intro i
  induction i using Nat.strongRecOn with
  | _ i ih =>
    intro x hi hd hx
    unfold okA at hA
    have h1 := List.all_eq_true.1 hA i (List.mem_range.2 hi)
    have hx' : x ∈ A.getD i [] := by simpa [ancB] using hx
    have h2 := List.all_eq_true.1 h1 x hx'
    simp only [Bool.or_eq_true, List.contains_eq_mem, decide_eq_true_eq, List.any_eq_true, Bool.and_eq_true] at h2
    rcases h2 with h2 | ⟨d, hd1, hd2, hd3⟩
    · exact hd x h2
    · exact ih d hd2 x (by omega) (hc d (by omega) (hd d hd1)) hd3

theorem Inv.set {t t' : HT} {listed : Array Bool} (inv : Inv ops t listed) {i : Nat} (hr : i ∈ Region.ready .any ops listed) (ha : ∀ y, y ∈ t'.all ↔ y ∈ t.all ∧ y ≠ i) : Inv ops t' (listed.setIfInBounds i true) := by
  obtain ⟨h0, o, ho, hall⟩ := mem_ready.1 hr
  have hi : i < ops.size := (Array.getElem?_eq_some_iff.1 ho).1
  refine ⟨by simp [inv.size], fun y hy => ?_, fun y hy => inv.lt y ((ha y).1 hy).1, fun j hj hl d hd => ?_⟩
  · rw [ha]
    by_cases hyi : y = i
    · subst hyi
      have : (listed.setIfInBounds y true).getD y true = true := by simp [inv.size, hi]
      rw [this]; simp
    · rw [getD_set_ne true (Ne.symm hyi), inv.all y hy]
      simp [hyi]
  · by_cases hji : j = i
    · subst hji
      obtain ⟨e, he, hb, hon⟩ := (mem_deps ho d).1 hd
      subst hon
      exact getD_set_true (hall e he hb)
    · rw [getD_set_ne false (Ne.symm hji)] at hl
      exact getD_set_true (inv.closed j hj hl d hd)

variable (hsel : ∀ (j : Nat) (o : Oper) cs b, ops[j]? = some o → o.op ≠ .select cs b)
include hsel

theorem any_of_tree (hA : okA ops A = true) : ∀ (fuel : Nat) (t : HT) (listed : Array Bool) (S : Sts) (a : Act) (w : H),
    t.all.length = fuel → okT ops A [] none t = true → Inv ops t listed → wpT P ops Q t S a w → anyJ P ops Q fuel listed a w := by
  intro fuel
  induction fuel with
  | zero =>
    intro t listed S a w hl hk inv h
    have ht : t = .done := by cases t <;> simp [HT.all] at hl ⊢
    subst ht
    refine ⟨?_, h⟩
    rw [List.eq_nil_iff_forall_not_mem]
    intro i hi
    obtain ⟨h0, o, ho, _⟩ := mem_ready.1 hi
    have := (inv.all i (Array.getElem?_eq_some_iff.1 ho).1).1 h0
    cases this
  | succ fuel ih =>
    intro t listed S a w hl hk inv h
    refine ⟨fun hnil => ?_, fun i hi => ?_⟩
    · -- something is ready
      exfalso
      have hfirst : ∃ i, i ∈ t.all ∧ i < ops.size ∧ ∀ d ∈ depsOf ops i, d < ops.size ∧ d ∉ t.all := by
        cases t with
        | done => simp [HT.all] at hl
        | q i r =>
          simp only [okT, Bool.and_eq_true, List.all_eq_true, decide_eq_true_eq, bne_iff_ne, Bool.not_eq_true', List.contains_eq_mem, decide_eq_false_iff_not] at hk
          exact ⟨i, List.mem_cons_self, hk.1.1.1.1.2, fun d hd => ⟨(hk.1.1.2 d hd).1.1, fun hm => (List.mem_cons.1 hm).elim (hk.1.1.2 d hd).1.2 (hk.1.1.2 d hd).2⟩⟩
        | e i Z r =>
          obtain ⟨b1, _, b3, _⟩ := okB_spec (alt_get (.e i Z r) hk ⟨rfl, rfl, rfl⟩).1
          exact ⟨i, List.mem_cons_self, b1, fun d hd => ⟨(b3 d hd).1, fun hm => (List.mem_cons.1 hm).elim (b3 d hd).2.1 (b3 d hd).2.2⟩⟩
        | al i Z r t =>
          obtain ⟨b1, _, b3, _⟩ := okB_spec (alt_get (.al i Z r t) hk (.inl ⟨rfl, rfl, rfl⟩)).1
          exact ⟨i, List.mem_cons_self, b1, fun d hd => ⟨(b3 d hd).1, fun hm => (List.mem_cons.1 hm).elim (b3 d hd).2.1 (b3 d hd).2.2⟩⟩
      obtain ⟨i, h1, h2, h3⟩ := hfirst
      have : i ∈ Region.ready .any ops listed := by
        rw [mem_ready]
        refine ⟨(inv.all i h2).2 h1, ops[i], by simp [h2], fun e he hb => ?_⟩
        obtain ⟨h4, h5⟩ := h3 e.on ((mem_deps (by simp [h2] : ops[i]? = some ops[i]) e.on).2 ⟨e, he, hb, rfl⟩)
        have h6 : ¬ listed.getD e.on true = false := fun hf => h5 ((inv.all _ h4).1 hf)
        rw [getD_tf (by rw [inv.size]; exact h4)] at h6
        simpa using h6
      rw [hnil] at this
      cases this
    · obtain ⟨h0, o, ho, hall⟩ := mem_ready.1 hi
      have hin : i < ops.size := (Array.getElem?_eq_some_iff.1 ho).1
      have hmem := (inv.all i hin).1 h0
      have hno : ∀ x ∈ t.all, ancB A x i = false := by
        intro x hx
        cases hb : ancB A x i with
        | false => rfl
        | true =>
          have h1 := anc_listed hA inv.size inv.closed i x hin (fun d hd => by
            obtain ⟨e, he, hb, rfl⟩ := (mem_deps ho d).1 hd
            exact hall e he hb) hb
          have hxl := inv.lt x hx
          have h2 := (inv.all x hxl).2 hx
          rw [getD_tf (by rw [inv.size]; exact hxl), h1] at h2
          cases h2
      unfold opJ
      rw [ho]
      simp only []
      rcases cases_of t hk hmem hno with hp | ⟨Z, r0, hn⟩
      · obtain ⟨hd1, hd2⟩ := del_all t hk hp
        have hk' := okT_del t hk hp
        have inv' := inv.set hi hd1
        rcases first_q hsel ho t hp (apB_of t hk hp hno) h with ⟨hw, v, hv, h'⟩ | ⟨hw, h'⟩
        · rw [if_pos hw]
          exact hv.does (ih _ _ _ _ _ (by omega) hk' inv' h')
        · rw [if_neg (by rw [hw]; simp)]
          exact ih _ _ _ _ _ (by omega) hk' inv' h'
      · obtain ⟨hd1, hd2⟩ := att_all t hk hn
        have hk' := okT_att t hk hn
        have inv' := inv.set hi hd1
        rcases first_e hsel ho t hn (preE_of t hk hn hno) h with ⟨hw, h'⟩ | ⟨hw, h'⟩
        · rw [if_pos hw]
          exact wpZ_mono (fun a' w' h => ih _ _ _ _ _ (by omega) hk' inv' h.2) h'
        · rw [if_neg (by rw [hw]; simp)]
          exact ih _ _ _ _ _ (by omega) hk' inv' h'
omit hsel
/-- A drawn region. -/
theorem region_tree {b : Frame} {k : List Item} {cs : List Frame} (hkd : b.kind ≠ .early) (hQ : ∀ a h, Q a h → P.J (G (b.at a k) cs) h) {id : Nat} {a : Act} {w : H} {t : HT} (hm : Pg.follows .mixedOrders = true) (hA : okA ops A = true) (hk : okT ops A [] none t = true) (hl : t.all.length = ops.size) (hs : Region.noSelect ops = true)
    (hal : ((List.range ops.size).all fun y => t.all.contains y) = true) (h : wpT P ops Q t [] a w) : P.J (G (b.at a (.code (.region id ops true) :: k)) cs) w := by
  have hlt : ∀ y ∈ t.all, y < ops.size := by
    have : ∀ (t : HT) {E : List Nat}, okT ops A E none t = true → ∀ y ∈ t.all, y < ops.size := by
      intro t
      induction t with
      | done => intro E _ y hy; cases hy
      | q i r ihr =>
        intro E hk y hy
        simp only [okT, Bool.and_eq_true, decide_eq_true_eq] at hk
        rcases List.mem_cons.1 hy with rfl | hy
        · exact hk.1.1.1.1.2
        · exact ihr hk.2 y hy
      | e i Z r ihr =>
        intro E hk y hy
        obtain ⟨k1, k2, _⟩ := alt_get (.e i Z r) hk ⟨rfl, rfl, rfl⟩
        rcases List.mem_cons.1 hy with rfl | hy
        · exact (okB_spec k1).1
        · exact ihr k2 y hy
      | al i Z r t ihr _ =>
        intro E hk y hy
        obtain ⟨k1, k2, _⟩ := alt_get (.al i Z r t) hk (.inl ⟨rfl, rfl, rfl⟩)
        rcases List.mem_cons.1 hy with rfl | hy
        · exact (okB_spec k1).1
        · exact ihr k2 y hy
    exact this t hk
  have hany : anyJ P ops Q ops.size (Array.replicate ops.size false) a w := by
    refine any_of_tree (Region.noSelect_spec hs) hA ops.size t _ [] a _ hl hk ⟨by simp, fun y hy => ?_, hlt, fun j hj hl' => ?_⟩ h
    · have := List.all_eq_true.1 hal y (List.mem_range.2 hy)
      simp only [List.contains_eq_mem, decide_eq_true_eq] at this
      simp [hy, this]
    · simp [hj] at hl'
  refine P.ord _ _ rfl fun w₁ hh => ?_
  rw [stepG_region_draw, Go.Conc.goes_go]
  refine ⟨w, Fra.still hh rfl rfl rfl rfl (by simp), ?_⟩
  simp only [Region.schedule, hm, Bool.true_or, if_true]
  exact anyJ_sound hkd hQ ops.size _ _ a w hany
end

/-! ### Lowering of code -/
inductive Hint where
  | leaf
  | seq (a : Hint) (L : List Nat) (b : Hint)
  | cond (a b : Hint)
  | block (a : Hint)
  | loop (S K : List Nat) (a : Hint)
  | draw (A : List (List Nat)) (t : HT)
  | scope (a : Hint)
  | rf (K Kb : List Nat) (a b : Hint)

/-- The slots that code may write. -/
structure NN where
  lo : Nat
  hi : Nat
instance (n : Nat) : OfNat NN n := ⟨⟨0, n⟩⟩
def NN.ok (n : NN) (d : Nat) : Bool := decide (n.lo ≤ d) && decide (d < n.hi)
theorem NN.ok_spec {n : NN} {d : Nat} (h : n.ok d = true) : n.lo ≤ d ∧ d < n.hi := by simpa [NN.ok] using h
def okDst (n : NN) (ops : Array Oper) : Bool := ops.toList.all fun o => o.dst.all n.ok
theorem okDst_spec {n : NN} {ops : Array Oper} (h : okDst n ops = true) {d : Nat} (hd : DstOk ops (some d)) : n.lo ≤ d ∧ d < n.hi := by
  obtain ⟨j, o, ho, hd⟩ := hd
  have h1 := List.all_eq_true.1 h o (by rw [Array.mem_toList_iff]; exact Array.mem_of_getElem? ho)
  rw [hd] at h1
  exact NN.ok_spec h1
def lowLO (P : Program) (n : NN) (ops : Array Oper) (o : Oper) : LO :=
  match o.dst.all n.ok, o.guard with
  | true, none => ⟨o.dst, none, lowOp P o⟩
  | true, some (j, want) => (match (ops[j]?).bind (·.dst) with
    | some t => ⟨o.dst, some (t, want), lowOp P o⟩
    | none => ⟨o.dst, none, .bad⟩)
  | false, _ => ⟨o.dst, none, .bad⟩
def lowDT (P : Program) (n : NN) (ops : Array Oper) : HT → DT
  | .done => .done
  | .q i r => match ops[i]? with
    | some o => if isQ (lowOp P o) = true then .q i (lowLO P n ops o) (lowDT P n ops r) else .q i ⟨none, none, .bad⟩ .done
    | none => .q i ⟨none, none, .bad⟩ .done
  | .e i Z r => match ops[i]? with
    | some o => .e i Z (lowLO P n ops o) (lowDT P n ops r)
    | none => .q i ⟨none, none, .bad⟩ .done
  | .al i Z r t => match ops[i]? with
    | some o => .al i Z (lowLO P n ops o) (lowDT P n ops r) (lowDT P n ops t)
    | none => .q i ⟨none, none, .bad⟩ .done
def okDraw (P : Program) (ops : Array Oper) (A : List (List Nat)) (t : HT) : Bool :=
  P.follows .mixedOrders && okA ops A && okT ops A [] none t && (t.all.length == ops.size) && Region.noSelect ops && ((List.range ops.size).all fun y => t.all.contains y)
def isDefer (o : Oper) : Bool :=
  match o.op with
  | .defer _ => true
  | _ => false
def noDefer (ops : Array Oper) : Bool := ops.toList.all fun o => !isDefer o
theorem noDefer_spec {ops : Array Oper} (h : noDefer ops = true) (j : Nat) (o : Oper) (ho : ops[j]? = some o) (c : Call) : o.op ≠ .defer c := by
  intro hc
  have h1 := List.all_eq_true.1 h o (by rw [Array.mem_toList_iff]; exact Array.mem_of_getElem? ho)
  simp [isDefer, hc] at h1
/-- Neither a range over a function nor a scope within. -/
def flatC : Code → Bool
  | .seq a b | .cond _ a b => flatC a && flatC b
  | .block _ a | .loop a => flatC a
  | .rangeFunc .. | .scope _ => false
  | _ => true
def okPs (n : Nat) (ps : List Nat) : Bool := (ps.all fun t => decide (t < n)) && decide ps.Nodup
def lowC (P : Program) (n : NN) : Hint → Code → LC
  | .leaf, .skip => .skip
  | .leaf, .ret => .ret
  | .leaf, .exit id => .exit id
  | .leaf, .goto l => .goto l
  | .leaf, .label _ => .skip
  | .leaf, .region _ ops false => if noDefer ops = true then .ops (ops.toList.map (lowLO P n ops)) else .bad
  | .draw A t, .region _ ops true => if okDraw P ops A t = true ∧ noDefer ops = true ∧ okDst n ops = true then .draw (lowDT P n ops t) else .bad
  | .scope a, .scope x => .scope (lowC P n a x)
  | .seq a L b, .seq x y => .seq (lowC P n a x) L (lowC P n b y)
  | .cond a b, .cond c x y => .cond c (lowC P n a x) (lowC P n b y)
  | .block a, .block id x => .block id (lowC P n a x)
  | .loop S K a, .loop x => .loop S K (lowC P n a x)
  | _, _ => .bad

theorem wanted_of {ops : Array Oper} {o : Oper} {e : Env} {a : Act} (ha : agree e a) {j : Nat} {want : Bool} {t : Nat} {v : Value} (hg : o.guard = some (j, want)) (ht : (ops[j]?).bind (·.dst) = some t) (hv : e.get t = some v) :
    Region.wanted o (yielded ops a.tmps) = gW v want := by
  unfold Region.wanted yielded
  rw [hg]
  simp only [ht, Option.bind_some, ha t v hv]
  cases v <;> simp [gW]
theorem wanted_none {o : Oper} {y : Nat → Option Bool} (hg : o.guard = none) : Region.wanted o y = true := by
  unfold Region.wanted; rw [hg]

/-- One operation under its guard. -/
theorem guard_sound {Pg : Program} {P : Cx Pg} {n : NN} {ops : Array Oper} {o : Oper} {e : Env} {a : Act} (ha : agree e a) {A B : Prop} {X : Prop} (hbad : ∀ {K : Value → H → Prop} {Xp : List PanicEntry → H → Prop} {h : H}, lM P .bad e h K Xp → X)
    (hA : (lowLO Pg n ops o).l = lowOp Pg o → (lowLO Pg n ops o).d = o.dst → (∀ t, o.dst = some t → n.lo ≤ t ∧ t < n.hi) → Region.wanted o (yielded ops a.tmps) = true → A → X)
    (hB : (lowLO Pg n ops o).d = o.dst → (∀ t, o.dst = some t → n.lo ≤ t ∧ t < n.hi) → Region.wanted o (yielded ops a.tmps) = false → B → X)
    (hAbad : (lowLO Pg n ops o).l = .bad → (lowLO Pg n ops o).g = none → A → X)
    (hm : guardM e (lowLO Pg n ops o).g A B) : X := by
  have key := hm
  unfold lowLO at hm
  split at hm
  · rename_i h1 h2
    have hd : ∀ t, o.dst = some t → n.lo ≤ t ∧ t < n.hi := by
      intro t ht; rw [ht] at h1; exact NN.ok_spec h1
    refine hA (by unfold lowLO; rw [h1, h2]) (by unfold lowLO; rw [h1, h2]) hd (wanted_none h2) hm
  · rename_i j want h1 h2
    have hd : ∀ t, o.dst = some t → n.lo ≤ t ∧ t < n.hi := by
      intro t ht; rw [ht] at h1; exact NN.ok_spec h1
    split at hm
    · rename_i t ht
      have e1 : (lowLO Pg n ops o).l = lowOp Pg o := by unfold lowLO; rw [h1, h2]; simp only [ht]
      have e2 : (lowLO Pg n ops o).d = o.dst := by unfold lowLO; rw [h1, h2]; simp only [ht]
      unfold guardM at hm
      simp only at hm
      split at hm
      · rename_i v hv
        have hw := wanted_of ha h2 ht hv
        cases hgw : gW v want with
        | true => exact hA e1 e2 hd (hw.trans hgw) (hm.1 hgw)
        | false => exact hB e2 hd (hw.trans hgw) (hm.2 hgw)
      · exact hm.elim
    · rename_i ht
      exact hAbad (by unfold lowLO; rw [h1, h2]; simp only [ht]) (by unfold lowLO; rw [h1, h2]; simp only [ht]) hm
  · rename_i h1
    exact hAbad (by unfold lowLO; rw [h1]) (by unfold lowLO; rw [h1]) hm


/-! ### Soundness -/
/-- What is known of a frame. -/
structure At (n : NN) (ds : List Deferred) (e : Env) (a : Act) : Prop where
  defers : a.defers = ds
  size : a.tmps.size = n.hi
  agree : agree e a
theorem agree_nil (a : Act) : agree [] a := fun t v hg => by cases hg
theorem put_defers (a : Act) (d : Option Nat) (v : Value) : (a.put d v).defers = a.defers := by cases d <;> rfl
theorem At.put {n : NN} {ds : List Deferred} {e : Env} {a : Act} (x : At n ds e a) {d : Option Nat} (hd : ∀ t, d = some t → n.lo ≤ t ∧ t < n.hi) (v : Value) : At n ds (e.put d v) (a.put d v) := by
  refine ⟨(put_defers _ _ _).trans x.defers, ?_, ?_⟩
  · cases d with
    | none => exact x.size
    | some t => simp [Act.put, x.size]
  · cases d with
    | none => exact x.agree
    | some d =>
      intro t u hg
      have hlt : d < a.tmps.size := by rw [x.size]; exact (hd d rfl).2
      simp only [Env.put, Env.get] at hg
      by_cases hdt : d = t
      · subst hdt
        simp only [if_true, Option.some.injEq] at hg
        subst hg
        simp [Act.put, hlt]
      · rw [if_neg hdt] at hg
        have := x.agree t u hg
        simp only [Act.put]
        rw [Array.getElem?_setIfInBounds_ne hdt]
        exact this

section
variable {Pg : Program} {P : Cx Pg}
/-- The ways out that are walked. -/
def okX : Exit → Prop
  | .normal | .exit _ | .ret => True
  | _ => False
/-- Where the walk goes on behind a piece of code. -/
def Aft (P : Cx Pg) (b : Frame) (k : List Item) (cs : List Frame) : Exit → Act → H → Prop
  | .normal, a, h => P.J (G (b.at a k) cs) h
  | .exit id, a, h => ∃ k', exitTo id k = some k' ∧ P.J (G (b.at a k') cs) h
  | .ret, a, h => ∀ todo, P.J (G { b.at a todo with mode := .returning } cs) h
  | _, _, _ => False
/-- A way out other than the normal one passes a plain item. -/
theorem Aft.push {b : Frame} {x : Item} {k : List Item} {cs : List Frame} {e : Exit} {a : Act} {h : H} (hx : x.plain = true) (he : e ≠ .normal) (ha : Aft P b k cs e a h) : Aft P b (x :: k) cs e a h := by
  cases e with
  | normal => exact absurd rfl he
  | exit id => obtain ⟨k', hk, hg⟩ := ha; exact ⟨k', by cases x <;> simp_all [exitTo, Item.plain], hg⟩
  | ret => exact ha
  | goto l => exact ha
  | panic ch => exact ha
  | outgrown => exact ha

theorem ops_sound {ds : List Deferred} {b : Frame} {k : List Item} {cs : List Frame} (hkd : b.kind ≠ .early) {n : NN} {ops : Array Oper} {K : Env → H → Prop} {X : List PanicEntry → H → Prop}
    (hK : ∀ e h a, At n ds e a → K e h → P.J (G (b.at a k) cs) h) : ∀ (l : List Nat) (e : Env) (h : H) (a : Act), At n ds e a →
    vcOps P (l.map fun i => match ops[i]? with | some o => lowLO Pg n ops o | none => ⟨none, none, .bad⟩) K X e h → P.J (G (b.at a (.inRegion ops l :: k)) cs) h
  | [], e, h, a, x, hm => Cx.idle rfl (fun _ => stepG_region_end) (hK e h a x hm)
  | i :: r, e, h, a, x, hm => by
    simp only [List.map_cons, vcOps] at hm
    cases ho : ops[i]? with
    | none => rw [ho] at hm; exact hm.elim
    | some o =>
      rw [ho] at hm
      refine guard_sound (P := P) (n := n) (ops := ops) (o := o) x.agree (fun h => h.elim) ?_ ?_ ?_ hm
      · intro e1 e2 hd hw hA
        rw [e1, e2] at hA
        exact l_does x.agree o hA b a k cs ops i r o ho hw hkd (fun _ => rfl) fun v h' hv => ops_sound hkd hK r _ _ _ (x.put hd v) hv
      · intro e2 hd hw hB
        rw [e2] at hB
        exact Cx.idle rfl (fun _ => stepG_unwanted ho hw) (ops_sound hkd hK r _ _ _ (x.put hd undef) hB)
      · intro e1 _ hA
        rw [e1] at hA
        exact hA.elim
theorem range_map (ops : Array Oper) (f : Oper → LO) (d : LO) : (List.range ops.size).map (fun i => match ops[i]? with | some o => f o | none => d) = ops.toList.map f := by
  apply List.ext_getElem?
  intro i
  simp only [List.getElem?_map]
  by_cases hi : i < ops.size
  · rw [List.getElem?_range hi]
    simp [hi]
  · rw [List.getElem?_eq_none (by simpa using Nat.le_of_not_lt hi)]
    simp [Nat.le_of_not_lt hi]

theorem qV_noLd {l : L} {e : Env} {h h' : H} (hq : isQ l = true) (hl : isLd l = false) : qV l e h = qV l e h' := by
  cases l <;> first | rfl | (simp [isLd] at hl; done)

def Srel (S : List (Nat × L × Env × Value)) (S' : Sts) : Prop :=
  ∀ p' ∈ S', (∀ w, p'.2 w) ∨ ∃ p ∈ S, p.1 = p'.1 ∧ ∀ w, qV p.2.1 p.2.2.1 w = some p.2.2.2 → p'.2 w
theorem stab_mem {Z : List Nat} {S : List (Nat × L × Env × Value)} {h : H} (hs : stab Z S h) : ∀ p ∈ S, p.1 ∈ Z → qV p.2.1 p.2.2.1 h = some p.2.2.2 := by
  induction S with
  | nil => intro p hp; cases hp
  | cons q r ih =>
    intro p hp hz
    have hs' : if Z.contains q.1 = true then qV q.2.1 q.2.2.1 h = some q.2.2.2 ∧ stab Z r h else stab Z r h := hs
    rcases List.mem_cons.1 hp with hp | hp
    · subst hp
      rw [if_pos (by simpa using hz)] at hs'
      exact hs'.1
    · split at hs'
      · exact ih hs'.2 p hp hz
      · exact ih hs' p hp hz
theorem Srel.stab {S : List (Nat × L × Env × Value)} {S' : Sts} (hr : Srel S S') {Z : List Nat} {w : H} (hs : stab Z S w) : stabW Z S' w := by
  intro p' hp' hz
  rcases hr p' hp' with h | ⟨p, hp, he, h⟩
  · exact h w
  · exact h w (stab_mem hs p hp (he ▸ hz))

theorem dt_sound {ds : List Deferred} {n : NN} {ops : Array Oper} {K : Env → H → Prop} {X : List PanicEntry → H → Prop} {Q : Act → H → Prop}
    (hK : ∀ e h a, At n ds e a → K e h → Q a h) : ∀ (t : HT) (S : List (Nat × L × Env × Value)) (S' : Sts) (e : Env) (h : H) (a : Act), At n ds e a → Srel S S' →
    vcDT P (lowDT Pg n ops t) K X S e h → wpT P ops Q t S' a h
  | .done, S, S', e, h, a, x, hr, hm => hK e h a x hm
  | .q i r, S, S', e, h, a, x, hr, hm => by
    have bad : ¬ vcDT P (.q i ⟨none, none, .bad⟩ .done) K X S e h := by
      intro hm; exact hm.elim
    unfold lowDT at hm
    split at hm
    · rename_i o ho
      split at hm
      · rename_i hq
        refine ⟨o, ho, ?_⟩
        simp only [vcDT] at hm
        refine guard_sound (P := P) (n := n) (ops := ops) (o := o) x.agree (fun h => h.elim) ?_ ?_ ?_ hm
        · intro e1 e2 hd hw hA
          rw [e1, e2] at hA
          unfold opt at hA
          split at hA
          · rename_i v hv
            have hy : ∀ h', qV (lowOp Pg o) e h' = some v → QY Pg o a h' v := fun h' hv' w hh => q_sound x.agree hh o hq hv'
            refine .inl ⟨hw, v, hy h hv, ?_⟩
            refine dt_sound hK r _ _ _ _ _ (x.put hd v) ?_ hA
            intro p' hp'
            rcases List.mem_cons.1 hp' with rfl | hp'
            · cases hl : isLd (lowOp Pg o) with
              | true => exact .inr ⟨_, by simp only [if_true]; exact List.mem_cons_self, rfl, hy⟩
              | false => exact .inl fun w' => hy w' (by rw [qV_noLd hq hl (h' := h)]; exact hv)
            · rcases hr p' hp' with h' | ⟨p, hp, h'⟩
              · exact .inl h'
              · refine .inr ⟨p, ?_, h'⟩
                split
                · exact List.mem_cons_of_mem _ hp
                · exact hp
          · exact hA.elim
        · intro e2 hd hw hB
          rw [e2] at hB
          exact .inr ⟨hw, dt_sound hK r _ _ _ _ _ (x.put hd undef) hr hB⟩
        · intro e1 _ hA
          rw [e1] at hA
          exact hA.elim
      · exact (bad hm).elim
    · exact (bad hm).elim
  | .e i Z r, S, S', e, h, a, x, hr, hm => by
    have bad : ¬ vcDT P (.q i ⟨none, none, .bad⟩ .done) K X S e h := by
      intro hm; exact hm.elim
    unfold lowDT at hm
    split at hm
    · rename_i o ho
      refine ⟨o, ho, ?_⟩
      simp only [vcDT] at hm
      refine guard_sound (P := P) (n := n) (ops := ops) (o := o) x.agree (fun h => h.elim) ?_ ?_ ?_ hm
      · intro e1 e2 hd hw hA
        rw [e1, e2] at hA
        refine .inl ⟨hw, Does.mono (l_does x.agree o hA) ?_⟩
        intro v h' hKv
        exact ⟨hr.stab hKv.1, dt_sound hK r _ _ _ _ _ (x.put hd v) hr hKv.2⟩
      · intro e2 hd hw hB
        rw [e2] at hB
        exact .inr ⟨hw, dt_sound hK r _ _ _ _ _ (x.put hd undef) hr hB⟩
      · intro e1 _ hA
        rw [e1] at hA
        exact hA.elim
    · exact (bad hm).elim
  | .al i Z r t, S, S', e, h, a, x, hr, hm => by
    have bad : ¬ vcDT P (.q i ⟨none, none, .bad⟩ .done) K X S e h := by
      intro hm; exact hm.elim
    unfold lowDT at hm
    split at hm
    · rename_i o ho
      simp only [vcDT] at hm
      obtain ⟨hm, hm'⟩ := hm
      refine ⟨⟨o, ho, ?_⟩, dt_sound hK t _ _ _ _ _ x hr hm'⟩
      refine guard_sound (P := P) (n := n) (ops := ops) (o := o) x.agree (fun h => h.elim) ?_ ?_ ?_ hm
      · intro e1 e2 hd hw hA
        rw [e1, e2] at hA
        refine .inl ⟨hw, Does.mono (l_does x.agree o hA) ?_⟩
        intro v h' hKv
        exact ⟨hr.stab hKv.1, dt_sound hK r _ _ _ _ _ (x.put hd v) hr hKv.2⟩
      · intro e2 hd hw hB
        rw [e2] at hB
        exact .inr ⟨hw, dt_sound hK r _ _ _ _ _ (x.put hd undef) hr hB⟩
      · intro e1 _ hA
        rw [e1] at hA
        exact hA.elim
    · exact (bad hm).elim

theorem evs_get {e : Env} {a : Act} (ha : agree e a) : ∀ {S : List Nat} {vs : List Value}, evs e (S.map .tmp) = some vs → vs.length = S.length ∧ ∀ t v, Env.get (S.zip vs) t = some v → a.tmps[t]? = some v
  | [], vs, h => by
    simp only [List.map_nil, evs, Option.some.injEq] at h; subst h
    exact ⟨rfl, fun t v h => by cases h⟩
  | s :: r, vs, h => by
    simp only [List.map_cons, evs] at h
    obtain ⟨v, h1, h2⟩ := bindo h
    obtain ⟨ws, h3, h4⟩ := bindo h2
    simp only [Option.some.injEq] at h4; subst h4
    obtain ⟨h5, h6⟩ := evs_get ha h3
    refine ⟨by simp [h5], fun t u hg => ?_⟩
    simp only [List.zip_cons_cons, Env.get] at hg
    by_cases hst : s = t
    · rw [if_pos hst] at hg
      simp only [Option.some.injEq] at hg; subst hg; subst hst
      exact ha s v h1
    · rw [if_neg hst] at hg
      exact h6 t u hg
theorem keep_get (e : Env) : ∀ (L : List Nat) (t : Nat) (v : Value), (e.keep L).get t = some v → e.get t = some v
  | [], t, v, h => by cases h
  | s :: r, t, v, h => by
    unfold Env.keep at h
    split at h
    · rename_i u hu
      simp only [Env.get] at h
      by_cases hst : s = t
      · rw [if_pos hst] at h
        rw [← hst, hu]; exact h
      · rw [if_neg hst] at h
        exact keep_get e r t v h
    · exact keep_get e r t v h
theorem get_append (e f : Env) (t : Nat) (v : Value) (h : Env.get (e ++ f) t = some v) : e.get t = some v ∨ f.get t = some v := by
  induction e with
  | nil => exact .inr h
  | cons p r ih =>
    simp only [List.cons_append, Env.get] at h ⊢
    split at h
    · rename_i hp; left; rw [if_pos hp]; exact h
    · rename_i hp; rw [if_neg hp]; exact ih h

theorem vc_sound : ∀ (c : Code) {n : NN} {ds : List Deferred} (ht : Hint) (Q : Post) (e : Env) (h : H) (a : Act), At n ds e a → vc P (lowC Pg n ht c) Q e h →
    ∀ (b : Frame) (k : List Item) (cs : List Frame), b.kind ≠ .early → (∀ x e' h' a', okX x → At n ds e' a' → Q x e' h' → Aft P b k cs x a' h') → P.J (G (b.at a (.code c :: k)) cs) h := by
  intro c
  induction c with
  | skip =>
    intro n dsv ht Q e h a x hm b k cs hkd hQ
    cases ht <;> simp only [lowC, vc] at hm
    exact Cx.idle rfl (fun _ => stepG_skip) (hQ .normal _ _ _ trivial x hm)
  | label l =>
    intro n dsv ht Q e h a x hm b k cs hkd hQ
    cases ht <;> simp only [lowC, vc] at hm
    exact Cx.idle rfl (fun _ => stepG_label) (hQ .normal _ _ _ trivial x hm)
  | ret =>
    intro n dsv ht Q e h a x hm b k cs hkd hQ
    cases ht <;> simp only [lowC, vc] at hm
    exact Cx.idle rfl (fun _ => stepG_ret') (hQ .ret _ _ _ trivial x hm _)
  | exit id =>
    intro n dsv ht Q e h a x hm b k cs hkd hQ
    cases ht <;> simp only [lowC, vc] at hm
    obtain ⟨k', hk', hg⟩ := hQ (.exit id) _ _ _ trivial x hm
    exact Cx.idle rfl (fun _ => stepG_exit hk') hg
  | goto l =>
    intro n dsv ht Q e h a x hm b k cs hkd hQ
    cases ht <;> simp only [lowC, vc] at hm
  | region id ops draw =>
    intro n dsv ht Q e h a x hm b k cs hkd hQ
    cases ht with
    | leaf =>
      cases draw with
      | true => simp only [lowC, vc] at hm
      | false =>
        simp only [lowC] at hm
        split at hm
        · rename_i hnd
          simp only [vc] at hm
          refine Cx.idle rfl (fun _ => stepG_region) ?_
          rw [← range_map ops (lowLO Pg n ops) ⟨none, none, .bad⟩] at hm
          exact ops_sound hkd (fun e h a x hK => hQ .normal _ _ _ trivial x hK) _ e h a x hm
        · exact hm.elim
    | draw A t =>
      cases draw with
      | false => simp only [lowC, vc] at hm
      | true =>
        simp only [lowC] at hm
        split at hm
        · rename_i hok'
          obtain ⟨hok, hnd, hdst⟩ := hok'
          simp only [okDraw, Bool.and_eq_true, beq_iff_eq] at hok
          obtain ⟨⟨⟨⟨⟨h1, h2⟩, h3⟩, h4⟩, h5⟩, h6⟩ := hok
          simp only [vc] at hm
          exact region_tree (Q := fun a h => P.J (G (b.at a k) cs) h) hkd (fun _ _ h => h) h1 h2 h3 h4 h5 h6 (dt_sound (n := n) (fun e h a x hK => hQ .normal e h a trivial x hK) t [] [] e h a x (fun p hp => by cases hp) hm)
        · exact hm.elim
    | _ => simp only [lowC, vc] at hm
  | seq x y ihx ihy =>
    intro n dsv ht Q e h a st hm b k cs hkd hQ
    cases ht with
    | seq hx L hy =>
      simp only [lowC, vc] at hm
      refine Cx.idle rfl (fun _ => stepG_seq) (ihx hx _ e h a st hm b (.code y :: k) cs hkd ?_)
      intro ex e' h' a' hx' st' hq
      cases ex with
      | normal => exact ihy hy _ _ _ _ ⟨st'.defers, st'.size, fun t v hg => st'.agree t v (keep_get e' L t v hg)⟩ hq b k cs hkd hQ
      | _ => exact (hQ _ _ _ _ hx' st' hq).push rfl (by simp)
    | _ => simp only [lowC, vc] at hm
  | cond c x y ihx ihy =>
    intro n dsv ht Q e h a st hm b k cs hkd hQ
    cases ht with
    | cond hx hy =>
      simp only [lowC, vc, condM] at hm
      split at hm
      · rename_i t hc
        have hev := ev_sound st.agree hc
        refine Cx.idle rfl (fun _ => stepG_cond (t := t) hev) ?_
        cases t with
        | true => exact ihx hx _ e h a st (hm.1 rfl) b k cs hkd hQ
        | false => exact ihy hy _ e h a st (hm.2 rfl) b k cs hkd hQ
      · exact hm.elim
    | _ => simp only [lowC, vc] at hm
  | block id x ih =>
    intro n dsv ht Q e h a st hm b k cs hkd hQ
    cases ht with
    | block hx =>
      simp only [lowC, vc] at hm
      refine Cx.idle rfl (fun _ => stepG_block) (ih hx _ e h a st hm b (.inBlock id :: k) cs hkd ?_)
      intro ex e' h' a' hx' st' hq
      cases ex with
      | normal => exact Cx.idle rfl (fun _ => stepG_inBlock) (hQ _ _ _ _ hx' st' hq)
      | exit i =>
        by_cases hi : i = id
        · simp only [hi, if_true] at hq
          exact ⟨k, by simp [exitTo, hi], hQ .normal _ _ _ trivial st' hq⟩
        · simp only [if_neg hi] at hq
          obtain ⟨k', hk', hg⟩ := hQ (.exit i) _ _ _ trivial st' hq
          have : (id == i) = false := by simp; exact fun h => hi h.symm
          exact ⟨k', by simp [exitTo, this, hk'], hg⟩
      | ret => exact hQ _ _ _ _ hx' st' hq
      | goto l => exact hQ _ _ _ _ hx' st' hq
      | panic c => exact hQ _ _ _ _ hx' st' hq
      | outgrown => exact hQ _ _ _ _ hx' st' hq
    | _ => simp only [lowC, vc] at hm
  | loop x ih =>
    intro n dsv ht Q e h a st hm b k cs hkd hQ
    cases ht with
    | loop S K hx =>
      simp only [lowC, vc] at hm
      obtain ⟨I, μ, ⟨vs, h1, h2⟩, hround⟩ := hm
      have vsof : ∀ {e : Env} {a : Act} {vs : List Value}, agree e a → evs e (S.map .tmp) = some vs → vs = S.map fun t => a.tmps.getD t undef := by
        intro e a vs ha hv
        rw [← evs_sound ha hv, List.map_map]
        rfl
      have lift : ∀ {e' : Env} {a : Act} {vs : List Value}, agree e' a → evs e' (S.map .tmp) = some vs → e'.keep K = e.keep K → agree (S.zip vs ++ e.keep K) a := by
        intro e' a vs ha hv hk t v hg
        rcases get_append _ _ t v hg with hg | hg
        · exact (evs_get ha hv).2 t v hg
        · rw [← hk] at hg
          exact ha t v (keep_get e' K t v hg)
      have key : ∀ (N : Nat) (h : H) (a : Act) (vs : List Value), μ vs h ≤ N → vs.length = S.length → I vs h → At n dsv (S.zip vs ++ e.keep K) a → P.J (G (b.at a (.code x :: .inLoop x :: k)) cs) h := by
        intro N
        induction N with
        | zero =>
          intro h a vs hN hl hI hat
          refine ih hx _ _ h a hat (hround vs h hl hI) b _ cs hkd ?_
          intro ex e' h' a' hx' st' hq
          cases ex with
          | normal => obtain ⟨⟨vs', m1, m2, m3⟩, m4⟩ := hq; omega
          | _ => exact (hQ _ _ _ _ hx' st' hq).push rfl (by simp)
        | succ N ihN =>
          intro h a vs hN hl hI hat
          refine ih hx _ _ h a hat (hround vs h hl hI) b _ cs hkd ?_
          intro ex e' h' a' hx' st' hq
          cases ex with
          | normal =>
            obtain ⟨⟨vs', m1, m2, m3⟩, m4⟩ := hq
            refine Cx.idle rfl (fun _ => stepG_inLoop) (ihN h' a' vs' (by omega) (evs_get st'.agree m1).1 m2 ⟨st'.defers, st'.size, lift st'.agree m1 m4⟩)
          | _ => exact (hQ _ _ _ _ hx' st' hq).push rfl (by simp)
      exact Cx.idle rfl (fun _ => stepG_loop) (key _ h a vs (Nat.le_refl _) (evs_get st.agree h1).1 h2 ⟨st.defers, st.size, lift st.agree h1 rfl⟩)
    | _ => simp only [lowC, vc] at hm
  | _ =>
    intro n dsv ht Q e h a x hm b k cs hkd hQ
    cases ht <;> simp only [lowC, vc] at hm
end
end Go.Proofs.Ytojhnclkhiffkaa
