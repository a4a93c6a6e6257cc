/-
  The walk of a checked tree serves every order; lowering of code; the walk of lowered code is sound.
-/
import Derived.Test.YtcncclkglcmpnaaK7
namespace Go.Proofs.Ytcncclkglcmpnaa
set_option linter.unusedVariables false

section
variable {P : Program} {ops : Array Oper} {Q : Exit → Act → World → Prop} {A : List (List Nat)}

structure Inv (ops : Array Oper) (t : HT) (listed : Array Bool) : Prop where
  size : listed.size = ops.size
  all : ∀ y, y < ops.size → (listed.getD y true = false ↔ y ∈ t.all)
  lt : ∀ y ∈ t.all, y < ops.size
  closed : ∀ j, j < ops.size → listed.getD j false = true → ∀ d ∈ depsOf ops j, listed.getD d false = true

theorem getD_tf {listed : Array Bool} {i : Nat} (h : i < listed.size) : listed.getD i true = listed.getD i false := by
  simp [h]
theorem mem_deps {ops : Array Oper} {i : Nat} {o : Oper} (ho : ops[i]? = some o) (d : Nat) : d ∈ depsOf ops i ↔ ∃ e ∈ o.after, Region.binds .any e = true ∧ e.on = d := by
  unfold depsOf
  rw [ho]
  simp only [List.mem_map, List.mem_filter, Array.mem_toList_iff]
  constructor
  · rintro ⟨e, ⟨h1, h2⟩, h3⟩; exact ⟨e, h1, h2, h3⟩
  · rintro ⟨e, h1, h2, h3⟩; exact ⟨e, ⟨h1, h2⟩, h3⟩

theorem anc_listed (hA : okA ops A = true) {listed : Array Bool} (hs : listed.size = ops.size) (hc : ∀ j, j < ops.size → listed.getD j false = true → ∀ d ∈ depsOf ops j, listed.getD d false = true) :
    ∀ (i : Nat) (x : Nat), i < ops.size → (∀ d ∈ depsOf ops i, listed.getD d false = true) → ancB A x i = true → listed.getD x false = true := by
  intro i
  induction i using Nat.strongRecOn with
  | _ i ih =>
    intro x hi hd hx
    unfold okA at hA
    have h1 := List.all_eq_true.1 hA i (List.mem_range.2 hi)
    have hx' : x ∈ A.getD i [] := by simpa [ancB] using hx
    have h2 := List.all_eq_true.1 h1 x hx'
    simp only [Bool.or_eq_true, List.contains_eq_mem, decide_eq_true_eq, List.any_eq_true, Bool.and_eq_true] at h2
    rcases h2 with h2 | ⟨d, hd1, hd2, hd3⟩
    · exact hd x h2
    · exact ih d hd2 x (by omega) (hc d (by omega) (hd d hd1)) hd3

theorem Inv.set {t t' : HT} {listed : Array Bool} (inv : Inv ops t listed) {i : Nat} (hr : i ∈ Region.ready .any ops listed) (ha : ∀ y, y ∈ t'.all ↔ y ∈ t.all ∧ y ≠ i) : Inv ops t' (listed.setIfInBounds i true) := by
  obtain ⟨h0, o, ho, hall⟩ := mem_ready.1 hr
  have hi : i < ops.size := (Array.getElem?_eq_some_iff.1 ho).1
  refine ⟨by simp [inv.size], fun y hy => ?_, fun y hy => inv.lt y ((ha y).1 hy).1, fun j hj hl d hd => ?_⟩
  · rw [ha]
    by_cases hyi : y = i
    · subst hyi
      have : (listed.setIfInBounds y true).getD y true = true := by simp [inv.size, hi]
      rw [this]; simp
    · rw [getD_set_ne true (Ne.symm hyi), inv.all y hy]
      simp [hyi]
  · by_cases hji : j = i
    · subst hji
      obtain ⟨e, he, hb, hon⟩ := (mem_deps ho d).1 hd
      subst hon
      exact getD_set_true (hall e he hb)
    · rw [getD_set_ne false (Ne.symm hji)] at hl
      exact getD_set_true (inv.closed j hj hl d hd)

variable (hsel : ∀ (j : Nat) (o : Oper) cs b, ops[j]? = some o → o.op ≠ .select cs b)
include hsel

theorem any_of_tree (hA : okA ops A = true) (hQ : ∀ c d v a w, Q (.panic c) (a.put d v) w → Q (.panic c) a w) : ∀ (fuel : Nat) (t : HT) (listed : Array Bool) (S : Sts) (a : Act) (w : World),
    t.all.length = fuel → okT ops A [] t = true → Inv ops t listed → wpT P ops Q t S a w → wpAny P .any ops Q fuel listed a w := by
  intro fuel
  induction fuel with
  | zero =>
    intro t listed S a w hl hk inv h
    have ht : t = .done := by cases t <;> simp [HT.all] at hl ⊢
    subst ht
    refine ⟨?_, h⟩
    rw [List.eq_nil_iff_forall_not_mem]
    intro i hi
    obtain ⟨h0, o, ho, _⟩ := mem_ready.1 hi
    have := (inv.all i (Array.getElem?_eq_some_iff.1 ho).1).1 h0
    cases this
  | succ fuel ih =>
    intro t listed S a w hl hk inv h
    refine ⟨fun hnil => ?_, fun i hi => ?_⟩
    · -- something is ready
      exfalso
      have hfirst : ∃ i, i ∈ t.all ∧ i < ops.size ∧ ∀ d ∈ depsOf ops i, d < ops.size ∧ d ∉ t.all := by
        cases t with
        | done => simp [HT.all] at hl
        | q i r =>
          simp only [okT, Bool.and_eq_true, List.all_eq_true, decide_eq_true_eq, bne_iff_ne, Bool.not_eq_true', List.contains_eq_mem, decide_eq_false_iff_not] at hk
          exact ⟨i, List.mem_cons_self, hk.1.1.1.1, fun d hd => ⟨(hk.1.1.2 d hd).1.1, fun hm => (List.mem_cons.1 hm).elim (hk.1.1.2 d hd).1.2 (hk.1.1.2 d hd).2⟩⟩
        | e i Z r =>
          simp only [okT, Bool.and_eq_true, List.all_eq_true, decide_eq_true_eq, bne_iff_ne, Bool.not_eq_true', List.contains_eq_mem, decide_eq_false_iff_not] at hk
          exact ⟨i, List.mem_cons_self, hk.1.1.1.1.1, fun d hd => ⟨(hk.1.1.1.2 d hd).1.1, fun hm => (List.mem_cons.1 hm).elim (hk.1.1.1.2 d hd).1.2 (hk.1.1.1.2 d hd).2⟩⟩
        | e2 i Z r i' Z' r' =>
          simp only [okT, Bool.and_eq_true, List.all_eq_true, decide_eq_true_eq, bne_iff_ne, Bool.not_eq_true', List.contains_eq_mem, decide_eq_false_iff_not] at hk
          exact ⟨i, List.mem_cons_self, hk.1.1.1.1.1.1.1, fun d hd => ⟨(hk.1.1.1.1.1.2 d hd).1.1, fun hm => (List.mem_cons.1 hm).elim (hk.1.1.1.1.1.2 d hd).1.2 (hk.1.1.1.1.1.2 d hd).2⟩⟩
      obtain ⟨i, h1, h2, h3⟩ := hfirst
      have : i ∈ Region.ready .any ops listed := by
        rw [mem_ready]
        refine ⟨(inv.all i h2).2 h1, ops[i], by simp [h2], fun e he hb => ?_⟩
        obtain ⟨h4, h5⟩ := h3 e.on ((mem_deps (by simp [h2] : ops[i]? = some ops[i]) e.on).2 ⟨e, he, hb, rfl⟩)
        have h6 : ¬ listed.getD e.on true = false := fun hf => h5 ((inv.all _ h4).1 hf)
        rw [getD_tf (by rw [inv.size]; exact h4)] at h6
        simpa using h6
      rw [hnil] at this
      cases this
    · obtain ⟨h0, o, ho, hall⟩ := mem_ready.1 hi
      have hin : i < ops.size := (Array.getElem?_eq_some_iff.1 ho).1
      have hmem := (inv.all i hin).1 h0
      have hno : ∀ x ∈ t.all, ancB A x i = false := by
        intro x hx
        cases hb : ancB A x i with
        | false => rfl
        | true =>
          have h1 := anc_listed hA inv.size inv.closed i x hin (fun d hd => by
            obtain ⟨e, he, hb, rfl⟩ := (mem_deps ho d).1 hd
            exact hall e he hb) hb
          have hxl := inv.lt x hx
          have h2 := (inv.all x hxl).2 hx
          rw [getD_tf (by rw [inv.size]; exact hxl), h1] at h2
          cases h2
      unfold wpOp
      rw [ho]
      simp only []
      rcases cases_of t hk hmem hno with hp | ⟨Z, r0, hn⟩
      · obtain ⟨hd1, hd2⟩ := del_all t hk hp
        have hk' := okT_del t hk hp
        have inv' := inv.set hi hd1
        rcases first_q hsel ho t hp (apB_of t hk hp hno) h with ⟨hw, v, hv, h'⟩ | ⟨hw, h'⟩
        · rw [if_pos hw]
          exact .inl (wp_value hv (ih _ _ _ _ _ (by omega) hk' inv' h'))
        · rw [if_neg (by rw [hw]; simp)]
          exact ih _ _ _ _ _ (by omega) hk' inv' h'
      · obtain ⟨hd1, hd2⟩ := att_all t hk hn
        have hk' := okT_att t hk hn
        have inv' := inv.set hi hd1
        rcases first_e hsel ho hQ t hn (preE_of t hk hn hno) h with ⟨hw, h'⟩ | ⟨hw, h'⟩
        · rw [if_pos hw]
          exact .inl (Oper.wp_mono (fun a' w' h => ih _ _ _ _ _ (by omega) hk' inv' h.2) h')
        · rw [if_neg (by rw [hw]; simp)]
          exact ih _ _ _ _ _ (by omega) hk' inv' h'
omit hsel
/-- A drawn region. -/
theorem wp_region_tree {id : Nat} {a : Act} {w : World} {t : HT} (hm : P.follows .mixedOrders = true) (hA : okA ops A = true) (hk : okT ops A [] t = true) (hl : t.all.length = ops.size) (hs : Region.noSelect ops = true)
    (hal : ((List.range ops.size).all fun y => t.all.contains y) = true)
    (hQ : ∀ c d v a w, Q (.panic c) (a.put d v) w → Q (.panic c) a w) (h : wpT P ops Q t [] a w.drew) : (Code.region id ops true).wp P Q a w := by
  refine wp_region_any hm ?_
  have hlt : ∀ y ∈ t.all, y < ops.size := by
    have : ∀ (t : HT) {E : List Nat}, okT ops A E t = true → ∀ y ∈ t.all, y < ops.size := by
      intro t
      induction t with
      | done => intro E _ y hy; cases hy
      | q i r ihr =>
        intro E hk y hy
        simp only [okT, Bool.and_eq_true, decide_eq_true_eq] at hk
        rcases List.mem_cons.1 hy with rfl | hy
        · exact hk.1.1.1.1
        · exact ihr hk.2 y hy
      | e i Z r ihr =>
        intro E hk y hy
        simp only [okT, Bool.and_eq_true, decide_eq_true_eq] at hk
        rcases List.mem_cons.1 hy with rfl | hy
        · exact hk.1.1.1.1.1
        · exact ihr hk.2 y hy
      | e2 i Z r i' Z' r' ihr ihr' =>
        intro E hk y hy
        simp only [okT, Bool.and_eq_true, decide_eq_true_eq] at hk
        rcases List.mem_cons.1 hy with rfl | hy
        · exact hk.1.1.1.1.1.1.1
        · exact ihr hk.1.1.2 y hy
    exact this t hk
  refine any_of_tree (Region.noSelect_spec hs) hA hQ ops.size t _ [] a _ hl hk ⟨by simp, fun y hy => ?_, hlt, fun j hj hl' => ?_⟩ h
  · have := List.all_eq_true.1 hal y (List.mem_range.2 hy)
    simp only [List.contains_eq_mem, decide_eq_true_eq] at this
    simp [hy, this]
  · simp [hj] at hl'
end

/-! ### Lowering of code -/
inductive Hint where
  | leaf
  | seq (a : Hint) (L : List Nat) (b : Hint)
  | cond (a b : Hint)
  | block (a : Hint)
  | loop (S K : List Nat) (a : Hint)
  | draw (A : List (List Nat)) (t : HT)

def lowLO (P : Program) (n : Nat) (ops : Array Oper) (o : Oper) : LO :=
  match o.dst.all (fun d => decide (d < n)), o.guard with
  | true, none => ⟨o.dst, none, lowOp P o⟩
  | true, some (j, want) => (match (ops[j]?).bind (·.dst) with
    | some t => ⟨o.dst, some (t, want), lowOp P o⟩
    | none => ⟨o.dst, none, .bad⟩)
  | false, _ => ⟨o.dst, none, .bad⟩
def lowDT (P : Program) (n : Nat) (ops : Array Oper) : HT → DT
  | .done => .done
  | .q i r => match ops[i]? with
    | some o => if isQ (lowOp P o) = true then .q i (lowLO P n ops o) (lowDT P n ops r) else .q i ⟨none, none, .bad⟩ .done
    | none => .q i ⟨none, none, .bad⟩ .done
  | .e i Z r => match ops[i]? with
    | some o => .e i Z (lowLO P n ops o) (lowDT P n ops r)
    | none => .q i ⟨none, none, .bad⟩ .done
  | .e2 i Z r i' Z' r' => match ops[i]?, ops[i']? with
    | some o, some o' => .e2 i Z (lowLO P n ops o) (lowDT P n ops r) i' Z' (lowLO P n ops o') (lowDT P n ops r')
    | _, _ => .q i ⟨none, none, .bad⟩ .done
def okDraw (P : Program) (ops : Array Oper) (A : List (List Nat)) (t : HT) : Bool :=
  P.follows .mixedOrders && okA ops A && okT ops A [] t && (t.all.length == ops.size) && Region.noSelect ops && ((List.range ops.size).all fun y => t.all.contains y)
def lowC (P : Program) (n : Nat) : Hint → Code → LC
  | .leaf, .skip => .skip
  | .leaf, .ret => .ret
  | .leaf, .exit id => .exit id
  | .leaf, .region _ ops false => .ops (ops.toList.map (lowLO P n ops))
  | .draw A t, .region _ ops true => if okDraw P ops A t = true then .draw (lowDT P n ops t) else .bad
  | .seq a L b, .seq x y => .seq (lowC P n a x) L (lowC P n b y)
  | .cond a b, .cond c x y => .cond c (lowC P n a x) (lowC P n b y)
  | .block a, .block id x => .block id (lowC P n a x)
  | .loop S K a, .loop x => .loop S K (lowC P n a x)
  | _, _ => .bad

/-! ### Soundness -/
section
variable {P : Program}

/-- A walk's end, told of frames and worlds. -/
def Lift (w0 : World) (ds : List Deferred) (n : Nat) (Q : Post) : Exit → Act → World → Prop := fun x a w =>
  Kin w0 w ∧ a.defers = ds ∧ a.tmps.size = n ∧ ∃ e, agree e a ∧ (∀ c, x = .panic c → e = []) ∧ Q x e (hp w)
theorem agree_nil (a : Act) : agree [] a := fun t v hg => by cases hg

structure At (w0 : World) (ds : List Deferred) (n : Nat) (e : Env) (h : H) (a : Act) (w : World) : Prop where
  kin : Kin w0 w
  defers : a.defers = ds
  size : a.tmps.size = n
  agree : agree e a
  heap : hp w = h

theorem At.put {w0 : World} {ds : List Deferred} {n : Nat} {e : Env} {h h' : H} {a : Act} {w w' : World} (x : At w0 ds n e h a w) (hk : Kin w w') (hh : hp w' = h') {d : Option Nat} (hd : ∀ t, d = some t → t < n) (v : Value) :
    At w0 ds n (e.put d v) h' (a.put d v) w' := by
  refine ⟨x.kin.trans hk, ?_, ?_, ?_, hh⟩
  · cases d <;> exact x.defers
  · cases d with
    | none => exact x.size
    | some t => simp [Act.put, x.size]
  · cases d with
    | none => exact x.agree
    | some d =>
      intro t u hg
      have hlt : d < a.tmps.size := by rw [x.size]; exact hd d rfl
      simp only [Env.put, Env.get] at hg
      by_cases hdt : d = t
      · subst hdt
        simp only [if_true, Option.some.injEq] at hg
        subst hg
        simp [Act.put, hlt]
      · rw [if_neg hdt] at hg
        have := x.agree t u hg
        simp only [Act.put]
        rw [Array.getElem?_setIfInBounds_ne hdt]
        exact this

theorem wanted_of {ops : Array Oper} {o : Oper} {e : Env} {a : Act} (ha : agree e a) {j : Nat} {want : Bool} {t : Nat} {v : Value} (hg : o.guard = some (j, want)) (ht : (ops[j]?).bind (·.dst) = some t) (hv : e.get t = some v) :
    Region.wanted o (yielded ops a.tmps) = gW v want := by
  unfold Region.wanted yielded
  rw [hg]
  simp only [ht, Option.bind_some, ha t v hv]
  cases v <;> simp [gW]
theorem wanted_none {o : Oper} {y : Nat → Option Bool} (hg : o.guard = none) : Region.wanted o y = true := by
  unfold Region.wanted; rw [hg]

/-- One operation under its guard. -/
theorem guard_sound {n : Nat} {ops : Array Oper} {o : Oper} {e : Env} {a : Act} (ha : agree e a) {A B : Prop} {X : Prop} (hbad : ∀ {K : Value → H → Prop} {Xp : List PanicEntry → H → Prop} {h : H}, lM P .bad e h K Xp → X)
    (hA : (lowLO P n ops o).l = lowOp P o → (lowLO P n ops o).d = o.dst → (∀ t, o.dst = some t → t < n) → Region.wanted o (yielded ops a.tmps) = true → A → X)
    (hB : (lowLO P n ops o).d = o.dst → (∀ t, o.dst = some t → t < n) → Region.wanted o (yielded ops a.tmps) = false → B → X)
    (hAbad : (lowLO P n ops o).l = .bad → (lowLO P n ops o).g = none → A → X)
    (hm : guardM e (lowLO P n ops o).g A B) : X := by
  have key := hm
  unfold lowLO at hm
  split at hm
  · rename_i h1 h2
    have hd : ∀ t, o.dst = some t → t < n := by
      intro t ht; rw [ht] at h1; simpa using h1
    refine hA (by unfold lowLO; rw [h1, h2]) (by unfold lowLO; rw [h1, h2]) hd (wanted_none h2) hm
  · rename_i j want h1 h2
    have hd : ∀ t, o.dst = some t → t < n := by
      intro t ht; rw [ht] at h1; simpa using h1
    split at hm
    · rename_i t ht
      have e1 : (lowLO P n ops o).l = lowOp P o := by unfold lowLO; rw [h1, h2]; simp only [ht]
      have e2 : (lowLO P n ops o).d = o.dst := by unfold lowLO; rw [h1, h2]; simp only [ht]
      unfold guardM at hm
      simp only at hm
      split at hm
      · rename_i v hv
        have hw := wanted_of ha h2 ht hv
        cases hgw : gW v want with
        | true => exact hA e1 e2 hd (hw.trans hgw) (hm.1 hgw)
        | false => exact hB e2 hd (hw.trans hgw) (hm.2 hgw)
      · exact hm.elim
    · rename_i ht
      exact hAbad (by unfold lowLO; rw [h1, h2]; simp only [ht]) (by unfold lowLO; rw [h1, h2]; simp only [ht]) hm
  · rename_i h1
    exact hAbad (by unfold lowLO; rw [h1]) (by unfold lowLO; rw [h1]) hm


theorem At.hp' {w0 : World} {ds : List Deferred} {n : Nat} {e : Env} {h : H} {a : Act} {w : World} (x : At w0 ds n e h a w) : At w0 ds n [] h a w := ⟨x.kin, x.defers, x.size, agree_nil a, x.heap⟩
theorem At.world {w0 : World} {ds : List Deferred} {n : Nat} {e : Env} {h h' : H} {a : Act} {w w' : World} (x : At w0 ds n e h a w) (hk : Kin w w') (hh : hp w' = h') : At w0 ds n e h' a w' := ⟨x.kin.trans hk, x.defers, x.size, x.agree, hh⟩

theorem ops_sound {w0 : World} {ds : List Deferred} {n : Nat} {ops : Array Oper} {K : Env → H → Prop} {X : List PanicEntry → H → Prop} {Q : Exit → Act → World → Prop}
    (hK : ∀ e h a w, At w0 ds n e h a w → K e h → Q .normal a w) (hX : ∀ c h a w, At w0 ds n [] h a w → X c h → Q (.panic c) a w) : ∀ (l : List Oper) (e : Env) (h : H) (a : Act) (w : World), At w0 ds n e h a w →
    vcOps P (l.map (lowLO P n ops)) K X e h → wpList P ops Q l a w
  | [], e, h, a, w, x, hm => hK e h a w x hm
  | o :: r, e, h, a, w, x, hm => by
    simp only [List.map_cons, vcOps] at hm
    unfold wpList
    refine guard_sound (P := P) (n := n) (ops := ops) (o := o) x.agree (fun h => h.elim) ?_ ?_ ?_ hm
    · intro e1 e2 hd hw hA
      rw [if_pos hw]
      rw [e1, e2] at hA
      refine .inl (l_sound x.agree x.heap o hA ?_ ?_)
      · intro v w' hk hKv
        exact ops_sound hK hX r _ _ _ _ (x.put hk rfl hd v) hKv
      · intro c w' hk hXc
        exact hX c _ a w' (x.hp'.world hk rfl) hXc
    · intro e2 hd hw hB
      rw [if_neg (by rw [hw]; simp)]
      rw [e2] at hB
      exact ops_sound hK hX r _ _ _ _ (x.put (Kin.refl w) x.heap hd undef) hB
    · intro e1 _ hA
      rw [e1] at hA
      exact hA.elim

theorem qV_noLd {l : L} {e : Env} {h h' : H} (hq : isQ l = true) (hl : isLd l = false) : qV l e h = qV l e h' := by
  cases l <;> first | rfl | (simp [isLd] at hl; done)

def Srel (S : List (Nat × L × Env × Value)) (S' : Sts) : Prop :=
  ∀ p' ∈ S', (∀ w, p'.2 w) ∨ ∃ p ∈ S, p.1 = p'.1 ∧ ∀ w, qV p.2.1 p.2.2.1 (hp w) = some p.2.2.2 → p'.2 w
theorem stab_mem {Z : List Nat} {S : List (Nat × L × Env × Value)} {h : H} (hs : stab Z S h) : ∀ p ∈ S, p.1 ∈ Z → qV p.2.1 p.2.2.1 h = some p.2.2.2 := by
  induction S with
  | nil => intro p hp; cases hp
  | cons q r ih =>
    intro p hp hz
    have hs' : if Z.contains q.1 = true then qV q.2.1 q.2.2.1 h = some q.2.2.2 ∧ stab Z r h else stab Z r h := hs
    rcases List.mem_cons.1 hp with hp | hp
    · subst hp
      rw [if_pos (by simpa using hz)] at hs'
      exact hs'.1
    · split at hs'
      · exact ih hs'.2 p hp hz
      · exact ih hs' p hp hz
theorem Srel.stab {S : List (Nat × L × Env × Value)} {S' : Sts} (hr : Srel S S') {Z : List Nat} {w : World} (hs : stab Z S (hp w)) : stabW Z S' w := by
  intro p' hp' hz
  rcases hr p' hp' with h | ⟨p, hp, he, h⟩
  · exact h w
  · exact h w (stab_mem hs p hp (he ▸ hz))

theorem dt_sound {w0 : World} {ds : List Deferred} {n : Nat} {ops : Array Oper} {K : Env → H → Prop} {X : List PanicEntry → H → Prop} {Q : Exit → Act → World → Prop}
    (hK : ∀ e h a w, At w0 ds n e h a w → K e h → Q .normal a w) (hX : ∀ c h a w, At w0 ds n [] h a w → X c h → Q (.panic c) a w) : ∀ (t : HT) (S : List (Nat × L × Env × Value)) (S' : Sts) (e : Env) (h : H) (a : Act) (w : World), At w0 ds n e h a w → Srel S S' →
    vcDT P (lowDT P n ops t) K X S e h → wpT P ops Q t S' a w
  | .done, S, S', e, h, a, w, x, hr, hm => hK e h a w x hm
  | .q i r, S, S', e, h, a, w, x, hr, hm => by
    have bad : ¬ vcDT P (.q i ⟨none, none, .bad⟩ .done) K X S e h := by
      intro hm; exact hm.elim
    unfold lowDT at hm
    split at hm
    · rename_i o ho
      split at hm
      · rename_i hq
        refine ⟨o, ho, ?_⟩
        simp only [vcDT] at hm
        refine guard_sound (P := P) (n := n) (ops := ops) (o := o) x.agree (fun h => h.elim) ?_ ?_ ?_ hm
        · intro e1 e2 hd hw hA
          rw [e1, e2] at hA
          unfold opt at hA
          split at hA
          · rename_i v hv
            have hy : ∀ w', qV (lowOp P o) e (hp w') = some v → QY P o a w' v := fun w' h' => q_sound x.agree rfl o hq h'
            refine .inl ⟨hw, v, hy w (by rw [x.heap]; exact hv), ?_⟩
            refine dt_sound hK hX r _ _ _ _ _ _ (x.put (Kin.refl w) x.heap hd v) ?_ hA
            intro p' hp'
            rcases List.mem_cons.1 hp' with rfl | hp'
            · cases hl : isLd (lowOp P o) with
              | true => exact .inr ⟨_, by simp only [if_true]; exact List.mem_cons_self, rfl, hy⟩
              | false => exact .inl fun w' => hy w' (by rw [qV_noLd hq hl (h' := h)]; exact hv)
            · rcases hr p' hp' with h' | ⟨p, hp, h'⟩
              · exact .inl h'
              · refine .inr ⟨p, ?_, h'⟩
                split
                · exact List.mem_cons_of_mem _ hp
                · exact hp
          · exact hA.elim
        · intro e2 hd hw hB
          rw [e2] at hB
          exact .inr ⟨hw, dt_sound hK hX r _ _ _ _ _ _ (x.put (Kin.refl w) x.heap hd undef) hr hB⟩
        · intro e1 _ hA
          rw [e1] at hA
          exact hA.elim
      · exact (bad hm).elim
    · exact (bad hm).elim
  | .e i Z r, S, S', e, h, a, w, x, hr, hm => by
    have bad : ¬ vcDT P (.q i ⟨none, none, .bad⟩ .done) K X S e h := by
      intro hm; exact hm.elim
    unfold lowDT at hm
    split at hm
    · rename_i o ho
      refine ⟨o, ho, ?_⟩
      simp only [vcDT] at hm
      refine guard_sound (P := P) (n := n) (ops := ops) (o := o) x.agree (fun h => h.elim) ?_ ?_ ?_ hm
      · intro e1 e2 hd hw hA
        rw [e1, e2] at hA
        refine .inl ⟨hw, l_sound x.agree x.heap o hA ?_ ?_⟩
        · intro v w' hk hKv
          exact ⟨hr.stab hKv.1, dt_sound hK hX r _ _ _ _ _ _ (x.put hk rfl hd v) hr hKv.2⟩
        · intro c w' hk hXc
          exact hX c _ a w' (x.hp'.world hk rfl) hXc
      · intro e2 hd hw hB
        rw [e2] at hB
        exact .inr ⟨hw, dt_sound hK hX r _ _ _ _ _ _ (x.put (Kin.refl w) x.heap hd undef) hr hB⟩
      · intro e1 _ hA
        rw [e1] at hA
        exact hA.elim
    · exact (bad hm).elim
  | .e2 i Z r i' Z' r', S, S', e, h, a, w, x, hr, hm => by
    have bad : ¬ vcDT P (.q i ⟨none, none, .bad⟩ .done) K X S e h := by
      intro hm; exact hm.elim
    unfold lowDT at hm
    split at hm
    · rename_i o o' ho ho'
      simp only [vcDT] at hm
      obtain ⟨hm, hm'⟩ := hm
      refine ⟨⟨o, ho, ?_⟩, ⟨o', ho', ?_⟩⟩
      · refine guard_sound (P := P) (n := n) (ops := ops) (o := o) x.agree (fun h => h.elim) ?_ ?_ ?_ hm
        · intro e1 e2 hd hw hA
          rw [e1, e2] at hA
          refine .inl ⟨hw, l_sound x.agree x.heap o hA ?_ ?_⟩
          · intro v w' hk hKv
            exact ⟨hr.stab hKv.1, dt_sound hK hX r _ _ _ _ _ _ (x.put hk rfl hd v) hr hKv.2⟩
          · intro c w' hk hXc
            exact hX c _ a w' (x.hp'.world hk rfl) hXc
        · intro e2 hd hw hB
          rw [e2] at hB
          exact .inr ⟨hw, dt_sound hK hX r _ _ _ _ _ _ (x.put (Kin.refl w) x.heap hd undef) hr hB⟩
        · intro e1 _ hA
          rw [e1] at hA
          exact hA.elim
      · refine guard_sound (P := P) (n := n) (ops := ops) (o := o') x.agree (fun h => h.elim) ?_ ?_ ?_ hm'
        · intro e1 e2 hd hw hA
          rw [e1, e2] at hA
          refine .inl ⟨hw, l_sound x.agree x.heap o' hA ?_ ?_⟩
          · intro v w' hk hKv
            exact ⟨hr.stab hKv.1, dt_sound hK hX r' _ _ _ _ _ _ (x.put hk rfl hd v) hr hKv.2⟩
          · intro c w' hk hXc
            exact hX c _ a w' (x.hp'.world hk rfl) hXc
        · intro e2 hd hw hB
          rw [e2] at hB
          exact .inr ⟨hw, dt_sound hK hX r' _ _ _ _ _ _ (x.put (Kin.refl w) x.heap hd undef) hr hB⟩
        · intro e1 _ hA
          rw [e1] at hA
          exact hA.elim
    · exact (bad hm).elim

theorem evs_get {e : Env} {a : Act} (ha : agree e a) : ∀ {S : List Nat} {vs : List Value}, evs e (S.map .tmp) = some vs → vs.length = S.length ∧ ∀ t v, Env.get (S.zip vs) t = some v → a.tmps[t]? = some v
  | [], vs, h => by
    simp only [List.map_nil, evs, Option.some.injEq] at h; subst h
    exact ⟨rfl, fun t v h => by cases h⟩
  | s :: r, vs, h => by
    simp only [List.map_cons, evs] at h
    obtain ⟨v, h1, h2⟩ := bindo h
    obtain ⟨ws, h3, h4⟩ := bindo h2
    simp only [Option.some.injEq] at h4; subst h4
    obtain ⟨h5, h6⟩ := evs_get ha h3
    refine ⟨by simp [h5], fun t u hg => ?_⟩
    simp only [List.zip_cons_cons, Env.get] at hg
    by_cases hst : s = t
    · rw [if_pos hst] at hg
      simp only [Option.some.injEq] at hg; subst hg; subst hst
      exact ha s v h1
    · rw [if_neg hst] at hg
      exact h6 t u hg
theorem keep_get (e : Env) : ∀ (L : List Nat) (t : Nat) (v : Value), (e.keep L).get t = some v → e.get t = some v
  | [], t, v, h => by cases h
  | s :: r, t, v, h => by
    unfold Env.keep at h
    split at h
    · rename_i u hu
      simp only [Env.get] at h
      by_cases hst : s = t
      · rw [if_pos hst] at h
        rw [← hst, hu]; exact h
      · rw [if_neg hst] at h
        exact keep_get e r t v h
    · exact keep_get e r t v h
theorem get_append (e f : Env) (t : Nat) (v : Value) (h : Env.get (e ++ f) t = some v) : e.get t = some v ∨ f.get t = some v := by
  induction e with
  | nil => exact .inr h
  | cons p r ih =>
    simp only [List.cons_append, Env.get] at h ⊢
    split at h
    · rename_i hp; left; rw [if_pos hp]; exact h
    · rename_i hp; rw [if_neg hp]; exact ih h

theorem vc_sound {w0 : World} {ds : List Deferred} {n : Nat} : ∀ (c : Code) (ht : Hint) (Q : Post) (e : Env) (h : H) (a : Act) (w : World), At w0 ds n e h a w → vc P (lowC P n ht c) Q e h → c.wp P (Lift w0 ds n Q) a w := by
  intro c
  induction c with
  | skip =>
    intro ht Q e h a w x hm
    cases ht <;> simp only [lowC, vc] at hm
    exact wp_skip ⟨x.kin, x.defers, x.size, e, x.agree, (fun c h => by cases h), x.heap ▸ hm⟩
  | ret =>
    intro ht Q e h a w x hm
    cases ht <;> simp only [lowC, vc] at hm
    exact wp_ret ⟨x.kin, x.defers, x.size, e, x.agree, (fun c h => by cases h), x.heap ▸ hm⟩
  | exit id =>
    intro ht Q e h a w x hm
    cases ht <;> simp only [lowC, vc] at hm
    exact wp_exit ⟨x.kin, x.defers, x.size, e, x.agree, (fun c h => by cases h), x.heap ▸ hm⟩
  | region id ops draw =>
    intro ht Q e h a w x hm
    cases ht with
    | leaf =>
      cases draw with
      | true => simp only [lowC, vc] at hm
      | false =>
        simp only [lowC, vc] at hm
        refine wp_region_list (ops_sound (w0 := w0) (ds := ds) (n := n) ?_ ?_ ops.toList e h a w x hm)
        · intro e h a w x hK
          exact ⟨x.kin, x.defers, x.size, e, x.agree, (fun c h => by cases h), x.heap ▸ hK⟩
        · intro c h a w x hX
          exact ⟨x.kin, x.defers, x.size, [], x.agree, (fun c h => rfl), x.heap ▸ hX⟩
    | draw A t =>
      cases draw with
      | false => simp only [lowC, vc] at hm
      | true =>
        simp only [lowC] at hm
        split at hm
        · rename_i hok
          simp only [okDraw, Bool.and_eq_true, beq_iff_eq] at hok
          obtain ⟨⟨⟨⟨⟨h1, h2⟩, h3⟩, h4⟩, h5⟩, h6⟩ := hok
          simp only [vc] at hm
          refine wp_region_tree (t := t) h1 h2 h3 h4 h5 h6 ?_ (dt_sound (w0 := w0) (ds := ds) (n := n) ?_ ?_ t [] [] e h a w.drew (x.world (kin_drew w) (by rw [hp_drew]; exact x.heap)) (fun p hp => by cases hp) hm)
          · rintro c d v a w ⟨k1, k2, k3, e', k4, k6, k5⟩
            have he := k6 c rfl
            subst he
            refine ⟨k1, ?_, ?_, [], agree_nil a, (fun c h => rfl), k5⟩
            · cases d <;> exact k2
            · cases d with
              | none => exact k3
              | some d => simpa [Act.put] using k3
          · intro e h a w x hK
            exact ⟨x.kin, x.defers, x.size, e, x.agree, (fun c h => by cases h), x.heap ▸ hK⟩
          · intro c h a w x hX
            exact ⟨x.kin, x.defers, x.size, [], x.agree, (fun c h => rfl), x.heap ▸ hX⟩
        · exact hm.elim
    | _ => simp only [lowC, vc] at hm
  | seq x y ihx ihy =>
    intro ht Q e h a w st hm
    cases ht with
    | seq hx L hy =>
      simp only [lowC, vc] at hm
      refine wp_seq (wp_mono (ihx hx _ e h a w st hm) ?_)
      rintro ex a' w' ⟨k1, k2, k3, e', k4, k6, k5⟩
      cases ex with
      | normal =>
        refine ihy hy Q _ _ a' w' ⟨k1, k2, k3, ?_, rfl⟩ k5
        exact fun t v hg => k4 t v (keep_get e' L t v hg)
      | _ => exact ⟨k1, k2, k3, e', k4, k6, k5⟩
    | _ => simp only [lowC, vc] at hm
  | cond c x y ihx ihy =>
    intro ht Q e h a w st hm
    cases ht with
    | cond hx hy =>
      simp only [lowC, vc, condM] at hm
      split at hm
      · rename_i b hb
        refine wp_cond_split (t := b) (ev_sound st.agree hb) (fun ht => ihx hx Q e h a w st (hm.1 ht)) (fun hf => ihy hy Q e h a w st (hm.2 hf))
      · exact hm.elim
    | _ => simp only [lowC, vc] at hm
  | block id x ih =>
    intro ht Q e h a w st hm
    cases ht with
    | block hx =>
      simp only [lowC, vc] at hm
      refine wp_block (wp_mono (ih hx _ e h a w st hm) ?_)
      rintro ex a' w' ⟨k1, k2, k3, e', k4, k6, k5⟩
      cases ex with
      | exit i =>
        simp only [Exit.inBlock]
        simp only at k5
        split
        · rename_i hi; rw [if_pos hi] at k5; exact ⟨k1, k2, k3, e', k4, (fun c h => by cases h), k5⟩
        · rename_i hi; rw [if_neg hi] at k5; exact ⟨k1, k2, k3, e', k4, (fun c h => by cases h), k5⟩
      | _ => exact ⟨k1, k2, k3, e', k4, k6, k5⟩
    | _ => simp only [lowC, vc] at hm
  | loop x ih =>
    intro ht Q e h a w st hm
    cases ht with
    | loop S K hx =>
      simp only [lowC, vc] at hm
      obtain ⟨I, μ, ⟨vs, h1, h2⟩, hround⟩ := hm
      have vsof : ∀ {e : Env} {a : Act} {vs : List Value}, agree e a → evs e (S.map .tmp) = some vs → vs = S.map fun t => a.tmps.getD t undef := by
        intro e a vs ha hv
        rw [← evs_sound ha hv, List.map_map]
        rfl
      have lift : ∀ {e e' : Env} {a : Act} {vs : List Value}, agree e' a → evs e' (S.map .tmp) = some vs → e'.keep K = e.keep K → agree (S.zip vs ++ e.keep K) a := by
        intro e e' a vs ha hv hk t v hg
        rcases get_append _ _ t v hg with hg | hg
        · exact (evs_get ha hv).2 t v hg
        · rw [← hk] at hg
          exact ha t v (keep_get e' K t v hg)
      refine wp_loop (fun a' w' => I (S.map fun t => a'.tmps.getD t undef) (hp w') ∧ At w0 ds n (S.zip (S.map fun t => a'.tmps.getD t undef) ++ e.keep K) (hp w') a' w') (fun a' w' => μ (S.map fun t => a'.tmps.getD t undef) (hp w')) ?_ ?_
      · have hv := vsof st.agree h1
        rw [← hv]
        exact ⟨by rw [st.heap]; exact h2, st.kin, st.defers, st.size, lift st.agree h1 rfl, rfl⟩
      · rintro a1 w1 ⟨hI, hat⟩
        refine wp_mono (ih hx _ _ _ a1 w1 hat (hround _ (hp w1) (by simp) hI)) ?_
        rintro ex a' w' ⟨k1, k2, k3, e', k4, k6, k5⟩
        cases ex with
        | normal =>
          obtain ⟨⟨vs', m1, m2, m3⟩, m4⟩ := k5
          have hv := vsof k4 m1
          rw [hv] at m2 m3
          exact ⟨⟨m2, k1, k2, k3, by rw [← hv]; exact lift k4 m1 m4, rfl⟩, m3⟩
        | _ => exact ⟨k1, k2, k3, e', k4, k6, k5⟩
    | _ => simp only [lowC, vc] at hm
  | _ =>
    intro ht Q e h a w st hm
    cases ht <;> simp only [lowC, vc] at hm
end
end Go.Proofs.Ytcncclkglcmpnaa
