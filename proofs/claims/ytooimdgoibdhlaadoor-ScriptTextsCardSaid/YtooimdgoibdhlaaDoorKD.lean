/-
  Functions that defer a closure; closures that recover.
-/
import Derived.Test.YtooimdgoibdhlaaDoorK9
import Derived.RecoverIn
namespace Go.Proofs.YtooimdgoibdhlaaDoor
set_option linter.unusedVariables false

/-- A deferred call, told by heaps: u is its caller's mode. -/
def DCall (P : Program) (f : FuncId) (args : Array Value) (u : FrameMode) (h : H) (R : Ending → FrameMode → H → Prop) : Prop :=
  ∀ w, hp w = h → CallsDIn Fence.wide 0 P f args u w fun e u' w' => Kin w w' ∧ R e u' (hp w')
theorem DCall.mono {P : Program} {f : FuncId} {args : Array Value} {u : FrameMode} {h : H} {R R' : Ending → FrameMode → H → Prop} (hc : DCall P f args u h R) (hr : ∀ e u' h', R e u' h' → R' e u' h') : DCall P f args u h R' :=
  fun w hw => (hc w hw).mono fun e u' w' ⟨k, r⟩ => ⟨k, hr e u' _ r⟩

/-- How a function ends behind its deferred call. -/
def endD (res : List Rv) (T : Env) (R : Ending → H → Prop) : FrameMode → H → Prop
  | .returning, h => retC res R .ret T h
  | .panicking c, h => R (.panicked c) h
  | .run, _ => False
def aftD (res : List Rv) (T : Env) (R : Ending → H → Prop) : Ending → FrameMode → H → Prop
  | .returned _, u, h => endD res T R (settle u) h
  | .panicked c, u, h => endD res T R (raised u c) h
  | .outgrown, _, _ => False
/-- The end of what follows a 'defer'. -/
def dQ (P : Program) (df : FuncId) (da : Array Value) (res : List Rv) (T : Env) (R : Ending → H → Prop) : Post := fun x _ h =>
  match x with
  | .ret | .normal => DCall P df da .returning h (aftD res T R)
  | .panic c => DCall P df da (.panicking c) h (aftD res T R)
  | _ => False
theorem dQ_ret {P : Program} {df : FuncId} {da : Array Value} {res : List Rv} {T : Env} {R : Ending → H → Prop} {e : Env} {h : H} : dQ P df da res T R .ret e h = DCall P df da .returning h (aftD res T R) := rfl
theorem dQ_normal {P : Program} {df : FuncId} {da : Array Value} {res : List Rv} {T : Env} {R : Ending → H → Prop} {e : Env} {h : H} : dQ P df da res T R .normal e h = DCall P df da .returning h (aftD res T R) := rfl
theorem dQ_panic {P : Program} {df : FuncId} {da : Array Value} {res : List Rv} {T : Env} {R : Ending → H → Prop} {e : Env} {h : H} (c : List PanicEntry) : dQ P df da res T R (.panic c) e h = DCall P df da (.panicking c) h (aftD res T R) := rfl

/-- A body with one 'defer' of a closure without arguments, on its spine. -/
inductive LD where
  | pre (a : LC) (L : List Nat) (r : LD)
  | dfr (ops : List LO) (x : Operand) (L Z : List Nat) (b : LC)
  | bad
inductive HD where
  | pre (a : Hint) (L : List Nat) (r : HD)
  | dfr (L Z : List Nat) (b : Hint)
def vcD (P : Program) (res : List Rv) (R : Ending → H → Prop) : LD → Env → H → Prop
  | .pre a L r, e, h => vc P a (fun x e' h' => match x with
    | .normal => vcD P res R r (e'.keep L) h'
    | x => retC res R x e' h') e h
  | .dfr ops x L Z b, e, h => vcOps P ops (fun e' h' => ∃ df cap, ev e' x = some (.func (.func df) #[] cap) ∧ callable P df = true ∧ vc P b (dQ P df cap res (e'.keep Z) R) (e'.keep L) h') (fun c h' => R (.panicked c) h') e h
  | .bad, _, _ => False
/-- The operations ahead of a region's last one, a 'defer'. -/
def splitD (ops : Array Oper) : Option (List Oper × Operand) :=
  match ops.toList.getLast? with
  | some o => match o.op, o.guard with
    | .defer ⟨.value x, ⟨[]⟩, _⟩, none => if o.dst.isNone && ops.toList.dropLast.all (fun o => !isDefer o) then some (ops.toList.dropLast, x) else none
    | _, _ => none
  | none => none
def lowD (P : Program) (lo n : Nat) : HD → Code → LD
  | .pre a L r, .seq x y => .pre (lowC P ⟨0, n⟩ a x) L (lowD P lo n r y)
  | .dfr L Z b, .seq (.region _ ops false) y => match splitD ops with
    | some (l, x) => if Z.all (fun t => decide (t < lo)) then .dfr (l.map (lowLO P ⟨0, n⟩ ops)) x L Z (lowC P ⟨lo, n⟩ b y) else .bad
    | none => .bad
  | _, _ => .bad
section
variable {P : Program}
theorem splitD_spec {ops : Array Oper} {l : List Oper} {x : Operand} (h : splitD ops = some (l, x)) : ∃ o ts, ops.toList = l ++ [o] ∧ o.op = .defer ⟨.value x, #[], ts⟩ ∧ o.guard = none ∧ o.dst = none ∧ ∀ o ∈ l, ∀ c, o.op ≠ .defer c := by
  unfold splitD at h
  split at h
  · rename_i o ho
    split at h
    · rename_i x' ts hop hg
      split at h
      · rename_i hc
        simp only [Option.some.injEq, Prod.mk.injEq] at h
        obtain ⟨rfl, rfl⟩ := h
        simp only [Bool.and_eq_true, Option.isNone_iff_eq_none] at hc
        obtain ⟨ys, hys⟩ := List.getLast?_eq_some_iff.1 ho
        refine ⟨o, ts, ?_, hop, hg, hc.1, fun o' ho' c hc' => ?_⟩
        · rw [hys]; simp
        · have := List.all_eq_true.1 hc.2 o' ho'
          simp [isDefer, hc'] at this
      · cases h
    · cases h
  · cases h
theorem agree_keep {e : Env} {a : Act} (h : agree e a) (L : List Nat) : agree (e.keep L) a := fun t v hg => h t v (keep_get e L t v hg)
theorem keep_mem {e : Env} : ∀ {L : List Nat} {t : Nat} {v : Value}, (e.keep L).get t = some v → t ∈ L
  | [], t, v, h => by cases h
  | s :: r, t, v, h => by
    unfold Env.keep at h
    split at h
    · simp only [Env.get] at h
      split at h
      · rename_i hs; subst hs; simp
      · exact List.mem_cons_of_mem _ (keep_mem h)
    · exact List.mem_cons_of_mem _ (keep_mem h)
/-- Behind the deferred call. -/
theorem end_sound {fn : Func} {res : List Rv} (hr : fn.results = (res.map Rv.var).toArray) (hok : res.all (Rv.ok P) = true) {R : Ending → H → Prop} {T : Env} {a : Act} (hT : agree T a) {u : FrameMode} {w w' : World} (k : Kin w w')
    (h : endD res T R u (hp w')) : LeavesInM Fence.wide 0 P fn a.tmps (fun e w' => Kin w w' ∧ R e (hp w')) [] u w' := by
  cases u with
  | run => exact h.elim
  | panicking c => exact ⟨k, h⟩
  | returning =>
    have hq' : (match rvVs T (hp w') res with | some [v] => R (.returned v) (hp w') | some vs => R (.returned (.tuple vs.toArray)) (hp w') | none => False) := h
    cases hvs : rvVs T (hp w') res with
    | none => rw [hvs] at hq'; exact hq'.elim
    | some vs =>
      rw [hvs] at hq'
      refine ⟨resV vs, resultsC_run hr hok hT hvs, k, ?_⟩
      cases vs with
      | nil => exact hq'
      | cons v r => cases r <;> exact hq'
theorem endD_run {res : List Rv} {T : Env} {R : Ending → H → Prop} {u : FrameMode} {h : H} (hd : endD res T R u h) : u ≠ .run := by
  rintro rfl; exact hd
/-- A deferred call of a closure, the marks behind it taken off. -/
theorem dfr_sound {fn : Func} {res : List Rv} (hr : fn.results = (res.map Rv.var).toArray) (hok : res.all (Rv.ok P) = true) {R : Ending → H → Prop} {T : Env} {a : Act} (hT : agree T a) {u : FrameMode} (hu : u ≠ .run) {w w' : World} (k : Kin w w') {df : FuncId} {cap : Array Value} (hdf : callable P df = true)
    {mb : Nat} (hmb : w.heap.size ≤ mb) {ds : List Deferred} (hm : MarksL mb ds w') (h : DCall P df cap u (hp w') (aftD res T R)) :
    LeavesInM Fence.wide 0 P fn a.tmps (fun e w' => Kin w w' ∧ R e (hp w')) ({ target := .fn (.func df) cap, args := #[] } :: ds) u w' := by
  refine ⟨hu, .inr ⟨(fun h => by cases h), .func df, cap, df, cap, rfl, ?_, (fun _ _ => trivial), ?_⟩⟩
  · simp [invoke, go_sem, callFunc_run hdf]
  refine (h w' rfl).mono ?_
  rintro e u' w3 ⟨k3, hq⟩
  have k13 := k.trans k3
  have hm3 : MarksL mb ds w3 := ⟨fun d hd => by obtain ⟨D, h1, h2, h3⟩ := hm.1 d hd; exact ⟨D, h1, k3.ctl _ _ h2 rfl, h3⟩, hm.2⟩
  have go : ∀ u2, endD res T R u2 (hp w3) → LeavesInM Fence.wide 0 P fn a.tmps (fun e w' => Kin w w' ∧ R e (hp w')) ds u2 w3 := by
    intro u2 h2
    refine leave_marks (endD_run h2) ds w3 hm3.1 hm3.2 fun w'' q1 q2 q3 q4 q5 q6 => ?_
    refine end_sound hr hok hT ⟨q2.trans k13.os, q3.trans k13.tape, q4.trans k13.output, Nat.le_trans k13.size q5, fun b o hb ho => ?_⟩ (by rw [q1]; exact h2)
    rw [q6 b (Nat.lt_of_lt_of_le (Array.getElem?_eq_some_iff.1 hb).1 hmb)]
    exact k13.ctl b o hb ho
  cases e with
  | returned v => exact go _ hq
  | panicked c => exact go _ hq
  | outgrown => exact hq.elim
/-- The end of what follows a 'defer'. -/
theorem dfr_post {fn : Func} {n lo : Nat} {res : List Rv} (hr : fn.results = (res.map Rv.var).toArray) (hok : res.all (Rv.ok P) = true) {R : Ending → H → Prop} {T : Env} {a0 : Act} (hT : agree T a0) (hTlo : ∀ t v, T.get t = some v → t < lo)
    {w0 w1 : World} (k1 : Kin w0 w1) {df : FuncId} {cap : Array Value} (hdf : callable P df = true) {ds : List Deferred} (hm : MarksL w0.heap.size ds w1) {x : Exit} {a : Act} {w : World}
    (hl : Lift w1 ⟨w1.heap.size, { target := .fn (.func df) cap, args := #[] } :: ds, lo, a0.tmps, false⟩ ⟨lo, n⟩ (dQ P df cap res T R) x a w) : bodyPostM Fence.wide 0 P fn (fun e w' => Kin w0 w' ∧ R e (hp w')) x a w := by
  obtain ⟨k2, ⟨⟨ds2, hd2, hm2, -⟩, hlow⟩, k3, e, k4, k6, k5⟩ := hl
  have hT2 : agree T a := fun t v hg => by rw [hlow t (hTlo t v hg)]; exact hT t v hg
  have key : ∀ u, u ≠ .run → DCall P df cap u (hp w) (aftD res T R) → LeavesInM Fence.wide 0 P fn a.tmps (fun e w' => Kin w0 w' ∧ R e (hp w')) a.defers u w := by
    intro u hu hc
    rw [hd2]
    refine leave_marksB hu ds2 w hm2.1 hm2.2 fun w3 q1 q2 q3 q4 q5 q6 => ?_
    have k12 := k1.trans k2
    have k3 : Kin w0 w3 := ⟨q2.trans k12.os, q3.trans k12.tape, q4.trans k12.output, Nat.le_trans k12.size q5, fun b o hb ho => by
      rw [q6 b (Nat.lt_of_lt_of_le (Array.getElem?_eq_some_iff.1 hb).1 k1.size)]; exact k12.ctl b o hb ho⟩
    refine dfr_sound hr hok hT2 hu k3 hdf (Nat.le_refl _) ⟨fun d hd => ?_, hm.2⟩ (by rw [q1]; exact hc)
    obtain ⟨D, h1, h2, h3⟩ := hm.1 d hd
    exact ⟨D, h1, by rw [q6 D (Array.getElem?_eq_some_iff.1 h2).1]; exact k2.ctl _ _ h2 rfl, h3⟩
  cases x with
  | ret => exact key _ (by simp) k5
  | normal => exact key _ (by simp) k5
  | panic c => exact key _ (by simp) k5
  | exit id => exact k5.elim
  | goto l => exact k5.elim
  | outgrown => exact k5.elim
theorem evb_sound {e : Env} {a : Act} (ha : agree e a) {x : Operand} {v : Value} (h : ev e x = some v) : a.eval x = v := ev_sound ha h
theorem vcD_sound {fn : Func} {n lo : Nat} {res : List Rv} (hr : fn.results = (res.map Rv.var).toArray) (hok : res.all (Rv.ok P) = true) {R : Ending → H → Prop} {w0 : World} : ∀ (hd : HD) (c : Code) (e : Env) (h : H) (a : Act) (w : World),
    At w0 ⟨w0.heap.size, [], 0, #[], false⟩ ⟨0, n⟩ e h a w → vcD P res R (lowD P lo n hd c) e h → c.wpIn Fence.wide 0 P (bodyPostM Fence.wide 0 P fn (fun e w' => Kin w0 w' ∧ R e (hp w'))) a w
  | .pre ha L hr', c, e, h, a, w, st, hm => by
    cases c with
    | seq x y =>
      simp only [lowD, vcD] at hm
      refine wpIn_seq (wpIn_mono (vc_sound x Fence.wide 0 (.inl rfl) (.inl ⟨rfl, rfl⟩) ha _ e h a w st hm) ?_)
      rintro ex a' w' ⟨k1, k2, k3, e', k4, k6, k5⟩
      cases ex with
      | normal => exact vcD_sound hr hok hr' y (e'.keep L) _ a' w' ⟨k1, st.base, k2, k3, agree_keep k4 L, rfl⟩ k5
      | ret => exact ret_post (n := n) hr hok ⟨k1, k2, k3, e', k4, k6, k5⟩
      | panic c => exact ret_post (n := n) hr hok ⟨k1, k2, k3, e', k4, k6, k5⟩
      | exit id => exact k5.elim
      | goto l => exact k5.elim
      | outgrown => exact k5.elim
    | _ => simp only [lowD, vcD] at hm
  | .dfr L Z hb, c, e, h, a, w, st, hm => by
    cases c with
    | seq x y =>
      cases x with
      | region id ops draw =>
        cases draw with
        | true => simp only [lowD, vcD] at hm
        | false =>
          simp only [lowD] at hm
          split at hm
          · rename_i l x hsp
            split at hm
            · rename_i hZ
              simp only [vcD] at hm
              obtain ⟨o, ts, hops, hop, hg, hdst, hnd⟩ := splitD_spec hsp
              refine wpIn_seq (wpIn_region_list ?_)
              rw [hops]
              refine ops_soundR (m := 0) (.inl rfl) (w0 := w0) (mb := ⟨w0.heap.size, [], 0, #[], false⟩) (n := ⟨0, n⟩) (rest := [o]) ?_ ?_ l e h a w st hm hnd
              · rintro e1 h1 a1 w1 st1 ⟨df, cap, hx, hdf, hv⟩
                have hev := ev_sound st1.agree hx
                unfold wpListIn
                rw [if_pos (wanted_none hg)]
                refine ⟨fun _ _ => trivial, ?_⟩
                have hrun : (o.semAt Fence.wide.round a1.eval).run P w1 = .ok (.defer { target := .fn (.func df) cap, args := #[] }) w1 := by
                  show (execOp a1.eval o).run P w1 = _
                  unfold execOp
                  rw [hop]
                  simp [resolve, hev, Deferred.ofValue]
                rw [hrun, Oper.uponIn_defer, hdst]
                obtain ⟨⟨ds, hds, hml, -⟩, -⟩ := st1.defers
                rw [List.append_nil] at hds
                show (Code.wpIn _ _ _ _ _ _ _)
                refine wpIn_mono (vc_sound y Fence.wide 0 (.inl rfl) (.inl ⟨rfl, rfl⟩) hb _ (e1.keep L) h1 _ w1 (w0 := w1) (mb := ⟨w1.heap.size, { target := .fn (.func df) cap, args := #[] } :: ds, lo, a1.tmps, false⟩) (n := ⟨lo, n⟩)
                  ⟨Kin.refl _, ⟨Nat.le_refl _, Nat.le_refl _⟩, ⟨⟨[], by show _ :: a1.defers = _; rw [hds]; rfl, ⟨fun d hd => (by cases hd), List.Pairwise.nil⟩, fun _ => rfl⟩, fun _ _ => rfl⟩, st1.size, agree_keep st1.agree L, st1.heap⟩ hv) ?_
                intro ex a2 w2 hl
                refine dfr_post hr hok (agree_keep st1.agree Z) (fun t v hg => ?_) st1.kin hdf hml hl
                have := List.all_eq_true.1 hZ t (keep_mem hg)
                simpa using this
              · intro c h1 a1 w1 st1 hX
                exact ret_post (n := n) (res := res) (x := .panic c) hr hok ⟨st1.kin, st1.defers, st1.size, [], agree_nil _, (fun _ _ => rfl), by show R (.panicked c) (hp w1); rw [st1.heap]; exact hX⟩
            · simp only [vcD] at hm
          · simp only [vcD] at hm
      | _ => simp only [lowD, vcD] at hm
    | _ => simp only [lowD, vcD] at hm
/-- A function with a 'defer' is what its lowered body's walk says. -/
theorem okD_of {f : FuncId} {fn : Func} {c : Code} {n lo : Nat} {res : List Rv} {hd : HD} {ld : LD} (hf : P.funcs[f]? = some fn) (hb : fn.body = some c) (hn : fn.ntmps = n) (hr : fn.results = (res.map Rv.var).toArray) (hok : res.all (Rv.ok P) = true)
    (hl : lowD P lo n hd c = ld) {args : List Value} (ha : args.length ≤ n) {h : H} {R : Value → H → Prop} (hv : vcD P res (okR R) ld (argEnv args 0) h) : Ok P f args.toArray h R := by
  intro w hw
  refine callsIn_wide.1 (callsIn_of_wp_marks (n := 0) hf hb trivial ?_)
  subst hl
  refine vcD_sound hr hok hd c _ _ _ _ ?_ hv
  refine ⟨Kin.refl w, ⟨Nat.le_refl _, Nat.zero_le _⟩, Marks.none _ _ rfl, ?_, ?_, hw⟩
  · simp [hn]; omega
  · intro t v hg
    obtain ⟨_, h2⟩ := argEnv_get args 0 t v hg
    simp only [Nat.sub_zero] at h2
    have hlt : t < args.length := (List.getElem?_eq_some_iff.1 h2).1
    show (args.toArray ++ Array.replicate (fn.ntmps - args.toArray.size) undef)[t]? = some v
    rw [Array.getElem?_append_left (by simpa using hlt)]
    simpa using h2
/-! ### recover -/
/-- What recover answers, and the mode behind it. -/
def recM : FrameMode → FrameMode × Value
  | .panicking ({ v, recovered := false, goexit := false } :: older) => (.panicking ({ v, recovered := true } :: older), v)
  | u => (u, .nilIface)
def recQ (R : Ending → FrameMode → H → Prop) (u : FrameMode) : Post := fun x _ h =>
  match x with
  | .ret | .normal => R (.returned (.tuple #[])) u h
  | .panic c => R (.panicked c) u h
  | _ => False
theorem recQ_ret {R : Ending → FrameMode → H → Prop} {u : FrameMode} {e : Env} {h : H} : recQ R u .ret e h = R (.returned (.tuple #[])) u h := rfl
theorem recQ_normal {R : Ending → FrameMode → H → Prop} {u : FrameMode} {e : Env} {h : H} : recQ R u .normal e h = R (.returned (.tuple #[])) u h := rfl
theorem recQ_panic {R : Ending → FrameMode → H → Prop} {u : FrameMode} {e : Env} {h : H} (c : List PanicEntry) : recQ R u (.panic c) e h = R (.panicked c) u h := rfl
/-- A closure that recovers first of all: the slot of the answer, the rest. -/
def lowR (P : Program) (n : Nat) (ht : Hint) : Code → Option (Nat × LC)
  | .seq (.region _ ops false) y => match ops.toList with
    | [o] => match o.op, o.guard, o.dst with
      | .call ⟨.builtin .recover, ⟨[]⟩, _⟩, none, some t => if t < n ∧ flatC y = true then some (t, lowC P ⟨0, n⟩ ht y) else none
      | _, _, _ => none
    | _ => none
  | _ => none
theorem recD_eq (c : Frame) (cs : List Frame) (u : FrameMode) (hu : c.mode = u) : (∃ v, recoverD (c :: cs) = some (v, { c with mode := (recM u).1 } :: cs) ∧ (recM u).2 = v) ∨ (recoverD (c :: cs) = none ∧ recM u = (u, .nilIface)) := by
  simp only [recoverD, hu, recM]
  split
  · exact .inl ⟨_, rfl, rfl⟩
  · rename_i hne
    right
    refine ⟨rfl, ?_⟩
    split
    · rename_i v older
      exact absurd rfl (hne v older)
    · rfl
theorem dcall_of {f : FuncId} {fn : Func} {c : Code} {n t : Nat} {ht : Hint} {lc : LC} (hf : P.funcs[f]? = some fn) (hb : fn.body = some c) (hn : fn.ntmps = n) (hr : fn.results = #[]) (hl : lowR P n ht c = some (t, lc)) {args : List Value} (ha : args.length ≤ n) {h : H} {u : FrameMode}
    {R : Ending → FrameMode → H → Prop} (hv : vc P lc (recQ R (recM u).1) ((t, (recM u).2) :: argEnv args 0) h) : DCall P f args.toArray u h R := by
  intro w hw
  unfold lowR at hl
  split at hl
  · rename_i id ops y
    split at hl
    · rename_i o hops
      split at hl
      · rename_i ts t' hop hg hd
        split at hl
        · rename_i hc
          simp only [Option.some.injEq, Prod.mk.injEq] at hl
          obtain ⟨rfl, rfl⟩ := hl
          refine callsDIn_of_wpSIn hf hb trivial fun c₀ cs hu => wpSIn_seq (wpSIn_region ?_)
          have hsz : ops.size = 1 := by rw [← Array.length_toList, hops]; rfl
          have h0 : ops[0]? = some o := by rw [← Array.getElem?_toList, hops]; rfl
          rw [hsz]
          have hrun : ∀ a : Act, (execOp a.eval o).run P w = .ok .recover w := by
            intro a
            unfold execOp
            rw [hop]
            simp [resolve, invoke, go_sem]
          obtain ⟨a0, ha0⟩ : ∃ a0 : Act, a0 = { tmps := args.toArray ++ Array.replicate (fn.ntmps - args.toArray.size) undef, defers := [] } := ⟨_, rfl⟩
          rw [← ha0]
          have fin : ∀ cs', cs' = { c₀ with mode := (recM u).1 } :: cs → Exit.thenS (y.wpSIn Fence.wide 0 P (bodyPostS P fn c₀ cs fun e u' w' => Kin w w' ∧ R e u' (hp w'))) (bodyPostS P fn c₀ cs fun e u' w' => Kin w w' ∧ R e u' (hp w')) .normal (a0.put (some t') (recM u).2) cs' w := by
            rintro cs' rfl
            refine wpSIn_of_wpIn rfl ?_
            refine wpIn_mono (vc_sound y Fence.wide 0 (.inl rfl) (mb := ⟨w.heap.size, [], 0, #[], true⟩) (.inr hc.2) (n := ⟨0, n⟩) ht _ _ h _ w (w0 := w) ?_ hv) ?_
            · have hat : At w ⟨w.heap.size, [], 0, #[], true⟩ ⟨0, n⟩ (argEnv args 0) h a0 w := by
                refine ⟨Kin.refl w, ⟨Nat.le_refl _, Nat.zero_le _⟩, Marks.none _ _ (by rw [ha0]), ?_, ?_, hw⟩
                · rw [ha0]; simp [hn]; omega
                · intro t v hg
                  obtain ⟨_, h2⟩ := argEnv_get args 0 t v hg
                  simp only [Nat.sub_zero] at h2
                  have hlt : t < args.length := (List.getElem?_eq_some_iff.1 h2).1
                  rw [ha0]
                  show (args.toArray ++ Array.replicate (fn.ntmps - args.toArray.size) undef)[t]? = some v
                  rw [Array.getElem?_append_left (by simpa using hlt)]
                  simpa using h2
              exact hat.put (Kin.refl w) hw (d := some t') (fun s hs => by cases hs; exact ⟨Nat.zero_le _, hc.1⟩) (recM u).2
            · rintro x a w' ⟨k1, ⟨⟨ds, kd, -, kf⟩, -⟩, k3, e, k4, k6, k5⟩
              have hdf : a.defers = [] := by rw [kd, kf rfl]; rfl
              have hres : (results fn a.tmps).run P w' = .ok (.tuple #[]) w' := by
                unfold results
                rw [hr]
                simp
              cases x with
              | ret => exact ⟨hdf, (recM u).1, rfl, _, hres, k1, k5⟩
              | normal => exact ⟨hdf, (recM u).1, rfl, _, hres, k1, k5⟩
              | panic c => exact ⟨hdf, (recM u).1, rfl, k1, k5⟩
              | exit id => exact k5.elim
              | goto l => exact k5.elim
              | outgrown => exact k5.elim
          show wpOpsSIn _ _ _ _ _ [0] _ _ _
          unfold wpOpsSIn
          simp only [h0]
          refine ⟨fun _ _ => trivial, ?_⟩
          rw [if_pos (wanted_none hg), hrun]
          simp only []
          rcases recD_eq c₀ cs u hu with ⟨v, h1, h2⟩ | ⟨h1, h2⟩
          · rw [h1]
            simp only []
            unfold wpOpsSIn
            rw [hd, ← h2]
            exact fin _ rfl
          · rw [h1]
            simp only []
            unfold wpOpsSIn
            have := fin ({ c₀ with mode := (recM u).1 } :: cs) rfl
            rw [h2] at this
            rw [hd]
            have hc0 : ({ c₀ with mode := u } : Frame) = c₀ := by subst hu; rfl
            rw [hc0] at this
            exact this
        · cases hl
      · cases hl
    · cases hl
  · cases hl
/-- The answer of recover is moved to a variable of its own. -/
def lowR2 (P : Program) (n : Nat) (ht : Hint) : Code → Option (Nat × Nat × LC)
  | .seq (.region _ ops false) y => match ops.toList with
    | [o, o2] => match o.op, o.guard, o.dst, o2.op, o2.guard, o2.dst with
      | .call ⟨.builtin .recover, ⟨[]⟩, _⟩, none, some t, .assign (.tmp t2), none, some s => if (t2 = t ∧ t < n) ∧ s < n ∧ flatC y = true then some (t, s, lowC P ⟨0, n⟩ ht y) else none
      | _, _, _, _, _, _ => none
    | _ => none
  | _ => none
theorem dcall_of2 {f : FuncId} {fn : Func} {c : Code} {n t s : Nat} {ht : Hint} {lc : LC} (hf : P.funcs[f]? = some fn) (hb : fn.body = some c) (hn : fn.ntmps = n) (hr : fn.results = #[]) (hl : lowR2 P n ht c = some (t, s, lc)) {args : List Value} (ha : args.length ≤ n) {h : H} {u : FrameMode}
    {R : Ending → FrameMode → H → Prop} (hv : vc P lc (recQ R (recM u).1) ((s, (recM u).2) :: (t, (recM u).2) :: argEnv args 0) h) : DCall P f args.toArray u h R := by
  intro w hw
  unfold lowR2 at hl
  split at hl
  · rename_i id ops y
    split at hl
    · rename_i o o2 hops
      split at hl
      · rename_i ts t' t2 s' hop hg hd hop2 hg2 hd2
        split at hl
        · rename_i hc
          simp only [Option.some.injEq, Prod.mk.injEq] at hl
          obtain ⟨rfl, rfl, rfl⟩ := hl
          obtain ⟨⟨rfl, hc1⟩, hc2, hc3⟩ := hc
          refine callsDIn_of_wpSIn hf hb trivial fun c₀ cs hu => wpSIn_seq (wpSIn_region ?_)
          have hsz : ops.size = 2 := by rw [← Array.length_toList, hops]; rfl
          have h0 : ops[0]? = some o := by rw [← Array.getElem?_toList, hops]; rfl
          have h1' : ops[1]? = some o2 := by rw [← Array.getElem?_toList, hops]; rfl
          rw [hsz]
          have hrun : ∀ a : Act, (execOp a.eval o).run P w = .ok .recover w := by
            intro a
            unfold execOp
            rw [hop]
            simp [resolve, invoke, go_sem]
          obtain ⟨a0, ha0⟩ : ∃ a0 : Act, a0 = { tmps := args.toArray ++ Array.replicate (fn.ntmps - args.toArray.size) undef, defers := [] } := ⟨_, rfl⟩
          rw [← ha0]
          have hat : At w ⟨w.heap.size, [], 0, #[], true⟩ ⟨0, n⟩ (argEnv args 0) h a0 w := by
            refine ⟨Kin.refl w, ⟨Nat.le_refl _, Nat.zero_le _⟩, Marks.none _ _ (by rw [ha0]), ?_, ?_, hw⟩
            · rw [ha0]; simp [hn]; omega
            · intro t v hg
              obtain ⟨_, h2⟩ := argEnv_get args 0 t v hg
              simp only [Nat.sub_zero] at h2
              have hlt : t < args.length := (List.getElem?_eq_some_iff.1 h2).1
              rw [ha0]
              show (args.toArray ++ Array.replicate (fn.ntmps - args.toArray.size) undef)[t]? = some v
              rw [Array.getElem?_append_left (by simpa using hlt)]
              simpa using h2
          have hat1 := hat.put (Kin.refl w) hw (d := some t2) (fun s hs => by cases hs; exact ⟨Nat.zero_le _, hc1⟩) (recM u).2
          have hrun2 : (execOp (a0.put (some t2) (recM u).2).eval o2).run P w = .ok (.value (recM u).2) w := by
            have hev : (a0.put (some t2) (recM u).2).eval (.tmp t2) = (recM u).2 := ev_sound (x := .tmp t2) hat1.agree (by simp [ev, Env.put, Env.get])
            unfold execOp
            rw [hop2]
            simp only [hev]
            rfl
          have fin : ∀ cs', cs' = { c₀ with mode := (recM u).1 } :: cs → Exit.thenS (y.wpSIn Fence.wide 0 P (bodyPostS P fn c₀ cs fun e u' w' => Kin w w' ∧ R e u' (hp w'))) (bodyPostS P fn c₀ cs fun e u' w' => Kin w w' ∧ R e u' (hp w')) .normal ((a0.put (some t2) (recM u).2).put (some s') (recM u).2) cs' w := by
            rintro cs' rfl
            refine wpSIn_of_wpIn rfl ?_
            refine wpIn_mono (vc_sound y Fence.wide 0 (.inl rfl) (mb := ⟨w.heap.size, [], 0, #[], true⟩) (.inr hc3) (n := ⟨0, n⟩) ht _ _ h _ w (w0 := w) ?_ hv) ?_
            · exact hat1.put (Kin.refl w) hw (d := some s') (fun s hs => by cases hs; exact ⟨Nat.zero_le _, hc2⟩) (recM u).2
            · rintro x a w' ⟨k1, ⟨⟨ds, kd, -, kf⟩, -⟩, k3, e, k4, k6, k5⟩
              have hdf : a.defers = [] := by rw [kd, kf rfl]; rfl
              have hres : (results fn a.tmps).run P w' = .ok (.tuple #[]) w' := by
                unfold results
                rw [hr]
                simp
              cases x with
              | ret => exact ⟨hdf, (recM u).1, rfl, _, hres, k1, k5⟩
              | normal => exact ⟨hdf, (recM u).1, rfl, _, hres, k1, k5⟩
              | panic c => exact ⟨hdf, (recM u).1, rfl, k1, k5⟩
              | exit id => exact k5.elim
              | goto l => exact k5.elim
              | outgrown => exact k5.elim
          show wpOpsSIn _ _ _ _ _ [0, 1] _ _ _
          unfold wpOpsSIn
          simp only [h0]
          refine ⟨fun _ _ => trivial, ?_⟩
          rw [if_pos (wanted_none hg), hrun]
          simp only []
          rcases recD_eq c₀ cs u hu with ⟨v, h1, h2⟩ | ⟨h1, h2⟩
          · rw [h1]
            simp only []
            rw [hd, ← h2]
            unfold wpOpsSIn
            simp only [h1']
            refine ⟨fun _ _ => trivial, ?_⟩
            rw [if_pos (wanted_none hg2), hrun2]
            simp only []
            unfold wpOpsSIn
            rw [hd2]
            exact fin _ rfl
          · rw [h1]
            simp only []
            have := fin ({ c₀ with mode := (recM u).1 } :: cs) rfl
            rw [h2] at this hrun2
            rw [hd]
            unfold wpOpsSIn
            simp only [h1']
            refine ⟨fun _ _ => trivial, ?_⟩
            rw [if_pos (wanted_none hg2), hrun2]
            simp only []
            unfold wpOpsSIn
            rw [hd2]
            have hc0 : ({ c₀ with mode := u } : Frame) = c₀ := by subst hu; rfl
            rw [hc0] at this
            exact this
        · cases hl
      · cases hl
    · cases hl
  · cases hl
/-! ### Type assertions -/
theorem raw_ta {e : Env} {h : H} {V : Value → H → Prop} {X : List PanicEntry → H → Prop} {d : Option Nat} {x : Operand} {t T ty : TypeId} {v : Value} {und : TypeDesc} (hu : P.underlying T = some und) (hni : ∀ m, und ≠ .interface m) (hx : ev e x = some (.iface T v)) (hk : V (.tuple #[v, .bool true]) h) :
    lM P (.raw ⟨d, .typeAssert x t T true, ty, "", #[], none⟩) e h V X := by
  intro a w ha hw
  have hev := ev_sound ha hx
  refine ⟨_, w, .inl ?_, Kin.refl w, by rw [hw]; exact hk⟩
  unfold execOp
  simp only [Instr.typeAssert, hev]
  cases und <;> first | exact absurd rfl (hni _) | simp [run_underlying hu]
theorem raw_ta1 {e : Env} {h : H} {V : Value → H → Prop} {X : List PanicEntry → H → Prop} {d : Option Nat} {x : Operand} {t T ty : TypeId} {v : Value} {und : TypeDesc} (hu : P.underlying T = some und) (hni : ∀ m, und ≠ .interface m) (hx : ev e x = some (.iface T v)) (hk : V v h) :
    lM P (.raw ⟨d, .typeAssert x t T false, ty, "", #[], none⟩) e h V X := by
  intro a w ha hw
  have hev := ev_sound ha hx
  refine ⟨_, w, .inl ?_, Kin.refl w, by rw [hw]; exact hk⟩
  unfold execOp
  simp only [Instr.typeAssert, hev]
  cases und <;> first | exact absurd rfl (hni _) | simp [run_underlying hu]
/-! ### Is an interface nil? -/
def isNilI : Value → Bool
  | .nilIface => true
  | _ => false
theorem run_eqnilD {t : TypeId} {v : Value} {ms : Array (String × TypeId)} (d : Nat) (hu : P.underlying t = some (.interface ms)) (hv : v = .nilIface ∨ ∃ T u, v = .iface T u) (w : World) : (Op.equalIn (d + 1) t v .nilIface).run P w = .ok (isNilI v) w := by
  have hr := run_underlying hu w
  rcases hv with rfl | ⟨T, u, rfl⟩ <;> simp [Op.equalIn, hr, isNilI]
theorem run_eqnil {t : TypeId} {v : Value} {ms : Array (String × TypeId)} (hu : P.underlying t = some (.interface ms)) (hv : v = .nilIface ∨ ∃ T u, v = .iface T u) (w : World) : (Op.equal t v .nilIface).run P w = .ok (isNilI v) w :=
  run_eqnilD 9999 hu hv w
theorem raw_eqnil {e : Env} {h : H} {V : Value → H → Prop} {X : List PanicEntry → H → Prop} {d : Option Nat} {x : Operand} {t ty yt : TypeId} {v : Value} {ms : Array (String × TypeId)} (hu : P.underlying t = some (.interface ms)) (hx : ev e x = some v) (hv : v = .nilIface ∨ ∃ T u, v = .iface T u) (hk : V (.bool (isNilI v)) h) :
    lM P (.raw ⟨d, .binOp .eql t x (.const .nilIface) yt, ty, "", #[], none⟩) e h V X := by
  intro a w ha hw
  have hev := ev_sound ha hx
  refine ⟨_, w, .inl ?_, Kin.refl w, by rw [hw]; exact hk⟩
  have hq := run_eqnil hu hv w
  unfold execOp
  have hc : a.eval (.const .nilIface) = .nilIface := rfl
  simp only [hev, hc]
  rcases hv with rfl | ⟨T, u, rfl⟩
  · simp [eqGuard, binOp, hq]
  · simp [eqGuard, binOp, hq]
theorem raw_nenil {e : Env} {h : H} {V : Value → H → Prop} {X : List PanicEntry → H → Prop} {d : Option Nat} {x : Operand} {t ty yt : TypeId} {v : Value} {ms : Array (String × TypeId)} (hu : P.underlying t = some (.interface ms)) (hx : ev e x = some v) (hv : v = .nilIface ∨ ∃ T u, v = .iface T u) (hk : V (.bool (!isNilI v)) h) :
    lM P (.raw ⟨d, .binOp .neq t x (.const .nilIface) yt, ty, "", #[], none⟩) e h V X := by
  intro a w ha hw
  have hev := ev_sound ha hx
  refine ⟨_, w, .inl ?_, Kin.refl w, by rw [hw]; exact hk⟩
  have hq := run_eqnil hu hv w
  unfold execOp
  have hc : a.eval (.const .nilIface) = .nilIface := rfl
  simp only [hev, hc]
  rcases hv with rfl | ⟨T, u, rfl⟩
  · simp [eqGuard, binOp, hq]
  · simp [eqGuard, binOp, hq]
/-! ### Structs of four numbers -/
theorem run_eqI {w : World} {t : TypeId} {k k' : IntKind} {a b : Int} (d : Nat) (hu : P.underlying t = some (.int k)) : (Op.equalIn (d + 1) t (.int k' a) (.int k' b)).run P w = .ok (a == b) w := by
  have hr := run_underlying hu w
  simp [Op.equalIn, hr]
theorem run_eqSt {w : World} {t : TypeId} {f1 f2 f3 f4 : Field} {xs : Array Value} {k : IntKind} {a1 a2 a3 a4 : Int} (d : Nat) (hu : P.underlying t = some (.struct #[f1, f2, f3, f4])) (hs : P.stoodInHeld t = false)
    (h1 : P.underlying f1.type = some (.int k)) (h2 : P.underlying f2.type = some (.int k)) (h3 : P.underlying f3.type = some (.int k)) (h4 : P.underlying f4.type = some (.int k))
    (x1 : xs[f1.offset]? = some (.int k a1)) (x2 : xs[f2.offset]? = some (.int k a2)) (x3 : xs[f3.offset]? = some (.int k a3)) (x4 : xs[f4.offset]? = some (.int k a4)) :
    (Op.equalIn (d + 2) t (.agg xs) (.agg xs)).run P w = .ok true w := by
  have hr := run_underlying hu w
  have p1 := fun w => partV (w := w) h1 rfl x1
  have p2 := fun w => partV (w := w) h2 rfl x2
  have p3 := fun w => partV (w := w) h3 rfl x3
  have p4 := fun w => partV (w := w) h4 rfl x4
  have q1 := fun w => run_eqI (w := w) (k' := k) (a := a1) (b := a1) d h1
  have q2 := fun w => run_eqI (w := w) (k' := k) (a := a2) (b := a2) d h2
  have q3 := fun w => run_eqI (w := w) (k' := k) (a := a3) (b := a3) d h3
  have q4 := fun w => run_eqI (w := w) (k' := k) (a := a4) (b := a4) d h4
  unfold Op.equalIn
  simp [hr, hs, p1, p2, p3, p4, q1, q2, q3, q4]
theorem raw_neSt {e : Env} {h : H} {V : Value → H → Prop} {X : List PanicEntry → H → Prop} {d : Option Nat} {x y : Operand} {t ty yt : TypeId} {xs : Array Value} (hq : ∀ w, (Op.equalIn (9998 + 2) t (.agg xs) (.agg xs)).run P w = .ok true w) (hx : ev e x = some (.agg xs)) (hy : ev e y = some (.agg xs)) (hg : P.eqGuardType P.depth t = false) (hk : V (.bool false) h) :
    lM P (.raw ⟨d, .binOp .neq t x y yt, ty, "", #[], none⟩) e h V X := by
  intro a w ha hw
  have hev := ev_sound ha hx
  have hev2 := ev_sound ha hy
  refine ⟨_, w, .inl ?_, Kin.refl w, by rw [hw]; exact hk⟩
  have hq' : (Op.equal t (.agg xs) (.agg xs)).run P w = .ok true w := hq w
  unfold execOp
  simp only [hev, hev2]
  simp [eqGuard, binOp, hq', hg]
end
end Go.Proofs.YtooimdgoibdhlaaDoor
