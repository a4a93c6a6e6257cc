/-
  Entry into a function, and the rules by which a walk goes on.
-/
import Derived.Test.YtojhnclkhiffkaaK8
import Derived.KernelRfl
namespace Go.Proofs.Ytojhnclkhiffkaa
open Go.Conc (G stepG_end stepG_enter stepG_leave base enter_at listed mem_listed)
set_option linter.unusedVariables false
variable {Pg : Program} {P : Cx Pg}

def argEnv : List Value → Nat → Env
  | [], _ => []
  | v :: r, i => (i, v) :: argEnv r (i + 1)

theorem argEnv_get : ∀ (l : List Value) (i t : Nat) (v : Value), (argEnv l i).get t = some v → i ≤ t ∧ l[t - i]? = some v
  | [], i, t, v, h => by cases h
  | x :: r, i, t, v, h => by
    simp only [argEnv, Env.get] at h
    by_cases hit : i = t
    · rw [if_pos hit] at h
      subst hit
      exact ⟨Nat.le_refl _, by simpa using h⟩
    · rw [if_neg hit] at h
      obtain ⟨h1, h2⟩ := argEnv_get r (i + 1) t v h
      refine ⟨by omega, ?_⟩
      rw [show t - i = (t - (i + 1)) + 1 by omega]
      simpa using h2

theorem mapM_res (P : Program) (w : World) (tmps : Array Value) {F : ResultVar → Sem Value} (hF : ∀ t, F (.tmp t) = pure (tmps.getD t undef)) : ∀ l : List Nat, (List.mapM F (l.map ResultVar.tmp)).run P w = .ok (l.map fun t => tmps.getD t undef) w
  | [] => by simp
  | t :: r => by
    have ih := mapM_res P w tmps hF r
    simp only [List.map_cons, List.mapM_cons, hF, Sem.run_bind, Sem.run_pure, Result.andThen_ok, ih]
theorem results_run (P : Program) (w : World) {fn : Func} {res : List Nat} (hr : fn.results = (res.map ResultVar.tmp).toArray) (tmps : Array Value) :
    (results fn tmps).run P w = .ok (match res.map fun t => tmps.getD t undef with | [v] => v | vs => .tuple vs.toArray) w := by
  unfold results
  rw [hr, Array.mapM_eq_mapM_toList]
  simp only [Sem.run_bind, Sem.run_map]
  rw [mapM_res P w tmps (fun _ => rfl) res]
  simp only [Result.andThen_ok, Sem.run_pure]
  congr 1
  cases hres : res.map fun t => tmps.getD t undef with
  | nil => rfl
  | cons v r => cases r <;> simp

theorem ev_mapM_res (P : Program) (w : World) (es : Array Event) (tmps : Array Value) {F : ResultVar → Sem Value} (hF : ∀ t, F (.tmp t) = pure (tmps.getD t undef)) : ∀ l : List Nat, (List.mapM F (l.map ResultVar.tmp)).events P w es = es
  | [] => by simp
  | t :: r => by
    have ih := ev_mapM_res P w es tmps hF r
    have h2 := mapM_res P w tmps hF r
    simp only [List.map_cons, List.mapM_cons, hF, Sem.events_bind, Sem.run_pure, Sem.events_pure, Result.evThen_ok, ih, h2]
theorem results_ev (P : Program) (w : World) (es : Array Event) {fn : Func} {res : List Nat} (hr : fn.results = (res.map ResultVar.tmp).toArray) (tmps : Array Value) : (results fn tmps).events P w es = es := by
  unfold results
  rw [hr, Array.mapM_eq_mapM_toList]
  simp only [Sem.events_bind, Sem.run_map, Sem.events_map]
  rw [mapM_res P w tmps (fun _ => rfl) res, ev_mapM_res P w es tmps (fun _ => rfl) res]
  simp only [Result.andThen_ok, Sem.run_pure, Result.evThen_ok]
  simp
  try (split <;> simp)
def resV : List Value → Value
  | [v] => v
  | vs => .tuple vs.toArray
theorem results_runV (P : Program) (w : World) {fn : Func} {res : List Nat} (hr : fn.results = (res.map ResultVar.tmp).toArray) (tmps : Array Value) {vs : List Value} (hv : (res.map fun t => tmps.getD t undef) = vs) : (results fn tmps).run P w = .ok (resV vs) w := by
  rw [results_run P w hr tmps]
  subst hv
  cases (res.map fun t => tmps.getD t undef) with
  | nil => rfl
  | cons v r => cases r <;> rfl
theorem getD_of {a : Array Value} {t : Nat} {v : Value} (h : a[t]? = some v) : a.getD t undef = v := by simp [h]
def okR (R : Value → H → Prop) : Ending → H → Prop := fun e h => ∃ v, e = .returned v ∧ R v h
theorem okR_ret (R : Value → H → Prop) (v : Value) (h : H) : okR R (.returned v) h = R v h := by simp [okR]
/-- What a call of a function with a body is. -/
theorem callFunc_name {f : FuncId} {fn : Func} {c : Code} (hf : P.prog.funcs[f]? = some fn) (hb : fn.body = some c) (hc : (fn.name == "runtime.NumGoroutine") = false) (args : Array Value) (w : World) : (callFunc f args).run Pg w = .ok (.enter f args) w ∧ (callFunc f args).events Pg w #[] = #[] := by
  have h1 : ¬ fn.name = "runtime.NumGoroutine" := by simpa using hc
  have h2 : ¬ fn.body = none := by rw [hb]; simp
  have hf' : Pg.funcs[f]? = some fn := hf
  constructor <;> simp [callFunc, hf', h1, h2]
/-- A function is what its lowered body's walk says. -/
theorem callsE_of {f : FuncId} {fn : Func} {c : Code} {n : Nat} {res : List Nat} {ht : Hint} {lc : LC} (hf : P.prog.funcs[f]? = some fn) (hb : fn.body = some c) (hn : fn.ntmps = n) (hr : fn.results = (res.map ResultVar.tmp).toArray)
    (hl : lowC P.prog ⟨0, n⟩ ht c = lc) {args : List Value} (ha : args.length ≤ n) {h : H} {R : Ending → H → Prop} (hv : vc P lc (retQ res R) (argEnv args 0) h) (hc : (fn.name == "runtime.NumGoroutine") = false := by kernel_rfl) : CallsE P f args.toArray h R := by
  intro b a k cs ops i rest o ho hw hk hs hV
  have e1 : ∀ w, (execOp a.eval o).run Pg w = .ok (.enter f args.toArray) w := fun w => by
    have := congrArg Prod.fst (hs w)
    rw [Sem.runT_fst, Sem.runT_fst] at this
    exact this.trans (callFunc_name hf hb hc _ w).1
  have e2 : ∀ w, listed Pg b.fn a o w = #[] := fun w => by
    refine Array.eq_empty_iff_forall_not_mem.2 fun e he => ?_
    have h1 := mem_listed he
    have : (execOp a.eval o).events Pg w #[] = (callFunc f args.toArray).events Pg w #[] := congrArg Prod.snd (hs w)
    rw [this, (callFunc_name hf hb hc _ w).2] at h1
    simp at h1
  refine Cx.idle rfl (fun w => (stepG_enter ho hw hk (e1 w)).trans (by rw [e2 w])) ?_
  rw [enter_at (P := Pg) args.toArray hf hb]
  subst hl
  have hat : At ⟨0, n⟩ [] (argEnv args 0) { tmps := args.toArray ++ Array.replicate (fn.ntmps - args.toArray.size) undef, defers := [] } := by
    refine ⟨rfl, ?_, ?_⟩
    · simp [hn]; omega
    · intro t v hg
      obtain ⟨_, h2⟩ := argEnv_get args 0 t v hg
      simp only [Nat.sub_zero] at h2
      have hlt : t < args.length := (List.getElem?_eq_some_iff.1 h2).1
      show (args.toArray ++ Array.replicate (fn.ntmps - args.toArray.size) undef)[t]? = some v
      rw [Array.getElem?_append_left (by simpa using hlt)]
      simpa using h2
  have leave : ∀ (e' : Env) (h' : H) (a' : Act) (todo : List Item), At ⟨0, n⟩ [] e' a' → (match evs e' (res.map .tmp) with | some [v] => R (.returned v) h' | some vs => R (.returned (.tuple vs.toArray)) h' | none => False) →
      P.J (G { (base f).at a' todo with mode := .returning } (b.at a (.inRegion ops (i :: rest) :: k) :: cs)) h' := by
    intro e' h' a' todo hat' hq
    cases hvs : evs e' (res.map .tmp) with
    | none => rw [hvs] at hq; exact hq.elim
    | some vs =>
      rw [hvs] at hq
      have hvs' : res.map (fun t => a'.tmps.getD t undef) = vs := by
        rw [← evs_sound hat'.agree hvs, List.map_map]; rfl
      have hrun : ∀ w, (results fn a'.tmps).run Pg w = .ok (resV vs) w := fun w => results_runV Pg w hr a'.tmps hvs'
      refine Cx.idle rfl (fun w => stepG_leave (b := base f) rfl hat'.defers hf (hrun w) (results_ev Pg w _ hr _)) ?_
      rw [Frame.finish_at, ho]
      refine hV _ _ ?_
      cases vs with
      | nil => exact hq
      | cons v r => cases r <;> exact hq
  refine vc_sound c ht _ _ _ _ hat hv (base f) [] _ (by simp [base]) ?_
  intro x e' h' a' hx hat' hq
  cases x with
  | normal => exact Cx.idle rfl (fun _ => stepG_end) (leave e' h' a' [] hat' hq)
  | ret => exact fun todo => leave e' h' a' todo hat' hq
  | exit id => exact hq.elim
  | _ => exact hx.elim
theorem ok_of {f : FuncId} {fn : Func} {c : Code} {n : Nat} {res : List Nat} {ht : Hint} {lc : LC} (hf : P.prog.funcs[f]? = some fn) (hb : fn.body = some c) (hn : fn.ntmps = n) (hr : fn.results = (res.map ResultVar.tmp).toArray)
    (hl : lowC P.prog ⟨0, n⟩ ht c = lc) {args : List Value} (ha : args.length ≤ n) {h : H} {R : Value → H → Prop} (hv : vc P lc (retQ res (okR R)) (argEnv args 0) h) (hc : (fn.name == "runtime.NumGoroutine") = false := by kernel_rfl) : Ok P f args.toArray h R :=
  callsE_of hf hb hn hr hl ha hv hc

/-! ### Rules -/
/-- Two ways, neither looked into yet. -/
def br (c A B : Prop) : Prop := (c → A) ∧ (¬ c → B)
theorem br_intro {c A B : Prop} (h1 : c → A) (h2 : ¬ c → B) : br c A B := ⟨h1, h2⟩
theorem br_T (A B : Prop) : br True A B = A := by simp [br]
theorem br_F (A B : Prop) : br False A B = B := by simp [br]
section
variable {Q : Post} {e : Env} {h : H} {K : Env → H → Prop} {X : List PanicEntry → H → Prop} {V : Value → H → Prop}
/-- 'bind', looked into from its front. -/
def ob {α β : Type} (o : Option α) (f : α → Option β) : Option β := o.bind f
theorem vc_skip : vc P .skip Q e h = Q .normal e h := rfl
theorem vc_ret : vc P .ret Q e h = Q .ret e h := rfl
theorem vc_exit (id : Nat) : vc P (.exit id) Q e h = Q (.exit id) e h := rfl
theorem vc_ops (l : List LO) : vc P (.ops l) Q e h = vcOps P l (fun e' h' => Q .normal e' h') (fun c h' => Q (.panic c) [] h') e h := rfl
theorem vc_draw (t : DT) : vc P (.draw t) Q e h = vcDT P t (fun e' h' => Q .normal e' h') (fun c h' => Q (.panic c) [] h') [] e h := rfl
/-- What follows, behind one name. -/
def seqQ {Pg : Program} (P : Cx Pg) (L : List Nat) (b : LC) (Q : Post) : Post := fun x e' h' =>
  match x with
  | .normal => vc P b Q (e'.keep L) h'
  | x => Q x e' h'
theorem vc_seq (a : LC) (L : List Nat) (b : LC) : vc P (.seq a L b) Q e h = vc P a (seqQ P L b Q) e h := by
  show vc P a _ e h = _
  congr 1
theorem seqQ_normal (L : List Nat) (b : LC) : seqQ P L b Q .normal e h = vc P b Q (e.keep L) h := rfl
theorem seqQ_ret (L : List Nat) (b : LC) : seqQ P L b Q .ret e h = Q .ret e h := rfl
theorem seqQ_exit (L : List Nat) (b : LC) (i : Nat) : seqQ P L b Q (.exit i) e h = Q (.exit i) e h := rfl
theorem seqQ_panic (L : List Nat) (b : LC) (c : List PanicEntry) : seqQ P L b Q (.panic c) e h = Q (.panic c) e h := rfl
theorem vc_cond (c : Operand) (a b : LC) : vc P (.cond c a b) Q e h = condM (ev e c) (vc P a Q e h) (vc P b Q e h) := rfl
theorem condM_t (A B : Prop) : condM (some (.bool true)) A B = A := by simp [condM]
theorem condM_f (A B : Prop) : condM (some (.bool false)) A B = B := by simp [condM]
theorem condM_bool (b : Bool) (A B : Prop) : condM (some (.bool b)) A B = br (b = true) A B := by cases b <;> simp [condM, br]
def blockQ (id : Nat) (Q : Post) : Post := fun x e' h' =>
  match x with
  | .exit i => if i = id then Q .normal e' h' else Q (.exit i) e' h'
  | x => Q x e' h'
theorem vc_block (id : Nat) (c : LC) : vc P (.block id c) Q e h = vc P c (blockQ id Q) e h := by
  show vc P c _ e h = _
  congr 1
theorem blockQ_normal (id : Nat) : blockQ id Q .normal e h = Q .normal e h := rfl
theorem blockQ_ret (id : Nat) : blockQ id Q .ret e h = Q .ret e h := rfl
theorem blockQ_panic (id : Nat) (c : List PanicEntry) : blockQ id Q (.panic c) e h = Q (.panic c) e h := rfl
theorem blockQ_exit (id i : Nat) : blockQ id Q (.exit i) e h = if i = id then Q .normal e h else Q (.exit i) e h := rfl
theorem vcOps_nil : vcOps P [] K X e h = K e h := rfl
theorem vcOps_cons (d : Option Nat) (g : Option (Nat × Bool)) (l : L) (r : List LO) : vcOps P (⟨d, g, l⟩ :: r) K X e h = guardM e g (lM P l e h (fun v h' => vcOps P r K X (e.put d v) h') X) (vcOps P r K X (e.put d undef) h) := rfl
theorem guardM_none (A B : Prop) : guardM e none A B = A := rfl
def gM (o : Option Value) (want : Bool) (A B : Prop) : Prop :=
  match o with
  | some v => (gW v want = true → A) ∧ (gW v want = false → B)
  | none => False
theorem guardM_some (t : Nat) (want : Bool) (A B : Prop) : guardM e (some (t, want)) A B = gM (e.get t) want A B := rfl
theorem gM_undef (want : Bool) (A B : Prop) : gM (some undef) want A B = B := by simp [gM, gW, undef]
theorem gM_tt (A B : Prop) : gM (some (.bool true)) true A B = A := by simp [gM, gW]
theorem gM_tf (A B : Prop) : gM (some (.bool true)) false A B = B := by simp [gM, gW]
theorem gM_ft (A B : Prop) : gM (some (.bool false)) true A B = B := by simp [gM, gW]
theorem gM_ff (A B : Prop) : gM (some (.bool false)) false A B = A := by simp [gM, gW]
theorem gM_t (b : Bool) (A B : Prop) : gM (some (.bool b)) true A B = br (b = true) A B := by cases b <;> simp [gM, gW, br]
theorem gM_f (b : Bool) (A B : Prop) : gM (some (.bool b)) false A B = br (b = true) B A := by cases b <;> simp [gM, gW, br]
variable (S : List (Nat × L × Env × Value))
theorem vcDT_done : vcDT P .done K X S e h = K e h := rfl
def pushS (i : Nat) (l : L) (e : Env) (v : Value) (S : List (Nat × L × Env × Value)) : List (Nat × L × Env × Value) := if isLd l then (i, l, e, v) :: S else S
theorem vcDT_q (i : Nat) (d : Option Nat) (g : Option (Nat × Bool)) (l : L) (r : DT) : vcDT P (.q i ⟨d, g, l⟩ r) K X S e h = guardM e g (opt (qV l e h) h fun v h' => vcDT P r K X (pushS i l e v S) (e.put d v) h') (vcDT P r K X S (e.put d undef) h) := rfl
theorem pushS_ld (i : Nat) (a : Operand) (v : Value) : pushS i (.ld a) e v S = (i, .ld a, e, v) :: S := rfl
theorem pushS_ldn (i n : Nat) (a : Operand) (v : Value) : pushS i (.ldn n a) e v S = (i, .ldn n a, e, v) :: S := rfl
theorem pushS_no {l : L} (hl : isLd l = false) (i : Nat) (v : Value) : pushS i l e v S = S := by unfold pushS; rw [hl]; rfl
theorem vcDT_e (i : Nat) (Z : List Nat) (d : Option Nat) (g : Option (Nat × Bool)) (l : L) (r : DT) : vcDT P (.e i Z ⟨d, g, l⟩ r) K X S e h = guardM e g (lM P l e h (fun v h' => stab Z S h' ∧ vcDT P r K X S (e.put d v) h') X) (vcDT P r K X S (e.put d undef) h) := rfl
theorem vcDT_al (i : Nat) (Z : List Nat) (d : Option Nat) (g : Option (Nat × Bool)) (l : L) (r t : DT) : vcDT P (.al i Z ⟨d, g, l⟩ r t) K X S e h = (guardM e g (lM P l e h (fun v h' => stab Z S h' ∧ vcDT P r K X S (e.put d v) h') X) (vcDT P r K X S (e.put d undef) h) ∧ vcDT P t K X S e h) := rfl
theorem stab_nil (Z : List Nat) : stab Z [] h = True := rfl
def memN (i : Nat) : List Nat → Bool
  | [] => false
  | x :: r => if x = i then true else memN i r
theorem memN_nil (i : Nat) : memN i [] = false := rfl
theorem memN_cons (i x : Nat) (r : List Nat) : memN i (x :: r) = if x = i then true else memN i r := rfl
theorem memN_eq (i : Nat) (l : List Nat) : l.contains i = memN i l := by
  induction l with
  | nil => rfl
  | cons x r ih =>
    simp only [List.contains_cons, memN, ih]
    by_cases h : x = i
    · subst h; simp
    · rw [if_neg h]; simp [Ne.symm h]
theorem stab_cons (Z : List Nat) (i : Nat) (o : L) (v : Value) : stab Z ((i, o, e, v) :: S) h = (if memN i Z = true then qV o e h = some v ∧ stab Z S h else stab Z S h) := by
  rw [← memN_eq]; rfl
theorem opt_some (v : Value) : opt (some v) h V = V v h := rfl
theorem opt_none : opt none h V = False := rfl
theorem get_cons (d : Nat) (v : Value) (r : Env) (t : Nat) : Env.get ((d, v) :: r) t = if d = t then some v else Env.get r t := rfl
theorem get_nil (t : Nat) : Env.get [] t = none := rfl
theorem ev_tmp (t : Nat) : ev e (.tmp t) = e.get t := rfl
theorem ev_const (v : Value) : ev e (.const v) = some v := rfl
theorem ev_global (g : Nat) : ev e (.global g) = some (.pointer (some ⟨g, 0, none⟩)) := rfl
theorem ev_func (f : FuncId) : ev e (.func f) = some (.func (.func f) #[] #[]) := rfl
theorem put_some (d : Nat) (v : Value) : e.put (some d) v = (d, v) :: e := rfl
theorem put_none (v : Value) : e.put none v = e := rfl
theorem keep_nil : e.keep [] = [] := rfl
def keepM (o : Option Value) (t : Nat) (r : Env) : Env :=
  match o with
  | some v => (t, v) :: r
  | none => r
theorem keep_cons (t : Nat) (r : List Nat) : e.keep (t :: r) = keepM (e.get t) t (e.keep r) := rfl
theorem keepM_some (v : Value) (t : Nat) (r : Env) : keepM (some v) t r = (t, v) :: r := rfl
theorem keepM_none (t : Nat) (r : Env) : keepM none t r = r := rfl
theorem evs_nil : evs e [] = some [] := rfl
theorem evs_cons (x : Operand) (r : List Operand) : evs e (x :: r) = (ev e x).bind fun v => (evs e r).bind fun vs => some (v :: vs) := rfl
theorem evp_nil : evp e [] = some [] := rfl
theorem evp_cons (o n : Nat) (x : Operand) (r : List (Nat × Nat × Operand)) : evp e ((o, n, x) :: r) = (ev e x).bind fun v => (evp e r).bind fun vs => some ((o, n, v) :: vs) := rfl
theorem argEnv_nil (i : Nat) : argEnv [] i = [] := rfl
theorem argEnv_cons (v : Value) (r : List Value) (i : Nat) : argEnv (v :: r) i = (i, v) :: argEnv r (i + 1) := rfl
def retM (R : Ending → H → Prop) (o : Option (List Value)) (h : H) : Prop :=
  match o with
  | some [v] => R (.returned v) h
  | some vs => R (.returned (.tuple vs.toArray)) h
  | none => False
theorem retQ_ret (res : List Nat) (R : Ending → H → Prop) : retQ res R .ret e h = retM R (evs e (res.map .tmp)) h := rfl
theorem retQ_normal (res : List Nat) (R : Ending → H → Prop) : retQ res R .normal e h = retM R (evs e (res.map .tmp)) h := rfl
theorem retM_one (R : Ending → H → Prop) (v : Value) : retM R (some [v]) h = R (.returned v) h := rfl
theorem retM_nil (R : Ending → H → Prop) : retM R (some []) h = R (.returned (.tuple #[])) h := rfl
theorem retM_two (R : Ending → H → Prop) (v w : Value) (r : List Value) : retM R (some (v :: w :: r)) h = R (.returned (.tuple (v :: w :: r).toArray)) h := rfl
theorem retQ_panic (res : List Nat) (R : Ending → H → Prop) (c : List PanicEntry) : retQ res R (.panic c) e h = R (.panicked c) h := rfl
theorem ret_ok (R : Value → H → Prop) (v : Value) : okR R (.returned v) h = R v h := okR_ret R v h
-- operations that only read
theorem lM_mv (x : Operand) : lM P (.mv x) e h V X = opt (ev e x) h V := rfl
theorem lM_pick (c a b : Operand) : lM P (.pick c a b) e h V X = opt (qV (.pick c a b) e h) h V := rfl
theorem lM_agg (z : Array Value) (ps : List (Nat × Nat × Operand)) : lM P (.agg z ps) e h V X = opt (qV (.agg z ps) e h) h V := rfl
theorem lM_ld (a : Operand) : lM P (.ld a) e h V X = opt (qV (.ld a) e h) h V := rfl
theorem lM_ldn (n : Nat) (a : Operand) : lM P (.ldn n a) e h V X = opt (qV (.ldn n a) e h) h V := rfl
theorem lM_nilck (x : Operand) : lM P (.nilck x) e h V X = opt (qV (.nilck x) e h) h V := rfl
theorem lM_bin (op : BinOp) (k : EqK) (x y : Operand) : lM P (.bin op k x y) e h V X = opt (qV (.bin op k x y) e h) h V := rfl
theorem lM_un (op : UnOp) (x : Operand) : lM P (.un op x) e h V X = opt (qV (.un op x) e h) h V := rfl
theorem lM_cvi (k : IntKind) (x : Operand) : lM P (.cvi k x) e h V X = opt (qV (.cvi k x) e h) h V := rfl
theorem lM_cvss (x : Operand) : lM P (.cvss x) e h V X = opt (qV (.cvss x) e h) h V := rfl
theorem lM_iface (T : TypeId) (x : Operand) : lM P (.iface T x) e h V X = opt (qV (.iface T x) e h) h V := rfl
theorem lM_mkfn (fn : Fn) (a b : List Operand) : lM P (.mkfn fn a b) e h V X = opt (qV (.mkfn fn a b) e h) h V := rfl
theorem lM_slc (n : Nat) (x : Operand) (a b c : Option Operand) : lM P (.slc n x a b c) e h V X = opt (qV (.slc n x a b c) e h) h V := rfl
theorem lM_slcs (x : Operand) (a b : Option Operand) : lM P (.slcs x a b) e h V X = opt (qV (.slcs x a b) e h) h V := rfl
theorem lM_slca (m n : Nat) (x : Operand) (a b c : Option Operand) : lM P (.slca m n x a b c) e h V X = opt (qV (.slca m n x a b c) e h) h V := rfl
theorem lM_lea (k : Nat) (x : Operand) : lM P (.lea k x) e h V X = opt (qV (.lea k x) e h) h V := rfl
theorem lM_fld (k : Nat) (x : Operand) : lM P (.fld k x) e h V X = opt (qV (.fld k x) e h) h V := rfl
theorem lM_fldn (k n : Nat) (x : Operand) : lM P (.fldn k n x) e h V X = opt (qV (.fldn k n x) e h) h V := rfl
theorem lM_idx (k : Nat) (x i : Operand) : lM P (.idx k x i) e h V X = opt (qV (.idx k x i) e h) h V := rfl
theorem lM_idxp (n k : Nat) (x i : Operand) : lM P (.idxp n k x i) e h V X = opt (qV (.idxp n k x i) e h) h V := rfl
theorem lM_idxs (x i : Operand) : lM P (.idxs x i) e h V X = opt (qV (.idxs x i) e h) h V := rfl
theorem lM_idxv (n : Nat) (x i : Operand) : lM P (.idxv n x i) e h V X = opt (qV (.idxv n x i) e h) h V := rfl
theorem lM_idxvn (n k : Nat) (x i : Operand) : lM P (.idxvn n k x i) e h V X = opt (qV (.idxvn n k x i) e h) h V := rfl
theorem lM_lens (x : Operand) : lM P (.lens x) e h V X = opt (qV (.lens x) e h) h V := rfl
theorem lM_lenl (x : Operand) : lM P (.lenl x) e h V X = opt (qV (.lenl x) e h) h V := rfl
theorem lM_lenc (n : Nat) : lM P (.lenc n) e h V X = opt (qV (.lenc n) e h) h V := rfl
theorem lM_capl (x : Operand) : lM P (.capl x) e h V X = opt (qV (.capl x) e h) h V := rfl
theorem lM_mn (x y : Operand) : lM P (.mn x y) e h V X = opt (qV (.mn x y) e h) h V := rfl
theorem lM_mx (x y : Operand) : lM P (.mx x y) e h V X = opt (qV (.mx x y) e h) h V := rfl
theorem lM_ext (x : Operand) (i : Nat) : lM P (.ext x i) e h V X = opt (qV (.ext x i) e h) h V := rfl
-- effects
theorem lM_new (E : TypeId) (z : Array Value) : lM P (.new E z) e h V X = ∀ b, h b = none → V (.pointer (some ⟨b, 0, none⟩)) (hupd h b (.cells z E)) := rfl
def boxM (E : TypeId) (o : Option Value) (h : H) (V : Value → H → Prop) : Prop :=
  match o with
  | some v => ∀ b, h b = none → V (.pointer (some ⟨b, 0, none⟩)) (hupd h b (.cells v.cells E))
  | none => False
theorem lM_box (E : TypeId) (x : Operand) : lM P (.box E x) e h V X = boxM E (ev e x) h V := rfl
theorem boxM_some (E : TypeId) (v : Value) : boxM E (some v) h V = ∀ b, h b = none → V (.pointer (some ⟨b, 0, none⟩)) (hupd h b (.cells v.cells E)) := rfl
def litM (E : TypeId) (n : Nat) (o : Option (Array Value)) (h : H) (V : Value → H → Prop) : Prop :=
  match o with
  | some c => ∀ b, h b = none → V (.slice (some ⟨b, 0, none⟩) n n) (hupd h b (.cells c E))
  | none => False
theorem lM_lit (E : TypeId) (n : Nat) (z : Array Value) (ps : List (Nat × Nat × Operand)) : lM P (.lit E n z ps) e h V X = litM E n (ob (evp e ps) (fillV z)) h V := rfl
theorem litM_some (E : TypeId) (n : Nat) (c : Array Value) : litM E n (some c) h V = ∀ b, h b = none → V (.slice (some ⟨b, 0, none⟩) n n) (hupd h b (.cells c E)) := rfl
def stM (a x : Option Value) (h : H) (V : Value → H → Prop) : Prop :=
  match a, x with
  | some (.pointer (some p)), some v => storeH h p [v] fun h' => V undef h'
  | _, _ => False
theorem lM_st (a x : Operand) : lM P (.st a x) e h V X = stM (ev e a) (ev e x) h V := rfl
theorem stM_some (p : Addr) (v : Value) : stM (some (.pointer (some p))) (some v) h V = storeH h p [v] fun h' => V undef h' := rfl
def stnM (n : Nat) (a x : Option Value) (h : H) (V : Value → H → Prop) : Prop :=
  match a, x with
  | some (.pointer (some p)), some v => v.cells.size = n ∧ storeH h p v.cells.toList fun h' => V undef h'
  | _, _ => False
theorem lM_stn (n : Nat) (a x : Operand) : lM P (.stn n a x) e h V X = stnM n (ev e a) (ev e x) h V := rfl
theorem stnM_some (n : Nat) (p : Addr) (v : Value) : stnM n (some (.pointer (some p))) (some v) h V = (v.cells.size = n ∧ storeH h p v.cells.toList fun h' => V undef h') := rfl
def appK (E : TypeId) (size bytes : Nat) (z : Array Value) (s x : Option Value) (h : H) (V : Value → H → Prop) : Prop :=
  match s, x with
  | some s, some x => appM E size bytes z s x h V
  | _, _ => False
theorem lM_app (E : TypeId) (size bytes : Nat) (z : Array Value) (s x : Operand) : lM P (.app E size bytes z s x) e h V X = appK E size bytes z (ev e s) (ev e x) h V := rfl
theorem appK_some (E : TypeId) (size bytes : Nat) (z : Array Value) (s x : Value) : appK E size bytes z (some s) (some x) h V = appM E size bytes z s x h V := rfl
def callO {Pg : Program} (P : Cx Pg) (f : FuncId) (o : Option (List Value)) (h : H) (V : Value → H → Prop) (X : List PanicEntry → H → Prop) : Prop :=
  match o with
  | some vs => callK P f vs.toArray h V X
  | none => False
theorem lM_call (f : FuncId) (args : List Operand) : lM P (.call f args) e h V X = callO P f (evs e args) h V X := rfl
theorem callO_some (f : FuncId) (vs : List Value) : callO P f (some vs) h V X = callK P f vs.toArray h V X := rfl
def callvO {Pg : Program} (P : Cx Pg) (x : Option Value) (o : Option (List Value)) (h : H) (V : Value → H → Prop) (X : List PanicEntry → H → Prop) : Prop :=
  match x, o with
  | some (.func (.func f) first cap), some vs => callable P.prog f = true ∧ callK P f (first ++ vs.toArray ++ cap) h V X
  | _, _ => False
theorem lM_callv (x : Operand) (args : List Operand) : lM P (.callv x args) e h V X = callvO P (ev e x) (evs e args) h V X := rfl
theorem callvO_some (f : FuncId) (first cap : Array Value) (vs : List Value) : callvO P (some (.func (.func f) first cap)) (some vs) h V X = (callable P.prog f = true ∧ callK P f (first ++ vs.toArray ++ cap) h V X) := rfl
def xcM {Pg : Program} (P : Cx Pg) (f : FuncId) (args : Array Value) (h : H) (V : Value → H → Prop) : Prop := Does P (callFunc f args) h V
def xcO {Pg : Program} (P : Cx Pg) (f : FuncId) (o : Option (List Value)) (h : H) (V : Value → H → Prop) : Prop :=
  match o with
  | some vs => xcM P f vs.toArray h V
  | none => False
theorem lM_xc (f : FuncId) (args : List Operand) : lM P (.xc f args) e h V X = xcO P f (evs e args) h V := rfl
theorem xcO_some (f : FuncId) (vs : List Value) : xcO P f (some vs) h V = xcM P f vs.toArray h V := rfl
def pncM (x : Option Value) (h : H) (X : List PanicEntry → H → Prop) : Prop := False
theorem lM_pnc (x : Operand) : lM P (.pnc x) e h V X = pncM (ev e x) h X := rfl
theorem pncM_some (t : TypeId) (v : Value) : pncM (some (.iface t v)) h X = False := rfl
def makeM (E : TypeId) (size bytes : Nat) (z : Array Value) (l c : Option Value) (h : H) (V : Value → H → Prop) : Prop :=
  match l, c with
  | some (.int _ n), some (.int _ m) => (0 ≤ n ∧ n ≤ m ∧ m ≤ 9223372036854775807 ∧ bytes * m ≤ 281474976710656) ∧ ∀ b, h b = none → V (.slice (some ⟨b, 0, none⟩) n.toNat m.toNat) (hupd h b (.cells (Builtin.zeroCells z m.toNat) E))
  | _, _ => False
theorem lM_mkslice (E : TypeId) (size bytes : Nat) (z : Array Value) (l c : Operand) : lM P (.mkslice E size bytes z l c) e h V X = makeM E size bytes z (ev e l) (ev e c) h V := rfl
theorem makeM_some (E : TypeId) (size bytes : Nat) (z : Array Value) (i j : IntKind) (n m : Int) : makeM E size bytes z (some (.int i n)) (some (.int j m)) h V = ((0 ≤ n ∧ n ≤ m ∧ m ≤ 9223372036854775807 ∧ bytes * m ≤ 281474976710656) ∧ ∀ b, h b = none → V (.slice (some ⟨b, 0, none⟩) n.toNat m.toNat) (hupd h b (.cells (Builtin.zeroCells z m.toNat) E))) := rfl
def cpyM (size : Nat) (base : Option Addr) (dl : Nat) (s : Value) (h : H) (K : Value → H → Prop) : Prop :=
  match srcLen s with
  | some n => match srcCells h size (min n dl) s, base with
    | some new, some a => storeH h a new.toList fun h' => K (.int .i64 (min n dl : Nat)) h'
    | some _, none => K (.int .i64 (min n dl : Nat)) h
    | none, _ => False
  | none => False
def cpyK (size : Nat) (d s : Option Value) (h : H) (V : Value → H → Prop) : Prop :=
  match d, s with
  | some (.slice base dl _), some s => cpyM size base dl s h V
  | _, _ => False
theorem lM_cpy (size : Nat) (d s : Operand) : lM P (.cpy size d s) e h V X = cpyK size (ev e d) (ev e s) h V := by
  show (match ev e d, ev e s with | some (.slice base dl _), some s => _ | _, _ => False) = _
  rfl
theorem cpyK_some (size : Nat) (base : Option Addr) (dl dc : Nat) (s : Value) : cpyK size (some (.slice base dl dc)) (some s) h V = cpyM size base dl s h V := rfl
end
end Go.Proofs.Ytojhnclkhiffkaa
