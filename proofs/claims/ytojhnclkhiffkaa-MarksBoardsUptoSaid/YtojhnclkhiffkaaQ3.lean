/-
  Entry into a function, and the rules by which a walk goes on.
-/
import Derived.Test.YtojhnclkhiffkaaQ2
import Derived.KernelRfl
/-
  Entry into a function, and the rules by which a walk goes on.
-/
namespace Go.Proofs.Ytojhnclkhiffkaa
open Go.Conc (G stepG_end stepG_enter stepG_leave base enter_at listed mem_listed)
set_option linter.unusedVariables false
variable {Pg : Program} {P : Cx Pg}

def argEnv : List Value → Nat → Env
  | [], _ => []
  | v :: r, i => (i, v) :: argEnv r (i + 1)

theorem argEnv_get : ∀ (l : List Value) (i t : Nat) (v : Value), (argEnv l i).get t = some v → i ≤ t ∧ l[t - i]? = some v
  | [], i, t, v, h => by cases h
  | x :: r, i, t, v, h => by
    simp only [argEnv, Env.get] at h
    by_cases hit : i = t
    · rw [if_pos hit] at h
      subst hit
      exact ⟨Nat.le_refl _, by simpa using h⟩
    · rw [if_neg hit] at h
      obtain ⟨h1, h2⟩ := argEnv_get r (i + 1) t v h
      refine ⟨by omega, ?_⟩
      rw [show t - i = (t - (i + 1)) + 1 by omega]
      simpa using h2

theorem mapM_res (P : Program) (w : World) (tmps : Array Value) {F : ResultVar → Sem Value} (hF : ∀ t, F (.tmp t) = pure (tmps.getD t undef)) : ∀ l : List Nat, (List.mapM F (l.map ResultVar.tmp)).run P w = .ok (l.map fun t => tmps.getD t undef) w
  | [] => by simp
  | t :: r => by
    have ih := mapM_res P w tmps hF r
    simp only [List.map_cons, List.mapM_cons, hF, Sem.run_bind, Sem.run_pure, Result.andThen_ok, ih]
theorem results_run (P : Program) (w : World) {fn : Func} {res : List Nat} (hr : fn.results = (res.map ResultVar.tmp).toArray) (tmps : Array Value) :
    (results fn tmps).run P w = .ok (match res.map fun t => tmps.getD t undef with | [v] => v | vs => .tuple vs.toArray) w := by
  unfold results
  rw [hr, Array.mapM_eq_mapM_toList]
  simp only [Sem.run_bind, Sem.run_map]
  rw [mapM_res P w tmps (fun _ => rfl) res]
  simp only [Result.andThen_ok, Sem.run_pure]
  congr 1
  cases hres : res.map fun t => tmps.getD t undef with
  | nil => rfl
  | cons v r => cases r <;> simp

theorem ev_mapM_res (P : Program) (w : World) (es : Array Event) (tmps : Array Value) {F : ResultVar → Sem Value} (hF : ∀ t, F (.tmp t) = pure (tmps.getD t undef)) : ∀ l : List Nat, (List.mapM F (l.map ResultVar.tmp)).events P w es = es
  | [] => by simp
  | t :: r => by
    have ih := ev_mapM_res P w es tmps hF r
    have h2 := mapM_res P w tmps hF r
    simp only [List.map_cons, List.mapM_cons, hF, Sem.events_bind, Sem.run_pure, Sem.events_pure, Result.evThen_ok, ih, h2]
theorem results_ev (P : Program) (w : World) (es : Array Event) {fn : Func} {res : List Nat} (hr : fn.results = (res.map ResultVar.tmp).toArray) (tmps : Array Value) : (results fn tmps).events P w es = es := by
  unfold results
  rw [hr, Array.mapM_eq_mapM_toList]
  simp only [Sem.events_bind, Sem.run_map, Sem.events_map]
  rw [mapM_res P w tmps (fun _ => rfl) res, ev_mapM_res P w es tmps (fun _ => rfl) res]
  simp only [Result.andThen_ok, Sem.run_pure, Result.evThen_ok]
  simp
  try (split <;> simp)
def resV : List Value → Value
  | [v] => v
  | vs => .tuple vs.toArray
theorem results_runV (P : Program) (w : World) {fn : Func} {res : List Nat} (hr : fn.results = (res.map ResultVar.tmp).toArray) (tmps : Array Value) {vs : List Value} (hv : (res.map fun t => tmps.getD t undef) = vs) : (results fn tmps).run P w = .ok (resV vs) w := by
  rw [results_run P w hr tmps]
  subst hv
  cases (res.map fun t => tmps.getD t undef) with
  | nil => rfl
  | cons v r => cases r <;> rfl
def okR (R : Value → H → Prop) : Ending → H → Prop := fun e h => ∃ v, e = .returned v ∧ R v h
theorem okR_ret (R : Value → H → Prop) (v : Value) (h : H) : okR R (.returned v) h = R v h := by simp [okR]
/-- What a call of a function with a body is. -/
theorem callFunc_name {f : FuncId} {fn : Func} {c : Code} (hf : P.prog.funcs[f]? = some fn) (hb : fn.body = some c) (hc : (fn.name == "runtime.NumGoroutine") = false) (args : Array Value) (w : World) : (callFunc f args).run Pg w = .ok (.enter f args) w ∧ (callFunc f args).events Pg w #[] = #[] := by
  have h1 : ¬ fn.name = "runtime.NumGoroutine" := by simpa using hc
  have h2 : ¬ fn.body = none := by rw [hb]; simp
  have hf' : Pg.funcs[f]? = some fn := hf
  constructor <;> simp [callFunc, hf', h1, h2]
/-- A function is what its lowered body's walk says. -/
theorem callsE_of {f : FuncId} {fn : Func} {c : Code} {n : Nat} {res : List Nat} {ht : Hint} {lc : LC} (hf : P.prog.funcs[f]? = some fn) (hb : fn.body = some c) (hn : fn.ntmps = n) (hr : fn.results = (res.map ResultVar.tmp).toArray)
    (hl : lowC P.prog ⟨0, n⟩ ht c = lc) {args : List Value} (ha : args.length ≤ n) {h : H} {R : Ending → H → Prop} (hv : vc P lc (retQ res R) (argEnv args 0) h) (hc : (fn.name == "runtime.NumGoroutine") = false := by kernel_rfl) : CallsE P f args.toArray h R := by
  intro b a k cs ops i rest o ho hw hk hs hV
  have e1 : ∀ w, (execOp a.eval o).run Pg w = .ok (.enter f args.toArray) w := fun w => by
    have := congrArg Prod.fst (hs w)
    rw [Sem.runT_fst, Sem.runT_fst] at this
    exact this.trans (callFunc_name hf hb hc _ w).1
  have e2 : ∀ w, listed Pg b.fn a o w = #[] := fun w => by
    refine Array.eq_empty_iff_forall_not_mem.2 fun e he => ?_
    have h1 := mem_listed he
    have : (execOp a.eval o).events Pg w #[] = (callFunc f args.toArray).events Pg w #[] := congrArg Prod.snd (hs w)
    rw [this, (callFunc_name hf hb hc _ w).2] at h1
    simp at h1
  refine Cx.idle rfl (fun w => (stepG_enter ho hw hk (e1 w)).trans (by rw [e2 w])) ?_
  rw [enter_at (P := Pg) args.toArray hf hb]
  subst hl
  have hat : At ⟨0, n⟩ [] (argEnv args 0) { tmps := args.toArray ++ Array.replicate (fn.ntmps - args.toArray.size) undef, defers := [] } := by
    refine ⟨rfl, ?_, ?_⟩
    · simp [hn]; omega
    · intro t v hg
      obtain ⟨_, h2⟩ := argEnv_get args 0 t v hg
      simp only [Nat.sub_zero] at h2
      have hlt : t < args.length := (List.getElem?_eq_some_iff.1 h2).1
      show (args.toArray ++ Array.replicate (fn.ntmps - args.toArray.size) undef)[t]? = some v
      rw [Array.getElem?_append_left (by simpa using hlt)]
      simpa using h2
  have leave : ∀ (e' : Env) (h' : H) (a' : Act) (todo : List Item), At ⟨0, n⟩ [] e' a' → (match evs e' (res.map .tmp) with | some [v] => R (.returned v) h' | some vs => R (.returned (.tuple vs.toArray)) h' | none => False) →
      P.J (G { (base f).at a' todo with mode := .returning } (b.at a (.inRegion ops (i :: rest) :: k) :: cs)) h' := by
    intro e' h' a' todo hat' hq
    cases hvs : evs e' (res.map .tmp) with
    | none => rw [hvs] at hq; exact hq.elim
    | some vs =>
      rw [hvs] at hq
      have hvs' : res.map (fun t => a'.tmps.getD t undef) = vs := by
        rw [← evs_sound hat'.agree hvs, List.map_map]; rfl
      have hrun : ∀ w, (results fn a'.tmps).run Pg w = .ok (resV vs) w := fun w => results_runV Pg w hr a'.tmps hvs'
      refine Cx.idle rfl (fun w => stepG_leave (b := base f) rfl hat'.defers hf (hrun w) (results_ev Pg w _ hr _)) ?_
      rw [Frame.finish_at, ho]
      refine hV _ _ ?_
      cases vs with
      | nil => exact hq
      | cons v r => cases r <;> exact hq
  refine vc_sound c ht _ _ _ _ hat hv (base f) [] _ (by simp [base]) ?_
  intro x e' h' a' hx hat' hq
  cases x with
  | normal => exact Cx.idle rfl (fun _ => stepG_end) (leave e' h' a' [] hat' hq)
  | ret => exact fun todo => leave e' h' a' todo hat' hq
  | exit id => exact hq.elim
  | _ => exact hx.elim
theorem ok_of {f : FuncId} {fn : Func} {c : Code} {n : Nat} {res : List Nat} {ht : Hint} {lc : LC} (hf : P.prog.funcs[f]? = some fn) (hb : fn.body = some c) (hn : fn.ntmps = n) (hr : fn.results = (res.map ResultVar.tmp).toArray)
    (hl : lowC P.prog ⟨0, n⟩ ht c = lc) {args : List Value} (ha : args.length ≤ n) {h : H} {R : Value → H → Prop} (hv : vc P lc (retQ res (okR R)) (argEnv args 0) h) (hc : (fn.name == "runtime.NumGoroutine") = false := by kernel_rfl) : Ok P f args.toArray h R :=
  callsE_of hf hb hn hr hl ha hv hc

/-! ### Rules -/
/-- Two ways, neither looked into yet. -/
def br (c A B : Prop) : Prop := (c → A) ∧ (¬ c → B)
theorem br_intro {c A B : Prop} (h1 : c → A) (h2 : ¬ c → B) : br c A B := ⟨h1, h2⟩
theorem br_T (A B : Prop) : br True A B = A := by simp [br]
theorem br_F (A B : Prop) : br False A B = B := by simp [br]
section
variable {Q : Post} {e : Env} {h : H} {K : Env → H → Prop} {X : List PanicEntry → H → Prop} {V : Value → H → Prop}
/-- 'bind', looked into from its front. -/
def ob {α β : Type} (o : Option α) (f : α → Option β) : Option β := o.bind f
theorem vc_skip : vc P .skip Q e h = Q .normal e h := rfl
theorem vc_ret : vc P .ret Q e h = Q .ret e h := rfl
theorem vc_exit (id : Nat) : vc P (.exit id) Q e h = Q (.exit id) e h := rfl
theorem vc_ops (l : List LO) : vc P (.ops l) Q e h = vcOps P l (fun e' h' => Q .normal e' h') (fun c h' => Q (.panic c) [] h') e h := rfl
theorem vc_draw (t : DT) : vc P (.draw t) Q e h = vcDT P t (fun e' h' => Q .normal e' h') (fun c h' => Q (.panic c) [] h') [] e h := rfl
/-- What follows, behind one name. -/
def seqQ {Pg : Program} (P : Cx Pg) (L : List Nat) (b : LC) (Q : Post) : Post := fun x e' h' =>
  match x with
  | .normal => vc P b Q (e'.keep L) h'
  | x => Q x e' h'
theorem vc_seq (a : LC) (L : List Nat) (b : LC) : vc P (.seq a L b) Q e h = vc P a (seqQ P L b Q) e h := by
  show vc P a _ e h = _
  congr 1
theorem seqQ_normal (L : List Nat) (b : LC) : seqQ P L b Q .normal e h = vc P b Q (e.keep L) h := rfl
theorem seqQ_ret (L : List Nat) (b : LC) : seqQ P L b Q .ret e h = Q .ret e h := rfl
theorem seqQ_exit (L : List Nat) (b : LC) (i : Nat) : seqQ P L b Q (.exit i) e h = Q (.exit i) e h := rfl
theorem seqQ_panic (L : List Nat) (b : LC) (c : List PanicEntry) : seqQ P L b Q (.panic c) e h = Q (.panic c) e h := rfl
theorem vc_cond (c : Operand) (a b : LC) : vc P (.cond c a b) Q e h = condM (ev e c) (vc P a Q e h) (vc P b Q e h) := rfl
theorem condM_t (A B : Prop) : condM (some (.bool true)) A B = A := by simp [condM]
theorem condM_f (A B : Prop) : condM (some (.bool false)) A B = B := by simp [condM]
theorem condM_bool (b : Bool) (A B : Prop) : condM (some (.bool b)) A B = br (b = true) A B := by cases b <;> simp [condM, br]
def blockQ (id : Nat) (Q : Post) : Post := fun x e' h' =>
  match x with
  | .exit i => if i = id then Q .normal e' h' else Q (.exit i) e' h'
  | x => Q x e' h'
theorem vc_block (id : Nat) (c : LC) : vc P (.block id c) Q e h = vc P c (blockQ id Q) e h := by
  show vc P c _ e h = _
  congr 1
theorem blockQ_normal (id : Nat) : blockQ id Q .normal e h = Q .normal e h := rfl
theorem blockQ_ret (id : Nat) : blockQ id Q .ret e h = Q .ret e h := rfl
theorem blockQ_panic (id : Nat) (c : List PanicEntry) : blockQ id Q (.panic c) e h = Q (.panic c) e h := rfl
theorem blockQ_exit (id i : Nat) : blockQ id Q (.exit i) e h = if i = id then Q .normal e h else Q (.exit i) e h := rfl
theorem vcOps_nil : vcOps P [] K X e h = K e h := rfl
theorem vcOps_cons (d : Option Nat) (g : Option (Nat × Bool)) (l : L) (r : List LO) : vcOps P (⟨d, g, l⟩ :: r) K X e h = guardM e g (lM P l e h (fun v h' => vcOps P r K X (e.put d v) h') X) (vcOps P r K X (e.put d undef) h) := rfl
theorem guardM_none (A B : Prop) : guardM e none A B = A := rfl
def gM (o : Option Value) (want : Bool) (A B : Prop) : Prop :=
  match o with
  | some v => (gW v want = true → A) ∧ (gW v want = false → B)
  | none => False
theorem guardM_some (t : Nat) (want : Bool) (A B : Prop) : guardM e (some (t, want)) A B = gM (e.get t) want A B := rfl
theorem gM_undef (want : Bool) (A B : Prop) : gM (some undef) want A B = B := by simp [gM, gW, undef]
theorem gM_tt (A B : Prop) : gM (some (.bool true)) true A B = A := by simp [gM, gW]
theorem gM_tf (A B : Prop) : gM (some (.bool true)) false A B = B := by simp [gM, gW]
theorem gM_ft (A B : Prop) : gM (some (.bool false)) true A B = B := by simp [gM, gW]
theorem gM_ff (A B : Prop) : gM (some (.bool false)) false A B = A := by simp [gM, gW]
theorem gM_t (b : Bool) (A B : Prop) : gM (some (.bool b)) true A B = br (b = true) A B := by cases b <;> simp [gM, gW, br]
theorem gM_f (b : Bool) (A B : Prop) : gM (some (.bool b)) false A B = br (b = true) B A := by cases b <;> simp [gM, gW, br]
variable (S : List (Nat × L × Env × Value))
theorem vcDT_done : vcDT P .done K X S e h = K e h := rfl
def pushS (i : Nat) (l : L) (e : Env) (v : Value) (S : List (Nat × L × Env × Value)) : List (Nat × L × Env × Value) := if isLd l then (i, l, e, v) :: S else S
theorem vcDT_q (i : Nat) (d : Option Nat) (g : Option (Nat × Bool)) (l : L) (r : DT) : vcDT P (.q i ⟨d, g, l⟩ r) K X S e h = guardM e g (opt (qV l e h) h fun v h' => vcDT P r K X (pushS i l e v S) (e.put d v) h') (vcDT P r K X S (e.put d undef) h) := rfl
theorem pushS_ld (i : Nat) (a : Operand) (v : Value) : pushS i (.ld a) e v S = (i, .ld a, e, v) :: S := rfl
theorem pushS_ldn (i n : Nat) (a : Operand) (v : Value) : pushS i (.ldn n a) e v S = (i, .ldn n a, e, v) :: S := rfl
theorem vcDT_e (i : Nat) (Z : List Nat) (d : Option Nat) (g : Option (Nat × Bool)) (l : L) (r : DT) : vcDT P (.e i Z ⟨d, g, l⟩ r) K X S e h = guardM e g (lM P l e h (fun v h' => stab Z S h' ∧ vcDT P r K X S (e.put d v) h') X) (vcDT P r K X S (e.put d undef) h) := rfl
theorem vcDT_al (i : Nat) (Z : List Nat) (d : Option Nat) (g : Option (Nat × Bool)) (l : L) (r t : DT) : vcDT P (.al i Z ⟨d, g, l⟩ r t) K X S e h = (guardM e g (lM P l e h (fun v h' => stab Z S h' ∧ vcDT P r K X S (e.put d v) h') X) (vcDT P r K X S (e.put d undef) h) ∧ vcDT P t K X S e h) := rfl
theorem stab_nil (Z : List Nat) : stab Z [] h = True := rfl
def memN (i : Nat) : List Nat → Bool
  | [] => false
  | x :: r => if x = i then true else memN i r
theorem memN_nil (i : Nat) : memN i [] = false := rfl
theorem memN_cons (i x : Nat) (r : List Nat) : memN i (x :: r) = if x = i then true else memN i r := rfl
theorem memN_eq (i : Nat) (l : List Nat) : l.contains i = memN i l := by
  induction l with
  | nil => rfl
  | cons x r ih =>
    simp only [List.contains_cons, memN, ih]
    by_cases h : x = i
    · subst h; simp
    · rw [if_neg h]; simp [Ne.symm h]
theorem stab_cons (Z : List Nat) (i : Nat) (o : L) (v : Value) : stab Z ((i, o, e, v) :: S) h = (if memN i Z = true then qV o e h = some v ∧ stab Z S h else stab Z S h) := by
  rw [← memN_eq]; rfl
theorem opt_some (v : Value) : opt (some v) h V = V v h := rfl
theorem opt_none : opt none h V = False := rfl
theorem get_cons (d : Nat) (v : Value) (r : Env) (t : Nat) : Env.get ((d, v) :: r) t = if d = t then some v else Env.get r t := rfl
theorem get_nil (t : Nat) : Env.get [] t = none := rfl
theorem ev_tmp (t : Nat) : ev e (.tmp t) = e.get t := rfl
theorem ev_const (v : Value) : ev e (.const v) = some v := rfl
theorem ev_global (g : Nat) : ev e (.global g) = some (.pointer (some ⟨g, 0, none⟩)) := rfl
theorem ev_func (f : FuncId) : ev e (.func f) = some (.func (.func f) #[] #[]) := rfl
theorem put_some (d : Nat) (v : Value) : e.put (some d) v = (d, v) :: e := rfl
theorem put_none (v : Value) : e.put none v = e := rfl
theorem keep_nil : e.keep [] = [] := rfl
def keepM (o : Option Value) (t : Nat) (r : Env) : Env :=
  match o with
  | some v => (t, v) :: r
  | none => r
theorem keep_cons (t : Nat) (r : List Nat) : e.keep (t :: r) = keepM (e.get t) t (e.keep r) := rfl
theorem keepM_some (v : Value) (t : Nat) (r : Env) : keepM (some v) t r = (t, v) :: r := rfl
theorem keepM_none (t : Nat) (r : Env) : keepM none t r = r := rfl
theorem evs_nil : evs e [] = some [] := rfl
theorem evp_nil : evp e [] = some [] := rfl
theorem argEnv_nil (i : Nat) : argEnv [] i = [] := rfl
theorem argEnv_cons (v : Value) (r : List Value) (i : Nat) : argEnv (v :: r) i = (i, v) :: argEnv r (i + 1) := rfl
def retM (R : Ending → H → Prop) (o : Option (List Value)) (h : H) : Prop :=
  match o with
  | some [v] => R (.returned v) h
  | some vs => R (.returned (.tuple vs.toArray)) h
  | none => False
theorem retQ_ret (res : List Nat) (R : Ending → H → Prop) : retQ res R .ret e h = retM R (evs e (res.map .tmp)) h := rfl
theorem retQ_normal (res : List Nat) (R : Ending → H → Prop) : retQ res R .normal e h = retM R (evs e (res.map .tmp)) h := rfl
theorem retM_one (R : Ending → H → Prop) (v : Value) : retM R (some [v]) h = R (.returned v) h := rfl
theorem retM_nil (R : Ending → H → Prop) : retM R (some []) h = R (.returned (.tuple #[])) h := rfl
theorem retM_two (R : Ending → H → Prop) (v w : Value) (r : List Value) : retM R (some (v :: w :: r)) h = R (.returned (.tuple (v :: w :: r).toArray)) h := rfl
theorem retQ_panic (res : List Nat) (R : Ending → H → Prop) (c : List PanicEntry) : retQ res R (.panic c) e h = R (.panicked c) h := rfl
theorem ret_ok (R : Value → H → Prop) (v : Value) : okR R (.returned v) h = R v h := okR_ret R v h
-- operations that only read
theorem lM_mv (x : Operand) : lM P (.mv x) e h V X = opt (ev e x) h V := rfl
theorem lM_pick (c a b : Operand) : lM P (.pick c a b) e h V X = opt (qV (.pick c a b) e h) h V := rfl
theorem lM_agg (z : Array Value) (ps : List (Nat × Nat × Operand)) : lM P (.agg z ps) e h V X = opt (qV (.agg z ps) e h) h V := rfl
theorem lM_ld (a : Operand) : lM P (.ld a) e h V X = opt (qV (.ld a) e h) h V := rfl
theorem lM_ldn (n : Nat) (a : Operand) : lM P (.ldn n a) e h V X = opt (qV (.ldn n a) e h) h V := rfl
theorem lM_nilck (x : Operand) : lM P (.nilck x) e h V X = opt (qV (.nilck x) e h) h V := rfl
theorem lM_bin (op : BinOp) (k : EqK) (x y : Operand) : lM P (.bin op k x y) e h V X = opt (qV (.bin op k x y) e h) h V := rfl
theorem lM_un (op : UnOp) (x : Operand) : lM P (.un op x) e h V X = opt (qV (.un op x) e h) h V := rfl
theorem lM_cvi (k : IntKind) (x : Operand) : lM P (.cvi k x) e h V X = opt (qV (.cvi k x) e h) h V := rfl
theorem lM_cvss (x : Operand) : lM P (.cvss x) e h V X = opt (qV (.cvss x) e h) h V := rfl
theorem lM_iface (T : TypeId) (x : Operand) : lM P (.iface T x) e h V X = opt (qV (.iface T x) e h) h V := rfl
theorem lM_mkfn (fn : Fn) (a b : List Operand) : lM P (.mkfn fn a b) e h V X = opt (qV (.mkfn fn a b) e h) h V := rfl
theorem lM_slc (n : Nat) (x : Operand) (a b c : Option Operand) : lM P (.slc n x a b c) e h V X = opt (qV (.slc n x a b c) e h) h V := rfl
theorem lM_slcs (x : Operand) (a b : Option Operand) : lM P (.slcs x a b) e h V X = opt (qV (.slcs x a b) e h) h V := rfl
theorem lM_slca (m n : Nat) (x : Operand) (a b c : Option Operand) : lM P (.slca m n x a b c) e h V X = opt (qV (.slca m n x a b c) e h) h V := rfl
theorem lM_lea (k : Nat) (x : Operand) : lM P (.lea k x) e h V X = opt (qV (.lea k x) e h) h V := rfl
theorem lM_fld (k : Nat) (x : Operand) : lM P (.fld k x) e h V X = opt (qV (.fld k x) e h) h V := rfl
theorem lM_fldn (k n : Nat) (x : Operand) : lM P (.fldn k n x) e h V X = opt (qV (.fldn k n x) e h) h V := rfl
theorem lM_idx (k : Nat) (x i : Operand) : lM P (.idx k x i) e h V X = opt (qV (.idx k x i) e h) h V := rfl
theorem lM_idxp (n k : Nat) (x i : Operand) : lM P (.idxp n k x i) e h V X = opt (qV (.idxp n k x i) e h) h V := rfl
theorem lM_idxs (x i : Operand) : lM P (.idxs x i) e h V X = opt (qV (.idxs x i) e h) h V := rfl
theorem lM_idxv (n : Nat) (x i : Operand) : lM P (.idxv n x i) e h V X = opt (qV (.idxv n x i) e h) h V := rfl
theorem lM_idxvn (n k : Nat) (x i : Operand) : lM P (.idxvn n k x i) e h V X = opt (qV (.idxvn n k x i) e h) h V := rfl
theorem lM_lens (x : Operand) : lM P (.lens x) e h V X = opt (qV (.lens x) e h) h V := rfl
theorem lM_lenl (x : Operand) : lM P (.lenl x) e h V X = opt (qV (.lenl x) e h) h V := rfl
theorem lM_lenc (n : Nat) : lM P (.lenc n) e h V X = opt (qV (.lenc n) e h) h V := rfl
theorem lM_capl (x : Operand) : lM P (.capl x) e h V X = opt (qV (.capl x) e h) h V := rfl
theorem lM_mn (x y : Operand) : lM P (.mn x y) e h V X = opt (qV (.mn x y) e h) h V := rfl
theorem lM_mx (x y : Operand) : lM P (.mx x y) e h V X = opt (qV (.mx x y) e h) h V := rfl
theorem lM_ext (x : Operand) (i : Nat) : lM P (.ext x i) e h V X = opt (qV (.ext x i) e h) h V := rfl
-- effects
theorem lM_new (E : TypeId) (z : Array Value) : lM P (.new E z) e h V X = ∀ b, h b = none → V (.pointer (some ⟨b, 0, none⟩)) (hupd h b (.cells z E)) := rfl
def boxM (E : TypeId) (o : Option Value) (h : H) (V : Value → H → Prop) : Prop :=
  match o with
  | some v => ∀ b, h b = none → V (.pointer (some ⟨b, 0, none⟩)) (hupd h b (.cells v.cells E))
  | none => False
theorem lM_box (E : TypeId) (x : Operand) : lM P (.box E x) e h V X = boxM E (ev e x) h V := rfl
theorem boxM_some (E : TypeId) (v : Value) : boxM E (some v) h V = ∀ b, h b = none → V (.pointer (some ⟨b, 0, none⟩)) (hupd h b (.cells v.cells E)) := rfl
def litM (E : TypeId) (n : Nat) (o : Option (Array Value)) (h : H) (V : Value → H → Prop) : Prop :=
  match o with
  | some c => ∀ b, h b = none → V (.slice (some ⟨b, 0, none⟩) n n) (hupd h b (.cells c E))
  | none => False
theorem lM_lit (E : TypeId) (n : Nat) (z : Array Value) (ps : List (Nat × Nat × Operand)) : lM P (.lit E n z ps) e h V X = litM E n (ob (evp e ps) (fillV z)) h V := rfl
theorem litM_some (E : TypeId) (n : Nat) (c : Array Value) : litM E n (some c) h V = ∀ b, h b = none → V (.slice (some ⟨b, 0, none⟩) n n) (hupd h b (.cells c E)) := rfl
def stM (a x : Option Value) (h : H) (V : Value → H → Prop) : Prop :=
  match a, x with
  | some (.pointer (some p)), some v => storeH h p [v] fun h' => V undef h'
  | _, _ => False
theorem lM_st (a x : Operand) : lM P (.st a x) e h V X = stM (ev e a) (ev e x) h V := rfl
theorem stM_some (p : Addr) (v : Value) : stM (some (.pointer (some p))) (some v) h V = storeH h p [v] fun h' => V undef h' := rfl
def stnM (n : Nat) (a x : Option Value) (h : H) (V : Value → H → Prop) : Prop :=
  match a, x with
  | some (.pointer (some p)), some v => v.cells.size = n ∧ storeH h p v.cells.toList fun h' => V undef h'
  | _, _ => False
theorem lM_stn (n : Nat) (a x : Operand) : lM P (.stn n a x) e h V X = stnM n (ev e a) (ev e x) h V := rfl
theorem stnM_some (n : Nat) (p : Addr) (v : Value) : stnM n (some (.pointer (some p))) (some v) h V = (v.cells.size = n ∧ storeH h p v.cells.toList fun h' => V undef h') := rfl
def appK (E : TypeId) (size bytes : Nat) (z : Array Value) (s x : Option Value) (h : H) (V : Value → H → Prop) : Prop :=
  match s, x with
  | some s, some x => appM E size bytes z s x h V
  | _, _ => False
theorem lM_app (E : TypeId) (size bytes : Nat) (z : Array Value) (s x : Operand) : lM P (.app E size bytes z s x) e h V X = appK E size bytes z (ev e s) (ev e x) h V := rfl
theorem appK_some (E : TypeId) (size bytes : Nat) (z : Array Value) (s x : Value) : appK E size bytes z (some s) (some x) h V = appM E size bytes z s x h V := rfl
def callO {Pg : Program} (P : Cx Pg) (f : FuncId) (o : Option (List Value)) (h : H) (V : Value → H → Prop) (X : List PanicEntry → H → Prop) : Prop :=
  match o with
  | some vs => callK P f vs.toArray h V X
  | none => False
theorem lM_call (f : FuncId) (args : List Operand) : lM P (.call f args) e h V X = callO P f (evs e args) h V X := rfl
theorem callO_some (f : FuncId) (vs : List Value) : callO P f (some vs) h V X = callK P f vs.toArray h V X := rfl
def callvO {Pg : Program} (P : Cx Pg) (x : Option Value) (o : Option (List Value)) (h : H) (V : Value → H → Prop) (X : List PanicEntry → H → Prop) : Prop :=
  match x, o with
  | some (.func (.func f) first cap), some vs => callable P.prog f = true ∧ callK P f (first ++ vs.toArray ++ cap) h V X
  | _, _ => False
theorem lM_callv (x : Operand) (args : List Operand) : lM P (.callv x args) e h V X = callvO P (ev e x) (evs e args) h V X := rfl
theorem callvO_some (f : FuncId) (first cap : Array Value) (vs : List Value) : callvO P (some (.func (.func f) first cap)) (some vs) h V X = (callable P.prog f = true ∧ callK P f (first ++ vs.toArray ++ cap) h V X) := rfl
def xcM {Pg : Program} (P : Cx Pg) (f : FuncId) (args : Array Value) (h : H) (V : Value → H → Prop) : Prop := Does P (callFunc f args) h V
def xcO {Pg : Program} (P : Cx Pg) (f : FuncId) (o : Option (List Value)) (h : H) (V : Value → H → Prop) : Prop :=
  match o with
  | some vs => xcM P f vs.toArray h V
  | none => False
theorem lM_xc (f : FuncId) (args : List Operand) : lM P (.xc f args) e h V X = xcO P f (evs e args) h V := rfl
theorem xcO_some (f : FuncId) (vs : List Value) : xcO P f (some vs) h V = xcM P f vs.toArray h V := rfl
def pncM (x : Option Value) (h : H) (X : List PanicEntry → H → Prop) : Prop := False
theorem lM_pnc (x : Operand) : lM P (.pnc x) e h V X = pncM (ev e x) h X := rfl
theorem pncM_some (t : TypeId) (v : Value) : pncM (some (.iface t v)) h X = False := rfl
def makeM (E : TypeId) (size bytes : Nat) (z : Array Value) (l c : Option Value) (h : H) (V : Value → H → Prop) : Prop :=
  match l, c with
  | some (.int _ n), some (.int _ m) => (0 ≤ n ∧ n ≤ m ∧ m ≤ 9223372036854775807 ∧ bytes * m ≤ 281474976710656) ∧ ∀ b, h b = none → V (.slice (some ⟨b, 0, none⟩) n.toNat m.toNat) (hupd h b (.cells (Builtin.zeroCells z m.toNat) E))
  | _, _ => False
theorem lM_mkslice (E : TypeId) (size bytes : Nat) (z : Array Value) (l c : Operand) : lM P (.mkslice E size bytes z l c) e h V X = makeM E size bytes z (ev e l) (ev e c) h V := rfl
theorem makeM_some (E : TypeId) (size bytes : Nat) (z : Array Value) (i j : IntKind) (n m : Int) : makeM E size bytes z (some (.int i n)) (some (.int j m)) h V = ((0 ≤ n ∧ n ≤ m ∧ m ≤ 9223372036854775807 ∧ bytes * m ≤ 281474976710656) ∧ ∀ b, h b = none → V (.slice (some ⟨b, 0, none⟩) n.toNat m.toNat) (hupd h b (.cells (Builtin.zeroCells z m.toNat) E))) := rfl
def cpyM (size : Nat) (base : Option Addr) (dl : Nat) (s : Value) (h : H) (K : Value → H → Prop) : Prop :=
  match srcLen s with
  | some n => match srcCells h size (min n dl) s, base with
    | some new, some a => storeH h a new.toList fun h' => K (.int .i64 (min n dl : Nat)) h'
    | some _, none => K (.int .i64 (min n dl : Nat)) h
    | none, _ => False
  | none => False
def cpyK (size : Nat) (d s : Option Value) (h : H) (V : Value → H → Prop) : Prop :=
  match d, s with
  | some (.slice base dl _), some s => cpyM size base dl s h V
  | _, _ => False
theorem lM_cpy (size : Nat) (d s : Operand) : lM P (.cpy size d s) e h V X = cpyK size (ev e d) (ev e s) h V := by
  show (match ev e d, ev e s with | some (.slice base dl _), some s => _ | _, _ => False) = _
  rfl
theorem cpyK_some (size : Nat) (base : Option Addr) (dl dc : Nat) (s : Value) : cpyK size (some (.slice base dl dc)) (some s) h V = cpyM size base dl s h V := rfl
end
end Go.Proofs.Ytojhnclkhiffkaa

/-
  The rules of a walk, bundled.
-/
namespace Go.Proofs.Ytojhnclkhiffkaa
set_option linter.unusedVariables false

def dm : Prop := True
theorem dm_t : dm = True := by unfold dm; exact propext ⟨fun h => h, fun h => h⟩
@[congr] theorem cg_cseq {a b : LC} {L : List Nat} {d : Prop} (hd : dm = d) : LC.seq a L b = LC.seq a L b := rfl
@[congr] theorem cg_cops {l : List LO} {d : Prop} (hd : dm = d) : LC.ops l = LC.ops l := rfl
@[congr] theorem cg_cdraw {t : DT} {d : Prop} (hd : dm = d) : LC.draw t = LC.draw t := rfl
@[congr] theorem cg_ccond {c : Operand} {a b : LC} {d : Prop} (hd : dm = d) : LC.cond c a b = LC.cond c a b := rfl
@[congr] theorem cg_cblock {i : Nat} {a : LC} {d : Prop} (hd : dm = d) : LC.block i a = LC.block i a := rfl
@[congr] theorem cg_crf {g : Operand} {ps K Kb : List Nat} {a b : LC} {d : Prop} (hd : dm = d) : LC.rf g ps K Kb a b = LC.rf g ps K Kb a b := rfl
@[congr] theorem cg_cscope {a : LC} {d : Prop} (hd : dm = d) : LC.scope a = LC.scope a := rfl
@[congr] theorem cg_cloop {S K : List Nat} {a : LC} {d : Prop} (hd : dm = d) : LC.loop S K a = LC.loop S K a := rfl
@[congr] theorem cg_dq {i : Nat} {o : LO} {r : DT} {d : Prop} (hd : dm = d) : DT.q i o r = DT.q i o r := rfl
@[congr] theorem cg_de {i : Nat} {S : List Nat} {o : LO} {r : DT} {d : Prop} (hd : dm = d) : DT.e i S o r = DT.e i S o r := rfl
@[congr] theorem cg_dal {i : Nat} {S : List Nat} {o : LO} {r t : DT} {d : Prop} (hd : dm = d) : DT.al i S o r t = DT.al i S o r t := rfl
/-! What is looked into first: conditions and values, never what follows. -/
section
variable {Pg : Program} {P : Cx Pg} {e e' : Env} {h h' : H} {V : Value → H → Prop} {X : List PanicEntry → H → Prop}
@[congr] theorem cg_br {c c' A B : Prop} (hc : c = c') {d : Prop} (hd : dm = d) : br c A B = br c' A B := by rw [hc]
@[congr] theorem cg_opt {o o' : Option Value} (ho : o = o') {d : Prop} (hd : dm = d) : opt o h V = opt o' h V := by rw [ho]
@[congr] theorem cg_gM {o o' : Option Value} {w : Bool} {A B : Prop} (ho : o = o') {d : Prop} (hd : dm = d) : gM o w A B = gM o' w A B := by rw [ho]
@[congr] theorem cg_condM {o o' : Option Value} {A B : Prop} (ho : o = o') {d : Prop} (hd : dm = d) : condM o A B = condM o' A B := by rw [ho]
@[congr] theorem cg_retM {R : Ending → H → Prop} {o o' : Option (List Value)} (ho : o = o') {d : Prop} (hd : dm = d) : retM R o h = retM R o' h := by rw [ho]
@[congr] theorem cg_boxM {E : TypeId} {o o' : Option Value} (ho : o = o') {d : Prop} (hd : dm = d) : boxM E o h V = boxM E o' h V := by rw [ho]
@[congr] theorem cg_litM {E : TypeId} {n : Nat} {o o' : Option (Array Value)} (ho : o = o') {d : Prop} (hd : dm = d) : litM E n o h V = litM E n o' h V := by rw [ho]
@[congr] theorem cg_stM {a a' x x' : Option Value} (ha : a = a') (hx : x = x') {d : Prop} (hd : dm = d) : stM a x h V = stM a' x' h V := by rw [ha, hx]
@[congr] theorem cg_stnM {n : Nat} {a a' x x' : Option Value} (ha : a = a') (hx : x = x') {d : Prop} (hd : dm = d) : stnM n a x h V = stnM n a' x' h V := by rw [ha, hx]
@[congr] theorem cg_appK {E : TypeId} {n m : Nat} {z : Array Value} {a a' x x' : Option Value} (ha : a = a') (hx : x = x') {d : Prop} (hd : dm = d) : appK E n m z a x h V = appK E n m z a' x' h V := by rw [ha, hx]
@[congr] theorem cg_appM {E : TypeId} {n m : Nat} {z : Array Value} {a a' x x' : Value} (ha : a = a') (hx : x = x') {d : Prop} (hd : dm = d) : appM E n m z a x h V = appM E n m z a' x' h V := by rw [ha, hx]
@[congr] theorem cg_callO {f : FuncId} {o o' : Option (List Value)} (ho : o = o') {d : Prop} (hd : dm = d) : callO P f o h V X = callO P f o' h V X := by rw [ho]
@[congr] theorem cg_callvO {x x' : Option Value} {o o' : Option (List Value)} (hx : x = x') (ho : o = o') {d : Prop} (hd : dm = d) : callvO P x o h V X = callvO P x' o' h V X := by rw [hx, ho]
@[congr] theorem cg_xcO {f : FuncId} {o o' : Option (List Value)} (ho : o = o') {d : Prop} (hd : dm = d) : xcO P f o h V = xcO P f o' h V := by rw [ho]
@[congr] theorem cg_xcM {f : FuncId} {a a' : Array Value} (ha : a = a') {d : Prop} (hd : dm = d) : xcM P f a h V = xcM P f a' h V := by rw [ha]
@[congr] theorem cg_callK {f : FuncId} {a a' : Array Value} (ha : a = a') {d : Prop} (hd : dm = d) : callK P f a h V X = callK P f a' h V X := by rw [ha]
@[congr] theorem cg_pncM {o o' : Option Value} (ho : o = o') {d : Prop} (hd : dm = d) : pncM o h X = pncM o' h X := by rw [ho]
@[congr] theorem cg_makeM {E : TypeId} {n m : Nat} {z : Array Value} {a a' x x' : Option Value} (ha : a = a') (hx : x = x') {d : Prop} (hd : dm = d) : makeM E n m z a x h V = makeM E n m z a' x' h V := by rw [ha, hx]
@[congr] theorem cg_cpyK {n : Nat} {a a' x x' : Option Value} (ha : a = a') (hx : x = x') {d : Prop} (hd : dm = d) : cpyK n a x h V = cpyK n a' x' h V := by rw [ha, hx]
@[congr] theorem cg_cpyM {n : Nat} {base : Option Addr} {m m' : Nat} {x x' : Value} (hm : m = m') (hx : x = x') {d : Prop} (hd : dm = d) : cpyM n base m x h V = cpyM n base m' x' h V := by rw [hm, hx]
@[congr] theorem cg_storeH {a a' : Addr} {vs vs' : List Value} {K : H → Prop} (ha : a = a') (hv : vs = vs') {d : Prop} (hd : dm = d) : storeH h a vs K = storeH h a' vs' K := by rw [ha, hv]
@[congr] theorem cg_guardM {g g' : Option (Nat × Bool)} {A B : Prop} (hg : g = g') {d : Prop} (hd : dm = d) : guardM e g A B = guardM e g' A B := by rw [hg]
@[congr] theorem cg_lM {l : L} (he : e = e') {d : Prop} (hd : dm = d) : lM P l e h V X = lM P l e' h V X := by rw [he]
@[congr] theorem cg_vcDT {t t' : DT} {K : Env → H → Prop} {S : List (Nat × L × Env × Value)} (ht : t = t') (he : e = e') {d : Prop} (hd : dm = d) : vcDT P t K X S e h = vcDT P t' K X S e' h := by rw [ht, he]
@[congr] theorem cg_vc {c c' : LC} {Q : Post} (hc : c = c') (he : e = e') {d : Prop} (hd : dm = d) : vc P c Q e h = vc P c' Q e' h := by rw [hc, he]
@[congr] theorem cg_vcOps {l : List LO} {K : Env → H → Prop} (he : e = e') {d : Prop} (hd : dm = d) : vcOps P l K X e h = vcOps P l K X e' h := by rw [he]
end
section
variable {e : Env} {h : H}
theorem bq_tt : (true == true) = true := rfl
theorem bq_ff : (false == false) = true := rfl
theorem bq_tf : (true == false) = false := rfl
theorem bq_ft : (false == true) = false := rfl
theorem map_some_ {α β : Type} (f : α → β) (a : α) : Option.map f (some a) = some (f a) := rfl
theorem ob_some {α β : Type} (a : α) (f : α → Option β) : ob (some a) f = f a := rfl
@[congr] theorem cg_ob {α β : Type} {o o' : Option α} {f : α → Option β} (ho : o = o') {d : Prop} (hd : dm = d) : ob o f = ob o' f := by rw [ho]
theorem evs_cons' (x : Operand) (r : List Operand) : evs e (x :: r) = ob (ev e x) fun v => ob (evs e r) fun vs => some (v :: vs) := rfl
theorem evp_cons' (o n : Nat) (x : Operand) (r : List (Nat × Nat × Operand)) : evp e ((o, n, x) :: r) = ob (ev e x) fun v => ob (evp e r) fun vs => some ((o, n, v) :: vs) := rfl
theorem ps_mv (x : Operand) (i : Nat) (w : Value) (S : List (Nat × L × Env × Value)) : pushS i (.mv x) e w S = S := rfl
theorem ps_pick (a b c : Operand) (i : Nat) (w : Value) (S : List (Nat × L × Env × Value)) : pushS i (.pick a b c) e w S = S := rfl
theorem ps_agg (z : Array Value) (p : List (Nat × Nat × Operand)) (i : Nat) (w : Value) (S : List (Nat × L × Env × Value)) : pushS i (.agg z p) e w S = S := rfl
theorem ps_nilck (x : Operand) (i : Nat) (w : Value) (S : List (Nat × L × Env × Value)) : pushS i (.nilck x) e w S = S := rfl
theorem ps_bin (o : BinOp) (k : EqK) (x y : Operand) (i : Nat) (w : Value) (S : List (Nat × L × Env × Value)) : pushS i (.bin o k x y) e w S = S := rfl
theorem ps_un (o : UnOp) (x : Operand) (i : Nat) (w : Value) (S : List (Nat × L × Env × Value)) : pushS i (.un o x) e w S = S := rfl
theorem ps_cvi (k : IntKind) (x : Operand) (i : Nat) (w : Value) (S : List (Nat × L × Env × Value)) : pushS i (.cvi k x) e w S = S := rfl
theorem ps_cvss (x : Operand) (i : Nat) (w : Value) (S : List (Nat × L × Env × Value)) : pushS i (.cvss x) e w S = S := rfl
theorem ps_iface (T : TypeId) (x : Operand) (i : Nat) (w : Value) (S : List (Nat × L × Env × Value)) : pushS i (.iface T x) e w S = S := rfl
theorem ps_mkfn (f : Fn) (x y : List Operand) (i : Nat) (w : Value) (S : List (Nat × L × Env × Value)) : pushS i (.mkfn f x y) e w S = S := rfl
theorem ps_slc (n : Nat) (x : Operand) (a b c : Option Operand) (i : Nat) (w : Value) (S : List (Nat × L × Env × Value)) : pushS i (.slc n x a b c) e w S = S := rfl
theorem ps_slcs (x : Operand) (a b : Option Operand) (i : Nat) (w : Value) (S : List (Nat × L × Env × Value)) : pushS i (.slcs x a b) e w S = S := rfl
theorem ps_slca (m n : Nat) (x : Operand) (a b c : Option Operand) (i : Nat) (w : Value) (S : List (Nat × L × Env × Value)) : pushS i (.slca m n x a b c) e w S = S := rfl
theorem ps_lea (n : Nat) (x : Operand) (i : Nat) (w : Value) (S : List (Nat × L × Env × Value)) : pushS i (.lea n x) e w S = S := rfl
theorem ps_fld (n : Nat) (x : Operand) (i : Nat) (w : Value) (S : List (Nat × L × Env × Value)) : pushS i (.fld n x) e w S = S := rfl
theorem ps_fldn (m n : Nat) (x : Operand) (i : Nat) (w : Value) (S : List (Nat × L × Env × Value)) : pushS i (.fldn m n x) e w S = S := rfl
theorem ps_idx (n : Nat) (x y : Operand) (i : Nat) (w : Value) (S : List (Nat × L × Env × Value)) : pushS i (.idx n x y) e w S = S := rfl
theorem ps_idxp (m n : Nat) (x y : Operand) (i : Nat) (w : Value) (S : List (Nat × L × Env × Value)) : pushS i (.idxp m n x y) e w S = S := rfl
theorem ps_idxs (x y : Operand) (i : Nat) (w : Value) (S : List (Nat × L × Env × Value)) : pushS i (.idxs x y) e w S = S := rfl
theorem ps_idxv (n : Nat) (x y : Operand) (i : Nat) (w : Value) (S : List (Nat × L × Env × Value)) : pushS i (.idxv n x y) e w S = S := rfl
theorem ps_idxvn (m n : Nat) (x y : Operand) (i : Nat) (w : Value) (S : List (Nat × L × Env × Value)) : pushS i (.idxvn m n x y) e w S = S := rfl
theorem ps_lens (x : Operand) (i : Nat) (w : Value) (S : List (Nat × L × Env × Value)) : pushS i (.lens x) e w S = S := rfl
theorem ps_lenl (x : Operand) (i : Nat) (w : Value) (S : List (Nat × L × Env × Value)) : pushS i (.lenl x) e w S = S := rfl
theorem ps_lenc (n : Nat) (i : Nat) (w : Value) (S : List (Nat × L × Env × Value)) : pushS i (.lenc n) e w S = S := rfl
theorem ps_capl (x : Operand) (i : Nat) (w : Value) (S : List (Nat × L × Env × Value)) : pushS i (.capl x) e w S = S := rfl
theorem ps_mn (x y : Operand) (i : Nat) (w : Value) (S : List (Nat × L × Env × Value)) : pushS i (.mn x y) e w S = S := rfl
theorem ps_mx (x y : Operand) (i : Nat) (w : Value) (S : List (Nat × L × Env × Value)) : pushS i (.mx x y) e w S = S := rfl
theorem ps_ext (x : Operand) (n : Nat) (i : Nat) (w : Value) (S : List (Nat × L × Env × Value)) : pushS i (.ext x n) e w S = S := rfl
theorem qV_mv (x : Operand) : qV (.mv x) e h = ev e x := rfl
theorem mapt_nil : List.map Operand.tmp [] = [] := rfl
theorem mapt_cons (t : Nat) (r : List Nat) : List.map Operand.tmp (t :: r) = .tmp t :: List.map Operand.tmp r := rfl
def pickV (a b : Option Value) : Value → Option Value
  | .bool t => if t then a else b
  | _ => none
theorem qV_pick (c a b : Operand) : qV (.pick c a b) e h = ob (ev e c) (pickV (ev e a) (ev e b)) := by
  show ob (ev e c) _ = _
  congr 1
theorem pickV_t (a b : Option Value) : pickV a b (.bool true) = a := rfl
theorem pickV_f (a b : Option Value) : pickV a b (.bool false) = b := rfl
theorem pickV_b (x : Bool) (a b : Value) : pickV (some a) (some b) (.bool x) = some (if x then a else b) := by cases x <;> rfl
theorem qV_agg (z : Array Value) (ps : List (Nat × Nat × Operand)) : qV (.agg z ps) e h = ob (evp e ps) fun vs => (fillV z vs).map .agg := rfl
def ldV (h : H) : Value → Option Value
  | .pointer (some p) => cellAt h p
  | _ => none
theorem qV_ld (a : Operand) : qV (.ld a) e h = ob (ev e a) fun v => ldV h v := by
  show ob (ev e a) _ = _
  congr 1
theorem ldV_ptr (p : Addr) : ldV h (.pointer (some p)) = cellAt h p := rfl
def ldnV (h : H) (n : Nat) : Value → Option Value
  | .pointer (some p) => (cellsAt h p n).map .agg
  | _ => none
theorem qV_ldn (n : Nat) (a : Operand) : qV (.ldn n a) e h = ob (ev e a) fun v => ldnV h n v := by
  show ob (ev e a) _ = _
  congr 1
theorem ldnV_ptr (n : Nat) (p : Addr) : ldnV h n (.pointer (some p)) = (cellsAt h p n).map .agg := rfl
def nilckV : Value → Option Value
  | .pointer (some p) => some (.pointer (some p))
  | .func (.func f) a c => some (.func (.func f) a c)
  | .iface t x => some (.iface t x)
  | _ => none
theorem qV_nilck (x : Operand) : qV (.nilck x) e h = ob (ev e x) nilckV := by
  show ob (ev e x) _ = _
  congr 1
theorem nilck_ptr (p : Addr) : nilckV (.pointer (some p)) = some (.pointer (some p)) := rfl
theorem nilck_func (f : FuncId) (a c : Array Value) : nilckV (.func (.func f) a c) = some (.func (.func f) a c) := rfl
theorem nilck_iface (t : TypeId) (x : Value) : nilckV (.iface t x) = some (.iface t x) := rfl
theorem qV_bin (op : BinOp) (k : EqK) (x y : Operand) : qV (.bin op k x y) e h = ob (ev e x) fun a => ob (ev e y) fun b => binV op k a b := rfl
theorem qV_un (op : UnOp) (x : Operand) : qV (.un op x) e h = ob (ev e x) fun v => unV op v := rfl
def cviV (k : IntKind) : Value → Option Value
  | .int _ n => some (.int k (k.wrap n))
  | _ => none
theorem qV_cvi (k : IntKind) (x : Operand) : qV (.cvi k x) e h = ob (ev e x) (cviV k) := by
  show ob (ev e x) _ = _
  congr 1
theorem cvi_int (k j : IntKind) (n : Int) : cviV k (.int j n) = some (.int k (k.wrap n)) := rfl
def strOf : Value → Option Value
  | .string s => some (.string s)
  | _ => none
theorem qV_cvss (x : Operand) : qV (.cvss x) e h = ob (ev e x) strOf := by
  show ob (ev e x) _ = _
  congr 1
theorem strOf_s (s : ByteArray) : strOf (.string s) = some (.string s) := rfl
theorem qV_iface (T : TypeId) (x : Operand) : qV (.iface T x) e h = ob (ev e x) fun v => some (.iface T v) := rfl
theorem qV_mkfn (fn : Fn) (a b : List Operand) : qV (.mkfn fn a b) e h = ob (evs e a) fun a => ob (evs e b) fun c => some (.func fn a.toArray c.toArray) := rfl
def slcV1 (size : Nat) (m3 : Bool) (m hi lo : Option Nat → Option Int) (v : Value) : Option Value :=
  match v with
  | .slice a len cap => ob (m (some cap)) fun m => ob (hi (some len)) fun h' => ob (lo (some 0)) fun l' => slcV size a len cap m3 l' h' m
  | _ => none
theorem qV_slc (n : Nat) (x : Operand) (lo hi mx : Option Operand) : qV (.slc n x lo hi mx) e h = ob (ev e x) (slcV1 n mx.isSome (fun d => bnd e mx (d.getD 0)) (fun d => bnd e hi (d.getD 0)) (fun d => bnd e lo (d.getD 0))) := by
  show ob (ev e x) _ = _
  congr 1
theorem slc1_s (size : Nat) (m3 : Bool) (m hi lo : Option Nat → Option Int) (a : Option Addr) (len cap : Nat) : slcV1 size m3 m hi lo (.slice a len cap) = ob (m (some cap)) fun m => ob (hi (some len)) fun h' => ob (lo (some 0)) fun l' => slcV size a len cap m3 l' h' m := rfl
theorem getD_some' (n : Nat) : (some n).getD 0 = n := rfl
theorem bnd_none (d : Nat) : bnd e none d = some (d : Int) := rfl
def intOfV : Value → Option Int
  | .int _ n => some n
  | _ => none
theorem bnd_some (x : Operand) (d : Nat) : bnd e (some x) d = ob (ev e x) intOfV := by
  show ob (ev e x) _ = _
  congr 1
theorem intOfV_int (k : IntKind) (n : Int) : intOfV (.int k n) = some n := rfl
def slcsV1 (hi lo : Option Nat → Option Int) (v : Value) : Option Value :=
  match v with
  | .string s => ob (hi (some s.size)) fun h' => ob (lo (some 0)) fun l' => chk (0 ≤ l' ∧ l' ≤ h' ∧ h' ≤ s.size) (.string (s.extract l'.toNat h'.toNat))
  | _ => none
theorem qV_slcs (x : Operand) (lo hi : Option Operand) : qV (.slcs x lo hi) e h = ob (ev e x) (slcsV1 (fun d => bnd e hi (d.getD 0)) (fun d => bnd e lo (d.getD 0))) := by
  show ob (ev e x) _ = _
  congr 1
theorem slcs1_s (hi lo : Option Nat → Option Int) (s : ByteArray) : slcsV1 hi lo (.string s) = ob (hi (some s.size)) fun h' => ob (lo (some 0)) fun l' => chk (0 ≤ l' ∧ l' ≤ h' ∧ h' ≤ s.size) (.string (s.extract l'.toNat h'.toNat)) := rfl
def leaV (k : Nat) : Value → Option Value
  | .pointer (some p) => some (.pointer (some (p.add k)))
  | _ => none
theorem qV_lea (k : Nat) (x : Operand) : qV (.lea k x) e h = ob (ev e x) (leaV k) := by
  show ob (ev e x) _ = _
  congr 1
theorem lea_ptr (k : Nat) (b o : Nat) : leaV k (.pointer (some ⟨b, o, none⟩)) = some (.pointer (some ⟨b, o + k, none⟩)) := by
  show some (Value.pointer (some (Addr.add ⟨b, o, none⟩ k))) = _
  rw [add_mk]
def fldV (k : Nat) : Value → Option Value
  | .agg cs => cs[k]?
  | _ => none
theorem qV_fld (k : Nat) (x : Operand) : qV (.fld k x) e h = ob (ev e x) (fldV k) := by
  show ob (ev e x) _ = _
  congr 1
theorem fld_agg (k : Nat) (cs : Array Value) : fldV k (.agg cs) = cs[k]? := rfl
def fldnV (k n : Nat) : Value → Option Value
  | .agg cs => some (.agg (cs.extract k (k + n)))
  | _ => none
theorem qV_fldn (k n : Nat) (x : Operand) : qV (.fldn k n x) e h = ob (ev e x) (fldnV k n) := by
  show ob (ev e x) _ = _
  congr 1
theorem fldn_agg (k n : Nat) (cs : Array Value) : fldnV k n (.agg cs) = some (.agg (cs.extract k (k + n))) := rfl
def idxV1 (size : Nat) (v j : Value) : Option Value :=
  match v, j with
  | .slice (some p) len _, .int _ j => chk (0 ≤ j ∧ j < len) (.pointer (some (p.add (j.toNat * size))))
  | _, _ => none
theorem qV_idx (k : Nat) (x i : Operand) : qV (.idx k x i) e h = ob (ev e x) fun v => ob (ev e i) fun j => idxV1 k v j := by
  show ob (ev e x) _ = _
  congr 1
theorem idx_s (size b o len cap : Nat) (k : IntKind) (j : Int) : idxV1 size (.slice (some ⟨b, o, none⟩) len cap) (.int k j) = chk (0 ≤ j ∧ j < len) (.pointer (some ⟨b, o + j.toNat * size, none⟩)) := by
  show chk _ _ = _
  rw [add_mk]
def idxpV1 (n size : Nat) (v j : Value) : Option Value :=
  match v, j with
  | .pointer (some p), .int _ j => chk (0 ≤ j ∧ j < n) (.pointer (some (p.add (j.toNat * size))))
  | _, _ => none
theorem qV_idxp (n k : Nat) (x i : Operand) : qV (.idxp n k x i) e h = ob (ev e x) fun v => ob (ev e i) fun j => idxpV1 n k v j := by
  show ob (ev e x) _ = _
  congr 1
theorem idxp_s (n size b o : Nat) (k : IntKind) (j : Int) : idxpV1 n size (.pointer (some ⟨b, o, none⟩)) (.int k j) = chk (0 ≤ j ∧ j < n) (.pointer (some ⟨b, o + j.toNat * size, none⟩)) := by
  show chk _ _ = _
  rw [add_mk]
def idxsV1 (v j : Value) : Option Value :=
  match v, j with
  | .string s, .int _ j => ob (chk (0 ≤ j) ()) fun _ => (s[j.toNat]?).map fun b => .int .u8 b.toNat
  | _, _ => none
theorem qV_idxs (x i : Operand) : qV (.idxs x i) e h = ob (ev e x) fun v => ob (ev e i) fun j => idxsV1 v j := by
  show ob (ev e x) _ = _
  congr 1
theorem idxs_s (s : ByteArray) (k : IntKind) (j : Int) : idxsV1 (.string s) (.int k j) = ob (chk (0 ≤ j) ()) fun _ => (s[j.toNat]?).map fun b => .int .u8 b.toNat := rfl
def idxvV1 (n : Nat) (v j : Value) : Option Value :=
  match v, j with
  | .agg cs, .int _ j => ob (chk (0 ≤ j ∧ j < n) ()) fun _ => cs[j.toNat]?
  | _, _ => none
theorem qV_idxv (n : Nat) (x i : Operand) : qV (.idxv n x i) e h = ob (ev e x) fun v => ob (ev e i) fun j => idxvV1 n v j := by
  show ob (ev e x) _ = _
  congr 1
theorem idxv_s (n : Nat) (cs : Array Value) (k : IntKind) (j : Int) : idxvV1 n (.agg cs) (.int k j) = ob (chk (0 ≤ j ∧ j < n) ()) fun _ => cs[j.toNat]? := rfl
def lensV : Value → Option Value
  | .string s => some (.int .i64 s.size)
  | _ => none
theorem qV_lens (x : Operand) : qV (.lens x) e h = ob (ev e x) lensV := by
  show ob (ev e x) _ = _
  congr 1
theorem lens_s (s : ByteArray) : lensV (.string s) = some (.int .i64 s.size) := rfl
def lenlV : Value → Option Value
  | .slice _ n _ => some (.int .i64 n)
  | _ => none
theorem qV_lenl (x : Operand) : qV (.lenl x) e h = ob (ev e x) lenlV := by
  show ob (ev e x) _ = _
  congr 1
theorem lenl_s (a : Option Addr) (n c : Nat) : lenlV (.slice a n c) = some (.int .i64 n) := rfl
theorem qV_lenc (n : Nat) : qV (.lenc n) e h = some (.int .i64 n) := rfl
def caplV : Value → Option Value
  | .slice _ _ n => some (.int .i64 n)
  | _ => none
theorem qV_capl (x : Operand) : qV (.capl x) e h = ob (ev e x) caplV := by
  show ob (ev e x) _ = _
  congr 1
theorem capl_s (a : Option Addr) (n c : Nat) : caplV (.slice a n c) = some (.int .i64 c) := rfl
def mnV (a b : Value) : Option Value :=
  match a, b with
  | .int k a, .int _ b => some (.int k (if b < a then b else a))
  | _, _ => none
theorem qV_mn (x y : Operand) : qV (.mn x y) e h = ob (ev e x) fun a => ob (ev e y) fun b => mnV a b := by
  show ob (ev e x) _ = _
  congr 1
theorem mn_int (k j : IntKind) (a b : Int) : mnV (.int k a) (.int j b) = some (.int k (min a b)) := by
  show some (Value.int k (if b < a then b else a)) = _
  congr 2; omega
def mxV (a b : Value) : Option Value :=
  match a, b with
  | .int k a, .int _ b => some (.int k (if a < b then b else a))
  | _, _ => none
theorem qV_mx (x y : Operand) : qV (.mx x y) e h = ob (ev e x) fun a => ob (ev e y) fun b => mxV a b := by
  show ob (ev e x) _ = _
  congr 1
theorem mx_int (k j : IntKind) (a b : Int) : mxV (.int k a) (.int j b) = some (.int k (max a b)) := by
  show some (Value.int k (if a < b then b else a)) = _
  congr 2; omega
def extV (i : Nat) : Value → Option Value
  | .tuple vs => vs[i]?
  | _ => none
theorem qV_ext (x : Operand) (i : Nat) : qV (.ext x i) e h = ob (ev e x) (extV i) := by
  show ob (ev e x) _ = _
  congr 1
theorem ext_t (i : Nat) (vs : Array Value) : extV i (.tuple vs) = vs[i]? := rfl
-- numbers
section
variable (k : IntKind) (q : EqK) (a b : Int)
theorem bin_add : binV .add q (.int k a) (.int k b) = some (.int k (k.wrap (a + b))) := by simp [binV, intV]
theorem bin_sub : binV .sub q (.int k a) (.int k b) = some (.int k (k.wrap (a - b))) := by simp [binV, intV]
theorem bin_mul : binV .mul q (.int k a) (.int k b) = some (.int k (k.wrap (a * b))) := by simp [binV, intV]
theorem bin_quo : binV .quo q (.int k a) (.int k b) = chk (b ≠ 0) (.int k (k.wrap (a.tdiv b))) := by simp [binV, intV]
theorem bin_rem : binV .rem q (.int k a) (.int k b) = chk (b ≠ 0) (.int k (a.tmod b)) := by simp [binV, intV]
theorem bin_and : binV .and q (.int k a) (.int k b) = some (.int k (k.wrap (BitVec.ofInt k.bits a &&& BitVec.ofInt k.bits b).toNat)) := by simp [binV, intV]
theorem bin_or : binV .or q (.int k a) (.int k b) = some (.int k (k.wrap (BitVec.ofInt k.bits a ||| BitVec.ofInt k.bits b).toNat)) := by simp [binV, intV]
theorem bin_xor : binV .xor q (.int k a) (.int k b) = some (.int k (k.wrap (BitVec.ofInt k.bits a ^^^ BitVec.ofInt k.bits b).toNat)) := by simp [binV, intV]
theorem bin_shl (j : IntKind) : binV .shl q (.int k a) (.int j b) = chk (0 ≤ b) (.int k (k.wrap (a * 2 ^ min b.toNat k.bits))) := rfl
theorem bin_shr (j : IntKind) : binV .shr q (.int k a) (.int j b) = chk (0 ≤ b) (.int k (a.fdiv (2 ^ min b.toNat k.bits))) := rfl
theorem bin_eql : binV .eql q (.int k a) (.int k b) = some (.bool (decide (a = b))) := by simp [binV, intV]
theorem bin_neq : binV .neq q (.int k a) (.int k b) = some (.bool (!decide (a = b))) := by simp [binV, intV]
theorem bin_lss : binV .lss q (.int k a) (.int k b) = some (.bool (decide (a < b))) := by simp [binV, intV]
theorem bin_leq : binV .leq q (.int k a) (.int k b) = some (.bool (decide (a ≤ b))) := by simp [binV, intV]
theorem bin_gtr : binV .gtr q (.int k a) (.int k b) = some (.bool (decide (b < a))) := by simp [binV, intV]
theorem bin_geq : binV .geq q (.int k a) (.int k b) = some (.bool (decide (b ≤ a))) := by simp [binV, intV]
theorem un_neg : unV .neg (.int k a) = some (.int k (k.wrap (0 - a))) := rfl
end
theorem un_not (b : Bool) : unV .not (.bool b) = some (.bool !b) := rfl
-- texts
section
variable (q : EqK) (s t : ByteArray)
theorem str_eql : binV .eql q (.string s) (.string t) = some (.bool (decide (s.toList = t.toList))) := rfl
theorem str_neq : binV .neq q (.string s) (.string t) = some (.bool (!decide (s.toList = t.toList))) := rfl
theorem str_add : binV .add q (.string s) (.string t) = chk (s.size + t.size ≤ 9223372036854775807) (.string (s ++ t)) := rfl
end
-- what is no number and no text
theorem eq_bool (a b : Bool) : binV .eql .bool (.bool a) (.bool b) = some (.bool (a == b)) := rfl
theorem ne_bool (a b : Bool) : binV .neq .bool (.bool a) (.bool b) = some (.bool (!(a == b))) := rfl
theorem eq_ptr_n (b : Option Addr) : binV .eql .ptr (.pointer none) (.pointer b) = some (.bool b.isNone) := rfl
theorem ne_ptr_n (b : Option Addr) : binV .neq .ptr (.pointer none) (.pointer b) = some (.bool (!b.isNone)) := rfl
theorem eq_ptr_s (a : Addr) : binV .eql .ptr (.pointer (some a)) (.pointer none) = some (.bool false) := rfl
theorem ne_ptr_s (a : Addr) : binV .neq .ptr (.pointer (some a)) (.pointer none) = some (.bool true) := rfl
theorem eq_slc_n (n c : Nat) (b : Option Addr) (m d : Nat) : binV .eql .slice (.slice none n c) (.slice b m d) = some (.bool b.isNone) := rfl
theorem ne_slc_n (n c : Nat) (b : Option Addr) (m d : Nat) : binV .neq .slice (.slice none n c) (.slice b m d) = some (.bool (!b.isNone)) := rfl
theorem eq_slc_s (a : Addr) (n c m d : Nat) : binV .eql .slice (.slice (some a) n c) (.slice none m d) = some (.bool false) := rfl
theorem ne_slc_s (a : Addr) (n c m d : Nat) : binV .neq .slice (.slice (some a) n c) (.slice none m d) = some (.bool true) := rfl
theorem eq_map_n (b : Option Nat) : binV .eql .map (.map none) (.map b) = some (.bool b.isNone) := rfl
theorem ne_map_n (b : Option Nat) : binV .neq .map (.map none) (.map b) = some (.bool (!b.isNone)) := rfl
theorem eq_map_s (a : Nat) : binV .eql .map (.map (some a)) (.map none) = some (.bool false) := rfl
theorem ne_map_s (a : Nat) : binV .neq .map (.map (some a)) (.map none) = some (.bool true) := rfl
theorem eq_fn_n : binV .eql .func .nilFunc .nilFunc = some (.bool true) := rfl
theorem eq_fn_1 (f : Fn) (a c : Array Value) : binV .eql .func .nilFunc (.func f a c) = some (.bool false) := rfl
theorem eq_fn_2 (f : Fn) (a c : Array Value) : binV .eql .func (.func f a c) .nilFunc = some (.bool false) := rfl
theorem ne_fn_n : binV .neq .func .nilFunc .nilFunc = some (.bool false) := rfl
theorem ne_fn_1 (f : Fn) (a c : Array Value) : binV .neq .func .nilFunc (.func f a c) = some (.bool true) := rfl
theorem ne_fn_2 (f : Fn) (a c : Array Value) : binV .neq .func (.func f a c) .nilFunc = some (.bool true) := rfl
theorem slcV_eq (size : Nat) (a : Option Addr) (len cap : Nat) (m3 : Bool) (lo hi mx : Int) : slcV size a len cap m3 lo hi mx = chk (0 ≤ lo ∧ lo ≤ hi ∧ hi ≤ mx ∧ mx ≤ cap ∧ (m3 = true ∨ mx = cap)) (.slice (if mx = lo then a else a.map (·.add (lo.toNat * size))) (hi.toNat - lo.toNat) (mx.toNat - lo.toNat)) := rfl
theorem fill_nil (c : Array Value) : fillV c [] = some c := rfl
theorem fill_cons (c : Array Value) (o n : Nat) (v : Value) (r : List (Nat × Nat × Value)) : fillV c ((o, n, v) :: r) = if v.cells.size = n ∧ o + n ≤ c.size then fillV (splice c o v.cells.toList) r else none := rfl
theorem cells_int (k : IntKind) (n : Int) : (Value.int k n).cells = #[.int k n] := rfl
theorem cells_bool (b : Bool) : (Value.bool b).cells = #[.bool b] := rfl
theorem cells_str (s : ByteArray) : (Value.string s).cells = #[.string s] := rfl
theorem cells_ptr (a : Option Addr) : (Value.pointer a).cells = #[.pointer a] := rfl
theorem cells_slc (a : Option Addr) (n c : Nat) : (Value.slice a n c).cells = #[.slice a n c] := rfl
theorem cells_map (r : Option Nat) : (Value.map r).cells = #[.map r] := rfl
theorem cells_func (f : Fn) (a c : Array Value) : (Value.func f a c).cells = #[.func f a c] := rfl
theorem cells_nilf : Value.nilFunc.cells = #[.nilFunc] := rfl
theorem cells_iface (t : TypeId) (v : Value) : (Value.iface t v).cells = #[.iface t v] := rfl
theorem cells_nili : Value.nilIface.cells = #[.nilIface] := rfl
theorem cells_float (k : FloatKind) (n : Nat) : (Value.float k n).cells = #[.float k n] := rfl
theorem cells_agg (c : Array Value) : (Value.agg c).cells = c := rfl
theorem ic_int (k : IntKind) (n : Int) : isCell (.int k n) = true := rfl
theorem ic_bool (b : Bool) : isCell (.bool b) = true := rfl
theorem ic_str (s : ByteArray) : isCell (.string s) = true := rfl
theorem ic_ptr (a : Option Addr) : isCell (.pointer a) = true := rfl
theorem ic_slc (a : Option Addr) (n c : Nat) : isCell (.slice a n c) = true := rfl
theorem ic_map (r : Option Nat) : isCell (.map r) = true := rfl
theorem ic_func (f : Fn) (a c : Array Value) : isCell (.func f a c) = true := rfl
theorem ic_nilf : isCell .nilFunc = true := rfl
theorem ic_iface (t : TypeId) (v : Value) : isCell (.iface t v) = true := rfl
theorem ic_nili : isCell .nilIface = true := rfl
theorem ic_float (k : FloatKind) (n : Nat) : isCell (.float k n) = true := rfl
theorem arr_size (l : List Value) : l.toArray.size = l.length := rfl
theorem len_nil : ([] : List Value).length = 0 := rfl
theorem len_cons (v : Value) (l : List Value) : (v :: l).length = l.length + 1 := rfl
theorem arr_set0 (v w : Value) (l : List Value) : (v :: l).toArray.setIfInBounds 0 w = (w :: l).toArray := rfl
theorem arr_set1 (v w : Value) (l : List Value) (n : Nat) : (v :: l).toArray.setIfInBounds (n + 1) w = (v :: (l.set n w)).toArray := by simp
theorem lst_set0 (v w : Value) (l : List Value) : (v :: l).set 0 w = w :: l := rfl
theorem lst_set1 (v w : Value) (l : List Value) (n : Nat) : (v :: l).set (n + 1) w = v :: l.set n w := rfl
theorem arr_toList (l : List Value) : l.toArray.toList = l := rfl
theorem splice_nil (c : Array Value) (o : Nat) : splice c o [] = c := rfl
theorem splice_cons (c : Array Value) (o : Nat) (v : Value) (r : List Value) : splice c o (v :: r) = splice (c.setIfInBounds o v) (o + 1) r := rfl
-- memory
theorem cellAt_of {b : Nat} {c : Array Value} {E : TypeId} {fr : Nat × Nat} (hb : h b = some (.cells c E fr)) (o : Nat) : cellAt h ⟨b, o, none⟩ = c[o]? := by
  unfold cellAt; rw [hb]; rfl
theorem cellAt_same (b o : Nat) (c : Array Value) (E : TypeId) (fr : Nat × Nat) : cellAt (hupd h b (.cells c E fr)) ⟨b, o, none⟩ = c[o]? := cellAt_of (hupd_same _ _ _) o
theorem cellsAt_of {b : Nat} {c : Array Value} {E : TypeId} {fr : Nat × Nat} (hb : h b = some (.cells c E fr)) {o n : Nat} (hl : o + n ≤ c.size) : cellsAt h ⟨b, o, none⟩ n = some (c.extract o (o + n)) := by
  unfold cellsAt; rw [hb]
  by_cases h0 : n = 0
  · subst h0; rw [if_pos rfl]; congr 1; apply Array.ext'; simp
  · rw [if_neg h0]; simp [hl]
theorem cellsAt_0 (a : Addr) : cellsAt h a 0 = some #[] := rfl
theorem storeH_nil (a : Addr) (K : H → Prop) : storeH h a [] K = K h := rfl
theorem storeH_in {b : Nat} {c : Array Value} {E : TypeId} {fr : Nat × Nat} (hb : h b = some (.cells c E fr)) {o : Nat} {vs : List Value} {K : H → Prop} (h1 : fr.2 ≤ o ∨ o + vs.length ≤ fr.1) (h2 : o + vs.length ≤ c.size) (h3 : vs.all isCell = true) (hK : K (hupd h b (.cells (splice c o vs) E fr))) :
    storeH h ⟨b, o, none⟩ vs K := by
  unfold storeH
  by_cases h0 : vs = []
  · subst h0
    have : hupd h b (.cells (splice c o []) E fr) = h := by
      funext x; unfold hupd; split
      · rename_i hx; subst hx; rw [hb]; rfl
      · rfl
    rw [this] at hK
    rw [if_pos rfl]; exact hK
  · rw [if_neg h0, hb]; exact ⟨h1, rfl, h2, h3, hK⟩
theorem storeH_of {b : Nat} {c : Array Value} {E : TypeId} {fr : Nat × Nat} (hb : h b = some (.cells c E fr)) (o : Nat) {vs : List Value} (hv : vs ≠ []) (K : H → Prop) :
    storeH h ⟨b, o, none⟩ vs K = ((fr.2 ≤ o ∨ o + vs.length ≤ fr.1) ∧ o + vs.length ≤ c.size ∧ vs.all isCell = true ∧ K (hupd h b (.cells (splice c o vs) E fr))) := by
  unfold storeH; rw [if_neg hv, hb]; simp
theorem storeH_0 {b : Nat} {c : Array Value} {E : TypeId} (hb : h b = some (.cells c E (0, 0))) (o : Nat) (v : Value) (K : H → Prop) :
    storeH h ⟨b, o, none⟩ [v] K = (o < c.size ∧ isCell v = true ∧ K (hupd h b (.cells (c.setIfInBounds o v) E))) := by
  rw [storeH_of hb _ (by simp)]; simp [splice, Nat.lt_iff_add_one_le]
end

theorem wrap_i64 {x : Int} (h1 : -9223372036854775808 ≤ x) (h2 : x ≤ 9223372036854775807) : IntKind.i64.wrap x = x := by
  simp only [IntKind.wrap, IntKind.bits, IntKind.signed, Bool.true_and, ge_iff_le, decide_eq_true_eq]
  split <;> omega
theorem wrap_u64 {x : Int} (h1 : 0 ≤ x) (h2 : x ≤ 18446744073709551615) : IntKind.u64.wrap x = x := by
  simp only [IntKind.wrap, IntKind.bits, IntKind.signed, Bool.false_and, Bool.false_eq_true, if_false]
  omega
theorem wrap_u32 {x : Int} (h1 : 0 ≤ x) (h2 : x ≤ 4294967295) : IntKind.u32.wrap x = x := by
  simp only [IntKind.wrap, IntKind.bits, IntKind.signed, Bool.false_and, Bool.false_eq_true, if_false]
  omega
theorem wrap_u16 {x : Int} (h1 : 0 ≤ x) (h2 : x ≤ 65535) : IntKind.u16.wrap x = x := by
  simp only [IntKind.wrap, IntKind.bits, IntKind.signed, Bool.false_and, Bool.false_eq_true, if_false]
  omega
theorem wrap_u8 {x : Int} (h1 : 0 ≤ x) (h2 : x ≤ 255) : IntKind.u8.wrap x = x := by
  simp only [IntKind.wrap, IntKind.bits, IntKind.signed, Bool.false_and, Bool.false_eq_true, if_false]
  omega
theorem wrap_i32 {x : Int} (h1 : -2147483648 ≤ x) (h2 : x ≤ 2147483647) : IntKind.i32.wrap x = x := by
  simp only [IntKind.wrap, IntKind.bits, IntKind.signed, Bool.true_and, ge_iff_le, decide_eq_true_eq]
  split <;> omega

theorem getlit0 (v : Value) (r : List Value) : ((v :: r).toArray)[0]? = some v := by simp
theorem getlit1 (v : Value) (r : List Value) (n : Nat) : ((v :: r).toArray)[n + 1]? = (r.toArray)[n]? := by simp

/-! ### Weakening what is asked -/
section
variable {Pg : Program} {P : Cx Pg}
theorem storeH_mono {h : H} {a : Addr} {vs : List Value} {K K' : H → Prop} (hk : ∀ h, K h → K' h) (hm : storeH h a vs K) : storeH h a vs K' := by
  unfold storeH at *
  split at hm
  · rename_i h0; rw [if_pos h0]; exact hk _ hm
  rename_i h0
  rw [if_neg h0]
  split at hm
  · exact ⟨hm.1, hm.2.1, hm.2.2.1, hm.2.2.2.1, hk _ hm.2.2.2.2⟩
  · split at hm
    · exact ⟨hm.1, hm.2.1, hm.2.2.1, hm.2.2.2.1, hm.2.2.2.2.1, hk _ hm.2.2.2.2.2⟩
    · exact hm.elim
  · exact hm.elim
theorem appM_mono {E : TypeId} {n b : Nat} {z : Array Value} {s x : Value} {h : H} {K K' : Value → H → Prop} (hk : ∀ v h, K v h → K' v h) (hm : appM E n b z s x h K) : appM E n b z s x h K' := by
  unfold appM at *
  split at hm
  · split at hm
    · rename_i hle
      rw [if_pos hle]
      split at hm
      · exact storeH_mono (fun h => hk _ h) hm
      · exact hk _ _ hm
      · exact hm.elim
    · rename_i hle
      rw [if_neg hle]
      obtain ⟨h1, h2⟩ := hm
      refine ⟨h1, ?_⟩
      split at h2
      · exact fun c hc b hb => hk _ _ (h2 c hc b hb)
      · exact h2.elim
  · exact hm.elim
theorem callK_mono {f : FuncId} {a : Array Value} {h : H} {K K' : Value → H → Prop} {X X' : List PanicEntry → H → Prop} (hk : ∀ v h, K v h → K' v h) (hx : ∀ c h, X c h → X' c h) (hm : callK P f a h K X) : callK P f a h K' X' :=
  Does.mono hm hk
theorem lM_mono {l : L} {e : Env} {h : H} {K K' : Value → H → Prop} {X X' : List PanicEntry → H → Prop} (hk : ∀ v h, K v h → K' v h) (hx : ∀ c h, X c h → X' c h) (hm : lM P l e h K X) : lM P l e h K' X' := by
  by_cases hq : isQ l = true
  · obtain ⟨v, h1, h2⟩ := lM_q hq hm
    have : lM P l e h K' X' = opt (qV l e h) h K' := by cases l <;> first | rfl | (simp [isQ] at hq)
    rw [this, h1]
    exact hk _ _ h2
  · cases l <;> first | exact absurd rfl hq | skip
    case new => exact fun b hb => hk _ _ (hm b hb)
    case box => simp only [lM] at hm ⊢; split at hm; exact fun b hb => hk _ _ (hm b hb); exact hm.elim
    case lit => simp only [lM] at hm ⊢; split at hm; exact fun b hb => hk _ _ (hm b hb); exact hm.elim
    case st => simp only [lM] at hm ⊢; split at hm; exact storeH_mono (fun h => hk _ h) hm; exact hm.elim
    case stn => simp only [lM] at hm ⊢; split at hm; exact ⟨hm.1, storeH_mono (fun h => hk _ h) hm.2⟩; exact hm.elim
    case cvsb => exact hm.elim
    case cvbs => exact hm.elim
    case mkslice => simp only [lM] at hm ⊢; split at hm; exact ⟨hm.1, fun b hb => hk _ _ (hm.2 b hb)⟩; exact hm.elim
    case app => simp only [lM] at hm ⊢; split at hm; exact appM_mono hk hm; exact hm.elim
    case cpy =>
      simp only [lM] at hm ⊢; split at hm
      · split at hm
        · split at hm
          · exact storeH_mono (fun h => hk _ h) hm
          · exact hk _ _ hm
          · exact hm.elim
        · exact hm.elim
      · exact hm.elim
    case call => simp only [lM] at hm ⊢; split at hm; exact callK_mono hk hx hm; exact hm.elim
    case callv => simp only [lM] at hm ⊢; split at hm; exact ⟨hm.1, callK_mono hk hx hm.2⟩; exact hm.elim
    case xc => simp only [lM] at hm ⊢; split at hm; exact Does.mono hm hk; exact hm.elim
    case pnc => exact hm.elim
    case raw => exact fun a ha => Does.mono (hm a ha) hk
    case bad => exact hm
theorem guardM_mono {e : Env} {g : Option (Nat × Bool)} {A A' B B' : Prop} (ha : A → A') (hb : B → B') (hm : guardM e g A B) : guardM e g A' B' := by
  unfold guardM at *
  split at hm
  · exact ha hm
  · split at hm
    · exact ⟨fun h => ha (hm.1 h), fun h => hb (hm.2 h)⟩
    · exact hm.elim
theorem vcOps_mono : ∀ (l : List LO) {K K' : Env → H → Prop} {X X' : List PanicEntry → H → Prop} {e : Env} {h : H}, (∀ e h, K e h → K' e h) → (∀ c h, X c h → X' c h) → vcOps P l K X e h → vcOps P l K' X' e h
  | [], _, _, _, _, _, _, hk, _, hm => hk _ _ hm
  | o :: r, _, _, _, _, _, _, hk, hx, hm => guardM_mono (lM_mono (fun v h hm => vcOps_mono r hk hx hm) hx) (vcOps_mono r hk hx) hm
theorem vcDT_mono : ∀ (t : DT) {K K' : Env → H → Prop} {X X' : List PanicEntry → H → Prop} {S : List (Nat × L × Env × Value)} {e : Env} {h : H}, (∀ e h, K e h → K' e h) → (∀ c h, X c h → X' c h) → vcDT P t K X S e h → vcDT P t K' X' S e h
  | .done, _, _, _, _, _, _, _, hk, _, hm => hk _ _ hm
  | .q i o r, _, _, _, _, _, _, _, hk, hx, hm => by
    refine guardM_mono (fun hm => ?_) (vcDT_mono r hk hx) hm
    unfold opt at *
    split at hm
    · exact vcDT_mono r hk hx hm
    · exact hm.elim
  | .e i Z o r, _, _, _, _, _, _, _, hk, hx, hm => guardM_mono (lM_mono (fun v h hm => ⟨hm.1, vcDT_mono r hk hx hm.2⟩) hx) (vcDT_mono r hk hx) hm
  | .al i Z o r t, _, _, _, _, _, _, _, hk, hx, hm => ⟨guardM_mono (lM_mono (fun v h hm => ⟨hm.1, vcDT_mono r hk hx hm.2⟩) hx) (vcDT_mono r hk hx) hm.1, vcDT_mono t hk hx hm.2⟩
theorem vc_mono : ∀ {c : LC} {Q Q' : Post} {e : Env} {h : H}, (∀ x e h, Q x e h → Q' x e h) → vc P c Q e h → vc P c Q' e h := by
  intro c
  induction c with
  | skip => exact fun hq hm => hq _ _ _ hm
  | ret => exact fun hq hm => hq _ _ _ hm
  | exit id => exact fun hq hm => hq _ _ _ hm
  | goto l => exact fun _ hm => hm.elim
  | bad => exact fun _ hm => hm.elim
  | ops l => exact fun hq hm => vcOps_mono l (fun e h => hq _ e h) (fun c h => hq _ _ h) hm
  | draw t => exact fun hq hm => vcDT_mono t (fun e h => hq _ e h) (fun c h => hq _ _ h) hm
  | seq a L b iha ihb =>
    intro Q Q' e h hq hm
    refine iha (fun x e' h' hx => ?_) hm
    cases x with
    | normal => exact ihb hq hx
    | _ => exact hq _ _ _ hx
  | cond c a b iha ihb =>
    intro Q Q' e h hq hm
    simp only [vc, condM] at hm ⊢
    split at hm
    · exact ⟨fun h => iha hq (hm.1 h), fun h => ihb hq (hm.2 h)⟩
    · exact hm.elim
  | block id a ih =>
    intro Q Q' e h hq hm
    refine ih (fun x e' h' hx => ?_) hm
    cases x with
    | exit i =>
      simp only at hx ⊢
      split
      · rename_i hi; rw [if_pos hi] at hx; exact hq _ _ _ hx
      · rename_i hi; rw [if_neg hi] at hx; exact hq _ _ _ hx
    | _ => exact hq _ _ _ hx
  | loop S K a ih =>
    intro Q Q' e h hq hm
    obtain ⟨I, μ, h1, h2⟩ := hm
    refine ⟨I, μ, h1, fun vs h' hl hI => ih (fun x e' h'' hx => ?_) (h2 vs h' hl hI)⟩
    cases x with
    | normal => exact hx
    | _ => exact hq _ _ _ hx
  | rf g ps K Kb a b iha ihb => exact fun _ hm => hm.elim
  | scope a ih => exact fun _ hm => hm.elim
end
/-! ### Loops -/
/-- The number in a slot, for a measure. -/
def m1 : Value → Nat
  | .int _ n => n.toNat
  | _ => 0
def asks (o : Option Value) (F : Value → Prop) : Prop :=
  match o with
  | some v => F v
  | none => False
theorem asks_some (v : Value) (F : Value → Prop) : asks (some v) F = F v := rfl
@[congr] theorem cg_asks {o o' : Option Value} {F : Value → Prop} (ho : o = o') {d : Prop} (hd : dm = d) : asks o F = asks o' F := by rw [ho]
theorem asks_ex {o : Option Value} {F : Value → Prop} (h : asks o F) : ∃ v, o = some v ∧ F v := by
  cases o with
  | none => exact h.elim
  | some v => exact ⟨v, rfl, h⟩
/-- A loop of 0 slots that turn. -/
def lq0 (K : List Nat) (kk : Env) (I : H → Prop) (μ : H → Nat) (m : Nat) (Q : Post) : Post := fun x e' h' =>
  match x with
  | .normal => (I h' ∧ μ h' < m) ∧ e'.keep K = kk
  | x => Q x e' h'
theorem lq0_n {K : List Nat} {kk : Env} {I : H → Prop} {μ : H → Nat} {m : Nat} {Q : Post} {e : Env} {h : H} : lq0 K kk I μ m Q .normal e h = ((I h ∧ μ h < m) ∧ e.keep K = kk) := rfl
theorem lq0_r {K : List Nat} {kk : Env} {I : H → Prop} {μ : H → Nat} {m : Nat} {Q : Post} {e : Env} {h : H} : lq0 K kk I μ m Q .ret e h = Q .ret e h := rfl
theorem lq0_e {K : List Nat} {kk : Env} {I : H → Prop} {μ : H → Nat} {m : Nat} {Q : Post} {e : Env} {h : H} (i : Nat) : lq0 K kk I μ m Q (.exit i) e h = Q (.exit i) e h := rfl
theorem lq0_p {K : List Nat} {kk : Env} {I : H → Prop} {μ : H → Nat} {m : Nat} {Q : Post} {e : Env} {h : H} (c : List PanicEntry) : lq0 K kk I μ m Q (.panic c) e h = Q (.panic c) e h := rfl
theorem vc_loop0 {Pg : Program} {P : Cx Pg} {K : List Nat} {c : LC} {Q : Post} {e : Env} {h : H} (I : H → Prop) (μ : H → Nat) (h1 : I h)
    (h2 : ∀ h', I h' → vc P c (lq0 K (e.keep K) I μ (μ h') Q) (e.keep K) h') : vc P (.loop [] K c) Q e h := by
  refine ⟨fun vs h' => match vs with | [] => I h' | _ => False, fun vs h' => match vs with | [] => μ h' | _ => 0, ?_, ?_⟩
  · exact ⟨[], rfl, h1⟩
  · intro vs h' hl hI
    match vs, hl, hI with
    | [], _, hI =>
      refine vc_mono ?_ (h2 h' hI)
      intro x e' h'' hx
      cases x with
      | normal =>
        obtain ⟨hx, hk⟩ := hx
        exact ⟨⟨[], rfl, hx.1, hx.2⟩, hk⟩
      | _ => exact hx
/-- A loop of 1 slots that turn. -/
def lq1 (s1 : Nat) (K : List Nat) (kk : Env) (I : Value → H → Prop) (μ : Value → H → Nat) (m : Nat) (Q : Post) : Post := fun x e' h' =>
  match x with
  | .normal => (asks (e'.get s1) fun w1 => I w1 h' ∧ μ w1 h' < m) ∧ e'.keep K = kk
  | x => Q x e' h'
theorem lq1_n {s1 : Nat} {K : List Nat} {kk : Env} {I : Value → H → Prop} {μ : Value → H → Nat} {m : Nat} {Q : Post} {e : Env} {h : H} : lq1 s1 K kk I μ m Q .normal e h = ((asks (e.get s1) fun w1 => I w1 h ∧ μ w1 h < m) ∧ e.keep K = kk) := rfl
theorem lq1_r {s1 : Nat} {K : List Nat} {kk : Env} {I : Value → H → Prop} {μ : Value → H → Nat} {m : Nat} {Q : Post} {e : Env} {h : H} : lq1 s1 K kk I μ m Q .ret e h = Q .ret e h := rfl
theorem lq1_e {s1 : Nat} {K : List Nat} {kk : Env} {I : Value → H → Prop} {μ : Value → H → Nat} {m : Nat} {Q : Post} {e : Env} {h : H} (i : Nat) : lq1 s1 K kk I μ m Q (.exit i) e h = Q (.exit i) e h := rfl
theorem lq1_p {s1 : Nat} {K : List Nat} {kk : Env} {I : Value → H → Prop} {μ : Value → H → Nat} {m : Nat} {Q : Post} {e : Env} {h : H} (c : List PanicEntry) : lq1 s1 K kk I μ m Q (.panic c) e h = Q (.panic c) e h := rfl
theorem vc_loop1 {Pg : Program} {P : Cx Pg} {s1 : Nat} {K : List Nat} {c : LC} {Q : Post} {e : Env} {h : H} (I : Value → H → Prop) (μ : Value → H → Nat) (h1 : asks (e.get s1) fun v1 => I v1 h)
    (h2 : ∀ (v1 : Value) h', I v1 h' → vc P c (lq1 s1 K (e.keep K) I μ (μ v1 h') Q) ((s1, v1) :: e.keep K) h') : vc P (.loop [s1] K c) Q e h := by
  refine ⟨fun vs h' => match vs with | [v1] => I v1 h' | _ => False, fun vs h' => match vs with | [v1] => μ v1 h' | _ => 0, ?_, ?_⟩
  · obtain ⟨v1, g1, h1⟩ := asks_ex h1
    exact ⟨[v1], by simp [evs, ev, g1], h1⟩
  · intro vs h' hl hI
    match vs, hl, hI with
    | [v1], _, hI =>
      refine vc_mono ?_ (h2 v1 h' hI)
      intro x e' h'' hx
      cases x with
      | normal =>
        obtain ⟨hx, hk⟩ := hx
        obtain ⟨w1, g1, hx⟩ := asks_ex hx
        exact ⟨⟨[w1], by simp [evs, ev, g1], hx.1, hx.2⟩, hk⟩
      | _ => exact hx
/-- A loop of 2 slots that turn. -/
def lq2 (s1 s2 : Nat) (K : List Nat) (kk : Env) (I : Value → Value → H → Prop) (μ : Value → Value → H → Nat) (m : Nat) (Q : Post) : Post := fun x e' h' =>
  match x with
  | .normal => (asks (e'.get s1) fun w1 => asks (e'.get s2) fun w2 => I w1 w2 h' ∧ μ w1 w2 h' < m) ∧ e'.keep K = kk
  | x => Q x e' h'
theorem lq2_n {s1 s2 : Nat} {K : List Nat} {kk : Env} {I : Value → Value → H → Prop} {μ : Value → Value → H → Nat} {m : Nat} {Q : Post} {e : Env} {h : H} : lq2 s1 s2 K kk I μ m Q .normal e h = ((asks (e.get s1) fun w1 => asks (e.get s2) fun w2 => I w1 w2 h ∧ μ w1 w2 h < m) ∧ e.keep K = kk) := rfl
theorem lq2_r {s1 s2 : Nat} {K : List Nat} {kk : Env} {I : Value → Value → H → Prop} {μ : Value → Value → H → Nat} {m : Nat} {Q : Post} {e : Env} {h : H} : lq2 s1 s2 K kk I μ m Q .ret e h = Q .ret e h := rfl
theorem lq2_e {s1 s2 : Nat} {K : List Nat} {kk : Env} {I : Value → Value → H → Prop} {μ : Value → Value → H → Nat} {m : Nat} {Q : Post} {e : Env} {h : H} (i : Nat) : lq2 s1 s2 K kk I μ m Q (.exit i) e h = Q (.exit i) e h := rfl
theorem lq2_p {s1 s2 : Nat} {K : List Nat} {kk : Env} {I : Value → Value → H → Prop} {μ : Value → Value → H → Nat} {m : Nat} {Q : Post} {e : Env} {h : H} (c : List PanicEntry) : lq2 s1 s2 K kk I μ m Q (.panic c) e h = Q (.panic c) e h := rfl
theorem vc_loop2 {Pg : Program} {P : Cx Pg} {s1 s2 : Nat} {K : List Nat} {c : LC} {Q : Post} {e : Env} {h : H} (I : Value → Value → H → Prop) (μ : Value → Value → H → Nat) (h1 : asks (e.get s1) fun v1 => asks (e.get s2) fun v2 => I v1 v2 h)
    (h2 : ∀ (v1 v2 : Value) h', I v1 v2 h' → vc P c (lq2 s1 s2 K (e.keep K) I μ (μ v1 v2 h') Q) ((s1, v1) :: (s2, v2) :: e.keep K) h') : vc P (.loop [s1, s2] K c) Q e h := by
  refine ⟨fun vs h' => match vs with | [v1, v2] => I v1 v2 h' | _ => False, fun vs h' => match vs with | [v1, v2] => μ v1 v2 h' | _ => 0, ?_, ?_⟩
  · obtain ⟨v1, g1, h1⟩ := asks_ex h1
    obtain ⟨v2, g2, h1⟩ := asks_ex h1
    exact ⟨[v1, v2], by simp [evs, ev, g1, g2], h1⟩
  · intro vs h' hl hI
    match vs, hl, hI with
    | [v1, v2], _, hI =>
      refine vc_mono ?_ (h2 v1 v2 h' hI)
      intro x e' h'' hx
      cases x with
      | normal =>
        obtain ⟨hx, hk⟩ := hx
        obtain ⟨w1, g1, hx⟩ := asks_ex hx
        obtain ⟨w2, g2, hx⟩ := asks_ex hx
        exact ⟨⟨[w1, w2], by simp [evs, ev, g1, g2], hx.1, hx.2⟩, hk⟩
      | _ => exact hx
/-- A loop of 3 slots that turn. -/
def lq3 (s1 s2 s3 : Nat) (K : List Nat) (kk : Env) (I : Value → Value → Value → H → Prop) (μ : Value → Value → Value → H → Nat) (m : Nat) (Q : Post) : Post := fun x e' h' =>
  match x with
  | .normal => (asks (e'.get s1) fun w1 => asks (e'.get s2) fun w2 => asks (e'.get s3) fun w3 => I w1 w2 w3 h' ∧ μ w1 w2 w3 h' < m) ∧ e'.keep K = kk
  | x => Q x e' h'
theorem lq3_n {s1 s2 s3 : Nat} {K : List Nat} {kk : Env} {I : Value → Value → Value → H → Prop} {μ : Value → Value → Value → H → Nat} {m : Nat} {Q : Post} {e : Env} {h : H} : lq3 s1 s2 s3 K kk I μ m Q .normal e h = ((asks (e.get s1) fun w1 => asks (e.get s2) fun w2 => asks (e.get s3) fun w3 => I w1 w2 w3 h ∧ μ w1 w2 w3 h < m) ∧ e.keep K = kk) := rfl
theorem lq3_r {s1 s2 s3 : Nat} {K : List Nat} {kk : Env} {I : Value → Value → Value → H → Prop} {μ : Value → Value → Value → H → Nat} {m : Nat} {Q : Post} {e : Env} {h : H} : lq3 s1 s2 s3 K kk I μ m Q .ret e h = Q .ret e h := rfl
theorem lq3_e {s1 s2 s3 : Nat} {K : List Nat} {kk : Env} {I : Value → Value → Value → H → Prop} {μ : Value → Value → Value → H → Nat} {m : Nat} {Q : Post} {e : Env} {h : H} (i : Nat) : lq3 s1 s2 s3 K kk I μ m Q (.exit i) e h = Q (.exit i) e h := rfl
theorem lq3_p {s1 s2 s3 : Nat} {K : List Nat} {kk : Env} {I : Value → Value → Value → H → Prop} {μ : Value → Value → Value → H → Nat} {m : Nat} {Q : Post} {e : Env} {h : H} (c : List PanicEntry) : lq3 s1 s2 s3 K kk I μ m Q (.panic c) e h = Q (.panic c) e h := rfl
/-- A loop of 4 slots that turn. -/
def lq4 (s1 s2 s3 s4 : Nat) (K : List Nat) (kk : Env) (I : Value → Value → Value → Value → H → Prop) (μ : Value → Value → Value → Value → H → Nat) (m : Nat) (Q : Post) : Post := fun x e' h' =>
  match x with
  | .normal => (asks (e'.get s1) fun w1 => asks (e'.get s2) fun w2 => asks (e'.get s3) fun w3 => asks (e'.get s4) fun w4 => I w1 w2 w3 w4 h' ∧ μ w1 w2 w3 w4 h' < m) ∧ e'.keep K = kk
  | x => Q x e' h'
theorem lq4_n {s1 s2 s3 s4 : Nat} {K : List Nat} {kk : Env} {I : Value → Value → Value → Value → H → Prop} {μ : Value → Value → Value → Value → H → Nat} {m : Nat} {Q : Post} {e : Env} {h : H} : lq4 s1 s2 s3 s4 K kk I μ m Q .normal e h = ((asks (e.get s1) fun w1 => asks (e.get s2) fun w2 => asks (e.get s3) fun w3 => asks (e.get s4) fun w4 => I w1 w2 w3 w4 h ∧ μ w1 w2 w3 w4 h < m) ∧ e.keep K = kk) := rfl
theorem lq4_r {s1 s2 s3 s4 : Nat} {K : List Nat} {kk : Env} {I : Value → Value → Value → Value → H → Prop} {μ : Value → Value → Value → Value → H → Nat} {m : Nat} {Q : Post} {e : Env} {h : H} : lq4 s1 s2 s3 s4 K kk I μ m Q .ret e h = Q .ret e h := rfl
theorem lq4_e {s1 s2 s3 s4 : Nat} {K : List Nat} {kk : Env} {I : Value → Value → Value → Value → H → Prop} {μ : Value → Value → Value → Value → H → Nat} {m : Nat} {Q : Post} {e : Env} {h : H} (i : Nat) : lq4 s1 s2 s3 s4 K kk I μ m Q (.exit i) e h = Q (.exit i) e h := rfl
theorem lq4_p {s1 s2 s3 s4 : Nat} {K : List Nat} {kk : Env} {I : Value → Value → Value → Value → H → Prop} {μ : Value → Value → Value → Value → H → Nat} {m : Nat} {Q : Post} {e : Env} {h : H} (c : List PanicEntry) : lq4 s1 s2 s3 s4 K kk I μ m Q (.panic c) e h = Q (.panic c) e h := rfl
/-- A loop of 5 slots that turn. -/
def lq5 (s1 s2 s3 s4 s5 : Nat) (K : List Nat) (kk : Env) (I : Value → Value → Value → Value → Value → H → Prop) (μ : Value → Value → Value → Value → Value → H → Nat) (m : Nat) (Q : Post) : Post := fun x e' h' =>
  match x with
  | .normal => (asks (e'.get s1) fun w1 => asks (e'.get s2) fun w2 => asks (e'.get s3) fun w3 => asks (e'.get s4) fun w4 => asks (e'.get s5) fun w5 => I w1 w2 w3 w4 w5 h' ∧ μ w1 w2 w3 w4 w5 h' < m) ∧ e'.keep K = kk
  | x => Q x e' h'
theorem lq5_n {s1 s2 s3 s4 s5 : Nat} {K : List Nat} {kk : Env} {I : Value → Value → Value → Value → Value → H → Prop} {μ : Value → Value → Value → Value → Value → H → Nat} {m : Nat} {Q : Post} {e : Env} {h : H} : lq5 s1 s2 s3 s4 s5 K kk I μ m Q .normal e h = ((asks (e.get s1) fun w1 => asks (e.get s2) fun w2 => asks (e.get s3) fun w3 => asks (e.get s4) fun w4 => asks (e.get s5) fun w5 => I w1 w2 w3 w4 w5 h ∧ μ w1 w2 w3 w4 w5 h < m) ∧ e.keep K = kk) := rfl
theorem lq5_r {s1 s2 s3 s4 s5 : Nat} {K : List Nat} {kk : Env} {I : Value → Value → Value → Value → Value → H → Prop} {μ : Value → Value → Value → Value → Value → H → Nat} {m : Nat} {Q : Post} {e : Env} {h : H} : lq5 s1 s2 s3 s4 s5 K kk I μ m Q .ret e h = Q .ret e h := rfl
theorem lq5_e {s1 s2 s3 s4 s5 : Nat} {K : List Nat} {kk : Env} {I : Value → Value → Value → Value → Value → H → Prop} {μ : Value → Value → Value → Value → Value → H → Nat} {m : Nat} {Q : Post} {e : Env} {h : H} (i : Nat) : lq5 s1 s2 s3 s4 s5 K kk I μ m Q (.exit i) e h = Q (.exit i) e h := rfl
theorem lq5_p {s1 s2 s3 s4 s5 : Nat} {K : List Nat} {kk : Env} {I : Value → Value → Value → Value → Value → H → Prop} {μ : Value → Value → Value → Value → Value → H → Nat} {m : Nat} {Q : Post} {e : Env} {h : H} (c : List PanicEntry) : lq5 s1 s2 s3 s4 s5 K kk I μ m Q (.panic c) e h = Q (.panic c) e h := rfl
theorem vc_loop5 {Pg : Program} {P : Cx Pg} {s1 s2 s3 s4 s5 : Nat} {K : List Nat} {c : LC} {Q : Post} {e : Env} {h : H} (I : Value → Value → Value → Value → Value → H → Prop) (μ : Value → Value → Value → Value → Value → H → Nat) (h1 : asks (e.get s1) fun v1 => asks (e.get s2) fun v2 => asks (e.get s3) fun v3 => asks (e.get s4) fun v4 => asks (e.get s5) fun v5 => I v1 v2 v3 v4 v5 h)
    (h2 : ∀ (v1 v2 v3 v4 v5 : Value) h', I v1 v2 v3 v4 v5 h' → vc P c (lq5 s1 s2 s3 s4 s5 K (e.keep K) I μ (μ v1 v2 v3 v4 v5 h') Q) ((s1, v1) :: (s2, v2) :: (s3, v3) :: (s4, v4) :: (s5, v5) :: e.keep K) h') : vc P (.loop [s1, s2, s3, s4, s5] K c) Q e h := by
  refine ⟨fun vs h' => match vs with | [v1, v2, v3, v4, v5] => I v1 v2 v3 v4 v5 h' | _ => False, fun vs h' => match vs with | [v1, v2, v3, v4, v5] => μ v1 v2 v3 v4 v5 h' | _ => 0, ?_, ?_⟩
  · obtain ⟨v1, g1, h1⟩ := asks_ex h1
    obtain ⟨v2, g2, h1⟩ := asks_ex h1
    obtain ⟨v3, g3, h1⟩ := asks_ex h1
    obtain ⟨v4, g4, h1⟩ := asks_ex h1
    obtain ⟨v5, g5, h1⟩ := asks_ex h1
    exact ⟨[v1, v2, v3, v4, v5], by simp [evs, ev, g1, g2, g3, g4, g5], h1⟩
  · intro vs h' hl hI
    match vs, hl, hI with
    | [v1, v2, v3, v4, v5], _, hI =>
      refine vc_mono ?_ (h2 v1 v2 v3 v4 v5 h' hI)
      intro x e' h'' hx
      cases x with
      | normal =>
        obtain ⟨hx, hk⟩ := hx
        obtain ⟨w1, g1, hx⟩ := asks_ex hx
        obtain ⟨w2, g2, hx⟩ := asks_ex hx
        obtain ⟨w3, g3, hx⟩ := asks_ex hx
        obtain ⟨w4, g4, hx⟩ := asks_ex hx
        obtain ⟨w5, g5, hx⟩ := asks_ex hx
        exact ⟨⟨[w1, w2, w3, w4, w5], by simp [evs, ev, g1, g2, g3, g4, g5], hx.1, hx.2⟩, hk⟩
      | _ => exact hx
/-- A loop of 6 slots that turn. -/
def lq6 (s1 s2 s3 s4 s5 s6 : Nat) (K : List Nat) (kk : Env) (I : Value → Value → Value → Value → Value → Value → H → Prop) (μ : Value → Value → Value → Value → Value → Value → H → Nat) (m : Nat) (Q : Post) : Post := fun x e' h' =>
  match x with
  | .normal => (asks (e'.get s1) fun w1 => asks (e'.get s2) fun w2 => asks (e'.get s3) fun w3 => asks (e'.get s4) fun w4 => asks (e'.get s5) fun w5 => asks (e'.get s6) fun w6 => I w1 w2 w3 w4 w5 w6 h' ∧ μ w1 w2 w3 w4 w5 w6 h' < m) ∧ e'.keep K = kk
  | x => Q x e' h'
theorem lq6_n {s1 s2 s3 s4 s5 s6 : Nat} {K : List Nat} {kk : Env} {I : Value → Value → Value → Value → Value → Value → H → Prop} {μ : Value → Value → Value → Value → Value → Value → H → Nat} {m : Nat} {Q : Post} {e : Env} {h : H} : lq6 s1 s2 s3 s4 s5 s6 K kk I μ m Q .normal e h = ((asks (e.get s1) fun w1 => asks (e.get s2) fun w2 => asks (e.get s3) fun w3 => asks (e.get s4) fun w4 => asks (e.get s5) fun w5 => asks (e.get s6) fun w6 => I w1 w2 w3 w4 w5 w6 h ∧ μ w1 w2 w3 w4 w5 w6 h < m) ∧ e.keep K = kk) := rfl
theorem lq6_r {s1 s2 s3 s4 s5 s6 : Nat} {K : List Nat} {kk : Env} {I : Value → Value → Value → Value → Value → Value → H → Prop} {μ : Value → Value → Value → Value → Value → Value → H → Nat} {m : Nat} {Q : Post} {e : Env} {h : H} : lq6 s1 s2 s3 s4 s5 s6 K kk I μ m Q .ret e h = Q .ret e h := rfl
theorem lq6_e {s1 s2 s3 s4 s5 s6 : Nat} {K : List Nat} {kk : Env} {I : Value → Value → Value → Value → Value → Value → H → Prop} {μ : Value → Value → Value → Value → Value → Value → H → Nat} {m : Nat} {Q : Post} {e : Env} {h : H} (i : Nat) : lq6 s1 s2 s3 s4 s5 s6 K kk I μ m Q (.exit i) e h = Q (.exit i) e h := rfl
theorem lq6_p {s1 s2 s3 s4 s5 s6 : Nat} {K : List Nat} {kk : Env} {I : Value → Value → Value → Value → Value → Value → H → Prop} {μ : Value → Value → Value → Value → Value → Value → H → Nat} {m : Nat} {Q : Post} {e : Env} {h : H} (c : List PanicEntry) : lq6 s1 s2 s3 s4 s5 s6 K kk I μ m Q (.panic c) e h = Q (.panic c) e h := rfl
/-! ### Bundles -/
theorem wA : type_of% (And.intro @br_T (And.intro @br_F (And.intro @vc_skip (And.intro @vc_ret (And.intro @vc_exit (And.intro @vc_ops (And.intro @vc_draw (And.intro @vc_seq (And.intro @seqQ_normal (And.intro @seqQ_ret (And.intro @seqQ_exit (And.intro @seqQ_panic (And.intro @vc_cond (And.intro @condM_t (And.intro @condM_f (And.intro @condM_bool (And.intro @vc_block (And.intro @blockQ_normal (And.intro @blockQ_ret (And.intro @blockQ_panic (And.intro @blockQ_exit (And.intro @vcOps_nil (And.intro @vcOps_cons (And.intro @guardM_none (And.intro @guardM_some (And.intro @gM_undef (And.intro @gM_tt (And.intro @gM_tf (And.intro @gM_ft (And.intro @gM_ff (And.intro @gM_t (And.intro @gM_f (And.intro @vcDT_done (And.intro @vcDT_q (And.intro @pushS_ld (And.intro @pushS_ldn (And.intro @vcDT_e (And.intro @vcDT_al (And.intro @stab_nil (And.intro @memN_nil (And.intro @memN_cons (And.intro @stab_cons (And.intro @opt_some (And.intro @opt_none (And.intro @get_cons (And.intro @get_nil (And.intro @ev_tmp (And.intro @ev_const (And.intro @ev_global (And.intro @ev_func (And.intro @put_some (And.intro @put_none (And.intro @keep_nil (And.intro @keep_cons (And.intro @keepM_some (And.intro @keepM_none (And.intro @evs_nil (And.intro @evp_nil (And.intro @argEnv_nil (And.intro @argEnv_cons (And.intro @retQ_ret (And.intro @retQ_normal (And.intro @retM_one (And.intro @retM_nil (And.intro @retM_two (And.intro @retQ_panic (And.intro @ret_ok (And.intro @lM_mv (And.intro @lM_pick (And.intro @lM_agg (And.intro @lM_ld (And.intro @lM_ldn (And.intro @lM_nilck (And.intro @lM_bin (And.intro @lM_un (And.intro @lM_cvi (And.intro @lM_cvss (And.intro @lM_iface (And.intro @lM_mkfn (And.intro @lM_slc (And.intro @lM_slcs (And.intro @lM_slca (And.intro @lM_lea (And.intro @lM_fld (And.intro @lM_fldn (And.intro @lM_idx (And.intro @lM_idxp (And.intro @lM_idxs (And.intro @lM_idxv (And.intro @lM_idxvn (And.intro @lM_lens (And.intro @lM_lenl (And.intro @lM_lenc (And.intro @lM_capl (And.intro @lM_mn (And.intro @lM_mx (And.intro @lM_ext (And.intro @lM_new (And.intro @lM_box (And.intro @boxM_some (And.intro @lM_lit (And.intro @litM_some (And.intro @lM_st (And.intro @stM_some (And.intro @lM_stn (And.intro @stnM_some (And.intro @lM_app (And.intro @appK_some (And.intro @lM_call (And.intro @callO_some (And.intro @lM_callv (And.intro @callvO_some (And.intro @lM_xc (And.intro @xcO_some (And.intro @lM_pnc (And.intro @pncM_some (And.intro @lM_mkslice (And.intro @makeM_some (And.intro @lM_cpy (@cpyK_some)))))))))))))))))))))))))))))))))))))))))))))))))))))))))))))))))))))))))))))))))))))))))))))))))))))))))))))))))))))))) :=
  And.intro @br_T (And.intro @br_F (And.intro @vc_skip (And.intro @vc_ret (And.intro @vc_exit (And.intro @vc_ops (And.intro @vc_draw (And.intro @vc_seq (And.intro @seqQ_normal (And.intro @seqQ_ret (And.intro @seqQ_exit (And.intro @seqQ_panic (And.intro @vc_cond (And.intro @condM_t (And.intro @condM_f (And.intro @condM_bool (And.intro @vc_block (And.intro @blockQ_normal (And.intro @blockQ_ret (And.intro @blockQ_panic (And.intro @blockQ_exit (And.intro @vcOps_nil (And.intro @vcOps_cons (And.intro @guardM_none (And.intro @guardM_some (And.intro @gM_undef (And.intro @gM_tt (And.intro @gM_tf (And.intro @gM_ft (And.intro @gM_ff (And.intro @gM_t (And.intro @gM_f (And.intro @vcDT_done (And.intro @vcDT_q (And.intro @pushS_ld (And.intro @pushS_ldn (And.intro @vcDT_e (And.intro @vcDT_al (And.intro @stab_nil (And.intro @memN_nil (And.intro @memN_cons (And.intro @stab_cons (And.intro @opt_some (And.intro @opt_none (And.intro @get_cons (And.intro @get_nil (And.intro @ev_tmp (And.intro @ev_const (And.intro @ev_global (And.intro @ev_func (And.intro @put_some (And.intro @put_none (And.intro @keep_nil (And.intro @keep_cons (And.intro @keepM_some (And.intro @keepM_none (And.intro @evs_nil (And.intro @evp_nil (And.intro @argEnv_nil (And.intro @argEnv_cons (And.intro @retQ_ret (And.intro @retQ_normal (And.intro @retM_one (And.intro @retM_nil (And.intro @retM_two (And.intro @retQ_panic (And.intro @ret_ok (And.intro @lM_mv (And.intro @lM_pick (And.intro @lM_agg (And.intro @lM_ld (And.intro @lM_ldn (And.intro @lM_nilck (And.intro @lM_bin (And.intro @lM_un (And.intro @lM_cvi (And.intro @lM_cvss (And.intro @lM_iface (And.intro @lM_mkfn (And.intro @lM_slc (And.intro @lM_slcs (And.intro @lM_slca (And.intro @lM_lea (And.intro @lM_fld (And.intro @lM_fldn (And.intro @lM_idx (And.intro @lM_idxp (And.intro @lM_idxs (And.intro @lM_idxv (And.intro @lM_idxvn (And.intro @lM_lens (And.intro @lM_lenl (And.intro @lM_lenc (And.intro @lM_capl (And.intro @lM_mn (And.intro @lM_mx (And.intro @lM_ext (And.intro @lM_new (And.intro @lM_box (And.intro @boxM_some (And.intro @lM_lit (And.intro @litM_some (And.intro @lM_st (And.intro @stM_some (And.intro @lM_stn (And.intro @stnM_some (And.intro @lM_app (And.intro @appK_some (And.intro @lM_call (And.intro @callO_some (And.intro @lM_callv (And.intro @callvO_some (And.intro @lM_xc (And.intro @xcO_some (And.intro @lM_pnc (And.intro @pncM_some (And.intro @lM_mkslice (And.intro @makeM_some (And.intro @lM_cpy (@cpyK_some)))))))))))))))))))))))))))))))))))))))))))))))))))))))))))))))))))))))))))))))))))))))))))))))))))))))))))))))))))))))
theorem wB : type_of% (And.intro @bq_tt (And.intro @bq_ff (And.intro @bq_tf (And.intro @bq_ft (And.intro @map_some_ (And.intro @ob_some (And.intro @evs_cons' (And.intro @evp_cons' (And.intro @ps_mv (And.intro @ps_pick (And.intro @ps_agg (And.intro @ps_nilck (And.intro @ps_bin (And.intro @ps_un (And.intro @ps_cvi (And.intro @ps_cvss (And.intro @ps_iface (And.intro @ps_mkfn (And.intro @ps_slc (And.intro @ps_slcs (And.intro @ps_slca (And.intro @ps_lea (And.intro @ps_fld (And.intro @ps_fldn (And.intro @ps_idx (And.intro @ps_idxp (And.intro @ps_idxs (And.intro @ps_idxv (And.intro @ps_idxvn (And.intro @ps_lens (And.intro @ps_lenl (And.intro @ps_lenc (And.intro @ps_capl (And.intro @ps_mn (And.intro @ps_mx (And.intro @ps_ext (And.intro @qV_mv (And.intro @mapt_nil (And.intro @mapt_cons (And.intro @qV_pick (And.intro @pickV_t (And.intro @pickV_f (And.intro @pickV_b (And.intro @qV_agg (And.intro @qV_ld (And.intro @ldV_ptr (And.intro @qV_ldn (And.intro @ldnV_ptr (And.intro @qV_nilck (And.intro @nilck_ptr (And.intro @nilck_func (And.intro @nilck_iface (And.intro @qV_bin (And.intro @qV_un (And.intro @qV_cvi (And.intro @cvi_int (And.intro @qV_cvss (And.intro @strOf_s (And.intro @qV_iface (And.intro @qV_mkfn (And.intro @qV_slc (And.intro @slc1_s (And.intro @getD_some' (And.intro @bnd_none (And.intro @bnd_some (And.intro @intOfV_int (And.intro @qV_slcs (And.intro @slcs1_s (And.intro @qV_lea (And.intro @lea_ptr (And.intro @qV_fld (And.intro @fld_agg (And.intro @qV_fldn (And.intro @fldn_agg (And.intro @qV_idx (And.intro @idx_s (And.intro @qV_idxp (And.intro @idxp_s (And.intro @qV_idxs (And.intro @idxs_s (And.intro @qV_idxv (And.intro @idxv_s (And.intro @qV_lens (And.intro @lens_s (And.intro @qV_lenl (And.intro @lenl_s (And.intro @qV_lenc (And.intro @qV_capl (And.intro @capl_s (And.intro @qV_mn (And.intro @mn_int (And.intro @qV_mx (And.intro @mx_int (And.intro @qV_ext (And.intro @ext_t (And.intro @bin_add (And.intro @bin_sub (And.intro @bin_mul (And.intro @bin_quo (And.intro @bin_rem (And.intro @bin_and (And.intro @bin_or (And.intro @bin_xor (And.intro @bin_shl (And.intro @bin_shr (And.intro @bin_eql (And.intro @bin_neq (And.intro @bin_lss (And.intro @bin_leq (And.intro @bin_gtr (And.intro @bin_geq (And.intro @un_neg (And.intro @un_not (And.intro @str_eql (And.intro @str_neq (And.intro @str_add (And.intro @eq_bool (And.intro @ne_bool (And.intro @eq_ptr_n (And.intro @ne_ptr_n (And.intro @eq_ptr_s (And.intro @ne_ptr_s (And.intro @eq_slc_n (And.intro @ne_slc_n (And.intro @eq_slc_s (And.intro @ne_slc_s (And.intro @eq_map_n (And.intro @ne_map_n (And.intro @eq_map_s (And.intro @ne_map_s (And.intro @eq_fn_n (And.intro @eq_fn_1 (And.intro @eq_fn_2 (And.intro @ne_fn_n (And.intro @ne_fn_1 (And.intro @ne_fn_2 (And.intro @fill_nil (And.intro @fill_cons (And.intro @cells_int (And.intro @cells_bool (And.intro @cells_str (And.intro @cells_ptr (And.intro @cells_slc (And.intro @cells_map (And.intro @cells_func (And.intro @cells_nilf (And.intro @cells_iface (And.intro @cells_nili (And.intro @cells_float (And.intro @cells_agg (And.intro @ic_int (And.intro @ic_bool (And.intro @ic_str (And.intro @ic_ptr (And.intro @ic_slc (And.intro @ic_map (And.intro @ic_func (And.intro @ic_nilf (And.intro @ic_iface (And.intro @ic_nili (And.intro @ic_float (And.intro @arr_size (And.intro @len_nil (And.intro @len_cons (And.intro @arr_set0 (And.intro @arr_set1 (And.intro @lst_set0 (And.intro @lst_set1 (And.intro @arr_toList (And.intro @splice_nil (And.intro @splice_cons (And.intro @cellsAt_0 (And.intro @storeH_nil (And.intro @getlit0 (@getlit1))))))))))))))))))))))))))))))))))))))))))))))))))))))))))))))))))))))))))))))))))))))))))))))))))))))))))))))))))))))))))))))))))))))))))))))))))))))))))))))))))))))))))))))) :=
  And.intro @bq_tt (And.intro @bq_ff (And.intro @bq_tf (And.intro @bq_ft (And.intro @map_some_ (And.intro @ob_some (And.intro @evs_cons' (And.intro @evp_cons' (And.intro @ps_mv (And.intro @ps_pick (And.intro @ps_agg (And.intro @ps_nilck (And.intro @ps_bin (And.intro @ps_un (And.intro @ps_cvi (And.intro @ps_cvss (And.intro @ps_iface (And.intro @ps_mkfn (And.intro @ps_slc (And.intro @ps_slcs (And.intro @ps_slca (And.intro @ps_lea (And.intro @ps_fld (And.intro @ps_fldn (And.intro @ps_idx (And.intro @ps_idxp (And.intro @ps_idxs (And.intro @ps_idxv (And.intro @ps_idxvn (And.intro @ps_lens (And.intro @ps_lenl (And.intro @ps_lenc (And.intro @ps_capl (And.intro @ps_mn (And.intro @ps_mx (And.intro @ps_ext (And.intro @qV_mv (And.intro @mapt_nil (And.intro @mapt_cons (And.intro @qV_pick (And.intro @pickV_t (And.intro @pickV_f (And.intro @pickV_b (And.intro @qV_agg (And.intro @qV_ld (And.intro @ldV_ptr (And.intro @qV_ldn (And.intro @ldnV_ptr (And.intro @qV_nilck (And.intro @nilck_ptr (And.intro @nilck_func (And.intro @nilck_iface (And.intro @qV_bin (And.intro @qV_un (And.intro @qV_cvi (And.intro @cvi_int (And.intro @qV_cvss (And.intro @strOf_s (And.intro @qV_iface (And.intro @qV_mkfn (And.intro @qV_slc (And.intro @slc1_s (And.intro @getD_some' (And.intro @bnd_none (And.intro @bnd_some (And.intro @intOfV_int (And.intro @qV_slcs (And.intro @slcs1_s (And.intro @qV_lea (And.intro @lea_ptr (And.intro @qV_fld (And.intro @fld_agg (And.intro @qV_fldn (And.intro @fldn_agg (And.intro @qV_idx (And.intro @idx_s (And.intro @qV_idxp (And.intro @idxp_s (And.intro @qV_idxs (And.intro @idxs_s (And.intro @qV_idxv (And.intro @idxv_s (And.intro @qV_lens (And.intro @lens_s (And.intro @qV_lenl (And.intro @lenl_s (And.intro @qV_lenc (And.intro @qV_capl (And.intro @capl_s (And.intro @qV_mn (And.intro @mn_int (And.intro @qV_mx (And.intro @mx_int (And.intro @qV_ext (And.intro @ext_t (And.intro @bin_add (And.intro @bin_sub (And.intro @bin_mul (And.intro @bin_quo (And.intro @bin_rem (And.intro @bin_and (And.intro @bin_or (And.intro @bin_xor (And.intro @bin_shl (And.intro @bin_shr (And.intro @bin_eql (And.intro @bin_neq (And.intro @bin_lss (And.intro @bin_leq (And.intro @bin_gtr (And.intro @bin_geq (And.intro @un_neg (And.intro @un_not (And.intro @str_eql (And.intro @str_neq (And.intro @str_add (And.intro @eq_bool (And.intro @ne_bool (And.intro @eq_ptr_n (And.intro @ne_ptr_n (And.intro @eq_ptr_s (And.intro @ne_ptr_s (And.intro @eq_slc_n (And.intro @ne_slc_n (And.intro @eq_slc_s (And.intro @ne_slc_s (And.intro @eq_map_n (And.intro @ne_map_n (And.intro @eq_map_s (And.intro @ne_map_s (And.intro @eq_fn_n (And.intro @eq_fn_1 (And.intro @eq_fn_2 (And.intro @ne_fn_n (And.intro @ne_fn_1 (And.intro @ne_fn_2 (And.intro @fill_nil (And.intro @fill_cons (And.intro @cells_int (And.intro @cells_bool (And.intro @cells_str (And.intro @cells_ptr (And.intro @cells_slc (And.intro @cells_map (And.intro @cells_func (And.intro @cells_nilf (And.intro @cells_iface (And.intro @cells_nili (And.intro @cells_float (And.intro @cells_agg (And.intro @ic_int (And.intro @ic_bool (And.intro @ic_str (And.intro @ic_ptr (And.intro @ic_slc (And.intro @ic_map (And.intro @ic_func (And.intro @ic_nilf (And.intro @ic_iface (And.intro @ic_nili (And.intro @ic_float (And.intro @arr_size (And.intro @len_nil (And.intro @len_cons (And.intro @arr_set0 (And.intro @arr_set1 (And.intro @lst_set0 (And.intro @lst_set1 (And.intro @arr_toList (And.intro @splice_nil (And.intro @splice_cons (And.intro @cellsAt_0 (And.intro @storeH_nil (And.intro @getlit0 (@getlit1))))))))))))))))))))))))))))))))))))))))))))))))))))))))))))))))))))))))))))))))))))))))))))))))))))))))))))))))))))))))))))))))))))))))))))))))))))))))))))))))))))))))))))))
theorem wW : type_of% (And.intro @wrap_i64 (And.intro @wrap_u64 (And.intro @wrap_u32 (And.intro @wrap_u16 (And.intro @wrap_u8 (@wrap_i32)))))) :=
  And.intro @wrap_i64 (And.intro @wrap_u64 (And.intro @wrap_u32 (And.intro @wrap_u16 (And.intro @wrap_u8 (@wrap_i32)))))
theorem wL : type_of% (And.intro @asks_some (And.intro @lq0_n (And.intro @lq0_r (And.intro @lq0_e (And.intro @lq0_p (And.intro @lq1_n (And.intro @lq1_r (And.intro @lq1_e (And.intro @lq1_p (And.intro @lq2_n (And.intro @lq2_r (And.intro @lq2_e (And.intro @lq2_p (And.intro @lq3_n (And.intro @lq3_r (And.intro @lq3_e (And.intro @lq3_p (And.intro @lq4_n (And.intro @lq4_r (And.intro @lq4_e (And.intro @lq4_p (And.intro @lq5_n (And.intro @lq5_r (And.intro @lq5_e (And.intro @lq5_p (And.intro @lq6_n (And.intro @lq6_r (And.intro @lq6_e (@lq6_p))))))))))))))))))))))))))))) :=
  And.intro @asks_some (And.intro @lq0_n (And.intro @lq0_r (And.intro @lq0_e (And.intro @lq0_p (And.intro @lq1_n (And.intro @lq1_r (And.intro @lq1_e (And.intro @lq1_p (And.intro @lq2_n (And.intro @lq2_r (And.intro @lq2_e (And.intro @lq2_p (And.intro @lq3_n (And.intro @lq3_r (And.intro @lq3_e (And.intro @lq3_p (And.intro @lq4_n (And.intro @lq4_r (And.intro @lq4_e (And.intro @lq4_p (And.intro @lq5_n (And.intro @lq5_r (And.intro @lq5_e (And.intro @lq5_p (And.intro @lq6_n (And.intro @lq6_r (And.intro @lq6_e (@lq6_p))))))))))))))))))))))))))))
theorem wX : type_of% (And.intro @bq_tt (And.intro @bq_ff (And.intro @bq_tf (And.intro @bq_ft (And.intro @ob_some (And.intro @map_some_ (And.intro @Bool.not_eq_true' (And.intro @Bool.not_eq_false' (And.intro @Bool.not_true (And.intro @Bool.not_false (And.intro @true_imp_iff (And.intro @false_imp_iff (And.intro @not_true_eq_false (And.intro @not_false_eq_true (And.intro @decide_true (And.intro @decide_false (And.intro @and_true (And.intro @true_and (And.intro @Bool.false_eq_true (And.intro @Bool.true_eq_false (And.intro @Int.toNat_natCast (And.intro @Nat.mul_one (And.intro @Nat.zero_add (And.intro @Nat.add_zero (And.intro @getlit0 (@getlit1)))))))))))))))))))))))))) :=
  And.intro @bq_tt (And.intro @bq_ff (And.intro @bq_tf (And.intro @bq_ft (And.intro @ob_some (And.intro @map_some_ (And.intro @Bool.not_eq_true' (And.intro @Bool.not_eq_false' (And.intro @Bool.not_true (And.intro @Bool.not_false (And.intro @true_imp_iff (And.intro @false_imp_iff (And.intro @not_true_eq_false (And.intro @not_false_eq_true (And.intro @decide_true (And.intro @decide_false (And.intro @and_true (And.intro @true_and (And.intro @Bool.false_eq_true (And.intro @Bool.true_eq_false (And.intro @Int.toNat_natCast (And.intro @Nat.mul_one (And.intro @Nat.zero_add (And.intro @Nat.add_zero (And.intro @getlit0 (@getlit1)))))))))))))))))))))))))
theorem decT {p : Prop} [Decidable p] (h : p) : decide p = true := by simp [h]
theorem br_pos {c A B : Prop} (h : c) : br c A B = A := by simp [br, h]
theorem br_neg {c A B : Prop} (h : ¬ c) : br c A B = B := by simp [br, h]
theorem decF {p : Prop} [Decidable p] (h : ¬ p) : decide p = false := by simp [h]
end Go.Proofs.Ytojhnclkhiffkaa

