/-
  Functions whose results lie in cells, in company: the loads at the end are listed.
-/
import Derived.Test.YtojhnclkhiffkaaK14
namespace Go.Proofs.Ytojhnclkhiffkaa
open Go.Conc
set_option linter.unusedVariables false
/-! Results in slots, or in cells that slots point to. -/
inductive Rv where
  | t (n : Nat)
  | c (a : Nat) (T : TypeId)
  | cn (a n : Nat) (T : TypeId)
def Rv.var : Rv → ResultVar
  | .t n => .tmp n
  | .c a T => .cell a T
  | .cn a _ T => .cell a T
def Rv.ok (P : Program) : Rv → Bool
  | .t _ => true
  | .c _ T => match P.underlying T with
    | some (.struct _) | some (.array _ _) | none => false
    | some _ => true
  | .cn _ n T => (match P.underlying T with
    | some (.struct _) | some (.array _ _) => true
    | _ => false) && ((P.info? T).map (·.size) == some n)
def rvV (e : Env) (h : H) : Rv → Option Value
  | .t n => e.get n
  | .c a _ => (e.get a).bind fun v => match v with
    | .pointer (some p) => cellAt h p
    | _ => none
  | .cn a n _ => (e.get a).bind fun v => match v with
    | .pointer (some p) => (cellsAt h p n).map .agg
    | _ => none
def rvVs (e : Env) (h : H) : List Rv → Option (List Value)
  | [] => some []
  | x :: r => (rvV e h x).bind fun v => (rvVs e h r).bind fun vs => some (v :: vs)
/-- A function's end, its results wherever they are. -/
def retC (res : List Rv) (R : Ending → H → Prop) : Post := fun x e h =>
  match x with
  | .ret | .normal => match rvVs e h res with
    | some [v] => R (.returned v) h
    | some vs => R (.returned (.tuple vs.toArray)) h
    | none => False
  | .panic c => R (.panicked c) h
  | _ => False
section
variable {P : Program} {w : World} {h : H} {e : Env} {a : Act}
theorem ev_ld' (hw : Hol h w) {p : Addr} {v : Value} (hc : cellAt h p = some v) (es : Array Event) : ∀ x ∈ (load p).events P w es, x ∈ es ∨ EvO h x := by
  intro x hx
  rw [events_load, cell_of hw hc] at hx
  rcases Array.mem_push.1 hx with hx | rfl
  · exact .inl hx
  · exact .inr (EvO_read hc rfl rfl)
theorem rv_run (hw : Hol h w) (ha : agree e a) {G : ResultVar → Sem Value} (hG1 : ∀ t, G (.tmp t) = pure (a.tmps.getD t undef)) (hG2 : ∀ b T, G (.cell b T) = do loadVar T (← asAddr (a.tmps.getD b undef))) {x : Rv} (hx : x.ok P = true) {v : Value} (hv : rvV e h x = some v) :
    (G x.var).run P w = .ok v w ∧ ∀ es, ∀ y ∈ (G x.var).events P w es, y ∈ es ∨ EvO h y := by
  cases x with
  | t n => simp [Rv.var, hG1, getD_of (ha n v hv)]; exact fun es y hy => .inl hy
  | c b T =>
    simp only [rvV] at hv
    obtain ⟨u, h1, h2⟩ := bindo hv
    split at h2
    · rename_i p
      simp only [Rv.ok] at hx
      have hd := getD_of (ha b _ h1)
      split at hx <;> try (cases hx; done)
      rename_i d hn1 hn2 hu
      have hr := run_underlying hu w
      have hl := cell_of (w := w) hw h2
      cases d <;> first
        | (exact absurd rfl (hn1 _))
        | (exact absurd rfl (hn2 _ _))
        | (refine ⟨by simp [Rv.var, hG2, hd, asAddr, loadVar, isAgg, hr, hl], fun es y hy => ev_ld' (P := P) hw h2 es y ?_⟩
           simpa [Rv.var, hG2, hd, asAddr, loadVar, isAgg, hr] using hy)
    · cases h2
  | cn b n T =>
    simp only [rvV] at hv
    obtain ⟨u, h1, h2⟩ := bindo hv
    split at h2
    · rename_i p
      simp only [Rv.ok, Bool.and_eq_true, beq_iff_eq] at hx
      obtain ⟨hx1, hx2⟩ := hx
      have hd := getD_of (ha b _ h1)
      simp only [Option.map_eq_some_iff] at hx2 h2
      obtain ⟨i, hi, rfl⟩ := hx2
      obtain ⟨cs, hc, rfl⟩ := h2
      split at hx1 <;> try (cases hx1; done)
      all_goals
        rename_i hu
        refine ⟨by simp [Rv.var, hG2, hd, asAddr, loadVar, isAgg, run_underlying hu, run_size hi, run_lds hw hc], fun es y hy => ev_lds' (P := P) hw hc es y ?_⟩
        simpa [Rv.var, hG2, hd, asAddr, loadVar, isAgg, run_underlying hu, run_size hi] using hy
    · cases h2
theorem rvs_run (hw : Hol h w) (ha : agree e a) {G : ResultVar → Sem Value} (hG1 : ∀ t, G (.tmp t) = pure (a.tmps.getD t undef)) (hG2 : ∀ b T, G (.cell b T) = do loadVar T (← asAddr (a.tmps.getD b undef))) : ∀ {l : List Rv} {vs : List Value}, (l.all (Rv.ok P)) = true → rvVs e h l = some vs →
    (List.mapM G (l.map Rv.var)).run P w = .ok vs w ∧ ∀ es, ∀ y ∈ (List.mapM G (l.map Rv.var)).events P w es, y ∈ es ∨ EvO h y
  | [], vs, _, h => by simp only [rvVs, Option.some.injEq] at h; subst h; simp; exact fun es y hy => .inl hy
  | x :: r, vs, ho, h => by
    simp only [List.all_cons, Bool.and_eq_true] at ho
    simp only [rvVs] at h
    obtain ⟨v, h1, h2⟩ := bindo h
    obtain ⟨ws, h3, h4⟩ := bindo h2
    simp only [Option.some.injEq] at h4; subst h4
    obtain ⟨i1, i2⟩ := rvs_run hw ha hG1 hG2 ho.2 h3
    obtain ⟨h5, h6⟩ := rv_run hw ha hG1 hG2 ho.1 h1
    refine ⟨by simp only [List.map_cons, List.mapM_cons, Sem.run_bind, h5, Result.andThen_ok, i1, Sem.run_pure], fun es y hy => ?_⟩
    simp only [List.map_cons, List.mapM_cons, Sem.events_bind, h5, Result.evThen_ok, i1, Sem.events_pure] at hy
    rcases i2 _ y hy with h7 | h7
    · exact h6 es y h7
    · exact .inr h7
theorem resultsC_run (hw : Hol h w) {fn : Func} {res : List Rv} (hr : fn.results = (res.map Rv.var).toArray) (hok : res.all (Rv.ok P) = true) (ha : agree e a) {vs : List Value} (hv : rvVs e h res = some vs) :
    (results fn a.tmps).run P w = .ok (resV vs) w ∧ ∀ y ∈ (results fn a.tmps).events P w #[], EvO h y := by
  unfold results
  rw [hr, Array.mapM_eq_mapM_toList]
  refine ⟨?_, fun y hy => ?_⟩
  · simp only [Sem.run_bind, Sem.run_map]
    rw [(rvs_run (P := P) hw ha (fun _ => rfl) (fun _ _ => rfl) hok hv).1]
    simp only [Result.andThen_ok, Sem.run_pure]
    congr 1
    cases vs with
    | nil => rfl
    | cons v r => cases r <;> simp [resV]
  · simp only [Sem.events_bind, Sem.run_map, Sem.events_map] at hy
    rw [(rvs_run (P := P) hw ha (fun _ => rfl) (fun _ _ => rfl) hok hv).1] at hy
    simp only [Result.andThen_ok, Result.evThen_ok, Sem.events_pure] at hy
    exact ((rvs_run (P := P) hw ha (fun _ => rfl) (fun _ _ => rfl) hok hv).2 #[] y hy).resolve_left (by simp)
end
section
variable {Pg : Program} {P : Cx Pg}
theorem stepG_leaveC {Pg : Program} {main : Bool} {b : Frame} {a : Act} {todo : List Item} {cs : List Frame} {w : World} {fn : Func} {c : Frame} {v : Value} (hn : b.kind = .normal) (hd : a.defers = []) (hf : Pg.funcs[b.fn]? = some fn)
    (hr : (results fn a.tmps).run Pg w = .ok v w) : ∃ es, stepG Pg main (G { b.at a todo with mode := .returning } (c :: cs)) w = .go (G (c.finish v) cs) w es ∧ ∀ e ∈ es, e ∈ (results fn a.tmps).events Pg w #[] := by
  refine ⟨seen Pg b.fn ((results fn a.tmps).events Pg w #[]), ?_, fun e he => mem_seen he⟩
  simp [G, stepG, unwind, doReturn, Frame.at, hn, hd, hf, hr, GStep.after]
theorem callsC_of {f : FuncId} {fn : Func} {c : Code} {n : Nat} {res : List Rv} {ht : Hint} {lc : LC} (hf : P.prog.funcs[f]? = some fn) (hb : fn.body = some c) (hn : fn.ntmps = n) (hr : fn.results = (res.map Rv.var).toArray) (hok : res.all (Rv.ok P.prog) = true)
    (hl : lowC P.prog ⟨0, n⟩ ht c = lc) {args : List Value} (ha : args.length ≤ n) {h : H} {R : Ending → H → Prop} (hv : vc P lc (retC res R) (argEnv args 0) h) (hc : (fn.name == "runtime.NumGoroutine") = false := by kernel_rfl) : CallsE P f args.toArray h R := by
  intro b a k cs ops i rest o ho hw hk hs hV
  have e1 : ∀ w, (execOp a.eval o).run Pg w = .ok (.enter f args.toArray) w := fun w => by
    have := congrArg Prod.fst (hs w)
    rw [Sem.runT_fst, Sem.runT_fst] at this
    exact this.trans (callFunc_name hf hb hc _ w).1
  have e2 : ∀ w, listed Pg b.fn a o w = #[] := fun w => by
    refine Array.eq_empty_iff_forall_not_mem.2 fun e he => ?_
    have h1 := mem_listed he
    have : (execOp a.eval o).events Pg w #[] = (callFunc f args.toArray).events Pg w #[] := congrArg Prod.snd (hs w)
    rw [this, (callFunc_name hf hb hc _ w).2] at h1
    simp at h1
  refine Cx.idle rfl (fun w => (stepG_enter ho hw hk (e1 w)).trans (by rw [e2 w])) ?_
  rw [enter_at (P := Pg) args.toArray hf hb]
  subst hl
  have hat : At ⟨0, n⟩ [] (argEnv args 0) { tmps := args.toArray ++ Array.replicate (fn.ntmps - args.toArray.size) undef, defers := [] } := by
    refine ⟨rfl, ?_, ?_⟩
    · simp [hn]; omega
    · intro t v hg
      obtain ⟨_, h2⟩ := argEnv_get args 0 t v hg
      simp only [Nat.sub_zero] at h2
      have hlt : t < args.length := (List.getElem?_eq_some_iff.1 h2).1
      show (args.toArray ++ Array.replicate (fn.ntmps - args.toArray.size) undef)[t]? = some v
      rw [Array.getElem?_append_left (by simpa using hlt)]
      simpa using h2
  have leave : ∀ (e' : Env) (h' : H) (a' : Act) (todo : List Item), At ⟨0, n⟩ [] e' a' → (match rvVs e' h' res with | some [v] => R (.returned v) h' | some vs => R (.returned (.tuple vs.toArray)) h' | none => False) →
      P.J (G { (base f).at a' todo with mode := .returning } (b.at a (.inRegion ops (i :: rest) :: k) :: cs)) h' := by
    intro e' h' a' todo hat' hq
    cases hvs : rvVs e' h' res with
    | none => rw [hvs] at hq; exact hq.elim
    | some vs =>
      rw [hvs] at hq
      refine P.ord _ _ rfl fun w hh => ?_
      obtain ⟨hrun, hev⟩ := resultsC_run (P := Pg) hh hr hok hat'.agree hvs
      obtain ⟨es, h1, h2⟩ := stepG_leaveC (main := P.main) (b := base f) (todo := todo) (cs := cs) (c := b.at a (.inRegion ops (i :: rest) :: k)) rfl hat'.defers hf hrun
      rw [h1, goes_go]
      refine ⟨h', Fra.still hh rfl rfl rfl rfl fun e he => hev e (h2 e he), ?_⟩
      rw [Frame.finish_at, ho]
      refine hV _ _ ?_
      cases vs with
      | nil => exact hq
      | cons v r => cases r <;> exact hq
  refine vc_sound c ht _ _ _ _ hat hv (base f) [] _ (by simp [base]) ?_
  intro x e' h' a' hx hat' hq
  cases x with
  | normal => exact Cx.idle rfl (fun _ => stepG_end) (leave e' h' a' [] hat' hq)
  | ret => exact fun todo => leave e' h' a' todo hat' hq
  | exit id => exact hq.elim
  | _ => exact hx.elim
theorem okC_of {f : FuncId} {fn : Func} {c : Code} {n : Nat} {res : List Rv} {ht : Hint} {lc : LC} (hf : P.prog.funcs[f]? = some fn) (hb : fn.body = some c) (hn : fn.ntmps = n) (hr : fn.results = (res.map Rv.var).toArray) (hok : res.all (Rv.ok P.prog) = true)
    (hl : lowC P.prog ⟨0, n⟩ ht c = lc) {args : List Value} (ha : args.length ≤ n) {h : H} {R : Value → H → Prop} (hv : vc P lc (retC res (okR R)) (argEnv args 0) h) (hc : (fn.name == "runtime.NumGoroutine") = false := by kernel_rfl) : Ok P f args.toArray h R :=
  callsC_of hf hb hn hr hok hl ha hv hc
end
section
variable {e : Env} {h : H}
theorem retC_ret (res : List Rv) (R : Ending → H → Prop) : retC res R .ret e h = retM R (rvVs e h res) h := rfl
theorem retC_normal (res : List Rv) (R : Ending → H → Prop) : retC res R .normal e h = retM R (rvVs e h res) h := rfl
theorem retC_panic (res : List Rv) (R : Ending → H → Prop) (c : List PanicEntry) : retC res R (.panic c) e h = R (.panicked c) h := rfl
theorem rvVs_nil : rvVs e h [] = some [] := rfl
theorem rvVs_cons (x : Rv) (r : List Rv) : rvVs e h (x :: r) = ob (rvV e h x) fun v => ob (rvVs e h r) fun vs => some (v :: vs) := rfl
theorem rvV_t (n : Nat) : rvV e h (.t n) = e.get n := rfl
theorem rvV_c (a : Nat) (T : TypeId) : rvV e h (.c a T) = ob (e.get a) fun v => ldV h v := by
  show ob (e.get a) _ = _
  congr 1
theorem rvV_cn (a n : Nat) (T : TypeId) : rvV e h (.cn a n T) = ob (e.get a) fun v => ldnV h n v := by
  show ob (e.get a) _ = _
  congr 1
theorem wD : type_of% (And.intro @retC_ret (And.intro @retC_normal (And.intro @retC_panic (And.intro @rvVs_nil (And.intro @rvVs_cons (And.intro @rvV_t (And.intro @rvV_c @rvV_cn))))))) :=
  And.intro @retC_ret (And.intro @retC_normal (And.intro @retC_panic (And.intro @rvVs_nil (And.intro @rvVs_cons (And.intro @rvV_t (And.intro @rvV_c @rvV_cn))))))
end
end Go.Proofs.Ytojhnclkhiffkaa
