/-
  The starter adds one to the group.
-/
import Derived.Test.YtojhnclkhiffkaaM5

namespace Go.Proofs.Ytojhnclkhiffkaa
open Go.Conc Go.Conc.Lib
open Go.ConcR (stA smA KK)
set_option linter.unusedVariables false
set_option linter.unusedSimpArgs false
set_option maxRecDepth 100000
noncomputable def c43_a : Code := match Try.f43.body with | some (.seq (.cond _ (.seq x _) _) _) => x | _ => .skip
noncomputable def c43_b : Code := match Try.f43.body with | some (.seq (.cond _ (.seq _ (.seq y _)) _) _) => y | _ => .skip
noncomputable def o43_c : Array Oper := match Try.f43.body with | some (.seq (.cond _ (.seq _ (.seq _ (.region _ o _))) _) _) => o | _ => #[]
theorem body43 : Try.f43.body = some (.seq (.cond (.const (.bool true)) (.seq c43_a (.seq c43_b (.region 3 o43_c false))) .skip) c43_rest) := by kernel_rfl
theorem op43 : o43_c = #[{ dst := none, op := Op.defer { callee := Callee.value (Operand.func 54), args := #[], argTypes := #[] }, type := 0, pos := "waitgroup.go:84", after := #[], guard := none }] := by kernel_rfl
@[reducible] def l43_a : LC := .seq (.ops [⟨some 9, none, .mv (.tmp 1)⟩, ⟨some 10, none, .bin .lss .other (.tmp 9) (.const (.int .i64 0))⟩]) [0, 1, 10] (.cond (.tmp 10) (.ops [⟨some 11, none, .mv (.tmp 0)⟩, ⟨some 12, none, .raw ⟨Option.some 12, Op.convert 105 49 (Operand.tmp 11), 49, "", #[], none⟩⟩, ⟨some 13, none, .xc 52 [.tmp 12]⟩]) .skip)
theorem low43_a : lowC Try.prog ⟨0, 117⟩ (.seq .leaf [0, 1, 10] (.cond .leaf .leaf)) c43_a = l43_a := by kernel_rfl
theorem low43_b : lowC Try.prog ⟨0, 117⟩ .leaf c43_b = .ops [⟨some 14, none, .xc 53 []⟩] := by kernel_rfl
theorem ntm43 : Try.f43.ntmps = 117 := by kernel_rfl
theorem res43 : Try.f43.results = (([] : List Nat).map ResultVar.tmp).toArray := by kernel_rfl
theorem he54 : Extern.find Try.f54 = some (fun _ => do mark .enable; pure Extern.Race.none_) := by kernel_rfl
section
variable {pr : Pro} {h : H} {Wg V : Nat} {ds : List Value}
theorem At.two {n : NN} {dd : List Deferred} {e : Env} {a : Act} (x : At n dd e a) {u v : Value} (h0 : e.get 0 = some u) (h1 : e.get 1 = some v) : At n dd [(0, u), (1, v)] a := by
  refine ⟨x.defers, x.size, fun t w hg => ?_⟩
  simp only [Env.get] at hg
  split at hg
  · rename_i e0; subst e0; cases hg; exact x.agree _ _ h0
  · split at hg
    · rename_i e0; subst e0; cases hg; exact x.agree _ _ h1
    · cases hg
/-- What follows the beginning. -/
theorem add_rest (hW : h Wg = some (nG pr 1 ds.length ds)) (hd : ds.length < 2147483646) :
    vc (CM pr Try.prog) c43 (fun x e' h' => (x = .normal ∨ x = .ret) ∧ h' = hupd h Wg (nG pr 2 ds.length ds)) [(0, .pointer (some ⟨Wg, 0, none⟩)), (1, .int .i64 1)] h := by
  simp only [c43]
  simp (disch := omega) only [dm_t, wS, simprocAttr, IntKind.bits]
  refine bub_ok ?_
  simp (disch := omega) only [dm_t, wS, simprocAttr, IntKind.bits]
  have ao := uadd_ok (pr := pr) (R := fun x h' => ∃ n : Nat, 1 ≤ n ∧ n ≤ ds.length + 1 ∧ x = .int .u64 (n * KK) ∧ h' = hupd h Wg (nG pr 2 ds.length ds)) hd hd hW (fun v hv => ⟨v + 1, by omega, by omega, by simp, rfl⟩)
  refine ao.k ?_
  rintro _ _ ⟨n, hn1, hn2, rfl, rfl⟩
  have hv2 : n < 2147483648 := by omega
  have f0 : ∀ q, binV .and q (.int .u64 ((n : Int) * KK)) (.int .u64 2147483648) = some (.int .u64 0) := fun q => by
    rw [bin_and]; exact congrArg (fun n : Nat => some (Value.int .u64 (IntKind.u64.wrap (n : Int)))) (cnt_flag hv2)
  have f1 : ∀ q, binV .and q (.int .u64 ((n : Int) * KK)) (.int .u64 2147483647) = some (.int .u64 0) := fun q => by
    rw [bin_and]; exact congrArg (fun n : Nat => some (Value.int .u64 (IntKind.u64.wrap (n : Int)))) (cnt_low hv2)
  have f2 := cnt_hi hv2
  simp (disch := omega) only [dm_t, wS, simprocAttr, IntKind.bits, f0, f1, f2]
  have g0 : ¬ ((n : Int) < 0) := by omega
  have g1 : (0 : Int) < n := by omega
  refine br_intro (fun hc => ?_) fun hc => ?_
  · simp (disch := omega) only [dm_t, wS, simprocAttr, IntKind.bits]
    refine raw_cv ?_
    refine cv_note Try.underlying111 (by kernel_rfl) (by kernel_rfl) (hupd_same _ _ _) (by omega) (by omega) ?_
    simp (disch := omega) only [dm_t, wS, simprocAttr, IntKind.bits]
    refine wg_read Try.func60 (by kernel_rfl) (by kernel_rfl) (by kernel_rfl) (by kernel_rfl) (by omega) (hupd_same _ _ _) ?_
    simp (disch := omega) only [dm_t, wS, simprocAttr, IntKind.bits, g0, g1]
    exact .inr trivial
  · simp (disch := omega) only [dm_t, wS, simprocAttr, IntKind.bits, g0, g1]
    exact .inr trivial
section
variable {ca cb cr : Code} {ht : Hint} {a : Act} {cs : List Frame} {b : Frame}
theorem add_walk (la : lowC Try.prog ⟨0, 117⟩ (.seq .leaf [0, 1, 10] (.cond .leaf .leaf)) ca = l43_a) (lb : lowC Try.prog ⟨0, 117⟩ .leaf cb = .ops [⟨some 14, none, .xc 53 []⟩]) (lr : lowC Try.prog ⟨0, 117⟩ ht cr = c43)
    (hW : h Wg = some (nG pr 0 V ds)) (hd : ds.length < 2147483646) (hb : b.kind ≠ .early) {op : Oper} (hop : op = { dst := none, op := Op.defer { callee := Callee.value (Operand.func 54), args := #[], argTypes := #[] }, type := 0, pos := "waitgroup.go:84", after := #[], guard := none })
    (hat : At ⟨0, 117⟩ [] [(0, .pointer (some ⟨Wg, 0, none⟩)), (1, .int .i64 1)] a)
    (leave : ∀ (a' : Act) (todo : List Item), a'.defers = [dcall 54 #[]] → JM pr Try.prog (G { b.at a' todo with mode := .returning } cs) (hupd h Wg (nG pr 2 ds.length ds))) :
    JM pr Try.prog (G (b.at a [.code (.seq (.cond (.const (.bool true)) (.seq ca (.seq cb (.region 3 #[op] false))) .skip) cr)]) cs) h := by
  refine Cx.idle (P := (CM pr Try.prog)) rfl (fun w => stepG_seq) ?_
  refine Cx.idle (P := (CM pr Try.prog)) rfl (fun w => stepG_cond (t := true) rfl) ?_
  refine Cx.idle (P := (CM pr Try.prog)) rfl (fun w => stepG_seq) ?_
  refine vc_sound (P := (CM pr Try.prog)) ca (n := ⟨0, 117⟩) (ds := []) (.seq .leaf [0, 1, 10] (.cond .leaf .leaf)) (fun x e' h' => x = .normal ∧ h' = h ∧ e'.get 0 = some (.pointer (some ⟨Wg, 0, none⟩)) ∧ e'.get 1 = some (.int .i64 1)) _ h _ hat ?_ b _ _ hb ?_
  · rw [la]
    simp only [l43_a]
    simp (disch := omega) only [dm_t, wS, simprocAttr, IntKind.bits]
  rintro x e' h' a' hx hat ⟨rfl, rfl, g0, g1⟩
  refine Cx.idle (P := (CM pr Try.prog)) rfl (fun w => stepG_seq) ?_
  refine vc_sound (P := (CM pr Try.prog)) cb (n := ⟨0, 117⟩) (ds := []) .leaf (fun x e' h2 => x = .normal ∧ h2 = hupd h' Wg (nG pr 1 ds.length ds) ∧ e'.get 0 = some (.pointer (some ⟨Wg, 0, none⟩)) ∧ e'.get 1 = some (.int .i64 1)) _ h' _ (hat.two g0 g1) ?_ b _ _ hb ?_
  · rw [lb]
    simp (disch := omega) only [dm_t, wS, simprocAttr, IntKind.bits]
    refine wg_dis Try.func53 (by kernel_rfl) (by kernel_rfl) (by kernel_rfl) (by kernel_rfl) hW ?_
    simp (disch := omega) only [dm_t, wS, simprocAttr, IntKind.bits]
  rintro x e2 h2 a2 hx hat2 ⟨rfl, rfl, g0, g1⟩
  subst hop
  refine Cx.idle (P := (CM pr Try.prog)) rfl (fun w => stepG_region) ?_
  refine Cx.idle (P := (CM pr Try.prog)) rfl (fun w => stepG_defer rfl rfl hb rfl) ?_
  refine Cx.idle (P := (CM pr Try.prog)) rfl (fun w => stepG_region_end) ?_
  have hat3 := hat2.two g0 g1
  obtain ⟨T2, D2⟩ := a2
  obtain rfl : D2 = [] := hat2.defers
  suffices key : Cx.J (CM pr Try.prog) (G (b.at ⟨T2, [dcall 54 #[]]⟩ [.code cr]) cs) (hupd h' Wg (nG pr 1 ds.length ds)) by
    simpa [Act.put] using key
  refine vc_sound (P := (CM pr Try.prog)) cr (n := ⟨0, 117⟩) (ds := [dcall 54 #[]]) ht (fun x e' h2 => (x = .normal ∨ x = .ret) ∧ h2 = hupd h' Wg (nG pr 2 ds.length ds)) [(0, .pointer (some ⟨Wg, 0, none⟩)), (1, .int .i64 1)] _ ⟨T2, [dcall 54 #[]]⟩ ⟨?_, hat3.size, hat3.agree⟩ ?_ b _ _ hb ?_
  · rfl
  · rw [lr]
    have := add_rest (pr := pr) (hupd_same h' Wg (nG pr 1 ds.length ds)) hd
    rw [hupd_hupd] at this
    exact this
  rintro x e4 h4 a4 hx hat4 ⟨hxx, rfl⟩
  rcases hxx with rfl | rfl
  · exact Cx.idle (P := (CM pr Try.prog)) rfl (fun w => stepG_end) (leave _ _ hat4.defers)
  · exact fun todo => leave _ _ hat4.defers
end
theorem add_ok {R : Value → H → Prop} (hW : h Wg = some (nG pr 0 V ds)) (hd : ds.length < 2147483646) (hR : R (.tuple #[]) (hupd h Wg (nG pr 3 ds.length ds))) :
    Ok (CM pr Try.prog) 43 #[.pointer (some ⟨Wg, 0, none⟩), .int .i64 1] h R := by
  intro b a k cs ops i rest o ho hw hk hs hV
  have e1 : ∀ w, (execOp a.eval o).run Try.prog w = .ok (.enter 43 #[.pointer (some ⟨Wg, 0, none⟩), .int .i64 1]) w := fun w => by
    have := congrArg Prod.fst (hs w)
    rw [Sem.runT_fst, Sem.runT_fst] at this
    exact this.trans (callFunc_name (P := (CM pr Try.prog)) Try.func43 body43 (by kernel_rfl) _ w).1
  have e2 : ∀ w, listed Try.prog b.fn a o w = #[] := fun w => by
    refine Array.eq_empty_iff_forall_not_mem.2 fun e he => ?_
    have h1 := mem_listed he
    have : (execOp a.eval o).events Try.prog w #[] = (callFunc 43 #[.pointer (some ⟨Wg, 0, none⟩), .int .i64 1]).events Try.prog w #[] := congrArg Prod.snd (hs w)
    rw [this, (callFunc_name (P := (CM pr Try.prog)) Try.func43 body43 (by kernel_rfl) _ w).2] at h1
    simp at h1
  refine Cx.idle (P := (CM pr Try.prog)) rfl (fun w => (stepG_enter ho hw hk (e1 w)).trans (by rw [e2 w])) ?_
  rw [enter_at (P := Try.prog) _ Try.func43 body43, op43, ntm43]
  refine add_walk (pr := pr) (b := base 43) low43_a low43_b c43_low hW hd (by simp [base]) rfl ⟨rfl, by simp, ?_⟩ ?_
  · intro t v hg
    simp only [Env.get] at hg
    split at hg
    · rename_i e0; subst e0; cases hg; simp
    · split at hg
      · rename_i e0; subst e0; cases hg; simp
      · cases hg
  · rintro ⟨T, D⟩ todo hD
    obtain rfl : D = _ := hD
    refine JM.of (.ena rfl Wg 2 ds.length ds (.inl rfl) (hupd_same _ _ _) fun w hh => ⟨_, stepG_unwind_entry (a := ⟨T, [dcall 54 #[]]⟩) (b := base 43) (v := .tuple #[]) rfl Try.func54 (by kernel_rfl) (by kernel_rfl) (by kernel_rfl) (he54) (by simp [Extern.Race.none_]) (by simp [Go.ConcR.mk]) (sy_mk (by simp)), ?_⟩)
    rw [hupd_hupd]
    refine Cx.idle (P := (CM pr Try.prog)) rfl (fun w => stepG_leave (b := base 43) rfl rfl Try.func43 (results_runV Try.prog w (res := []) res43 T (vs := []) rfl) (results_ev Try.prog w _ res43 _)) ?_
    rw [Frame.finish_at, ho]
    exact hV _ _ ⟨_, rfl, hR⟩
end
end Go.Proofs.Ytojhnclkhiffkaa
namespace Go.Proofs.Ytojhnclkhiffkaa
open Go.Conc Go.Conc.Lib
open Go.ConcR (stA smA KK)
set_option linter.unusedVariables false
set_option linter.unusedSimpArgs false
section
variable {pr : Pro} {h : H} {Wg V : Nat} {ds : List Value}
theorem raw_go {e : Env} {x : Operand} {f : FuncId} {cap : Array Value} {d : Value} {hc h' : H} {K : Value → H → Prop} {X : List PanicEntry → H → Prop} (hx : ev e x = some (.func (.func f) #[] cap)) (hW : h Wg = some (nG pr 3 V ds))
    (sp : ∀ b, b ≠ Wg → SpO pr (ds.length + 1) (h b) (hc b) (h' b)) (hcW : hc Wg = some (nW pr d)) (hW' : h' Wg = some (nG pr 0 0 (ds ++ [d])))
    (hj : JW pr Try.prog (born Try.prog { target := .fn (.func f) cap, args := #[] }) hc) (hK : K undef h') : lM (CM pr Try.prog) (.raw ⟨Option.none, Op.go ⟨Callee.value x, #[], #[]⟩, 0, "", #[], none⟩) e h K X := by
  intro a0 ha b a k cs ops i rest o ho hw hk hs hV
  have r1 : ∀ w, (execOp a0.eval ⟨Option.none, Op.go ⟨Callee.value x, #[], #[]⟩, 0, "", #[], none⟩).run Try.prog w = .ok (.spawn { target := .fn (.func f) cap, args := #[] }) w := fun w => by
    simp [execOp, resolve, Deferred.ofValue, ev_sound ha hx]
  have r2 : ∀ w, (execOp a0.eval ⟨Option.none, Op.go ⟨Callee.value x, #[], #[]⟩, 0, "", #[], none⟩).events Try.prog w #[] = #[] := fun w => by
    simp [execOp, resolve, Deferred.ofValue, ev_sound ha hx]
  have e1 : ∀ w, (execOp a.eval o).run Try.prog w = .ok (.spawn { target := .fn (.func f) cap, args := #[] }) w := fun w => by
    have := congrArg Prod.fst (hs w)
    rw [Sem.runT_fst, Sem.runT_fst] at this
    exact this.trans (r1 w)
  have e2 : ∀ w, listed Try.prog b.fn a o w = #[] := fun w => by
    refine Array.eq_empty_iff_forall_not_mem.2 fun y hy => ?_
    have h1 := mem_listed hy
    have h2 : (execOp a.eval o).events Try.prog w #[] = #[] := (congrArg Prod.snd (hs w)).trans (r2 w)
    rw [h2] at h1
    simp at h1
  refine JM.of (.go rfl Wg V ds hW fun w hh => ⟨_, _, d, hc, h', (stepG_spawn ho hw hk (e1 w) rfl).trans (by rw [e2 w]), sp, hcW, hW', hj, hV _ _ hK⟩)
end
end Go.Proofs.Ytojhnclkhiffkaa
namespace Go.Proofs.Ytojhnclkhiffkaa
open Go.Conc Go.Conc.Lib
set_option linter.unusedVariables false
set_option linter.unusedSimpArgs false
section
variable {pr : Pro} {Pg : Program}
/-- The starter opens the group; lays blocks open for reading; cuts a block into cells. -/
inductive Gh (pr : Pro) : H → H → Prop
  | refl (h : H) : Gh pr h h
  | opn {h h' : H} (M Wg : Nat) (e0 : Value) (hn : ∀ b o, h b = some o → plainO o) (hM : h M = some (.cells #[pr.val [e0]] pr.E)) (hW : h Wg = some (.cells #[.int .u64 0, .int .u32 0] pr.tg)) (hp : ∀ b, pr.pub [e0] b = none) (hb : pr.by_ e0 = 0) (hne : M ≠ Wg)
      (st : Gh pr (hupd (hupd h M (nM pr 0 [e0])) Wg (nG pr 0 0 [])) h') : Gh pr h h'
  | ro {h h' : H} (b : Nat) (c : Array Value) (E : TypeId) (hb : h b = some (.cells c E)) (st : Gh pr (hupd h b (.cells c E (roO c))) h') : Gh pr h h'
  | part {h h' : H} (b : Nat) (c : Array Value) (E : TypeId) (hb : h b = some (.cells c E)) (hg : ∃ Wg ph V ds, ph < 8 ∧ h Wg = some (nG pr ph V ds)) (st : Gh pr (hupd h b (noteO E c.size 0 0 c)) h') : Gh pr h h'
theorem Gh.J {h h' : H} (x : Gh pr h h') {g : Goroutine} (hj : JM pr Pg g h') : JM pr Pg g h := by
  induction x with
  | refl => exact hj
  | opn M Wg e0 hn hM hW hp hb hne st ih => exact JM.of (.opn M Wg e0 hn hM hW hp hb hne (ih hj))
  | ro b c E hb st ih => exact JM.of (.ro b c E hb (ih hj))
  | part b c E hb hg st ih => exact JM.of (.part b c E hb hg (ih hj))
/-- A function of two pieces and a rest: between the second and the rest, hand over. -/
theorem ok_gh {f : FuncId} {fn : Func} {c1 c2 cr : Code} {n : Nat} {res : List Nat} {ht1 ht2 ht : Hint} {l1 l2 lc : LC} (hf : Pg.funcs[f]? = some fn) (hb : fn.body = some (.seq c1 (.seq c2 cr))) (hn : fn.ntmps = n) (hr : fn.results = (res.map ResultVar.tmp).toArray)
    (e1 : lowC Pg ⟨0, n⟩ ht1 c1 = l1) (e2 : lowC Pg ⟨0, n⟩ ht2 c2 = l2) (e3 : lowC Pg ⟨0, n⟩ ht cr = lc) {args : List Value} (ha : args.length ≤ n) {h : H} {R : Value → H → Prop}
    (hv : vc (CM pr Pg) l1 (fun x e' h1 => x = .normal ∧ vc (CM pr Pg) l2 (fun x e2 h2 => x = .normal ∧ ∃ h3, Gh pr h2 h3 ∧ vc (CM pr Pg) lc (retQ res (okR R)) e2 h3) e' h1) (argEnv args 0) h) (hc : (fn.name == "runtime.NumGoroutine") = false) : Ok (CM pr Pg) f args.toArray h R := by
  intro b a k cs ops i rest o ho hw hk hs hV
  have q1 : ∀ w, (execOp a.eval o).run Pg w = .ok (.enter f args.toArray) w := fun w => by
    have := congrArg Prod.fst (hs w)
    rw [Sem.runT_fst, Sem.runT_fst] at this
    exact this.trans (callFunc_name (P := (CM pr Pg)) hf hb hc _ w).1
  have q2 : ∀ w, listed Pg b.fn a o w = #[] := fun w => by
    refine Array.eq_empty_iff_forall_not_mem.2 fun e he => ?_
    have h1 := mem_listed he
    have : (execOp a.eval o).events Pg w #[] = (callFunc f args.toArray).events Pg w #[] := congrArg Prod.snd (hs w)
    rw [this, (callFunc_name (P := (CM pr Pg)) hf hb hc _ w).2] at h1
    simp at h1
  refine Cx.idle (P := (CM pr Pg)) rfl (fun w => (stepG_enter ho hw hk (q1 w)).trans (by rw [q2 w])) ?_
  rw [enter_at (P := Pg) args.toArray hf hb]
  subst e1 e2 e3
  have hat : At ⟨0, n⟩ [] (argEnv args 0) { tmps := args.toArray ++ Array.replicate (fn.ntmps - args.toArray.size) undef, defers := [] } := by
    refine ⟨rfl, ?_, ?_⟩
    · simp [hn]; omega
    · intro t v hg
      obtain ⟨_, h2⟩ := argEnv_get args 0 t v hg
      simp only [Nat.sub_zero] at h2
      have hlt : t < args.length := (List.getElem?_eq_some_iff.1 h2).1
      show (args.toArray ++ Array.replicate (fn.ntmps - args.toArray.size) undef)[t]? = some v
      rw [Array.getElem?_append_left (by simpa using hlt)]
      simpa using h2
  have leave : ∀ (e' : Env) (h' : H) (a' : Act) (todo : List Item), At ⟨0, n⟩ [] e' a' → (match evs e' (res.map .tmp) with | some [v] => okR R (.returned v) h' | some vs => okR R (.returned (.tuple vs.toArray)) h' | none => False) →
      JM pr Pg (G { (base f).at a' todo with mode := .returning } (b.at a (.inRegion ops (i :: rest) :: k) :: cs)) h' := by
    intro e' h' a' todo hat' hq
    cases hvs : evs e' (res.map .tmp) with
    | none => rw [hvs] at hq; exact hq.elim
    | some vs =>
      rw [hvs] at hq
      have hvs' : res.map (fun t => a'.tmps.getD t undef) = vs := by
        rw [← evs_sound hat'.agree hvs, List.map_map]; rfl
      have hrun : ∀ w, (results fn a'.tmps).run Pg w = .ok (resV vs) w := fun w => results_runV Pg w hr a'.tmps hvs'
      refine Cx.idle (P := (CM pr Pg)) rfl (fun w => stepG_leave (b := base f) rfl hat'.defers hf (hrun w) (results_ev Pg w _ hr _)) ?_
      rw [Frame.finish_at, ho]
      refine hV _ _ ?_
      cases vs with
      | nil => exact hq
      | cons v r => cases r <;> exact hq
  refine Cx.idle (P := (CM pr Pg)) rfl (fun w => stepG_seq) ?_
  refine vc_sound (P := (CM pr Pg)) c1 ht1 _ _ _ _ hat hv (base f) _ _ (by simp [base]) ?_
  rintro x e' h1 a1 hx hat1 ⟨rfl, hv1⟩
  refine Cx.idle (P := (CM pr Pg)) rfl (fun w => stepG_seq) ?_
  refine vc_sound (P := (CM pr Pg)) c2 ht2 _ _ _ _ hat1 hv1 (base f) _ _ (by simp [base]) ?_
  rintro x e2 h2 a2 hx hat2 ⟨rfl, h3, hgh, hv2⟩
  refine hgh.J ?_
  refine vc_sound (P := (CM pr Pg)) cr ht _ _ _ _ hat2 hv2 (base f) [] _ (by simp [base]) ?_
  intro x e' h' a' hx hat' hq
  cases x with
  | normal => exact Cx.idle (P := (CM pr Pg)) rfl (fun _ => stepG_end) (leave e' h' a' [] hat' hq)
  | ret => exact fun todo => leave e' h' a' todo hat' hq
  | exit id => exact hq.elim
  | _ => exact hx.elim
end
end Go.Proofs.Ytojhnclkhiffkaa
namespace Go.Proofs.Ytojhnclkhiffkaa
open Go.Conc Go.Conc.Lib
set_option linter.unusedVariables false
set_option linter.unusedSimpArgs false
section
variable {pr : Pro} {h : H} {Wg sb w1 w2 n m : Nat} {R : Value → H → Prop}
/-- What the starter knows between two workers: i of one kind, j of the other. -/
structure Givs (pr : Pro) (Wg sb w1 w2 n m : Nat) (R : Value → H → Prop) (St : Nat → Nat → List Value → H → Prop) : Prop where
  fld : ∀ i j ds h, St i j ds h → (∃ p k, cellAt h ⟨sb, 0, none⟩ = some (.slice p n k)) ∧ cellAt h ⟨sb, 1, none⟩ = some (.int .i64 m) ∧ (∃ V, h Wg = some (nG pr 0 V ds)) ∧ ds.length = i + j
  g1 : ∀ i ds h ib, i < n → St i 0 ds h → h ib = none → ∃ d hc h', (∀ b, b ≠ Wg → SpO pr (ds.length + 1) (hupd (hupd h ib (.cells #[.int .i64 i] 3)) Wg (nG pr 3 ds.length ds) b) (hc b) (h' b)) ∧ hc Wg = some (nW pr d) ∧ h' Wg = some (nG pr 0 0 (ds ++ [d])) ∧
    JW pr Try.prog (born Try.prog (call44 Wg w1 ib)) hc ∧ St (i + 1) 0 (ds ++ [d]) h'
  g2 : ∀ j ds h ib, j < m → St n j ds h → h ib = none → ∃ d hc h', (∀ b, b ≠ Wg → SpO pr (ds.length + 1) (hupd (hupd h ib (.cells #[.int .i64 j] 3)) Wg (nG pr 3 ds.length ds) b) (hc b) (h' b)) ∧ hc Wg = some (nW pr d) ∧ h' Wg = some (nG pr 0 0 (ds ++ [d])) ∧
    JW pr Try.prog (born Try.prog (call46 Wg w2 ib)) hc ∧ St n (j + 1) (ds ++ [d]) h'
  fin : ∀ ds h, St n m ds h → ∀ w, Hol (hupd h Wg (nG pr 7 0 ds)) w → ∀ hs, Joined pr (hupd h Wg (nG pr 7 0 ds)) ds hs w → ∃ h', Hol h' w ∧ Taken pr Wg (hupd h Wg (nG pr 7 0 ds)) hs h' ∧ R (.tuple #[]) h'
  le : n + m < 2147483646
theorem all_loops {x0 x1 x2 : Value} {St : Nat → Nat → List Value → H → Prop} (Gv : Givs pr Wg sb w1 w2 n m R St) (h0 : St 0 0 [] h) :
    vc (CM pr Try.prog) c30_s1 (retQ [] (okR R)) [(6, .pointer (some ⟨Wg, 0, none⟩)), (5, .pointer (some ⟨w2, 0, none⟩)), (4, .pointer (some ⟨w1, 0, none⟩)), (3, .pointer (some ⟨sb, 0, none⟩)), (0, x0), (1, x1), (2, x2)] h := by
  obtain ⟨⟨p, k, c0⟩, c1, _, _⟩ := Gv.fld _ _ _ _ h0
  simp only [c30_s1]
  simp (disch := omega) only [dm_t, wS, simprocAttr, IntKind.bits, c0]
  refine vc_loop1 (fun v h' => ∃ (i : Nat) (ds : List Value), v = .int .i64 i ∧ i ≤ n ∧ St i 0 ds h') (fun v _ => match v with | .int _ x => n - x.toNat | _ => 0) ?_ ?_
  · simp (disch := omega) only [dm_t, wS, simprocAttr, IntKind.bits]
    exact ⟨0, [], rfl, by omega, h0⟩
  rintro _ h' ⟨i, ds, rfl, hin, hSt⟩
  obtain ⟨⟨p', k', q0⟩, q1, ⟨V, qW⟩, ql⟩ := Gv.fld _ _ _ _ hSt
  have hle := Gv.le
  by_cases hlt : i < n
  · have hlt' : (i : Int) < n := by omega
    simp (disch := omega) only [dm_t, wS, simprocAttr, IntKind.bits, hlt']
    intro ib hib
    simp (disch := omega) only [dm_t, wS, simprocAttr, IntKind.bits, storeH_same]
    have neI : Wg ≠ ib := by rintro rfl; rw [hib] at qW; cases qW
    have gW : hupd h' ib (.cells #[.int .i64 i] 3) Wg = some (nG pr 0 V ds) := by rw [hupd_ne _ _ neI]; exact qW
    have ad := add_ok (pr := pr) (R := fun _ h2 => h2 = hupd (hupd h' ib (.cells #[.int .i64 i] 3)) Wg (nG pr 3 ds.length ds)) gW (by omega) rfl
    obtain ⟨d, hc, h2, sp, r1, r2, r3, r4⟩ := Gv.g1 i ds h' ib hlt hSt hib
    refine ad.k ?_
    rintro _ _ rfl
    simp (disch := omega) only [dm_t, wS, simprocAttr, IntKind.bits]
    refine raw_go rfl (hupd_same _ _ _) sp r1 r2 r3 ?_
    simp (disch := omega) only [dm_t, wS, simprocAttr, IntKind.bits]
    exact ⟨⟨i + 1, ds ++ [d], by simp, by omega, r4⟩, by omega⟩
  · have hlt' : ¬ ((i : Int) < n) := by omega
    obtain rfl : i = n := by omega
    simp (disch := omega) only [dm_t, wS, simprocAttr, IntKind.bits, hlt', q1]
    refine vc_loop1 (fun v h' => ∃ (j : Nat) (ds : List Value), v = .int .i64 j ∧ j ≤ m ∧ St i j ds h') (fun v _ => match v with | .int _ x => m - x.toNat | _ => 0) ?_ ?_
    · simp (disch := omega) only [dm_t, wS, simprocAttr, IntKind.bits]
      exact ⟨0, ds, rfl, by omega, hSt⟩
    rintro _ h'' ⟨j, es, rfl, hjm, hSt2⟩
    obtain ⟨_, _, ⟨V2, qW2⟩, ql2⟩ := Gv.fld _ _ _ _ hSt2
    by_cases hltj : j < m
    · have hltj' : (j : Int) < m := by omega
      simp (disch := omega) only [dm_t, wS, simprocAttr, IntKind.bits, hltj']
      intro ib hib
      simp (disch := omega) only [dm_t, wS, simprocAttr, IntKind.bits, storeH_same]
      have neI : Wg ≠ ib := by rintro rfl; rw [hib] at qW2; cases qW2
      have gW : hupd h'' ib (.cells #[.int .i64 j] 3) Wg = some (nG pr 0 V2 es) := by rw [hupd_ne _ _ neI]; exact qW2
      have ad := add_ok (pr := pr) (R := fun _ h2 => h2 = hupd (hupd h'' ib (.cells #[.int .i64 j] 3)) Wg (nG pr 3 es.length es)) gW (by omega) rfl
      obtain ⟨d, hc, h2, sp, r1, r2, r3, r4⟩ := Gv.g2 j es h'' ib hltj hSt2 hib
      refine ad.k ?_
      rintro _ _ rfl
      simp (disch := omega) only [dm_t, wS, simprocAttr, IntKind.bits]
      refine raw_go rfl (hupd_same _ _ _) sp r1 r2 r3 ?_
      simp (disch := omega) only [dm_t, wS, simprocAttr, IntKind.bits]
      exact ⟨⟨j + 1, es ++ [d], by simp, by omega, r4⟩, by omega⟩
    · have hltj' : ¬ ((j : Int) < m) := by omega
      obtain rfl : j = m := by omega
      simp (disch := omega) only [dm_t, wS, simprocAttr, IntKind.bits, hltj']
      refine (wait_ok (pr := pr) (R := fun _ h3 => R (.tuple #[]) h3) qW2 (by omega) fun w hw hs hj => Gv.fin es h'' hSt2 w hw hs hj).k ?_
      intro v h3 hR
      simp (disch := omega) only [dm_t, wS, simprocAttr, IntKind.bits]
      exact hR
end
end Go.Proofs.Ytojhnclkhiffkaa
namespace Go.Proofs.Ytojhnclkhiffkaa
open Go.Conc Go.Conc.Lib
set_option linter.unusedVariables false
set_option linter.unusedSimpArgs false
set_option maxRecDepth 100000
noncomputable def d30_1 : Code := match Try.f30.body with | some (.seq x _) => x | _ => .skip
noncomputable def d30_2 : Code := match Try.f30.body with | some (.seq _ (.seq x _)) => x | _ => .skip
noncomputable def d30_3 : Code := match Try.f30.body with | some (.seq _ (.seq _ x)) => x | _ => .skip
theorem body30 : Try.f30.body = some (.seq d30_1 (.seq d30_2 d30_3)) := by kernel_rfl
theorem low30_1 : lowC Try.prog ⟨0, 27⟩ .leaf d30_1 = .ops [⟨some 3, none, .box 56 (.tmp 0)⟩, ⟨some 4, none, .box 80 (.tmp 1)⟩, ⟨some 5, none, .box 80 (.tmp 2)⟩] := by kernel_rfl
theorem low30_2 : lowC Try.prog ⟨0, 27⟩ .leaf d30_2 = .ops [⟨some 6, none, .new 99 #[.int .u64 0, .int .u32 0]⟩] := by kernel_rfl
theorem low30_3 : lowC Try.prog ⟨0, 27⟩ (.seq (.seq .leaf [3, 4, 5, 6, 11, 12] (.block (.loop [12] [3, 4, 5, 6, 11] (.seq .leaf [3, 4, 5, 6, 11, 12, 13] (.seq (.cond .leaf .leaf) [3, 4, 5, 6, 11, 12] (.seq (.block (.seq .leaf [3, 4, 5, 6, 7, 11, 12] (.seq .leaf [3, 4, 5, 6, 7, 11, 12] .leaf))) [3, 4, 5, 6, 11, 12] .leaf)))))) [3, 5, 6] (.seq (.seq .leaf [5, 6, 19, 20] (.block (.loop [20] [5, 6, 19] (.seq .leaf [5, 6, 19, 20, 21] (.seq (.cond .leaf .leaf) [5, 6, 19, 20] (.seq (.block (.seq .leaf [5, 6, 8, 19, 20] (.seq .leaf [5, 6, 8, 19, 20] .leaf))) [5, 6, 19, 20] .leaf)))))) [6] .leaf)) d30_3 = c30_s1 := by kernel_rfl
theorem ntm30 : Try.f30.ntmps = 27 := by kernel_rfl
theorem res30 : Try.f30.results = (([] : List Nat).map ResultVar.tmp).toArray := by kernel_rfl
section
variable {pr : Pro} {h : H} {R : Value → H → Prop}
theorem all_ok {sf : List Value} {u1 u2 : Value} (c1 : isCell u1 = true) (c2 : isCell u2 = true) 
    (hv : ∀ sb w1 w2 Wg, h sb = none → h w1 = none → h w2 = none → h Wg = none → w1 ≠ sb → w2 ≠ sb → w2 ≠ w1 → Wg ≠ sb → Wg ≠ w1 → Wg ≠ w2 →
      ∃ n m St h3, Gh pr (hupd (hupd (hupd (hupd h sb (.cells sf.toArray 56)) w1 (.cells #[u1] 80)) w2 (.cells #[u2] 80)) Wg (.cells #[.int .u64 0, .int .u32 0] 99)) h3 ∧ Givs pr Wg sb w1 w2 n m R St ∧ St 0 0 [] h3) :
    Ok (CM pr Try.prog) 30 #[.agg sf.toArray, u1, u2] h R := by
  refine ok_gh (args := [_, _, _]) Try.func30 body30 ntm30 res30 low30_1 low30_2 low30_3 (by simp) ?_ (by kernel_rfl)
  have k1 : u1.cells = #[u1] := by cases u1 <;> first | rfl | cases c1
  have k2 : u2.cells = #[u2] := by cases u2 <;> first | rfl | cases c2
  simp (disch := omega) only [dm_t, wS, simprocAttr, IntKind.bits]
  rw [k1, k2]
  intro sb n1 w1 n2 w2 n3 Wg n4
  have q1 : w1 ≠ sb := by rintro rfl; rw [hupd_same] at n2; cases n2
  rw [hupd_ne _ _ q1] at n2
  have q2 : w2 ≠ w1 := by rintro rfl; rw [hupd_same] at n3; cases n3
  rw [hupd_ne _ _ q2] at n3
  have q3 : w2 ≠ sb := by rintro rfl; rw [hupd_same] at n3; cases n3
  rw [hupd_ne _ _ q3] at n3
  have q4 : Wg ≠ w2 := by rintro rfl; rw [hupd_same] at n4; cases n4
  rw [hupd_ne _ _ q4] at n4
  have q5 : Wg ≠ w1 := by rintro rfl; rw [hupd_same] at n4; cases n4
  rw [hupd_ne _ _ q5] at n4
  have q6 : Wg ≠ sb := by rintro rfl; rw [hupd_same] at n4; cases n4
  rw [hupd_ne _ _ q6] at n4
  obtain ⟨n, m, St, h3, gh, gv, st⟩ := hv sb w1 w2 Wg n1 n2 n3 n4 q1 q3 q2 q6 q5 q4
  refine ⟨h3, gh, ?_⟩
  have key := all_loops (x0 := .agg sf.toArray) (x1 := u1) (x2 := u2) gv st
  simp only [c30_s1] at key
  simp (disch := omega) only [dm_t, wS, simprocAttr, IntKind.bits] at key
  exact key
end
end Go.Proofs.Ytojhnclkhiffkaa
