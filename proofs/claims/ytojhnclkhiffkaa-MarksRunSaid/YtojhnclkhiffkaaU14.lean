/-
  Calls of the model's entries in company: a worker's at the shared cell; the starter's at the group's cells; go.
-/
import Derived.Test.YtojhnclkhiffkaaU13
import Derived.Test.YtojhnclkhiffkaaUL
namespace Go.Proofs.Ytojhnclkhiffkaa
open Go.Conc
open Go.ConcR (rd wr stA smA WgAt wgBlock KK)
set_option linter.unusedVariables false

section
variable {Pg : Program} {main : Bool} {b : Frame} {a : Act} {k : List Item} {cs : List Frame} {ops : Array Oper} {i : Nat} {rest : List Nat} {o : Oper} {w w' : World} {f : FuncId} {fn : Func} {en : Array Value → Sem Value} {args : Array Value} {v : Value} {evs : Array Event}
/-- An entry is called: it answers. -/
theorem step_ext (ho : ops[i]? = some o) (hw : Region.wanted o (yielded ops a.tmps) = true) (hk : b.kind ≠ .early) (hs : (execOp a.eval o).runT Pg w #[] = (callFunc f args).runT Pg w #[])
    (hf : Pg.funcs[f]? = some fn) (hname : (fn.name == "runtime.NumGoroutine") = false) (hb : fn.body.isNone = true) (hn : Extern.findNext fn = none) (he : Extern.find fn = some en)
    (hrun : (en args).run Pg w = .ok v w') (hev : ∀ es, (en args).events Pg w es = es ++ evs) (hsy : ∀ x ∈ evs, x.sync = true ∧ ∀ g, x.loc ≠ .mark (.extern g)) :
    stepG Pg main (G (b.at a (.inRegion ops (i :: rest) :: k)) cs) w = .go (G (b.at (a.put o.dst v) (.inRegion ops rest :: k)) cs) w' evs := by
  have e1 : (execOp a.eval o).run Pg w = (callFunc f args).run Pg w := by
    have := congrArg Prod.fst hs
    rwa [Sem.runT_fst, Sem.runT_fst] at this
  have e2 : (execOp a.eval o).events Pg w #[] = (callFunc f args).events Pg w #[] := congrArg Prod.snd hs
  rw [stepG_value (v := v) (w' := w') ho hw hk (by rw [e1, run_callFunc_extern hf hname hb hn he, hrun]; rfl)]
  unfold listed
  rw [e2, events_callFunc_extern hf hname hb hn he]
  simp only [List.push_toArray, List.nil_append]
  rw [hev, seen_entry _ _ _ hsy]
/-- It waits. -/
theorem step_wait (ho : ops[i]? = some o) (hw : Region.wanted o (yielded ops a.tmps) = true) (hs : (execOp a.eval o).runT Pg w #[] = (callFunc f args).runT Pg w #[])
    (hf : Pg.funcs[f]? = some fn) (hname : (fn.name == "runtime.NumGoroutine") = false) (hb : fn.body.isNone = true) (hn : Extern.findNext fn = none) (he : Extern.find fn = some en) (hrun : (en args).run Pg w = .halt .blocked w') :
    stepG Pg main (G (b.at a (.inRegion ops (i :: rest) :: k)) cs) w = .go { G (b.at a (.inRegion ops (i :: rest) :: k)) cs with status := .blocked } w' #[] := by
  have hr : (execOp a.eval o).run Pg w = .halt .blocked w' := by
    have := congrArg Prod.fst hs
    rw [Sem.runT_fst, Sem.runT_fst] at this
    rw [this, run_callFunc_extern hf hname hb hn he, hrun]; rfl
  rw [stepG_oper ho hw]
  simp [stepG.apply, hr, G, GStep.after, seen_none]
end
theorem sy_rd (ad : Addr) : ∀ x ∈ #[rd ad], x.sync = true ∧ ∀ g, x.loc ≠ .mark (.extern g) := sync_r ad
theorem sy_rw (ad : Addr) : ∀ x ∈ #[rd ad, wr ad], x.sync = true ∧ ∀ g, x.loc ≠ .mark (.extern g) := sync_rw ad
theorem sy_mk {m : Mark} (hm : ∀ g, m ≠ .extern g) : ∀ x ∈ #[Go.ConcR.mk m], x.sync = true ∧ ∀ g, x.loc ≠ .mark (.extern g) := by
  intro x hx; simp at hx; subst hx; exact ⟨rfl, fun g h => hm g (Loc.mark.inj h)⟩

/-! ### A worker at the shared cell -/
section
variable {pr : Pro} {Pg : Program} {f : FuncId} {fn : Func} {h : H} {K : Value → H → Prop} {M k : Nat} {L : List Value} {ik : IntKind}
theorem Pro.At.blk {γ : List Value} {w : World} (ha : pr.At M γ w) : Blk w M #[pr.val γ] pr.E := ha.1
theorem turn_still {γ : List Value} : pr.Turn M k γ γ h (hupd h M (nM pr k γ)) → True := fun _ => trivial
theorem Pro.Turn.load {γ : List Value} (hn : ∀ b, pr.pub γ b = none) : pr.Turn M k γ γ h (hupd h M (nM pr k γ)) :=
  ⟨hupd_same _ _ _, fun b hb => .inl (hupd_ne _ _ hb), fun _ _ h => h, fun b c E h => absurd h (by rw [hn]; simp)⟩
theorem Pro.Turn.snoc {γ γ' : List Value} (hn : ∀ b, pr.pub γ b = none) (hn' : ∀ b, pr.pub γ' b = none) : pr.Turn M k γ γ' h (hupd h M (nM pr k γ')) :=
  ⟨hupd_same _ _ _, fun b hb => .inl (hupd_ne _ _ hb), fun b x h => absurd h (by rw [hn]; simp), fun b c E h => absurd h (by rw [hn']; simp)⟩
/-- A load of a number; nothing is published. -/
theorem sh_load (hf : Pg.funcs[f]? = some fn) (hname : (fn.name == "runtime.NumGoroutine") = false) (hb : fn.body.isNone = true) (hn : Extern.findNext fn = none) (he : Extern.find fn = some (Extern.Atomic.loadT (.int ik)))
    (hM : h M = some (nM pr k L)) (hint : ∀ γ, pr.Ext k L γ → ∃ n, pr.val γ = .int ik n) (hp : ∀ γ b, pr.pub γ b = none)
    (hK : ∀ γ, pr.Ext k L γ → (∃ e0, pr.Hst e0 γ) → K (pr.val γ) (hupd h M (nM pr k γ))) : Does (CW pr Pg) (callFunc f #[.pointer (some ⟨M, 0, none⟩)]) h K := by
  intro b a k' cs ops i rest o ho hw hk hs hV
  refine JW.of (.sh rfl M k L hM fun w γ hh ha hx hH => ?_)
  obtain ⟨n, hv⟩ := hint γ hx
  obtain ⟨r1, r2⟩ := run_aload (P := Pg) (o := 0) (k := ik) (n := n) ha.blk (by rw [← hv]; rfl)
  refine ⟨_, w, _, _, γ, step_ext ho hw hk (hs w) hf hname hb hn he r1 r2 (sy_rd _), .inl ⟨rfl, rfl, rfl⟩, .load (hp γ), ?_⟩
  rw [← hv]
  exact hV _ _ (hK γ hx hH)
/-- CompareAndSwap of numbers. -/
theorem sh_cas (hf : Pg.funcs[f]? = some fn) (hname : (fn.name == "runtime.NumGoroutine") = false) (hb : fn.body.isNone = true) (hn : Extern.findNext fn = none) (he : Extern.find fn = some (Extern.Atomic.casT (.int ik)))
    (hM : h M = some (nM pr k L)) (hint : ∀ γ, pr.Ext k L γ → ∃ n, pr.val γ = .int ik n) (hp : ∀ γ b, pr.pub γ b = none) {x y : Int}
    (hit : ∀ γ, pr.Ext k L γ → (∃ e0, pr.Hst e0 γ) → pr.val γ = .int ik x → ∃ v, pr.by_ v = k ∧ pr.ok γ v ∧ pr.val (γ ++ [v]) = .int ik y ∧ K (.bool true) (hupd h M (nM pr k (γ ++ [v]))))
    (miss : ∀ γ, pr.Ext k L γ → (∃ e0, pr.Hst e0 γ) → pr.val γ ≠ .int ik x → K (.bool false) (hupd h M (nM pr k γ))) : Does (CW pr Pg) (callFunc f #[.pointer (some ⟨M, 0, none⟩), .int ik x, .int ik y]) h K := by
  intro b a k' cs ops i rest o ho hw hk hs hV
  refine JW.of (.sh rfl M k L hM fun w γ hh ha hx hH => ?_)
  obtain ⟨n, hv⟩ := hint γ hx
  have hc : (#[pr.val γ] : Array Value)[0]? = some (.int ik n) := by rw [← hv]; rfl
  by_cases e : n = x
  · subst e
    obtain ⟨v, k1, k2, k3, k4⟩ := hit γ hx hH hv
    obtain ⟨r1, r2⟩ := run_acas_hit (P := Pg) (o := 0) (y := y) ha.blk hc
    refine ⟨_, _, _, _, γ ++ [v], step_ext ho hw hk (hs w) hf hname hb hn he r1 r2 (sy_rw _), .inr ⟨v, k1, k2, rfl, by rw [k3], rfl⟩, .snoc (hp γ) (hp _), hV _ _ k4⟩
  · obtain ⟨r1, r2⟩ := run_acas_miss (P := Pg) (o := 0) (y := y) ha.blk hc e
    exact ⟨_, w, _, _, γ, step_ext ho hw hk (hs w) hf hname hb hn he r1 r2 (sy_rd _), .inl ⟨rfl, rfl, rfl⟩, .load (hp γ), hV _ _ (miss γ hx hH (by rw [hv]; simpa using e))⟩
end

/-! ### The starter at the group -/
section
variable {pr : Pro} {Pg : Program} {f : FuncId} {fn : Func} {h : H} {K : Value → H → Prop} {Wg ph V : Nat} {ds : List Value}
theorem wg_dis (hf : Pg.funcs[f]? = some fn) (hname : (fn.name == "runtime.NumGoroutine") = false) (hb : fn.body.isNone = true) (hn : Extern.findNext fn = none) (he : Extern.find fn = some (fun _ => do mark .disable; pure Extern.Race.none_)) {args : Array Value}
    (hW : h Wg = some (nG pr 0 V ds)) (hK : K (.tuple #[]) (hupd h Wg (nG pr 1 ds.length ds))) : Does (CM pr Pg) (callFunc f args) h K := by
  intro b a k' cs ops i rest o ho hw hk hs hV
  exact JM.of (.dis rfl Wg V ds hW fun w hh => ⟨_, step_ext ho hw hk (hs w) hf hname hb hn he (v := .tuple #[]) (by simp [Extern.Race.none_]) (fun es => by simp [Go.ConcR.mk]) (sy_mk (by simp)), hV _ _ hK⟩)
theorem wg_ena (hf : Pg.funcs[f]? = some fn) (hname : (fn.name == "runtime.NumGoroutine") = false) (hb : fn.body.isNone = true) (hn : Extern.findNext fn = none) (he : Extern.find fn = some (fun _ => do mark .enable; pure Extern.Race.none_)) {args : Array Value}
    (hph : ph = 2 ∨ ph = 6) (hW : h Wg = some (nG pr ph V ds)) (hK : K (.tuple #[]) (hupd h Wg (nG pr (ph + 1) V ds))) : Does (CM pr Pg) (callFunc f args) h K := by
  intro b a k' cs ops i rest o ho hw hk hs hV
  exact JM.of (.ena rfl Wg ph V ds hph hW fun w hh => ⟨_, step_ext ho hw hk (hs w) hf hname hb hn he (v := .tuple #[]) (by simp [Extern.Race.none_]) (fun es => by simp [Go.ConcR.mk]) (sy_mk (by simp)), hV _ _ hK⟩)
theorem wg_read (hf : Pg.funcs[f]? = some fn) (hname : (fn.name == "runtime.NumGoroutine") = false) (hb : fn.body.isNone = true) (hn : Extern.findNext fn = none) (he : Extern.find fn = some (Extern.Race.marked .read)) {o' : Nat}
    (hph : ph < 8) (hW : h Wg = some (nG pr ph V ds)) (hK : K (.tuple #[]) h) : Does (CM pr Pg) (callFunc f #[.pointer (some ⟨Wg, o', none⟩)]) h K := by
  intro b a k' cs ops i rest o ho hw hk hs hV
  exact JM.of (.said rfl Wg ph V ds hph hW fun w hh => ⟨_, ⟨Wg, o', none⟩, rfl, .inl (step_ext ho hw hk (hs w) hf hname hb hn he (v := .tuple #[]) (by simp [Extern.Race.marked, Extern.Race.at_, Extern.Race.none_]) (fun es => by simp [Extern.Race.marked, Extern.Race.at_, Go.ConcR.mk]) (sy_mk (by simp))), hV _ _ hK⟩)
theorem wg_write (hf : Pg.funcs[f]? = some fn) (hname : (fn.name == "runtime.NumGoroutine") = false) (hb : fn.body.isNone = true) (hn : Extern.findNext fn = none) (he : Extern.find fn = some (Extern.Race.marked .write)) {o' : Nat}
    (hph : ph < 8) (hW : h Wg = some (nG pr ph V ds)) (hK : K (.tuple #[]) h) : Does (CM pr Pg) (callFunc f #[.pointer (some ⟨Wg, o', none⟩)]) h K := by
  intro b a k' cs ops i rest o ho hw hk hs hV
  exact JM.of (.said rfl Wg ph V ds hph hW fun w hh => ⟨_, ⟨Wg, o', none⟩, rfl, .inr (step_ext ho hw hk (hs w) hf hname hb hn he (v := .tuple #[]) (by simp [Extern.Race.marked, Extern.Race.at_, Extern.Race.none_]) (fun es => by simp [Extern.Race.marked, Extern.Race.at_, Go.ConcR.mk]) (sy_mk (by simp))), hV _ _ hK⟩)
theorem wg_add (hf : Pg.funcs[f]? = some fn) (hname : (fn.name == "runtime.NumGoroutine") = false) (hb : fn.body.isNone = true) (hn : Extern.findNext fn = none) (he : Extern.find fn = some (Extern.Atomic.update (Op.intArith .add) .u64 true)) {d : Int} (hd : d = KK)
    (hl : ds.length < 2147483646) (hW : h Wg = some (nG pr 1 V ds)) (hVb : V < 2147483646) (hK : ∀ v : Nat, v ≤ V → K (.int .u64 ((v + 1) * KK)) (hupd h Wg (nG pr 2 V ds))) : Does (CM pr Pg) (callFunc f #[.pointer (some (stA Wg)), .int .u64 d]) h K := by
  intro b a k' cs ops i rest o ho hw hk hs hV
  refine JM.of (.add rfl Wg V ds hW hl fun w v hv hh hg => ?_)
  have e : IntKind.u64.wrap (v * KK + d) = (v + 1) * KK := by rw [hd, IntKind.wrap_u64]; simp only [KK]; omega
  exact ⟨_, step_ext ho hw hk (hs w) hf hname hb hn he (v := .int .u64 ((v + 1) * KK)) (by rw [run_add_entry hg.cellSt (hg.thaw 0), e]) (fun es => by rw [events_add_entry hg.cellSt (hg.thaw 0)]; exact Array.ext' (by simp [rd, wr])) (sy_rw _), hV _ _ (hK v hv)⟩
theorem wg_ld (hf : Pg.funcs[f]? = some fn) (hname : (fn.name == "runtime.NumGoroutine") = false) (hb : fn.body.isNone = true) (hn : Extern.findNext fn = none) (he : Extern.find fn = some (Extern.Atomic.loadT (.int .u64)))
    (hW : h Wg = some (nG pr 1 V ds)) (hK : ∀ v : Nat, v ≤ V → K (.int .u64 (v * KK)) (hupd h Wg (if v = 0 then nG pr 6 0 ds else nG pr 4 v ds))) : Does (CM pr Pg) (callFunc f #[.pointer (some (stA Wg))]) h K := by
  intro b a k' cs ops i rest o ho hw hk hs hV
  refine JM.of (.ld rfl Wg V ds hW fun w v hv hh hg => ?_)
  obtain ⟨r1, r2⟩ := run_aload (P := Pg) (o := 0) (k := .u64) (n := v * KK) (show Blk w Wg #[.int .u64 (v * KK), .int .u32 0] pr.tg from hg) rfl
  exact ⟨_, step_ext ho hw hk (hs w) hf hname hb hn he r1 r2 (sy_rd _), hV _ _ (hK v hv)⟩
theorem wg_ld2 (hf : Pg.funcs[f]? = some fn) (hname : (fn.name == "runtime.NumGoroutine") = false) (hb : fn.body.isNone = true) (hn : Extern.findNext fn = none) (he : Extern.find fn = some (Extern.Atomic.loadT (.int .u64)))
    (hW : h Wg = some (nG pr 6 V ds)) (hK : K (.int .u64 0) h) : Does (CM pr Pg) (callFunc f #[.pointer (some (stA Wg))]) h K := by
  intro b a k' cs ops i rest o ho hw hk hs hV
  refine JM.of (.ld2 rfl Wg V ds hW fun w hh hg => ?_)
  obtain ⟨r1, r2⟩ := run_aload (P := Pg) (o := 0) (k := .u64) (n := 0) (show Blk w Wg #[.int .u64 0, .int .u32 0] pr.tg from hg) rfl
  exact ⟨_, step_ext ho hw hk (hs w) hf hname hb hn he r1 r2 (sy_rd _), hV _ _ hK⟩
theorem wg_cas (hf : Pg.funcs[f]? = some fn) (hname : (fn.name == "runtime.NumGoroutine") = false) (hb : fn.body.isNone = true) (hn : Extern.findNext fn = none) (he : Extern.find fn = some (Extern.Atomic.casT (.int .u64))) {u : Nat} {x y : Int} (hx : x = u * KK) (hy : y = u * KK + 1)
    (hW : h Wg = some (nG pr 4 u ds)) (hit : K (.bool true) (hupd h Wg (nG pr 5 0 ds))) (miss : ∀ v : Nat, v < u → K (.bool false) (hupd h Wg (nG pr 1 v ds))) : Does (CM pr Pg) (callFunc f #[.pointer (some (stA Wg)), .int .u64 x, .int .u64 y]) h K := by
  intro b a k' cs ops i rest o ho hw hk hs hV
  subst hx hy
  refine JM.of (.cas rfl Wg u ds hW fun w v hv hh hg => ⟨fun e => ?_, fun e => ?_⟩)
  · subst e
    obtain ⟨r1, r2⟩ := run_acas_hit (P := Pg) (o := 0) (k := .u64) (n := v * KK) (y := v * KK + 1) (show Blk w Wg #[.int .u64 (v * KK), .int .u32 0] pr.tg from hg) rfl
    exact ⟨_, step_ext ho hw hk (hs w) hf hname hb hn he r1 r2 (sy_rw _), hV _ _ hit⟩
  · obtain ⟨r1, r2⟩ := run_acas_miss (P := Pg) (o := 0) (k := .u64) (n := v * KK) (x := u * KK) (y := u * KK + 1) (show Blk w Wg #[.int .u64 (v * KK), .int .u32 0] pr.tg from hg) rfl (by simp only [KK]; omega)
    exact ⟨_, step_ext ho hw hk (hs w) hf hname hb hn he r1 r2 (sy_rd _), hV _ _ (miss v (by omega))⟩
theorem wg_acq (hf : Pg.funcs[f]? = some fn) (hname : (fn.name == "runtime.NumGoroutine") = false) (hb : fn.body.isNone = true) (hn : Extern.findNext fn = none) (he : Extern.find fn = some (Extern.Race.marked .acquire))
    (hW : h Wg = some (nG pr 7 V ds)) (hK : ∀ w, Hol h w → ∀ hs, Joined pr h ds hs w → ∃ h', Hol h' w ∧ Taken pr Wg h hs h' ∧ K (.tuple #[]) h') : Does (CM pr Pg) (callFunc f #[.pointer (some (stA Wg))]) h K := by
  intro b a k' cs ops i rest o ho hw hk hs hV
  refine JM.of (.acq rfl Wg V ds hW fun w hh => ⟨_, step_ext ho hw hk (hs w) hf hname hb hn he (v := .tuple #[]) (by simp [Extern.Race.marked, Extern.Race.at_, Extern.Race.none_]) (fun es => by simp [Extern.Race.marked, Extern.Race.at_, Go.ConcR.mk]) (sy_mk (by simp)), fun hs hj => ?_⟩)
  obtain ⟨h', k1, k2, k3⟩ := hK w hh hs hj
  exact ⟨h', k1, k2, hV _ _ k3⟩
theorem wg_sem (hf : Pg.funcs[f]? = some fn) (hname : (fn.name == "runtime.NumGoroutine") = false) (hb : fn.body.isNone = true) (hn : Extern.findNext fn = none) (he : Extern.find fn = some Extern.Sync.semacquire) {args : Array Value} (ha : args[0]? = some (.pointer (some (smA Wg))))
    (hW : h Wg = some (nG pr 5 V ds)) (hK : K (.tuple #[]) (hupd h Wg (nG pr 6 0 ds))) : Does (CM pr Pg) (callFunc f args) h K := by
  intro b a k' cs ops i rest o ho hw hk hs hV
  refine JM.of (.sem rfl Wg V ds rfl hW fun w hh => ⟨fun ⟨st, hg⟩ => ?_, fun hg => ?_⟩)
  · exact step_wait ho hw (hs w) hf hname hb hn he (by simp [Extern.Sync.semacquire, Extern.Sync.count, ha, hg.cellSm])
  · have hc : w.cell? (smA Wg) = some (.int .u32 1) := hg.cellSm
    have hz : w.frozen? (smA Wg) = false := hg.thaw 1
    generalize hsm : smA Wg = ad at *
    refine ⟨_, step_ext ho hw hk (hs w) hf hname hb hn he (v := .tuple #[]) (evs := semEvents ad) (by simp [Extern.Sync.semacquire, Extern.Sync.count, ha, hc, hz, Extern.Sync.none_, run_store Pg w ad (.int .u32 0) .atomic rfl, Result.andThen]) (fun es => ?_) (semEvents_sync _), hV _ _ hK⟩
    simp [Extern.Sync.semacquire, Extern.Sync.count, ha, hc, hz, semEvents, events_load, events_store Pg w _ ad (.int .u32 0) .atomic rfl, run_store Pg w ad (.int .u32 0) .atomic rfl, Result.evThen]
    exact Array.ext' (by simp)
end
end Go.Proofs.Ytojhnclkhiffkaa
