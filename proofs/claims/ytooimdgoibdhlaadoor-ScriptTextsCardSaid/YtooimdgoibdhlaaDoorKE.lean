/-
  Walk rules: functions with a 'defer', closures that recover.
-/
import Derived.Test.YtooimdgoibdhlaaDoorK22
import Derived.Test.YtooimdgoibdhlaaDoorKD
namespace Go.Proofs.YtooimdgoibdhlaaDoor
set_option linter.unusedVariables false
section
variable {P : Program} {res : List Rv} {R : Ending → H → Prop} {e : Env} {h : H}
def preQ (P : Program) (res : List Rv) (R : Ending → H → Prop) (L : List Nat) (r : LD) : Post := fun x e' h' =>
  match x with
  | .normal => vcD P res R r (e'.keep L) h'
  | x => retC res R x e' h'
theorem vcD_pre (a : LC) (L : List Nat) (r : LD) : vcD P res R (.pre a L r) e h = vc P a (preQ P res R L r) e h := by
  show vc P a _ e h = _
  congr 1
theorem preQ_normal (L : List Nat) (r : LD) : preQ P res R L r .normal e h = vcD P res R r (e.keep L) h := rfl
theorem preQ_ret (L : List Nat) (r : LD) : preQ P res R L r .ret e h = retC res R .ret e h := rfl
theorem preQ_panic (L : List Nat) (r : LD) (c : List PanicEntry) : preQ P res R L r (.panic c) e h = R (.panicked c) h := rfl
def dfrM (P : Program) (res : List Rv) (R : Ending → H → Prop) (L Z : List Nat) (b : LC) (o : Option Value) (e' : Env) (h' : H) : Prop :=
  ∃ df cap, o = some (.func (.func df) #[] cap) ∧ callable P df = true ∧ vc P b (dQ P df cap res (e'.keep Z) R) (e'.keep L) h'
theorem vcD_dfr (ops : List LO) (x : Operand) (L Z : List Nat) (b : LC) : vcD P res R (.dfr ops x L Z b) e h = vcOps P ops (fun e' h' => dfrM P res R L Z b (ev e' x) e' h') (fun c h' => R (.panicked c) h') e h := rfl
theorem dfrM_some (L Z : List Nat) (b : LC) (df : FuncId) (cap : Array Value) : dfrM P res R L Z b (some (.func (.func df) #[] cap)) e h = (callable P df = true ∧ vc P b (dQ P df cap res (e.keep Z) R) (e.keep L) h) := by
  unfold dfrM
  refine propext ⟨?_, fun hk => ⟨df, cap, rfl, hk⟩⟩
  rintro ⟨df', cap', h1, h2⟩
  simp only [Option.some.injEq, Value.func.injEq, Fn.func.injEq, true_and] at h1
  obtain ⟨rfl, rfl⟩ := h1
  exact h2
@[congr] theorem cg_DCall {f : FuncId} {args args' : Array Value} {u : FrameMode} {D : Ending → FrameMode → H → Prop} (ha : args = args') {d : Prop} (hd : dm = d) : DCall P f args u h D = DCall P f args' u h D := by rw [ha]
@[congr] theorem cg_vcD {r : LD} {e' : Env} (he : e = e') {d : Prop} (hd : dm = d) : vcD P res R r e h = vcD P res R r e' h := by rw [he]
@[congr] theorem cg_dfrM {L Z : List Nat} {b : LC} {o o' : Option Value} (ho : o = o') {d : Prop} (hd : dm = d) : dfrM P res R L Z b o e h = dfrM P res R L Z b o' e h := by rw [ho]
theorem aftD_ret {T : Env} {v : Value} {u : FrameMode} : aftD res T R (.returned v) u h = endD res T R (settle u) h := rfl
theorem endD_ret {T : Env} : endD res T R .returning h = retC res R .ret T h := rfl
theorem settle_ret : settle .returning = .returning := rfl
theorem settle_rec (v : Value) : settle (.panicking [{ v := v, recovered := true }]) = .returning := rfl
theorem recM_pan (v : Value) : recM (.panicking [{ v := v, recovered := false }]) = (.panicking [{ v := v, recovered := true }], v) := rfl
theorem recM_ret : recM .returning = (.returning, .nilIface) := rfl
theorem wD : type_of% (And.intro @vcD_pre (And.intro @preQ_normal (And.intro @preQ_ret (And.intro @preQ_panic (And.intro @vcD_dfr (And.intro @dfrM_some (And.intro @dQ_ret (And.intro @dQ_normal (And.intro @dQ_panic (And.intro @recQ_ret (And.intro @recQ_normal (And.intro @recQ_panic (And.intro @aftD_ret (And.intro @endD_ret (And.intro @settle_ret @settle_rec))))))))))))))) :=
  And.intro @vcD_pre (And.intro @preQ_normal (And.intro @preQ_ret (And.intro @preQ_panic (And.intro @vcD_dfr (And.intro @dfrM_some (And.intro @dQ_ret (And.intro @dQ_normal (And.intro @dQ_panic (And.intro @recQ_ret (And.intro @recQ_normal (And.intro @recQ_panic (And.intro @aftD_ret (And.intro @endD_ret (And.intro @settle_ret @settle_rec))))))))))))))
end
theorem wZ : type_of% (And.intro @wA (And.intro @wB (And.intro @wL (And.intro @wW (And.intro @wY (And.intro @Int.fdiv_eq_ediv_of_nonneg (And.intro @Int.tdiv_eq_ediv_of_nonneg (And.intro @Int.tmod_eq_emod_of_nonneg (And.intro @chk_pos (And.intro @decT (And.intro @decF (And.intro @br_pos (And.intro @br_neg (And.intro @wX (And.intro @and_self (And.intro @decide_eq_true_eq @decide_eq_false_iff_not)))))))))))))))) := (And.intro @wA (And.intro @wB (And.intro @wL (And.intro @wW (And.intro @wY (And.intro @Int.fdiv_eq_ediv_of_nonneg (And.intro @Int.tdiv_eq_ediv_of_nonneg (And.intro @Int.tmod_eq_emod_of_nonneg (And.intro @chk_pos (And.intro @decT (And.intro @decF (And.intro @br_pos (And.intro @br_neg (And.intro @wX (And.intro @and_self (And.intro @decide_eq_true_eq @decide_eq_false_iff_not))))))))))))))))
theorem wS : type_of% ((And.intro @wZ (And.intro @Nat.min_eq_left (And.intro @eq_self.{1} (And.intro @implies_true.{1} (And.intro @exists_const.{1} (And.intro @Option.isNone_some.{0} (And.intro @Option.isNone_none.{0} (And.intro @Option.isSome_some.{0} (And.intro @Option.isSome_none.{0} @Option.getD_some.{0})))))))))) := (And.intro @wZ (And.intro @Nat.min_eq_left (And.intro @eq_self.{1} (And.intro @implies_true.{1} (And.intro @exists_const.{1} (And.intro @Option.isNone_some.{0} (And.intro @Option.isNone_none.{0} (And.intro @Option.isSome_some.{0} (And.intro @Option.isSome_none.{0} @Option.getD_some.{0})))))))))
theorem wN : type_of% ((And.intro @wV (And.intro @wB (And.intro @wL (And.intro @wW (And.intro @wU (And.intro @Int.fdiv_eq_ediv_of_nonneg (And.intro @Int.tdiv_eq_ediv_of_nonneg (And.intro @Int.tmod_eq_emod_of_nonneg (And.intro @chk_pos (And.intro @decT (And.intro @decF (And.intro @br_pos (And.intro @br_neg (And.intro @wX (And.intro @and_self (And.intro @decide_eq_true_eq (And.intro @decide_eq_false_iff_not (And.intro @Nat.min_eq_left (And.intro @eq_self.{1} (And.intro @implies_true.{1} (And.intro @exists_const.{1} (And.intro @Option.isNone_some.{0} (And.intro @Option.isNone_none.{0} (And.intro @Option.isSome_some.{0} (And.intro @Option.isSome_none.{0} @Option.getD_some.{0})))))))))))))))))))))))))) := (And.intro @wV (And.intro @wB (And.intro @wL (And.intro @wW (And.intro @wU (And.intro @Int.fdiv_eq_ediv_of_nonneg (And.intro @Int.tdiv_eq_ediv_of_nonneg (And.intro @Int.tmod_eq_emod_of_nonneg (And.intro @chk_pos (And.intro @decT (And.intro @decF (And.intro @br_pos (And.intro @br_neg (And.intro @wX (And.intro @and_self (And.intro @decide_eq_true_eq (And.intro @decide_eq_false_iff_not (And.intro @Nat.min_eq_left (And.intro @eq_self.{1} (And.intro @implies_true.{1} (And.intro @exists_const.{1} (And.intro @Option.isNone_some.{0} (And.intro @Option.isNone_none.{0} (And.intro @Option.isSome_some.{0} (And.intro @Option.isSome_none.{0} @Option.getD_some.{0})))))))))))))))))))))))))
end Go.Proofs.YtooimdgoibdhlaaDoor
