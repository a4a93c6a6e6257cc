/-
  The end of a statement: arguments opened by their types, the form's reach handed on.
-/
import Derived.Test.YtojhnclkhiffkaaK15
namespace Go.Proofs.Ytojhnclkhiffkaa
open Go.ChangeShapes Go.WideShapes Go.ChangeAt Go.RowKit
set_option linter.unusedVariables false
section
variable {H' : Type} {enc : TypeId × Value → H'} {P : Program} {W : World} {base : Nat} {t : TypeId} {v : Value} {d : DataW H'} {p : List MemPlace}
theorem arg_sl {e : TypeId} {n : Nat} (ty : Ty) (ht : P.underlying t = some (.slice e)) (hB : tyB P n t (.sl ty) = true) (hval : Value.okWide P W .any base t v) (h : DataW.Trod enc P W 0 (fun _ => true) true t v d p) : ∃ xs : List ty.D, RepL nos ty (hp W) v xs := by
  obtain ⟨a, n, c, rfl⟩ := okWide_slice ht hval
  exact rep_open (.sl ty) hB h
theorem arg_int {k : IntKind} (lo hi : Int) (hlo : k.min = lo) (hhi : k.max = hi) (ht : P.underlying t = some (.int k)) (hval : Value.okWide P W .any base t v) (h : DataW.Trod enc P W 0 (fun _ => true) true t v d p) : ∃ n : Int, v = .int k n ∧ lo ≤ n ∧ n ≤ hi := by
  obtain ⟨n, rfl⟩ := okWide_int ht hval
  obtain ⟨fuel, h⟩ := h
  obtain ⟨m, h1, _, h2⟩ := DataW.trod_int ht h
  simp only [Value.cells, List.cons.injEq, Value.int.injEq, and_true, true_and] at h1
  subst h1 hlo hhi
  simp only [Lit.wf, Bool.and_eq_true, decide_eq_true_eq] at h2
  exact ⟨n, rfl, h2.1, h2.2⟩
theorem arg_bool (ht : P.underlying t = some .bool) (hval : Value.okWide P W .any base t v) : ∃ b : Bool, v = .bool b := okWide_bool ht hval
theorem arg_str (ht : P.underlying t = some .string) (hval : Value.okWide P W .any base t v) (h : DataW.Trod enc P W 0 (fun _ => true) true t v d p) : ∃ l : List UInt8, v = .string ⟨l.toArray⟩ ∧ l.length ≤ 9223372036854775807 := by
  obtain ⟨s, rfl⟩ := okWide_string ht hval
  obtain ⟨fuel, h⟩ := h
  obtain ⟨m, h1, _, h2⟩ := DataW.trod_string ht h
  simp only [Value.cells, List.cons.injEq, Value.string.injEq, and_true] at h1
  subst h1
  exact ⟨s.data.toList, by rw [← bytes_of], by rw [Array.length_toList]; exact h2⟩
theorem arg_flt (ht : P.underlying t = some (.float .f64)) (hval : Value.okWide P W .any base t v) (h : DataW.Trod enc P W 0 (fun _ => true) true t v d p) : ∃ n : Nat, v = .float .f64 n ∧ n < 2 ^ 64 := by
  obtain ⟨b, rfl⟩ : ∃ b, v = .float .f64 b := by
    simp only [Value.okWide, ht, Cell.okWide] at hval
    cases v <;> simp_all [Cell.ok]
  obtain ⟨fuel, h⟩ := h
  obtain ⟨m, h1, h2⟩ := trod_f64 ht h
  simp only [Value.cells, List.cons.injEq, Value.float.injEq, and_true, true_and] at h1
  subst h1
  exact ⟨b, rfl, h2⟩
theorem arg_st {fs : Array Field} {n : Nat} (ty : Ty) (ht : P.underlying t = some (.struct fs)) (hB : tyB P n t ty = true) (hval : Value.okWide P W .any base t v) (h : DataW.Trod enc P W 0 (fun _ => true) true t v d p) : ∃ (cs : List Value) (x : ty.D), v = .agg cs.toArray ∧ Rep nos ty (hp W) cs x := by
  unfold Value.okWide at hval
  rw [ht] at hval
  obtain ⟨cs, rfl, _⟩ := hval
  obtain ⟨x, hx⟩ := rep_open ty hB h
  exact ⟨cs.toList, x, by simp, hx⟩
theorem weights_cons {ts : List TypeId} {ds : List (DataW H')} (h : (DataW.weightsEach P (t :: ts) (d :: ds)).all (· ≤ reachBytes) = true) : (d.weights P t).all (· ≤ reachBytes) = true ∧ (DataW.weightsEach P ts ds).all (· ≤ reachBytes) = true := by
  unfold DataW.weightsEach at h
  rwa [List.all_append, Bool.and_eq_true] at h
end
/-- The step from the walk to the form, with the form's own reach. -/
theorem returnsInHanded_sized {H' : Type} {enc : TypeId × Value → H'} {a : Assume} {C : Checked} {os : Os} {f : FuncId} {fn : Func} {s : ChangeSpec} {conds : List PathCond} {apart fresh handsOn again : Bool}
    (own : ownKnob C.prog.godebug = none) (started : os.Started) (noInit : C.prog.inits.idxOf? f = none) (hfn : C.prog.funcs[f]? = some fn)
    (witness : ∃ (w : World) (tape : Tape) (i : Input), w.os = os ∧ (w.forCall tape i).Shaped C.prog ∧ i.vars = [] ∧ Input.okWide C.prog (w.forCall tape i) .any w.heap.size f i ∧
      s.pre6 enc C.prog fn conds apart (w.forCall tape i).memory i.args ∧ a.holds C.prog (lone (Frame.enter C.prog f i.args .normal) [] (w.forCall tape i)))
    (contract : ∀ (W : World) (base : Nat) (args : Array Value) (ds gs : List (DataW H')) (before : List MemPlace),
      (∀ (j : Nat) t v, fn.params[j]? = some t → args[j]? = some v → Value.okWide C.prog W .any base t v) →
      DataW.Whole enc C.prog fn.params.toList s.vars apart W args.toList ds gs before →
      (DataW.weightsEach C.prog (fn.params.toList ++ s.plain.varTypes C.prog) (ds ++ gs)).all (· ≤ reachBytes) = true →
      Calls C.prog f args W fun e W' => ∃ v, e = .returned v ∧ s.post enc C.prog fn apart fresh handsOn again W args v W') :
    ReturnsInHanded a C os f .any (s.pre6 enc C.prog fn conds apart) (s.post enc C.prog fn apart fresh handsOn again) := by
  refine returnsInHanded_of_calls own started noInit witness ?_
  intro w tape i _ _ _ hok hpre hholds
  obtain ⟨_, _, _, fn', hfn', _, _, _, _, hval⟩ := hok
  have e : fn' = fn := Option.some.inj (hfn'.symm.trans hfn)
  subst e
  obtain ⟨⟨ds, gs, before, hw, hc⟩, hz⟩ := hpre
  have hw' := DataW.Whole.of_heap (w' := w.forCall tape i) (by rfl) hw
  refine (contract (w.forCall tape i) w.heap.size i.args ds gs before hval hw' (hz.weights hw)).mono fun e W' ⟨v, he, hp⟩ => ?_
  subst he
  exact ChangeSpec.post_blind hp
end Go.Proofs.Ytojhnclkhiffkaa
