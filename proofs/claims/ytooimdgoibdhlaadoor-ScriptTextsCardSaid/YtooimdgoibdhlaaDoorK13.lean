/-
  Calls of functions without a body: numbers and pointers that are read and written at once.
-/
import Derived.Test.YtooimdgoibdhlaaDoorK11
import Derived.Laws.Externs
import Derived.LaidEql
import GoSem.Extern.Atomic
import Derived.Laws.LoneSync
namespace Go.Proofs.YtooimdgoibdhlaaDoor
set_option linter.unusedVariables false

theorem xc_of {P : Program} {f : FuncId} {fn : Func} {e : Array Value → Sem Value} {args : Array Value} {h : H} {K : Value → H → Prop} (hf : P.funcs[f]? = some fn) (hname : (fn.name == "runtime.NumGoroutine") = false) (hb : fn.body.isNone = true) (hn : Extern.findNext fn = none) (he : Extern.find fn = some e)
    (hr : ∀ w, hp w = h → ∃ v w', (e args).run P w = .ok v w' ∧ Kin w w' ∧ K v (hp w')) : xcM P f args h K := by
  intro w hw
  obtain ⟨v, w', h1, h2, h3⟩ := hr w hw
  refine ⟨v, w', ?_, h2, h3⟩
  rw [run_callFunc_extern hf hname hb hn he, h1]; rfl

theorem run_store1 (P : Program) {w : World} {b o : Nat} {c : Array Value} {E : TypeId} {v : Value} (m : Mode) (hb : hp w b = some (.cells c E)) (ho : o < c.size) (hv : isCell v = true) :
    (store ⟨b, o, none⟩ v m).run P w = .ok () (w.setCell ⟨b, o, none⟩ v) ∧ hp (w.setCell ⟨b, o, none⟩ v) = hupd (hp w) b (.cells (c.setIfInBounds o v) E) := by
  obtain ⟨h1, h2⟩ := isCell_one hv
  have hb' : w.heap[b]? = some (.cells c E (0, 0)) := hid_cells.1 hb
  have hcell : w.cell? ⟨b, o, none⟩ = some c[o] := by
    unfold World.cell?
    simp only []
    rw [hb']
    simp [ho]
  have hfro : w.frozen? ⟨b, o, none⟩ = false := by
    unfold World.frozen?
    simp only []
    rw [hb']
    simp
  refine ⟨?_, hp_setCell (w := w) (p := ⟨b, o, none⟩) rfl hb v⟩
  rw [run_store P w _ v _ h1, hcell]
  simp [hfro]

section
variable {P : Program} {w : World} {b o : Nat} {c : Array Value} {E : TypeId}
theorem run_aload (k : IntKind) (n : Int) (hb : hp w b = some (.cells c E)) (hc : c[o]? = some (.int k n)) : (Extern.Atomic.loadT (.int k) #[.pointer (some ⟨b, o, none⟩)]).run P w = .ok (.int k n) w := by
  have hcell : w.cell? ⟨b, o, none⟩ = some (.int k n) := (cellAt_hp w _).symm.trans ((cellAt_of hb o).trans hc)
  show Sem.run P (asAddr (.pointer (some ⟨b, o, none⟩)) >>= fun a => Extern.Atomic.read (.int k) a) w = _
  simp [Extern.Atomic.read, asAddr, hcell]
theorem run_aloadp (p : Option Addr) (hb : hp w b = some (.cells c E)) (hc : c[o]? = some (.pointer p)) : (Extern.Atomic.loadT .ptr #[.pointer (some ⟨b, o, none⟩)]).run P w = .ok (.pointer p) w := by
  have hcell : w.cell? ⟨b, o, none⟩ = some (.pointer p) := (cellAt_hp w _).symm.trans ((cellAt_of hb o).trans hc)
  show Sem.run P (asAddr (.pointer (some ⟨b, o, none⟩)) >>= fun a => Extern.Atomic.read .ptr a) w = _
  simp [Extern.Atomic.read, asAddr, hcell]
theorem run_astore (v : Value) (hb : hp w b = some (.cells c E)) (ho : o < c.size) (hv : isCell v = true) : ∃ w', (Extern.Atomic.storeT #[.pointer (some ⟨b, o, none⟩), v]).run P w = .ok (.tuple #[]) w' ∧ Kin w w' ∧ hp w' = hupd (hp w) b (.cells (c.setIfInBounds o v) E) := by
  obtain ⟨h1, h2⟩ := run_store1 P .atomic hb ho hv
  refine ⟨_, ?_, kin_setCell _ _ _, h2⟩
  show Sem.run P (asAddr (.pointer (some ⟨b, o, none⟩)) >>= fun a => store a v .atomic >>= fun _ => pure Extern.Atomic.none_) w = _
  simp [asAddr, h1, Extern.Atomic.none_]
theorem run_notouch (hb : hp w b = some (.cells c E)) : (Extern.Atomic.touchesFrozen ⟨b, o, none⟩).run P w = .ok false w := by
  have hb' : w.heap[b]? = some (.cells c E (0, 0)) := hid_cells.1 hb
  have hfro : w.frozen? ⟨b, o, none⟩ = false := by
    unfold World.frozen?
    simp only []
    rw [hb']
    simp
  have hsh : (w.shape? b).isSome = true := by
    unfold World.shape?
    rw [hb']; simp
  simp [Extern.Atomic.touchesFrozen, viewAt, hsh, hfro]
theorem run_acas (k : IntKind) (n x y : Int) (hb : hp w b = some (.cells c E)) (hc : c[o]? = some (.int k n)) :
    ∃ w', (Extern.Atomic.casT (.int k) #[.pointer (some ⟨b, o, none⟩), .int k x, .int k y]).run P w = .ok (.bool (n == x)) w' ∧ Kin w w' ∧ hp w' = if n = x then hupd (hp w) b (.cells (c.setIfInBounds o (.int k y)) E) else hp w := by
  have hcell : w.cell? ⟨b, o, none⟩ = some (.int k n) := (cellAt_hp w _).symm.trans ((cellAt_of hb o).trans hc)
  have ho : o < c.size := (Array.getElem?_eq_some_iff.1 hc).1
  obtain ⟨h1, h2⟩ := run_store1 P .atomic hb ho (v := .int k y) rfl
  by_cases hx : n = x
  · subst hx
    refine ⟨_, ?_, kin_setCell _ _ _, by rw [if_pos rfl]; exact h2⟩
    show Sem.run P (asAddr (.pointer (some ⟨b, o, none⟩)) >>= _) w = _
    simp [asAddr, run_notouch hb, Extern.Atomic.read, hcell]
    show Sem.run P (if n = n then (fun _ => Value.bool (n == n)) <$> store ⟨b, o, none⟩ (.int k y) .atomic else pure (.bool (n == n))) w = _
    simp [h1]
  · refine ⟨w, ?_, Kin.refl w, by rw [if_neg hx]⟩
    show Sem.run P (asAddr (.pointer (some ⟨b, o, none⟩)) >>= _) w = _
    simp [asAddr, run_notouch hb, Extern.Atomic.read, hcell]
    show Sem.run P (if n = x then (fun _ => Value.bool (n == x)) <$> store ⟨b, o, none⟩ (.int k y) .atomic else pure (.bool (n == x))) w = _
    simp [hx]
theorem run_acasp (p y : Option Addr) (hb : hp w b = some (.cells c E)) (hc : c[o]? = some (.pointer p)) :
    ∃ w', (Extern.Atomic.casT .ptr #[.pointer (some ⟨b, o, none⟩), .pointer p, .pointer y]).run P w = .ok (.bool true) w' ∧ Kin w w' ∧ hp w' = hupd (hp w) b (.cells (c.setIfInBounds o (.pointer y)) E) := by
  have hcell : w.cell? ⟨b, o, none⟩ = some (.pointer p) := (cellAt_hp w _).symm.trans ((cellAt_of hb o).trans hc)
  have ho : o < c.size := (Array.getElem?_eq_some_iff.1 hc).1
  obtain ⟨h1, h2⟩ := run_store1 P .atomic hb ho (v := .pointer y) rfl
  have hs : (samePointer p p).run P w = .ok true w := by
    cases p with
    | none => simp [samePointer]
    | some a => exact run_sameAddr_same w a
  refine ⟨_, ?_, kin_setCell _ _ _, h2⟩
  show Sem.run P (asAddr (.pointer (some ⟨b, o, none⟩)) >>= _) w = _
  simp [asAddr, run_notouch hb, Extern.Atomic.read, hcell]
  show Sem.run P (samePointer p p >>= fun eq => if eq = true then (fun _ => Value.bool eq) <$> store ⟨b, o, none⟩ (.pointer y) .atomic else pure (.bool eq)) w = _
  simp [h1, hs]
end

/-- A conversion that the walk has no rule for. -/
def cvM (P : Program) (s t : TypeId) (x : Option Value) (h : H) (V : Value → H → Prop) : Prop :=
  match x with
  | some v => ∀ w, hp w = h → ∃ v' w', (convert s t v).run P w = .ok v' w' ∧ Kin w w' ∧ V v' (hp w')
  | none => False
theorem raw_cv {P : Program} {e : Env} {h : H} {V : Value → H → Prop} {X : List PanicEntry → H → Prop} {d : Option Nat} {s t ty : TypeId} {x : Operand} (hm : cvM P s t (ev e x) h V) : lM P (.raw ⟨d, .convert s t x, ty, "", #[], none⟩) e h V X := by
  intro a w ha hw
  unfold cvM at hm
  split at hm
  · rename_i v hv
    obtain ⟨v', w', h1, h2, h3⟩ := hm w hw
    refine ⟨v', w', .inl ?_, h2, h3⟩
    simp [execOp, ev_sound ha hv, h1]
  · exact hm.elim
theorem cv_nil_to {P : Program} {s t u : TypeId} {h : H} {V : Value → H → Prop} (hs : P.underlying s = some (.pointer u)) (ht : P.underlying t = some .unsafePointer) (hV : V (.pointer none) h) : cvM P s t (some (.pointer none)) h V := by
  intro w hw; subst hw
  exact ⟨_, w, by simp [convert, Conv.unsafePointer, run_underlying hs, run_underlying ht], Kin.refl w, hV⟩
theorem cv_nil_from {P : Program} {s t u : TypeId} {h : H} {V : Value → H → Prop} (hs : P.underlying s = some .unsafePointer) (ht : P.underlying t = some (.pointer u)) (hV : V (.pointer none) h) : cvM P s t (some (.pointer none)) h V := by
  intro w hw; subst hw
  exact ⟨_, w, by simp [convert, Conv.unsafePointer, run_underlying hs, run_underlying ht], Kin.refl w, hV⟩
theorem cv_to {P : Program} {s t u : TypeId} {h : H} {V : Value → H → Prop} (hs : P.underlying s = some (.pointer u)) (ht : P.underlying t = some .unsafePointer) (hu : (P.info? u).map (fun i => decide (i.size = 0)) = some false)
    {b o : Nat} {c : Array Value} {E : TypeId} (hb : h b = some (.cells c E)) (ho : o < c.size) (hV : V (.pointer (some ⟨b, o, none⟩)) h) : cvM P s t (some (.pointer (some ⟨b, o, none⟩))) h V := by
  intro w hw; subst hw
  have hc : w.cell? ⟨b, o, none⟩ = some c[o] := (cellAt_hp w _).symm.trans ((cellAt_of hb o).trans (by simp [ho]))
  exact ⟨_, w, run_convert_to_unsafe hs ht hu hc, Kin.refl w, hV⟩
theorem cv_from {P : Program} {s t u : TypeId} {h : H} {V : Value → H → Prop} (hs : P.underlying s = some .unsafePointer) (ht : P.underlying t = some (.pointer u)) {i : TypeInfo} (hi : P.info? u = some i) (hz : i.size ≠ 0)
    {b o : Nat} {c : Array Value} {E : TypeId} (hb : h b = some (.cells c E)) (hl : liesAt P P.depth E (c.size / P.cellsOf E) o u 1 = true) (hV : V (.pointer (some ⟨b, o, none⟩)) h) : cvM P s t (some (.pointer (some ⟨b, o, none⟩))) h V := by
  intro w hw; subst hw
  have hb' : w.heap[b]? = some (.cells c E (0, 0)) := hid_cells.1 hb
  have hsh : w.shape? b = some (E, c.size) := by unfold World.shape?; rw [hb']
  exact ⟨_, w, by simp [convert, Conv.unsafePointer, Conv.seenAt, viewAt, variablesAt, sizeOf, typeInfo, run_underlying hs, run_underlying ht, hi, hz, hsh, hl, Result.andThen], Kin.refl w, hV⟩
end Go.Proofs.YtooimdgoibdhlaaDoor
