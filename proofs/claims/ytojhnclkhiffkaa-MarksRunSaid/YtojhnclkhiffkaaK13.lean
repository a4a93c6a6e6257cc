/-
  Calls of functions without a body: numbers and pointers that are read and written at once; conversions of pointers.
-/
import Derived.Test.YtojhnclkhiffkaaK12
import Derived.Laws.Externs
import Derived.LaidEql
import GoSem.Extern.Atomic
import Derived.Laws.LoneSync
import Derived.Conc.EntryLaws
namespace Go.Proofs.Ytojhnclkhiffkaa
set_option linter.unusedVariables false

theorem xc_of {Pg : Program} {P : Cx Pg} {f : FuncId} {fn : Func} {e : Array Value → Sem Value} {args : Array Value} {h : H} {K : Value → H → Prop} (hf : P.prog.funcs[f]? = some fn) (hname : (fn.name == "runtime.NumGoroutine") = false) (hb : fn.body.isNone = true) (hn : Extern.findNext fn = none) (he : Extern.find fn = some e)
    (hr : ∀ w, Hol h w → ∃ v w' h' evs, (e args).run Pg w = .ok v w' ∧ (∀ es, (e args).events Pg w es = es ++ evs) ∧ (∀ es, (∀ x ∈ es, x ∈ evs ∨ ∃ g, x.loc = .mark (.extern g)) → Fra h w h' w' es) ∧ K v h') : xcM P f args h K := by
  refine does_of fun w hh => ?_
  obtain ⟨v, w', h', evs, h1, h2, h3, h4⟩ := hr w hh
  have hf' : Pg.funcs[f]? = some fn := hf
  refine ⟨v, w', h', .inl ?_, h3 _ fun x hx => ?_, h4⟩
  · show (callFunc f args).run Pg w = _
    rw [run_callFunc_extern hf' hname hb hn he, h1]; rfl
  · have hx' : x ∈ (callFunc f args).events Pg w #[] := hx
    rw [Go.Conc.events_callFunc_extern hf' hname hb hn he, h2] at hx'
    rcases Array.mem_append.1 hx' with h | h
    · simp at h; subst h; exact .inr ⟨f, rfl⟩
    · exact .inl h

/-- A block of cells that may be written. -/
def Blk (w : World) (b : Nat) (c : Array Value) (E : TypeId) : Prop := w.heap[b]? = some (.cells c E (0, 0))
section
variable {P : Program} {w : World} {b o : Nat} {c : Array Value} {E : TypeId}
theorem Blk.cell (hb : Blk w b c E) (o : Nat) : w.cell? ⟨b, o, none⟩ = c[o]? := by
  unfold World.cell?
  simp only []
  rw [hb]; rfl
theorem Blk.frozen (hb : Blk w b c E) (o : Nat) : w.frozen? ⟨b, o, none⟩ = false := by
  unfold World.frozen?
  simp only []
  rw [hb]
  simp
theorem Blk.shape (hb : Blk w b c E) : w.shape? b = some (E, c.size) := by unfold World.shape?; rw [hb]
theorem Blk.set (hb : Blk w b c E) (o : Nat) (v : Value) : Wst w (w.setCell ⟨b, o, none⟩ v) b (.cells (c.setIfInBounds o v) E (0, 0)) := by
  refine ⟨rfl, rfl, rfl, by simp [World.setCell], ?_, fun x hx => ?_⟩
  · unfold World.setCell
    rw [Array.getElem?_modify, if_pos rfl, hb]
    simp
  · unfold World.setCell
    rw [Array.getElem?_modify, if_neg (fun h => hx h.symm)]
theorem run_store1 (hb : Blk w b c E) (ho : o < c.size) {v : Value} (hv : isCell v = true) (m : Mode) :
    (store ⟨b, o, none⟩ v m).run P w = .ok () (w.setCell ⟨b, o, none⟩ v) ∧ ∀ es, (store ⟨b, o, none⟩ v m).events P w es = es.push ⟨.cell ⟨b, o, none⟩, true, m == .atomic⟩ := by
  obtain ⟨h1, h2⟩ := isCell_one hv
  have hcell : w.cell? ⟨b, o, none⟩ = some c[o] := by rw [hb.cell]; simp [ho]
  refine ⟨?_, fun es => ?_⟩
  · rw [run_store P w _ v _ h1, hcell]
    simp [hb.frozen]
  · rw [events_store P w es _ v _ h1, hcell]
    simp [hb.frozen]
theorem run_aload {k : IntKind} {n : Int} (hb : Blk w b c E) (hc : c[o]? = some (.int k n)) : (Extern.Atomic.loadT (.int k) #[.pointer (some ⟨b, o, none⟩)]).run P w = .ok (.int k n) w ∧ ∀ es, (Extern.Atomic.loadT (.int k) #[.pointer (some ⟨b, o, none⟩)]).events P w es = es ++ #[⟨.cell ⟨b, o, none⟩, false, true⟩] := by
  have hcell : w.cell? ⟨b, o, none⟩ = some (.int k n) := (hb.cell o).trans hc
  refine ⟨?_, fun es => ?_⟩
  · show Sem.run P (asAddr (.pointer (some ⟨b, o, none⟩)) >>= fun a => Extern.Atomic.read (.int k) a) w = _
    simp [Extern.Atomic.read, asAddr, hcell]
  · show Sem.events P (asAddr (.pointer (some ⟨b, o, none⟩)) >>= fun a => Extern.Atomic.read (.int k) a) w es = _
    simp [Extern.Atomic.read, asAddr, hcell]
theorem run_aloadp {p : Option Addr} (hb : Blk w b c E) (hc : c[o]? = some (.pointer p)) : (Extern.Atomic.loadT .ptr #[.pointer (some ⟨b, o, none⟩)]).run P w = .ok (.pointer p) w ∧ ∀ es, (Extern.Atomic.loadT .ptr #[.pointer (some ⟨b, o, none⟩)]).events P w es = es ++ #[⟨.cell ⟨b, o, none⟩, false, true⟩] := by
  have hcell : w.cell? ⟨b, o, none⟩ = some (.pointer p) := (hb.cell o).trans hc
  refine ⟨?_, fun es => ?_⟩
  · show Sem.run P (asAddr (.pointer (some ⟨b, o, none⟩)) >>= fun a => Extern.Atomic.read .ptr a) w = _
    simp [Extern.Atomic.read, asAddr, hcell]
  · show Sem.events P (asAddr (.pointer (some ⟨b, o, none⟩)) >>= fun a => Extern.Atomic.read .ptr a) w es = _
    simp [Extern.Atomic.read, asAddr, hcell]
theorem run_astore (hb : Blk w b c E) (ho : o < c.size) {v : Value} (hv : isCell v = true) : (Extern.Atomic.storeT #[.pointer (some ⟨b, o, none⟩), v]).run P w = .ok (.tuple #[]) (w.setCell ⟨b, o, none⟩ v) ∧ ∀ es, (Extern.Atomic.storeT #[.pointer (some ⟨b, o, none⟩), v]).events P w es = es ++ #[⟨.cell ⟨b, o, none⟩, true, true⟩] := by
  obtain ⟨h1, h2⟩ := run_store1 (P := P) hb ho hv .atomic
  refine ⟨?_, fun es => ?_⟩
  · show Sem.run P (asAddr (.pointer (some ⟨b, o, none⟩)) >>= fun a => store a v .atomic >>= fun _ => pure Extern.Atomic.none_) w = _
    simp [asAddr, h1, Extern.Atomic.none_]
  · show Sem.events P (asAddr (.pointer (some ⟨b, o, none⟩)) >>= fun a => store a v .atomic >>= fun _ => pure Extern.Atomic.none_) w es = _
    simp [asAddr, h1, h2, Extern.Atomic.none_]
theorem run_notouch (hb : Blk w b c E) : (Extern.Atomic.touchesFrozen ⟨b, o, none⟩).run P w = .ok false w ∧ ∀ es, (Extern.Atomic.touchesFrozen ⟨b, o, none⟩).events P w es = es := by
  have hsh : (w.shape? b).isSome = true := by rw [hb.shape]; rfl
  exact ⟨by simp [Extern.Atomic.touchesFrozen, viewAt, hsh, hb.frozen], fun es => by simp [Extern.Atomic.touchesFrozen, viewAt, hsh]⟩
theorem run_acas_hit {k : IntKind} {n y : Int} (hb : Blk w b c E) (hc : c[o]? = some (.int k n)) :
    (Extern.Atomic.casT (.int k) #[.pointer (some ⟨b, o, none⟩), .int k n, .int k y]).run P w = .ok (.bool true) (w.setCell ⟨b, o, none⟩ (.int k y)) ∧
    ∀ es, (Extern.Atomic.casT (.int k) #[.pointer (some ⟨b, o, none⟩), .int k n, .int k y]).events P w es = es ++ #[⟨.cell ⟨b, o, none⟩, false, true⟩, ⟨.cell ⟨b, o, none⟩, true, true⟩] := by
  have hcell : w.cell? ⟨b, o, none⟩ = some (.int k n) := (hb.cell o).trans hc
  have ho : o < c.size := (Array.getElem?_eq_some_iff.1 hc).1
  obtain ⟨h1, h2⟩ := run_store1 (P := P) hb ho (v := .int k y) rfl .atomic
  obtain ⟨t1, t2⟩ := run_notouch (P := P) (o := o) hb
  refine ⟨?_, fun es => ?_⟩
  · show Sem.run P (asAddr (.pointer (some ⟨b, o, none⟩)) >>= _) w = _
    simp [asAddr, t1, Extern.Atomic.read, hcell]
    show Sem.run P (if n = n then (fun _ => Value.bool (n == n)) <$> store ⟨b, o, none⟩ (.int k y) .atomic else pure (.bool (n == n))) w = _
    simp [h1]
  · show Sem.events P (asAddr (.pointer (some ⟨b, o, none⟩)) >>= _) w es = _
    simp [asAddr, t1, t2, Extern.Atomic.read, hcell]
    show Sem.events P (if n = n then (fun _ => Value.bool (n == n)) <$> store ⟨b, o, none⟩ (.int k y) .atomic else pure (.bool (n == n))) w _ = _
    simp [h1, h2]
    exact Array.ext' (by simp)
theorem run_acas_miss {k : IntKind} {n x y : Int} (hb : Blk w b c E) (hc : c[o]? = some (.int k n)) (hx : n ≠ x) :
    (Extern.Atomic.casT (.int k) #[.pointer (some ⟨b, o, none⟩), .int k x, .int k y]).run P w = .ok (.bool false) w ∧
    ∀ es, (Extern.Atomic.casT (.int k) #[.pointer (some ⟨b, o, none⟩), .int k x, .int k y]).events P w es = es ++ #[⟨.cell ⟨b, o, none⟩, false, true⟩] := by
  have hcell : w.cell? ⟨b, o, none⟩ = some (.int k n) := (hb.cell o).trans hc
  obtain ⟨t1, t2⟩ := run_notouch (P := P) (o := o) hb
  refine ⟨?_, fun es => ?_⟩
  · show Sem.run P (asAddr (.pointer (some ⟨b, o, none⟩)) >>= _) w = _
    simp [asAddr, t1, Extern.Atomic.read, hcell]
    show Sem.run P (if n = x then (fun _ => Value.bool (n == x)) <$> store ⟨b, o, none⟩ (.int k y) .atomic else pure (.bool (n == x))) w = _
    simp [hx]
  · show Sem.events P (asAddr (.pointer (some ⟨b, o, none⟩)) >>= _) w es = _
    simp [asAddr, t1, t2, Extern.Atomic.read, hcell]
    show Sem.events P (if n = x then (fun _ => Value.bool (n == x)) <$> store ⟨b, o, none⟩ (.int k y) .atomic else pure (.bool (n == x))) w _ = _
    simp [hx]
/-- Two pointers, compared: the same, or of unlike blocks. -/
theorem run_acasp {p q y : Option Addr} {r : Bool} (hb : Blk w b c E) (hc : c[o]? = some (.pointer p)) (hs : (samePointer p q).run P w = .ok r w) (he : ∀ es, (samePointer p q).events P w es = es) :
    (Extern.Atomic.casT .ptr #[.pointer (some ⟨b, o, none⟩), .pointer q, .pointer y]).run P w = .ok (.bool r) (if r then w.setCell ⟨b, o, none⟩ (.pointer y) else w) ∧
    ∀ es, (Extern.Atomic.casT .ptr #[.pointer (some ⟨b, o, none⟩), .pointer q, .pointer y]).events P w es = es ++ (if r then #[⟨.cell ⟨b, o, none⟩, false, true⟩, ⟨.cell ⟨b, o, none⟩, true, true⟩] else #[⟨.cell ⟨b, o, none⟩, false, true⟩]) := by
  have hcell : w.cell? ⟨b, o, none⟩ = some (.pointer p) := (hb.cell o).trans hc
  have ho : o < c.size := (Array.getElem?_eq_some_iff.1 hc).1
  obtain ⟨h1, h2⟩ := run_store1 (P := P) hb ho (v := .pointer y) rfl .atomic
  obtain ⟨t1, t2⟩ := run_notouch (P := P) (o := o) hb
  refine ⟨?_, fun es => ?_⟩
  · show Sem.run P (asAddr (.pointer (some ⟨b, o, none⟩)) >>= _) w = _
    simp [asAddr, t1, Extern.Atomic.read, hcell]
    show Sem.run P (samePointer p q >>= fun eq => if eq = true then (fun _ => Value.bool eq) <$> store ⟨b, o, none⟩ (.pointer y) .atomic else pure (.bool eq)) w = _
    cases r <;> simp [h1, hs]
  · show Sem.events P (asAddr (.pointer (some ⟨b, o, none⟩)) >>= _) w es = _
    simp [asAddr, t1, t2, Extern.Atomic.read, hcell]
    show Sem.events P (samePointer p q >>= fun eq => if eq = true then (fun _ => Value.bool eq) <$> store ⟨b, o, none⟩ (.pointer y) .atomic else pure (.bool eq)) w _ = _
    cases r <;> simp [h1, h2, hs, he]
    exact Array.ext' (by simp)
theorem run_samep (p : Option Addr) : (samePointer p p).run P w = .ok true w ∧ ∀ es, (samePointer p p).events P w es = es := by
  cases p with
  | none => exact ⟨by simp [samePointer], fun es => by simp [samePointer]⟩
  | some a => exact ⟨run_sameAddr_same w a, fun es => by simp [samePointer, sameAddr]⟩
/-- Pointers into unlike blocks of cells are unlike. -/
theorem run_unlikep {b1 b2 o1 o2 : Nat} {c1 c2 : Array Value} {E1 E2 : TypeId} (h1 : Blk w b1 c1 E1) (h2 : Blk w b2 c2 E2) (hne : b1 ≠ b2) :
    (samePointer (some ⟨b1, o1, none⟩) (some ⟨b2, o2, none⟩)).run P w = .ok false w ∧ ∀ es, (samePointer (some ⟨b1, o1, none⟩) (some ⟨b2, o2, none⟩)).events P w es = es := by
  have f1 := h1.frozen; have f2 := h2.frozen; have s1 := h1.shape; have s2 := h2.shape
  have hn : (b1 == b2) = false := by simpa using hne
  refine ⟨?_, fun es => ?_⟩
  · simp [samePointer, sameAddr, hn, f1, f2, noView, viewAt, s1, s2, mayBeOne, stringish]
  · simp [samePointer, sameAddr, hn, f1, f2, noView, viewAt, s1, s2, mayBeOne, stringish]
theorem run_nonep (a : Addr) : (samePointer none (some a)).run P w = .ok false w ∧ ∀ es, (samePointer none (some a)).events P w es = es := ⟨by simp [samePointer], fun es => by simp [samePointer]⟩
theorem run_pnone (a : Addr) : (samePointer (some a) none).run P w = .ok false w ∧ ∀ es, (samePointer (some a) none).events P w es = es := ⟨by simp [samePointer], fun es => by simp [samePointer]⟩
end

/-! ### .. of one's own -/
section
variable {Pg : Program} {P : Cx Pg} {h : H} {K : Value → H → Prop} {b o : Nat} {c : Array Value} {E : TypeId} {w : World}
theorem Hol.blk (hh : Hol h w) (hb : h b = some (.cells c E)) : Blk w b c E := by
  have := hh _ _ hb
  simp only [HolO, oneOf_cells, noteOf_cells, if_neg (not_isRo0 c)] at this
  exact this
theorem ev_own {v : Value} {hb : h b = some (.cells c E)} {x : Event} (hx : x.loc = .cell ⟨b, o, none⟩ ∨ ∃ g, x.loc = .mark (.extern g)) {c' : Array Value} {h' : H} (hb' : h' b = some (.cells c' E)) : EvO h' x := by
  rcases hx with hx | ⟨g, hx⟩
  · exact EvO_cells hb' hx rfl (not_isRo0 c')
  · simp only [EvO, hx]; exact .inr ⟨g, rfl⟩
theorem own_still (hh : Hol h w) (hb : h b = some (.cells c E)) {evs : Array Event} (he : ∀ x ∈ evs, x.loc = .cell ⟨b, o, none⟩) : ∀ es, (∀ x ∈ es, x ∈ evs ∨ ∃ g, x.loc = .mark (.extern g)) → Fra h w h w es :=
  fun es hs => Fra.still hh rfl rfl rfl rfl fun x hx => ev_own (v := undef) (hb := hb) (o := o) ((hs x hx).imp (he x) id) hb
theorem own_set (hh : Hol h w) (hb : h b = some (.cells c E)) {v : Value} {evs : Array Event} (he : ∀ x ∈ evs, x.loc = .cell ⟨b, o, none⟩) : ∀ es, (∀ x ∈ es, x ∈ evs ∨ ∃ g, x.loc = .mark (.extern g)) → Fra h w (hupd h b (.cells (c.setIfInBounds o v) E)) (w.setCell ⟨b, o, none⟩ v) es :=
  fun es hs => Fra.set hh hb ((hh.blk hb).set o v) (HolO_new _ _) (chO_cells (not_isRo0 c) (by simp)) (by simp only [kpO, oneOf_cells]; exact fun h => absurd h (not_isRo0 c)) fun x hx => ev_own (v := undef) (hb := hb) (o := o) ((hs x hx).imp (he x) id) (hupd_same _ _ _)
end

/-- A conversion that the walk has no rule for. -/
def cvM {Pg : Program} (P : Cx Pg) (s t : TypeId) (x : Option Value) (h : H) (V : Value → H → Prop) : Prop :=
  match x with
  | some v => ∀ w, Hol h w → ∃ v', (convert s t v).run Pg w = .ok v' w ∧ (convert s t v).events Pg w #[] = #[] ∧ V v' h
  | none => False
theorem raw_cv {Pg : Program} {P : Cx Pg} {e : Env} {h : H} {V : Value → H → Prop} {X : List PanicEntry → H → Prop} {d : Option Nat} {s t ty : TypeId} {x : Operand} (hm : cvM P s t (ev e x) h V) : lM P (.raw ⟨d, .convert s t x, ty, "", #[], none⟩) e h V X := by
  intro a ha
  unfold cvM at hm
  split at hm
  · rename_i v hv
    refine does_of fun w hh => ?_
    obtain ⟨v', h1, h2, h3⟩ := hm w hh
    refine ⟨v', w, h, .inl ?_, Fra.still hh rfl rfl rfl rfl (nov ?_), h3⟩
    · simp [execOp, ev_sound ha hv, h1]
    · simp [execOp, ev_sound ha hv, h2]
  · exact hm.elim
section
variable {Pg : Program} {P : Cx Pg} {s t u : TypeId} {h : H} {V : Value → H → Prop}
theorem cv_nil_to (hs : P.prog.underlying s = some (.pointer u)) (ht : P.prog.underlying t = some .unsafePointer) (hV : V (.pointer none) h) : cvM P s t (some (.pointer none)) h V := by
  intro w hw
  have hs' : Pg.underlying s = _ := hs
  have ht' : Pg.underlying t = _ := ht
  exact ⟨_, by simp [convert, Conv.unsafePointer, run_underlying hs', run_underlying ht'], by simp [convert, Conv.unsafePointer, run_underlying hs', run_underlying ht'], hV⟩
theorem cv_nil_from (hs : P.prog.underlying s = some .unsafePointer) (ht : P.prog.underlying t = some (.pointer u)) (hV : V (.pointer none) h) : cvM P s t (some (.pointer none)) h V := by
  intro w hw
  have hs' : Pg.underlying s = _ := hs
  have ht' : Pg.underlying t = _ := ht
  exact ⟨_, by simp [convert, Conv.unsafePointer, run_underlying hs', run_underlying ht'], by simp [convert, Conv.unsafePointer, run_underlying hs', run_underlying ht'], hV⟩
/-- What a pointer's block is in the world, whoever may write it. -/
theorem Hol.shape {w : World} (hh : Hol h w) {b : Nat} {c : Array Value} {E : TypeId} {fr : Nat × Nat} (hb : h b = some (.cells c E fr)) : w.shape? b = some (E, c.size) := by
  have := hh _ _ hb
  simp only [HolO, oneOf_cells, noteOf_cells] at this
  split at this
  · obtain ⟨fr', hx, _⟩ := this; unfold World.shape?; rw [hx]
  · unfold World.shape?; rw [this]
theorem cv_to (hs : P.prog.underlying s = some (.pointer u)) (ht : P.prog.underlying t = some .unsafePointer) (hu : (P.prog.info? u).map (fun i => decide (i.size = 0)) = some false)
    {b o : Nat} {v : Value} (hc : cellAt h ⟨b, o, none⟩ = some v) (hV : V (.pointer (some ⟨b, o, none⟩)) h) : cvM P s t (some (.pointer (some ⟨b, o, none⟩))) h V := by
  intro w hw
  have hs' : Pg.underlying s = _ := hs
  have ht' : Pg.underlying t = _ := ht
  have hcell := cell_of hw hc
  refine ⟨_, run_convert_to_unsafe hs ht hu hcell, ?_, hV⟩
  obtain ⟨e, n, hsh, hlt, hsp⟩ := World.shape?_of_cell? hcell
  obtain ⟨i, hi, hz0⟩ := Option.map_eq_some_iff.1 hu
  have hi' : Pg.info? u = some i := hi
  have hz : i.size ≠ 0 := by simpa using hz0
  have hge : ¬ (n ≤ o) := by simp only at hlt; omega
  simp only at hsh
  simp [convert, Conv.unsafePointer, Conv.seenAt, viewAt, cellsIn, sizeOf, typeInfo, run_underlying hs', run_underlying ht', hi', hz, hsh, hge, Result.andThen]
theorem cv_from (hs : P.prog.underlying s = some .unsafePointer) (ht : P.prog.underlying t = some (.pointer u)) {i : TypeInfo} (hi : P.prog.info? u = some i) (hz : i.size ≠ 0)
    {b o : Nat} {c : Array Value} {E : TypeId} {fr : Nat × Nat} (hb : h b = some (.cells c E fr)) (hl : liesAt P.prog P.prog.depth E (c.size / P.prog.cellsOf E) o u 1 = true) (hV : V (.pointer (some ⟨b, o, none⟩)) h) : cvM P s t (some (.pointer (some ⟨b, o, none⟩))) h V := by
  intro w hw
  have hs' : Pg.underlying s = _ := hs
  have ht' : Pg.underlying t = _ := ht
  have hi' : Pg.info? u = _ := hi
  have hl' : liesAt Pg Pg.depth E (c.size / Pg.cellsOf E) o u 1 = true := hl
  have hsh := hw.shape hb
  exact ⟨_, by simp [convert, Conv.unsafePointer, Conv.seenAt, viewAt, variablesAt, sizeOf, typeInfo, run_underlying hs', run_underlying ht', hi', hz, hsh, hl', Result.andThen], by simp [convert, Conv.unsafePointer, Conv.seenAt, viewAt, variablesAt, sizeOf, typeInfo, run_underlying hs', run_underlying ht', hi', hz, hsh, hl', Result.andThen], hV⟩
end
end Go.Proofs.Ytojhnclkhiffkaa
