/-
  From a walk over heaps to a given statement: arguments opened as lists, the answer read.
-/
import Derived.Test.YtojhnclkhiffkaaK11
import Derived.WalkKit
import Derived.ProofKit
import Derived.OpenShut
import Derived.JoinedCond
import Derived.Carry
import Derived.SliceStrings
namespace Go.Proofs.Ytojhnclkhiffkaa
open Go.ChangeShapes Go.WideShapes Go.ChangeAt Go.RowKit
set_option linter.unusedVariables false

theorem cellAt_hp (w : World) (p : Addr) : cellAt (hp w) p = w.cell? p := by
  unfold cellAt World.cell?
  cases hb : w.heap[p.block]? with
  | none => simp [hp, hb]
  | some o => cases o <;> simp [hp, hb]
theorem trodAll_stays {H : Type} {enc : TypeId × Value → H} {P : Program} (hl : laidOutB P = true) {W W' : World} {sp : Nat → Bool} :
    ∀ {ts : List TypeId} {vs : List Value} {ds : List (DataW H)} {ps : List MemPlace}, (ts.all fun t => P.readableRec t && decide (t < P.types.size)) = true →
      DataW.TrodAll enc P W 0 (fun _ => true) true ts vs ds ps → (∀ x ∈ ps, W.sameAt W' x) → (∀ x ∈ ps, sp x.block = true) → DataW.TrodAll enc P W' 0 sp true ts vs ds ps
  | [], [], [], ps, _, h, _, _ => h
  | t :: ts, v :: vs, d :: ds, ps, ht, h, h1, h2 => by
    obtain ⟨p, q, hp, hq, rfl⟩ := h
    simp only [List.all_cons, Bool.and_eq_true, decide_eq_true_eq] at ht
    exact ⟨p, q, WideElems.Trod_stays hl ht.1.1 ht.1.2 hp (fun x hx => h1 x (by simp [hx])) (fun x hx => h2 x (by simp [hx])),
      trodAll_stays hl (by simpa using ht.2) hq (fun x hx => h1 x (by simp [hx])) (fun x hx => h2 x (by simp [hx])), rfl⟩
  | [], _ :: _, _, _, _, h, _, _ => h.elim
  | [], [], _ :: _, _, _, h, _, _ => h.elim
  | _ :: _, [], _, _, _, h, _, _ => h.elim
  | _ :: _, _ :: _, [], _, _, h, _, _ => h.elim

/-- A law that answers true, reads only, names no variable. -/
theorem law_post {H : Type} {enc : TypeId × Value → H} {P : Program} {f : Func} {s : ChangeSpec} {apart fresh handsOn again : Bool} {W W' : World} {args : Array Value} {ds gs : List (DataW H)} {before : List MemPlace} {tb : TypeId}
    (hl : laidOutB P = true) (hts : (f.params.toList.all fun t => P.readableRec t && decide (t < P.types.size)) = true) (hr : f.resultTypes = #[tb]) (hb : P.underlying tb = some .bool) (hv : s.vars = [])
    (hW : DataW.Whole enc P f.params.toList s.vars apart W args.toList ds gs before)
    (h1 : (s.fn H (ds ++ gs)).results = [.lit (.bool true)]) (h2 : (s.fn H (ds ++ gs)).args = ds) (h3 : (s.fn H (ds ++ gs)).vars = [])
    (hbel : Below W.heap.size W W') : s.post enc P f apart fresh handsOn again W args (.bool true) W' := by
  have hW0 := hW
  have hlt : ∀ p ∈ before, p.block < W.heap.size := hW.lt
  obtain ⟨p, q, hA, hV, rfl, hz, hn⟩ := hW
  rw [hv] at hV
  obtain ⟨rfl, rfl⟩ := trodVars_none hV
  rw [List.append_nil] at hlt hW0 hz hn
  have hsame : ∀ x ∈ p, W.sameAt W' x := fun x hx => hbel.same (hlt x hx)
  have hargs : ∀ sp : Nat → Bool, (∀ x ∈ p, sp x.block = true) → DataW.TrodAll enc P W' 0 sp true f.params.toList args.toList (s.fn H (ds ++ [])).args p := by
    intro sp hs
    rw [h2]
    exact trodAll_stays hl hts hA hsame hs
  have hres : ∀ (b : Nat) (sp : Nat → Bool) (hd : Bool), DataW.TrodAll enc P W' b sp hd f.resultTypes.toList ((Value.bool true).resultList f.resultTypes.size) (s.fn H (ds ++ [])).results [] := by
    intro b sp hd
    rw [h1, hr]
    exact trodAll_cons_mk (shut_bool hb _) trodAll_mk0
  have hvars : ∀ sp : Nat → Bool, DataW.TrodVars enc P W' sp s.vars (s.fn H (ds ++ [])).vars [] := by
    intro sp; rw [hv, h3]; rfl
  have hok := ok_one (P := P) (W' := W') (f := f) (v := .bool true) hr rfl (okWide_bool_mk hb true)
  refine ⟨ds, [], p, [], p, [], hW0, hres _ _ _, hargs _ (fun x hx => by simpa using hlt x hx), hvars _, World.keptBut_mono (fun x hx => ⟨hx, .inr (.inl hx)⟩) (hbel.frame _), fun _ => ?_⟩
  refine ⟨hok, _, _, ([] ++ p) ++ [], ⟨[] ++ p, [], trodAll_append (hargs _ (fun _ _ => rfl)) (hres _ _ _), hvars _, rfl, ?_, ?_⟩, ?_⟩
  · intro b off hx
    rw [hbel.frozen (by exact hlt _ (by simpa using hx))]
    exact hz b off (by simpa using hx)
  · intro ha; simpa using hn ha
  · intro x hx _; simpa using hx

/-- Cells that read one by one are a slice. -/
theorem sl_of {W : World} {a : Addr} {len cap : Nat} {xs : List Value} (hl : len ≤ cap) (hx : xs.length = cap) (hc : ∀ i (hi : i < xs.length), W.cell? (a.add i) = some xs[i]) : Sl (hp W) (.slice (some a) len cap) (xs.take len) := by
  by_cases h0 : cap = 0
  · subst h0
    obtain rfl : len = 0 := by omega
    exact .inl ⟨some a, rfl, rfl⟩
  · have key : ∀ i (hi : i < xs.length), cellAt (hp W) (a.add i) = some xs[i] := fun i hi => (cellAt_hp _ _).trans (hc i hi)
    have k0 := key 0 (by omega)
    rw [add_zero, cellAt_hp] at k0
    unfold World.cell? at k0
    split at k0
    · rename_i c E fr hb
      split at k0
      · cases k0
      · rename_i hs
        have hs' : a.spot = none := by simpa using hs
        obtain ⟨b, o, sp⟩ := a
        simp only at hs' hb
        subst hs'
        replace hb := hp_cells hb
        have each : ∀ i (hi : i < xs.length), c[o + i]? = some xs[i] := by
          intro i hi
          have := key i hi
          rw [add_mk, cellAt_of hb] at this
          exact this
        have hlast := (Array.getElem?_eq_some_iff.1 (each (cap - 1) (by omega))).1
        refine .inr ⟨b, o, cap, c, E, _, ?_, hb, by omega, ?_, ?_⟩
        · rw [List.length_take, Nat.min_eq_left (by omega)]
        · rw [List.length_take]; omega
        · intro i hi
          rw [List.length_take] at hi
          rw [each i (by omega), List.getElem_take]
    · cases k0

section
variable {H : Type} {enc : TypeId × Value → H} {P : Program} {W : World} {base : Nat}
theorem sl_ints {t e : TypeId} {k : IntKind} {v : Value} {d : DataW H} {p : List MemPlace} (ht : P.underlying t = some (.slice e)) (he : P.underlying e = some (.int k)) (hc : P.cellsOf e = 1)
    (hval : Value.okWide P W .any base t v) (h : DataW.Trod enc P W 0 (fun _ => true) true t v d p) : ∃ ns : List Int, Sl (hp W) v (ns.map (.int k)) ∧ ∀ n ∈ ns, (Lit.int k n).wf = true := by
  obtain ⟨va, vl, vc, rfl⟩ := okWide_slice ht hval
  obtain ⟨fuel, h⟩ := h
  rcases open_ints ht he hc h with ⟨h1, _⟩ | ⟨a, len, cap, zs, h1, _, hle, _, hz, _, hcell, hw⟩
  · simp only [Value.cells, List.cons.injEq, Value.slice.injEq, and_true] at h1
    obtain ⟨rfl, rfl, rfl⟩ := h1
    exact ⟨[], .inl ⟨_, rfl, rfl⟩, by simp⟩
  · simp only [Value.cells, List.cons.injEq, Value.slice.injEq, and_true] at h1
    obtain ⟨rfl, rfl, rfl⟩ := h1
    rw [if_pos rfl] at hz
    refine ⟨zs.take vl, ?_, fun n hn => hw n (List.mem_of_mem_take hn)⟩
    rw [List.map_take]
    refine sl_of hle (by simpa using hz) (fun i hi => ?_)
    simp only [List.length_map] at hi
    rw [hcell i hi]
    simp [hi]
theorem sl_strs {t e : TypeId} {v : Value} {d : DataW H} {p : List MemPlace} (ht : P.underlying t = some (.slice e)) (he : P.underlying e = some .string) (hc : P.cellsOf e = 1)
    (hval : Value.okWide P W .any base t v) (h : DataW.Trod enc P W 0 (fun _ => true) true t v d p) : ∃ ss : List ByteArray, Sl (hp W) v (ss.map .string) ∧ ∀ s ∈ ss, s.size ≤ maxLen := by
  obtain ⟨va, vl, vc, rfl⟩ := okWide_slice ht hval
  obtain ⟨fuel, h⟩ := h
  rcases open_strings ht he hc h with ⟨h1, _⟩ | ⟨a, len, cap, zs, h1, _, hle, _, hz, _, hcell, hw⟩
  · simp only [Value.cells, List.cons.injEq, Value.slice.injEq, and_true] at h1
    obtain ⟨rfl, rfl, rfl⟩ := h1
    exact ⟨[], .inl ⟨_, rfl, rfl⟩, by simp⟩
  · simp only [Value.cells, List.cons.injEq, Value.slice.injEq, and_true] at h1
    obtain ⟨rfl, rfl, rfl⟩ := h1
    rw [if_pos rfl] at hz
    refine ⟨zs.take vl, ?_, fun n hn => hw n (List.mem_of_mem_take hn)⟩
    rw [List.map_take]
    refine sl_of hle (by simpa using hz) (fun i hi => ?_)
    simp only [List.length_map] at hi
    rw [hcell i hi]
    simp [hi]
end
end Go.Proofs.Ytojhnclkhiffkaa
