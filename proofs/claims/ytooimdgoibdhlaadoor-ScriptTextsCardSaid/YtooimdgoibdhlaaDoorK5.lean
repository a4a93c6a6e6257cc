/-
  Operations that write or make memory, and calls.
-/
import Derived.Test.YtooimdgoibdhlaaDoorK4
namespace Go.Proofs.YtooimdgoibdhlaaDoor
set_option linter.unusedVariables false
variable {P : Program} {e : Env} {h : H} {a : Act} {w : World}

theorem hupd_same (h : H) (b : Nat) (o : Obj) : hupd h b o b = some o := by simp [hupd]
theorem hupd_ne (h : H) {b x : Nat} (o : Obj) (hne : x ≠ b) : hupd h b o x = h x := by simp [hupd, hne]
theorem hupd_hupd (h : H) (b : Nat) (o o' : Obj) : hupd (hupd h b o) b o' = hupd h b o' := by
  funext x; unfold hupd; split <;> rfl
theorem hupd_self {h : H} {b : Nat} {o : Obj} (hb : h b = some o) : hupd h b o = h := by
  funext x; unfold hupd; split
  · rename_i hx; rw [hx, hb]
  · rfl
theorem alloc_at (w : World) (o : Obj) : (w.alloc o).heap[w.heap.size]? = some o := by
  show (w.heap.push o)[w.heap.size]? = _
  simp
theorem alloc_old (w : World) (o : Obj) {x : Nat} (hx : x ≠ w.heap.size) : (w.alloc o).heap[x]? = w.heap[x]? := by
  show (w.heap.push o)[x]? = _
  rw [Array.getElem?_push, if_neg hx]
theorem hp_alloc (w : World) (c : Array Value) (E : TypeId) (fr : Nat × Nat) : hp (w.alloc (.cells c E fr)) = hupd (hp w) w.heap.size (.cells c E fr) := by
  funext x
  show hid (w.alloc (.cells c E fr)).heap[x]? = _
  unfold hupd
  by_cases hx : x = w.heap.size
  · subst hx; rw [if_pos rfl, alloc_at]; rfl
  · rw [if_neg hx, alloc_old w _ hx]; rfl
theorem hid_no {o : Obj} (h : hid (some o) = none) : o.isCells = false := by
  cases o <;> first | rfl | (simp [hid] at h; done)
theorem hp_new (w : World) : hp w w.heap.size = none := by simp [hp, hid]
theorem kin_alloc (w : World) (o : Obj) : Kin w (w.alloc o) := ⟨rfl, rfl, rfl, by simp, fun b x hb _ => (alloc_old w o (Nat.ne_of_lt (Array.getElem?_eq_some_iff.1 hb).1)).trans hb⟩
theorem kin_drew (w : World) : Kin w w.drew := ⟨rfl, rfl, rfl, Nat.le_refl _, fun _ _ h _ => h⟩
theorem hp_drew (w : World) : hp w.drew = hp w := rfl
theorem kin_setCell (w : World) (p : Addr) (v : Value) : Kin w (w.setCell p v) := ⟨rfl, rfl, rfl, by simp, fun b x hb hx => (KeepsOthers.setCell w p v).same b x hb (hid_no hx)⟩
theorem hp_setCell {w : World} {p : Addr} {c : Array Value} {E : TypeId} {fr : Nat × Nat} (hs : p.spot = none) (hb : hp w p.block = some (.cells c E fr)) (v : Value) :
    hp (w.setCell p v) = hupd (hp w) p.block (.cells (c.setIfInBounds p.off v) E fr) := by
  funext x
  unfold hupd
  show hid (w.setCell p v).heap[x]? = _
  unfold World.setCell
  rw [Array.getElem?_modify]
  by_cases hx : p.block = x
  · subst hx
    have hb' : w.heap[p.block]? = some (.cells c E fr) := hid_cells.1 hb
    simp [hb', hs, hid]
  · rw [if_neg hx, if_neg (fun h => hx h.symm)]; rfl

theorem isCell_one {v : Value} (h : isCell v = true) : v.oneCell' = true ∧ v.cells = #[v] := by
  cases v <;> simp_all [isCell, Value.oneCell', Value.cells]

theorem run_storeCells (P : Program) {p : Addr} (hs : p.spot = none) {E : TypeId} {fr : Nat × Nat} : ∀ (vs : List Value) (i : Nat) (c : Array Value) (w : World), hp w p.block = some (.cells c E fr) → (fr.2 ≤ p.off + i ∨ p.off + i + vs.length ≤ fr.1) → p.off + i + vs.length ≤ c.size → vs.all isCell = true →
    ∃ w', (storeCells p vs i).run P w = .ok () w' ∧ Kin w w' ∧ hp w' = hupd (hp w) p.block (.cells (splice c (p.off + i) vs) E fr)
  | [], i, c, w, hb, hf, hl, hc => ⟨w, rfl, Kin.refl w, by rw [splice, hupd_self hb]⟩
  | v :: r, i, c, w, hb, hf, hl, hc => by
    simp only [List.all_cons, Bool.and_eq_true] at hc
    obtain ⟨h1, h2⟩ := isCell_one hc.1
    have hlt : p.off + i < c.size := by simp at hl; omega
    have hb' : w.heap[p.block]? = some (.cells c E fr) := hid_cells.1 hb
    have hcell : w.cell? (p.add i) = some c[p.off + i] := by
      unfold World.cell?
      rw [add_block, hb']
      simp [add_spot hs, add_off, hlt]
    have hfro : w.frozen? (p.add i) = false := by
      unfold World.frozen?
      rw [add_block, hb']
      simp only [List.length_cons] at hf
      simp [add_off]
      omega
    have hst : (store (p.add i) v).run P w = .ok () (w.setCell (p.add i) v) := by
      rw [run_store P w _ v _ h1, hcell]
      simp [hfro]
    have hset := hp_setCell (w := w) (p := p.add i) (add_spot hs i) (by rw [add_block]; exact hb) v
    rw [add_block, add_off] at hset
    obtain ⟨w', hr, hk, hh⟩ := run_storeCells P hs r (i + 1) (c.setIfInBounds (p.off + i) v) (w.setCell (p.add i) v) (by rw [hset, hupd_same]) (by simp only [List.length_cons] at hf; omega) (by simp at hl ⊢; omega) hc.2
    refine ⟨w', ?_, (kin_setCell _ _ _).trans hk, ?_⟩
    · simp only [storeCells, Sem.run_bind, hst, Result.andThen_ok, hr]
    · rw [hh, hset, hupd_hupd]; rfl
/-- What a store does. -/
theorem run_storeH (P : Program) {w : World} {p : Addr} {vs : List Value} {K : H → Prop} (h : storeH (hp w) p vs K) : ∃ w', (storeCells p vs).run P w = .ok () w' ∧ Kin w w' ∧ K (hp w') := by
  unfold storeH at h
  split at h
  · rename_i h0; subst h0
    exact ⟨w, rfl, Kin.refl w, h⟩
  split at h
  · rename_i c E fr hb
    obtain ⟨hf, hs, hl, hc, hK⟩ := h
    obtain ⟨w', h1, h2, h3⟩ := run_storeCells P hs vs 0 c w hb (by omega) (by omega) hc
    exact ⟨w', h1, h2, by rw [h3]; exact hK⟩
  · exact h.elim

/-- An operation, also one that asks for a round. -/
def wpZ (P : Program) (o : Oper) (a : Act) (w : World) (next : Act → World → Prop) (Q : Exit → Act → World → Prop) : Prop := o.uponIn Fence.wide 0 P a next Q ((execOp a.eval o).run P w)
theorem wp_value {o : Oper} {next : Act → World → Prop} {Q : Exit → Act → World → Prop} {v : Value} {w' : World} (hr : (execOp a.eval o).run P w = .ok (.value v) w') (hn : next (a.put o.dst v) w') : wpZ P o a w next Q := by
  unfold wpZ; rw [hr]; exact hn
theorem wp_skipv {o : Oper} {next : Act → World → Prop} {Q : Exit → Act → World → Prop} {w' : World} (hr : (execOp a.eval o).run P w = .ok .skip w') (hn : next (a.put o.dst undef) w') : wpZ P o a w next Q := by
  unfold wpZ; rw [hr]; exact hn

theorem zeroCells_eq {z : Array Value} {n : Nat} (hz : 0 < z.size) : Builtin.zeroCells z n = (Array.range (n * z.size)).map fun i => z[i % z.size]! := rfl
theorem srcLen_run (P : Program) (w : World) {x : Value} {n : Nat} (h : srcLen x = some n) : (Builtin.lenOf x).run P w = .ok n w := by
  cases x <;> simp [srcLen] at h <;> simp [Builtin.lenOf, h]
theorem srcCells_run (P : Program) {w : World} {size n : Nat} {x : Value} {cs : Array Value} (h : srcCells (hp w) size n x = some cs) : (Builtin.firstCells size n x).run P w = .ok cs w := by
  unfold srcCells at h
  split at h
  · simp [Builtin.firstCells, run_lds rfl h]
  · simp only [Option.some.injEq] at h; subst h; simp [Builtin.firstCells]
  · simp only [Option.some.injEq] at h; subst h; simp [Builtin.firstCells]
  · cases h

theorem app_sound {t u E : TypeId} {i : TypeInfo} {z : Value} {d : TypeDesc} (hu : P.underlying t = some (.slice E)) (hu' : P.underlying u = some d) (hd : ∀ k, d ≠ .int k) (hi : P.info? E = some i) (hz : i.zero = some z)
    {s x : Value} {K : Value → H → Prop} (ty : TypeId) (hm : appM E i.size i.bytes z.cells s x (hp w) K) :
    ∃ v w', (Builtin.append_ #[t, u] ty #[s, x]).run P w = .ok v w' ∧ Kin w w' ∧ K v (hp w') := by
  unfold appM at hm
  split at hm
  · rename_i base len cap n hn
    have hr' := run_underlying hu' w
    split at hm
    · rename_i hle
      split at hm
      · rename_i new p hc
        obtain ⟨w', h1, h2, h3⟩ := run_storeH P hm
        refine ⟨_, w', ?_, h2, h3⟩
        simp [Builtin.append_, run_underlying hu, hr', run_size hi, srcLen_run P w hn, hle, srcCells_run P hc, h1]
      · rename_i new hc
        refine ⟨_, w, ?_, Kin.refl w, hm⟩
        simp [Builtin.append_, run_underlying hu, hr', run_size hi, srcLen_run P w hn, hle, srcCells_run P hc]
      · exact hm.elim
    · rename_i hle
      obtain ⟨⟨h63, h48⟩, hm⟩ := hm
      split at hm
      · rename_i old new ho hc
        have hq : (Question.appendCap (len + n) cap E).forced = false := rfl
        let c := (Question.appendCap (len + n) cap E).cut (w.tape w.drawn (Question.appendCap (len + n) cap E))
        have hc' : len + n ≤ c := Nat.le_add_right _ _
        have hK := hm c hc' w.heap.size (hp_new w)
        refine ⟨_, w.drew.alloc (.cells (old ++ new ++ Builtin.zeroCells z.cells (c - (len + n))) E), ?_, (kin_drew w).trans (kin_alloc _ _), by rw [hp_alloc]; exact hK⟩
        have h63' : ¬ (9223372036854775807 < ((len : Int) + (n : Int))) := by omega
        have h48' : ¬ (281474976710656 < Builtin.nextslicecap (len + n) cap * i.bytes) := by omega
        have hfo := srcCells_run P (w := w.drew) ho
        have hfn := srcCells_run P (w := w.drew) hc
        simp [Builtin.append_, run_underlying hu, hr', run_size hi, run_info hi, run_zero hi hz, srcLen_run P w hn, hle, h63', h48', Question.forced, hfo, hfn, newRow, c]
      · exact hm.elim
  · exact hm.elim

theorem cpy_sound {t E : TypeId} {u : List TypeId} {i : TypeInfo} (hu : P.underlying t = some (.slice E)) (hi : P.info? E = some i) {base : Option Addr} {dl dc : Nat} {s : Value} {n : Nat} {K : Value → H → Prop} (ty : TypeId)
    (hn : srcLen s = some n) (hm : match srcCells (hp w) i.size (min n dl) s, base with
        | some new, some a => storeH (hp w) a new.toList fun h' => K (.int .i64 (min n dl : Nat)) h'
        | some _, none => K (.int .i64 (min n dl : Nat)) (hp w)
        | none, _ => False) :
    ∃ v w', (Builtin.copy_ (t :: u).toArray ty #[.slice base dl dc, s]).run P w = .ok v w' ∧ Kin w w' ∧ K v (hp w') := by
  split at hm
  · rename_i new p hc
    obtain ⟨w', h1, h2, h3⟩ := run_storeH P hm
    refine ⟨_, w', ?_, h2, h3⟩
    simp [Builtin.copy_, run_underlying hu, run_size hi, srcLen_run P w hn]
    have hc' := srcCells_run P hc
    simp [hc', h1, goInt]
  · rename_i new hc
    refine ⟨_, w, ?_, Kin.refl w, hm⟩
    simp [Builtin.copy_, run_underlying hu, run_size hi, srcLen_run P w hn]
    have hc' := srcCells_run P hc
    simp [hc', goInt]
  · exact hm.elim

theorem lM_q {l : L} {K : Value → H → Prop} {X : List PanicEntry → H → Prop} (hq : isQ l = true) (hm : lM P l e h K X) : ∃ v, qV l e h = some v ∧ K v h := by
  have : lM P l e h K X = opt (qV l e h) h K := by cases l <;> first | rfl | (simp [isQ] at hq)
  rw [this] at hm
  unfold opt at hm
  split at hm
  · exact ⟨_, by assumption, hm⟩
  · exact hm.elim

theorem bytes_run (P : Program) (w : World) {F : Value → ByteArray → Sem (ForInStep ByteArray)} (hF : ∀ n s, F (.int .u8 n) s = pure (ForInStep.yield (s.push (UInt8.ofNat n.toNat)))) : ∀ (cs : List Value) (s : ByteArray), cs.all isByte = true →
    (forIn cs s F).run P w = .ok (cs.foldl pushByte s) w
  | [], s, _ => by simp
  | c :: r, s, h => by
    simp only [List.all_cons, Bool.and_eq_true] at h
    have ih := bytes_run P w hF r
    cases c with
    | int k n => cases k <;> first | (simp [isByte] at h; done) | simp [pushByte, hF, ih _ h.2]
    | _ => simp [isByte] at h
def Vals (P : Program) (a : Act) (o : Oper) (w : World) (K : Value → H → Prop) : Prop :=
  ∃ v w', ((execOp a.eval o).run P w = .ok (.value v) w' ∨ ((execOp a.eval o).run P w = .ok .skip w' ∧ v = undef)) ∧ Kin w w' ∧ K v (hp w')
theorem Vals.wp {o : Oper} {K : Value → H → Prop} {next : Act → World → Prop} {Q : Exit → Act → World → Prop} (hv : Vals P a o w K) (hK : ∀ v w', Kin w w' → K v (hp w') → next (a.put o.dst v) w') : wpZ P o a w next Q := by
  obtain ⟨v, w', hr | ⟨hr, rfl⟩, hk, hKv⟩ := hv
  · exact wp_value hr (hK v w' hk hKv)
  · exact wp_skipv hr (hK _ w' hk hKv)

theorem low_raw {o : Oper} (ha : agree e a) {K : Value → H → Prop} {X : List PanicEntry → H → Prop} (hm : lM P (.raw (bare o)) e (hp w) K X) : Vals P a o w K := hm a w ha rfl

theorem callFunc_run {f : FuncId} (hf : callable P f = true) (args : Array Value) (w : World) : (callFunc f args).run P w = .ok (.enter f args) w := by
  unfold callable at hf
  split at hf
  · rename_i fn h1
    simp only [Bool.and_eq_true, Bool.not_eq_true'] at hf
    simp only [callFunc, Sem.run_bind, run_program, Result.andThen_ok, h1, hf.1, hf.2, Bool.false_eq_true, if_false]
    rfl
  · cases hf
theorem call_sound {o : Oper} {f : FuncId} {vs : Array Value} {K : Value → H → Prop} {X : List PanicEntry → H → Prop} {next : Act → World → Prop} {Q : Exit → Act → World → Prop}
    (hr : (execOp a.eval o).run P w = .ok (.enter f vs) w) (hm : callK P f vs (hp w) K X)
    (hK : ∀ v w', Kin w w' → K v (hp w') → next (a.put o.dst v) w') (hX : ∀ c w', Kin w w' → X c (hp w') → Q (.panic c) a w') : wpZ P o a w next Q := by
  unfold wpZ
  rw [hr]
  refine ⟨fun h => (by cases h), callsIn_wide.2 ((hm w rfl).mono ?_)⟩
  rintro e' w' ⟨hk, hR⟩
  cases e' with
  | returned v => exact hK v w' hk hR
  | panicked c => exact hX c w' hk hR
  | outgrown => exact hR.elim

theorem l_sound (ha : agree e a) (hw : hp w = h) (o : Oper) {K : Value → H → Prop} {X : List PanicEntry → H → Prop} {next : Act → World → Prop} {Q : Exit → Act → World → Prop} (hm : lM P (lowOp P o) e h K X)
    (hK : ∀ v w', Kin w w' → K v (hp w') → next (a.put o.dst v) w') (hX : ∀ c w', Kin w w' → X c (hp w') → Q (.panic c) a w') : wpZ P o a w next Q := by
  subst hw
  by_cases hq : isQ (lowOp P o) = true
  · obtain ⟨v, h1, h2⟩ := lM_q hq hm
    exact wp_value (q_sound ha rfl o hq h1) (hK v w (Kin.refl w) h2)
  · have raw : lM P (.raw (bare o)) e (hp w) K X → wpZ P o a w next Q := fun hm => (low_raw ha hm).wp hK
    obtain ⟨dst, op, type, pos, after, guard⟩ := o
    cases op with
    | alloc E =>
      simp only [lowOp] at hm
      split at hm
      · rename_i i hi
        split at hm
        · rename_i z hz
          refine Vals.wp ?_ hK
          refine ⟨.pointer (some ⟨w.heap.size, 0, none⟩), w.alloc (.cells z.cells E), .inl ?_, kin_alloc _ _, ?_⟩
          · simp [execOp, Instr.alloc, run_zero hi hz, newVar, newRow]
          · rw [hp_alloc]; exact hm _ (hp_new w)
        · exact raw hm
      · exact raw hm
    | box E x =>
      simp only [lowOp, lM] at hm
      split at hm
      · rename_i v hv
        refine Vals.wp ?_ hK
        refine ⟨.pointer (some ⟨w.heap.size, 0, none⟩), w.alloc (.cells v.cells E), .inl ?_, kin_alloc _ _, ?_⟩
        · simp [execOp, Instr.box, ev_sound ha hv, newVar, newRow]
        · rw [hp_alloc]; exact hm _ (hp_new w)
      · exact hm.elim
    | buildSlice t n ps =>
      simp only [lowOp] at hm
      split at hm
      · rename_i E hu
        split at hm
        · rename_i i l hi hp'
          split at hm
          · rename_i z hz
            split at hm
            · rename_i hsz
              obtain ⟨hs1, hs2⟩ := hsz
              simp only [lM] at hm
              split at hm
              · rename_i c hc
                obtain ⟨vs, h1, h2⟩ := bindo hc
                have hcs : P.cellsOf E = i.size := by simp [Program.cellsOf, hi]
                have hf := fill_sound ha _ ps.toList l vs _ c hp' h1 h2
                rw [hcs] at hf
                refine Vals.wp ?_ hK
                refine ⟨.slice (some ⟨w.heap.size, 0, none⟩) n n, w.alloc (.cells c E), .inl ?_, kin_alloc _ _, ?_⟩
                · have hn : ¬ (16777216 < n * i.size) := by omega
                  unfold Builtin.zeroCells at hf
                  rw [hs2] at hf
                  by_cases h0 : n * i.size = 0
                  · rw [h0] at hf
                    have hr0 : Array.range 0 = #[] := rfl
                    simp only [hr0, Array.map_empty] at hf
                    simp [execOp, Instr.buildSlice, run_underlying hu, run_size hi, h0, hr0, hf, newRow]
                  · simp [execOp, Instr.buildSlice, run_underlying hu, run_size hi, hn, h0, run_zero hi hz, hs2, hf, newRow]
                · rw [hp_alloc]; exact hm _ (hp_new w)
              · exact hm.elim
            · exact raw hm
          · exact raw hm
        · exact raw hm
      · exact raw hm
    | store t x y =>
      simp only [lowOp] at hm
      split at hm
      · rename_i i hi
        split at hm
        · rename_i hsz
          simp only [lM] at hm
          split at hm
          · rename_i p v hx hy
            have hcell : isCell v = true := by
              unfold storeH at hm
              rw [if_neg (by simp)] at hm
              split at hm
              · simpa using hm.2.2.2.1
              · exact hm.elim
            obtain ⟨_, hc⟩ := isCell_one hcell
            obtain ⟨w', h1, h2, h3⟩ := run_storeH P hm
            refine Vals.wp ?_ hK
            refine ⟨_, w', .inr ⟨?_, rfl⟩, h2, h3⟩
            simp [execOp, ev_sound ha hx, ev_sound ha hy, Instr.storeAt, Instr.sureAddr, storeVar, run_size hi, hsz.1, hc, h1]
          · exact hm.elim
        · simp only [lM] at hm
          split at hm
          · rename_i p v hx hy
            obtain ⟨hn, hm⟩ := hm
            obtain ⟨w', h1, h2, h3⟩ := run_storeH P hm
            refine Vals.wp ?_ hK
            refine ⟨_, w', .inr ⟨?_, rfl⟩, h2, h3⟩
            simp [execOp, ev_sound ha hx, ev_sound ha hy, Instr.storeAt, Instr.sureAddr, storeVar, run_size hi, hn, h1]
          · exact hm.elim
      · exact raw hm
    | convert s d x =>
      simp only [lowOp] at hm hq
      split at hm
      · simp_all [isQ]
      · simp_all [isQ]
      · rename_i E hs hd
        split at hm
        · rename_i hE
          simp only [lM] at hm
          split at hm
          · rename_i str hx
            let c := (Question.appendCap str.size 0 E).cut (w.tape w.drawn (Question.appendCap str.size 0 E))
            have hc' : str.size ≤ c := Nat.le_add_right _ _
            have hK' := hm c hc' w.heap.size (hp_new w)
            have hsz : (strCells str c).size = c := by
              simp only [strCells, Array.size_append, Array.size_map, Array.size_replicate]
              have : str.data.size = str.size := rfl
              omega
            have hrun : (Conv.stringToBytes E str).run P w = .ok (.slice (some ⟨w.heap.size, 0, none⟩) str.size c) ((w.drew.alloc (.cells (strCells str c) E)).freeze ⟨w.heap.size, c, none⟩ 1) := by
              have hsh : (w.drew.alloc (.cells (strCells str c) E)).shape? w.heap.size = some (E, c) := by
                unfold World.shape?
                rw [show (w.drew.alloc (.cells (strCells str c) E)).heap[w.heap.size]? = some (.cells (strCells str c) E) from heap_alloc_new w.drew _]
                simp only [hsz]
              simp only [strCells] at hsh ⊢
              simp [Conv.stringToBytes, Question.forced, newRow, markStringish]
              rw [show (Question.appendCap str.size 0 E).cut (w.tape w.drawn (Question.appendCap str.size 0 E)) = c from rfl]
              simp only [hsh]
              rfl
            refine Vals.wp ?_ hK
            refine ⟨.slice (some ⟨w.heap.size, 0, none⟩) str.size c, (w.drew.alloc (.cells (strCells str c) E)).freeze ⟨w.heap.size, c, none⟩ 1, .inl ?_, ?_, ?_⟩
            · simp [execOp, ev_sound ha hx, convert, run_underlying hs, run_underlying hd, run_underlying hE, hrun]
            · unfold World.freeze
              exact ⟨rfl, rfl, rfl, by simp [World.alloc], fun x o hx ho => by
                have h1 := (kin_alloc w.drew (.cells (strCells str c) E)).ctl x o hx ho
                show ((w.drew.alloc (.cells (strCells str c) E)).heap.modify w.heap.size _)[x]? = some o
                rw [Array.getElem?_modify, h1]
                split
                · have hne := (Array.getElem?_eq_some_iff.1 hx).1
                  subst_vars
                  exact absurd hne (Nat.lt_irrefl _)
                · rfl⟩
            · have : hp ((w.drew.alloc (.cells (strCells str c) E)).freeze ⟨w.heap.size, c, none⟩ 1) = hupd (hp w) w.heap.size (.cells (strCells str c) E (c, c + 1)) := by
                funext x
                show hid ((w.drew.alloc (.cells (strCells str c) E)).freeze ⟨w.heap.size, c, none⟩ 1).heap[x]? = _
                simp only [World.freeze, Nat.one_ne_zero, if_false]
                rw [Array.getElem?_modify]
                unfold hupd
                by_cases hxx : w.heap.size = x
                · subst hxx
                  have h0 := alloc_at w.drew (.cells (strCells str c) E)
                  rw [if_pos rfl, if_pos rfl, show (w.drew.alloc (.cells (strCells str c) E)).heap[w.heap.size]? = some (.cells (strCells str c) E) from h0]
                  rfl
                · rw [if_neg hxx, if_neg (fun h => hxx h.symm)]
                  have h0 := alloc_old w.drew (.cells (strCells str c) E) (x := x) (fun h => hxx h.symm)
                  rw [h0]; rfl
              rw [this]; exact hK'
          · exact hm.elim
        · exact raw hm
      · rename_i E hs hd
        split at hm
        · rename_i hE
          simp only [lM] at hm
          split at hm
          · rename_i hx
            refine Vals.wp ?_ hK
            refine ⟨.string .empty, w, .inl ?_, Kin.refl w, hm⟩
            simp [execOp, ev_sound ha hx, convert, run_underlying hs, run_underlying hd, run_underlying hE, Conv.bytesToString]
          · rename_i p n _ hx
            split at hm
            · rename_i cs hcs
              refine Vals.wp ?_ hK
              refine ⟨.string (ofCells cs), w, .inl ?_, Kin.refl w, hm.2⟩
              simp [execOp, ev_sound ha hx, convert, run_underlying hs, run_underlying hd, run_underlying hE, Conv.bytesToString, run_lds rfl hcs]
              rw [← Array.forIn_toList, bytes_run P w (fun _ _ => rfl) _ _ hm.1]
              rfl
            · exact hm.elim
          · exact hm.elim
        · exact raw hm
      · exact raw hm
    | makeSlice t l c =>
      simp only [lowOp] at hm
      split at hm
      · rename_i E hu
        split at hm
        · rename_i i hi
          split at hm
          · rename_i z hz
            split at hm
            · rename_i hzs
              simp only [lM] at hm
              split at hm
              · rename_i kl n kc m hl hc
                obtain ⟨⟨h1, h2, h3, h4⟩, hm⟩ := hm
                refine Vals.wp ?_ hK
                have hr := run_make (P := P) w t E i z hu hi hz kl kc n m h1 h2 h4 h3
                refine ⟨.slice (some ⟨w.heap.size, 0, none⟩) n.toNat m.toNat, w.alloc (.cells (madeCells z.cells (m.toNat * i.size)) E), .inl ?_, kin_alloc _ _, ?_⟩
                · simp only [execOp, ev_sound ha hl, ev_sound ha hc, Sem.run_bind, hr, Result.andThen_ok, Sem.run_pure]
                · rw [hp_alloc]
                  have := hm _ (hp_new w)
                  unfold Builtin.zeroCells at this
                  rw [hzs] at this
                  unfold madeCells
                  rw [hzs]
                  exact this
              · exact hm.elim
            · exact raw hm
          · exact raw hm
        · exact raw hm
      · exact raw hm
    | panic x =>
      simp only [lowOp, lM] at hm
      split at hm
      · rename_i t v hx
        unfold wpZ
        simp [execOp, ev_sound ha hx, Instr.panic, Oper.uponIn]
        exact hX _ w (Kin.refl w) hm
      · exact hm.elim
    | call c =>
      obtain ⟨cal, args, ts⟩ := c
      obtain ⟨args⟩ := args
      cases cal with
      | invoke r m => exact raw hm
      | value f =>
        cases f with
        | const v => exact raw hm
        | global g => exact raw hm
        | func f =>
          simp only [lowOp, lowFunc] at hm
          split at hm
          · rename_i hf
            simp only [lM] at hm
            split at hm
            · rename_i vs hvs
              have hav := evs_sound ha hvs
              refine call_sound (f := f) (vs := vs.toArray) ?_ hm hK hX
              simp [execOp, resolve, Act.eval, Deferred.ofValue, invoke, callFunc_run hf, ← hav]
            · exact hm.elim
          · simp only [lM] at hm
            split at hm
            · rename_i vs hvs
              have hav := evs_sound ha hvs
              obtain ⟨v, w', h1, h2, h3⟩ := hm w rfl
              rw [← hav] at h1
              exact wp_value (by simpa [execOp, resolve, Act.eval, Deferred.ofValue, invoke] using h1) (hK v w' h2 h3)
            · exact hm.elim
        | tmp t =>
          simp only [lowOp, lM] at hm
          split at hm
          · rename_i f first cap vs hx hvs
            obtain ⟨hf, hm⟩ := hm
            have hav := evs_sound ha hvs
            refine call_sound (f := f) (vs := first ++ vs.toArray ++ cap) ?_ hm hK hX
            simp [execOp, resolve, ev_sound ha hx, Deferred.ofValue, invoke, callFunc_run hf, ← hav]
          · rename_i l vs hx hvs
            have hav := evs_sound ha hvs
            obtain ⟨fn, tm, as, bo, h1, h2⟩ := hm w rfl
            rw [← hav] at h1
            have hr : (execOp a.eval ⟨dst, .call ⟨.value (.tmp t), ⟨args⟩, ts⟩, type, pos, after, guard⟩).run P w = .ok (.round l fn tm as bo) w := by
              simp [execOp, resolve, ev_sound ha hx, Deferred.ofValue, invoke]
              simpa using h1
            unfold wpZ
            rw [hr]
            refine ⟨fun h => (by cases h), h2.mono ?_⟩
            rintro e' w' ⟨hk, hR⟩
            cases e' with
            | returned v => exact hK v w' hk hR
            | panicked c => exact hX c w' hk hR
            | outgrown => exact hR.elim
          · exact hm.elim
      | builtin b =>
        obtain ⟨ts⟩ := ts
        simp only [lowOp, lowBuiltin] at hm hq
        split at hm
        · split at hm <;> first | exact raw hm | (simp_all [isQ]; done) | (split at hm <;> first | exact raw hm | (simp_all [isQ]; done))
        · split at hm <;> first | exact raw hm | (simp_all [isQ]; done)
        · rename_i s x t u
          split at hm
          · exact raw hm
          · rename_i E d hd hu hu'
            split at hm
            · rename_i i hi
              split at hm
              · rename_i z hz
                simp only [lM] at hm
                split at hm
                · rename_i vs vx hs hx
                  obtain ⟨v, w', h1, h2, h3⟩ := app_sound hu hu' (fun k hk => hd k (by first | exact hk | (subst hk; exact hu'))) hi hz type hm
                  refine Vals.wp ?_ hK
                  refine ⟨v, w', .inl ?_, h2, h3⟩
                  simp [execOp, resolve, invoke, builtin, ev_sound ha hs, ev_sound ha hx, h1]
                · exact hm.elim
              · exact raw hm
            · exact raw hm
          · exact raw hm
        · rename_i d s t u
          split at hm
          · rename_i E hu
            split at hm
            · rename_i i hi
              simp only [lM] at hm
              split at hm
              · rename_i base dl dc vs hd hs
                split at hm
                · rename_i n hn
                  obtain ⟨v, w', h1, h2, h3⟩ := cpy_sound (u := u) hu hi (dl := dl) (dc := dc) type hn hm
                  refine Vals.wp ?_ hK
                  refine ⟨v, w', .inl ?_, h2, h3⟩
                  simp [execOp, resolve, invoke, builtin, ev_sound ha hd, ev_sound ha hs, h1]
                · exact hm.elim
              · exact hm.elim
            · exact raw hm
          · exact raw hm
        · simp_all [isQ]
        · simp_all [isQ]
        · exact raw hm
    | _ =>
      revert hm hq
      simp only [lowOp]
      repeat' split
      all_goals first
        | (intro hm hq; exact raw hm)
        | (intro hm hq; exact absurd rfl hq)
end Go.Proofs.YtooimdgoibdhlaaDoor
