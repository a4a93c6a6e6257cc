/-
  Operations that write or make memory, and calls.
-/
import Derived.Test.YtojhnclkhiffkaaK4
namespace Go.Proofs.Ytojhnclkhiffkaa
set_option linter.unusedVariables false
variable {P : Program} {e : Env} {h : H} {a : Act} {w : World}

theorem hupd_same (h : H) (b : Nat) (o : Obj) : hupd h b o b = some o := by simp [hupd]
theorem hupd_ne (h : H) {b x : Nat} (o : Obj) (hne : x ≠ b) : hupd h b o x = h x := by simp [hupd, hne]
theorem hupd_hupd (h : H) (b : Nat) (o o' : Obj) : hupd (hupd h b o) b o' = hupd h b o' := by
  funext x; unfold hupd; split <;> rfl
theorem hupd_self {h : H} {b : Nat} {o : Obj} (hb : h b = some o) : hupd h b o = h := by
  funext x; unfold hupd; split
  · rename_i hx; rw [hx, hb]
  · rfl
theorem alloc_at (w : World) (o : Obj) : (w.alloc o).heap[w.heap.size]? = some o := by
  show (w.heap.push o)[w.heap.size]? = _
  simp
theorem alloc_old (w : World) (o : Obj) {x : Nat} (hx : x ≠ w.heap.size) : (w.alloc o).heap[x]? = w.heap[x]? := by
  show (w.heap.push o)[x]? = _
  rw [Array.getElem?_push, if_neg hx]
theorem hol_new {h : H} {w : World} (hh : Hol h w) : h w.heap.size = none := by
  cases hb : h w.heap.size with
  | none => rfl
  | some o =>
    obtain ⟨y, hy⟩ := HolO_some (hh _ _ hb)
    have := (Array.getElem?_eq_some_iff.1 hy).1
    omega
theorem HolO_cells {c : Array Value} {fr : Nat × Nat} (hn : ¬ isRo c fr) (E : TypeId) : HolO (.cells c E fr) (some (.cells c E fr)) := by
  simp only [HolO, oneOf_cells, noteOf_cells, if_neg hn]
theorem HolO_new (c : Array Value) (E : TypeId) : HolO (.cells c E) (some (.cells c E)) := HolO_cells (not_isRo0 c) E
theorem chO_cells {c c' : Array Value} {E : TypeId} {fr : Nat × Nat} (hn : ¬ isRo c fr) (hs : c'.size = c.size) : chO (.cells c E fr) (.cells c' E fr) := by
  simp only [chO, oneOf_cells, if_neg hn]
  exact ⟨c', rfl, hs⟩
/-- The world behind an own step that turns one block and draws as it likes. -/
structure Wst (w w' : World) (b : Nat) (o : Obj) : Prop where
  os : w'.os = w.os
  tape : w'.tape = w.tape
  output : w'.output = w.output
  size : w'.heap.size = w.heap.size
  at_ : w'.heap[b]? = some o
  ne : ∀ x, x ≠ b → w'.heap[x]? = w.heap[x]?
theorem Wst.hol {h : H} {w w' : World} {b : Nat} {o o' : Obj} (hh : Hol h w) (t : Wst w w' b o) (ho : HolO o' (some o)) : Hol (hupd h b o') w' := by
  intro x y hx
  unfold hupd at hx
  split at hx
  · rename_i hxb
    simp only [Option.some.injEq] at hx
    subst hx
    rw [hxb, t.at_]; exact ho
  · rename_i hxb
    rw [t.ne x hxb]
    exact hh x y hx
/-- An own block is turned. -/
theorem Fra.set {h : H} {w w' : World} {b : Nat} {o o0 o' : Obj} {es : Array Event} (hh : Hol h w) (hb : h b = some o0) (t : Wst w w' b o) (ho : HolO o' (some o)) (hc : chO o0 o') (hk : kpO (some o0) w.heap[b]? (some o)) (he : ∀ e ∈ es, EvO (hupd h b o') e) : Fra h w (hupd h b o') w' es := by
  refine ⟨t.hol hh ho, t.os, t.tape, t.output, by rw [t.size]; exact Nat.le_refl _, fun x y hx _ => ?_, fun x _ => ?_, he, fun x y hx hl => ?_, fun x y hx hn => ?_⟩
  · unfold hupd at hx
    split at hx
    · rename_i hxb
      simp only [Option.some.injEq] at hx
      subst hx
      exact ⟨o0, by rw [hxb, hb], hc⟩
    · exact ⟨y, hx, chO.refl y⟩
  · by_cases hxb : x = b
    · subst hxb
      rw [hb, t.at_]; exact hk
    · rw [t.ne x hxb]
      exact (Fra.refl hh).keep x (by assumption)
  · have : x < w.heap.size := by
      by_cases hxb : x = b
      · subst hxb; exact hh.lt hb
      · rw [hupd_ne _ _ hxb] at hx; exact hh.lt hx
    omega
  · by_cases hxb : x = b
    · subst hxb
      rw [hb] at hx
      simp only [Option.some.injEq] at hx
      subst hx
      rw [hupd_same]
      cases hno : noteOf o0 with
      | none => exact absurd hno hn
      | some z =>
        obtain ⟨E, n, s, a, L⟩ := z
        have e0 := noteOf_spec hno
        rw [e0] at hc ⊢
        simp only [chO, oneOf_noteO] at hc
        have hc' : o' = noteO E n s a L := hc
        rw [hc']
    · rw [hupd_ne _ _ hxb]; exact hx
/-- A block is made. -/
theorem Fra.new {h : H} {w w' : World} {o : Obj} {es : Array Event} (hh : Hol h w) (h1 : w'.heap = w.heap.push o) (h2 : w'.os = w.os) (h3 : w'.tape = w.tape) (h4 : w'.output = w.output) (ho : HolO o (some o)) (he : ∀ e ∈ es, EvO (hupd h w.heap.size o) e) (hpl : plainO o := by exact ⟨rfl, rfl⟩) : Fra h w (hupd h w.heap.size o) w' es := by
  have old : ∀ x, x ≠ w.heap.size → w'.heap[x]? = w.heap[x]? := fun x hx => by rw [h1, Array.getElem?_push, if_neg hx]
  refine ⟨fun x y hx => ?_, h2, h3, h4, by rw [h1]; simp, fun x y hx hl => ?_, fun x hl => ?_, he, fun x y hx hl => ?_, fun x y hx hn => ?_⟩
  · unfold hupd at hx
    split at hx
    · rename_i hxb
      simp only [Option.some.injEq] at hx
      subst hx
      rw [hxb, h1]
      simpa using ho
    · rename_i hxb
      rw [old x hxb]
      exact hh x y hx
  · rw [hupd_ne _ _ (by omega)] at hx
    exact ⟨y, hx, chO.refl y⟩
  · rw [old x (by omega)]
    exact (Fra.refl hh).keep x hl
  · unfold hupd at hx
    split at hx
    · simp only [Option.some.injEq] at hx
      subst hx; exact hpl
    · have := hh.lt hx; omega
  · rw [hupd_ne _ _ (by have := hh.lt hx; omega)]; exact hx

theorem EvO_cells {h : H} {b : Nat} {c : Array Value} {E : TypeId} {fr : Nat × Nat} (hb : h b = some (.cells c E fr)) {e : Event} {ad : Addr} (he : e.loc = .cell ad) (ha : ad.block = b) (hn : ¬ isRo c fr) : EvO h e := by
  simp only [EvO, he]
  exact .inl ⟨c, E, fr, by rw [ha]; exact hb, fun _ => hn⟩

theorem isCell_one {v : Value} (h : isCell v = true) : v.oneCell' = true ∧ v.cells = #[v] := by
  cases v <;> simp_all [isCell, Value.oneCell', Value.cells]

theorem run_storeCells (P : Program) {p : Addr} (hs : p.spot = none) {E : TypeId} {fr : Nat × Nat} : ∀ (vs : List Value) (i : Nat) (c : Array Value) (w : World) (es : Array Event), w.heap[p.block]? = some (.cells c E fr) → (fr.2 ≤ p.off + i ∨ p.off + i + vs.length ≤ fr.1) → p.off + i + vs.length ≤ c.size → vs.all isCell = true →
    ∃ w', (storeCells p vs i).run P w = .ok () w' ∧ Wst w w' p.block (.cells (splice c (p.off + i) vs) E fr) ∧ ∀ e ∈ (storeCells p vs i).events P w es, e ∈ es ∨ ∃ j, i ≤ j ∧ j < i + vs.length ∧ e.loc = .cell (p.add j)
  | [], i, c, w, es, hb, hf, hl, hc => ⟨w, rfl, ⟨rfl, rfl, rfl, rfl, by rw [splice, hb], fun _ _ => rfl⟩, fun e he => .inl (by simpa [storeCells] using he)⟩
  | v :: r, i, c, w, es, hb, hf, hl, hc => by
    simp only [List.all_cons, Bool.and_eq_true] at hc
    obtain ⟨h1, h2⟩ := isCell_one hc.1
    have hlt : p.off + i < c.size := by simp at hl; omega
    have hcell : w.cell? (p.add i) = some c[p.off + i] := by
      unfold World.cell?
      rw [add_block, hb]
      simp [add_spot hs, add_off, hlt]
    have hfro : w.frozen? (p.add i) = false := by
      unfold World.frozen?
      rw [add_block, hb]
      simp only [List.length_cons] at hf
      simp [add_off]
      omega
    have hst : (store (p.add i) v).run P w = .ok () (w.setCell (p.add i) v) := by
      rw [run_store P w _ v _ h1, hcell]
      simp [hfro]
    have hev : (store (p.add i) v).events P w es = es.push ⟨.cell (p.add i), true, false⟩ := by
      rw [events_store P w es _ v _ h1, hcell]
      simp [hfro]
      rfl
    have hset : Wst w (w.setCell (p.add i) v) p.block (.cells (c.setIfInBounds (p.off + i) v) E fr) := by
      refine ⟨rfl, rfl, rfl, by simp [World.setCell], ?_, fun x hx => ?_⟩
      · unfold World.setCell
        rw [Array.getElem?_modify, add_block, if_pos rfl, hb]
        simp [add_spot hs, add_off]
      · unfold World.setCell
        rw [Array.getElem?_modify, add_block, if_neg (fun h => hx h.symm)]
    obtain ⟨w', hr, hk, hee⟩ := run_storeCells P hs r (i + 1) (c.setIfInBounds (p.off + i) v) (w.setCell (p.add i) v) (es.push ⟨.cell (p.add i), true, false⟩) hset.at_ (by simp only [List.length_cons] at hf; omega) (by simp at hl ⊢; omega) hc.2
    refine ⟨w', ?_, ⟨hk.os.trans hset.os, hk.tape.trans hset.tape, hk.output.trans hset.output, hk.size.trans hset.size, hk.at_, fun x hx => (hk.ne x hx).trans (hset.ne x hx)⟩, fun e he => ?_⟩
    · simp only [storeCells, Sem.run_bind, hst, Result.andThen_ok, hr]
    · simp only [storeCells, Sem.events_bind, hst, Result.evThen_ok, hev] at he
      rcases hee e he with h | ⟨j, h3, h4, h5⟩
      · rcases Array.mem_push.1 h with h | rfl
        · exact .inl h
        · exact .inr ⟨i, Nat.le_refl _, by simp, rfl⟩
      · exact .inr ⟨j, by omega, by simp; omega, h5⟩
/-- What a store does. -/
theorem run_storeH (P : Program) {h : H} {w : World} (hh : Hol h w) {p : Addr} {vs : List Value} {K : H → Prop} (hs : storeH h p vs K) :
    ∃ w' h', (storeCells p vs).run P w = .ok () w' ∧ (∀ es, (∀ e ∈ es, ∀ h1, (∀ b o, h b = some o → ∃ o', h1 b = some o' ∧ chO o o') → EvO h1 e) → Fra h w h' w' ((storeCells p vs).events P w es)) ∧ K h' := by
  have same : ∀ b o, h b = some o → ∃ o', h b = some o' ∧ chO o o' := fun b o hb => ⟨o, hb, chO.refl o⟩
  unfold storeH at hs
  split at hs
  · rename_i h0; subst h0
    exact ⟨w, h, rfl, fun es he => Fra.still hh rfl rfl rfl rfl (fun e hm => he e hm h same), hs⟩
  rename_i hne
  have hpos : 0 < vs.length := List.length_pos_iff.2 hne
  have upd : ∀ {b0 : Nat} {o0 o1 : Obj}, h b0 = some o0 → chO o0 o1 → ∀ b o, h b = some o → ∃ o', hupd h b0 o1 b = some o' ∧ chO o o' := by
    intro b0 o0 o1 hb0 hc b o hb
    by_cases hbb : b = b0
    · subst hbb
      rw [hb0] at hb; simp only [Option.some.injEq] at hb; subst hb
      exact ⟨o1, hupd_same _ _ _, hc⟩
    · exact ⟨o, by rw [hupd_ne _ _ hbb]; exact hb, chO.refl o⟩
  split at hs
  · rename_i c E fr hb
    obtain ⟨hf, hsp, hl, hc, hK⟩ := hs
    have hn : ¬ isRo c fr := by
      unfold isRo roF roO
      rintro (rfl | rfl) <;> simp only at hf <;> omega
    have hw := hh _ _ hb
    simp only [HolO, oneOf_cells, noteOf_cells, if_neg hn] at hw
    obtain ⟨w', h1, h2, _⟩ := run_storeCells P hsp vs 0 c w #[] hw (by omega) (by omega) hc
    refine ⟨w', _, h1, fun es he => ?_, hK⟩
    obtain ⟨w2, h1', _, h3⟩ := run_storeCells P hsp vs 0 c w es hw (by omega) (by omega) hc
    rw [h1] at h1'
    cases h1'
    have hsz : (splice c p.off vs).size = c.size := size_splice _ _ _
    have hn' : ¬ isRo (splice c p.off vs) fr := by unfold isRo roF roO; rw [hsz]; exact hn
    have hch := chO_cells (E := E) hn hsz
    refine Fra.set hh hb (o := .cells (splice c p.off vs) E fr) (by simpa using h2) (HolO_cells hn' _) hch (by simp only [kpO, oneOf_cells]; exact fun h => absurd h hn) (fun e hm => ?_)
    rcases h3 e hm with hm | ⟨j, _, _, hj⟩
    · exact he e hm _ (upd hb hch)
    · exact EvO_cells (hupd_same _ _ _) hj (add_block p j) hn'
  · rename_i o _ hb
    split at hs
    · rename_i i v n E ho
      obtain ⟨hoff, hsp, hin, hlen, hc, hK⟩ := hs
      have hw := hh _ _ hb
      simp only [HolO, ho] at hw
      obtain ⟨c, hw, hcs, hcv⟩ := hw
      obtain ⟨u, rfl⟩ : ∃ u, vs = [u] := List.length_eq_one_iff.1 hlen
      obtain ⟨w', h1, h2, _⟩ := run_storeCells P hsp [u] 0 c w #[] hw (by simp) (by simp; omega) hc
      refine ⟨w', _, h1, fun es he => ?_, hK⟩
      obtain ⟨w2, h1', _, h3⟩ := run_storeCells P hsp [u] 0 c w es hw (by simp) (by simp; omega) hc
      rw [h1] at h1'
      cases h1'
      have hspl : splice c (p.off + 0) [u] = c.setIfInBounds i u := by simp [splice, hoff]
      rw [hspl] at h2
      have hch : chO o (oneO i u n E) := by unfold chO; rw [ho]; exact ⟨u, rfl⟩
      refine Fra.set hh hb (o := .cells (c.setIfInBounds i u) E (0, 0)) h2 ?_ hch ?_ (fun e hm => ?_)
      · simp only [HolO, List.headD_cons, oneOf_oneO]
        exact ⟨_, rfl, by simp [hcs], by simp [hcs, hin]⟩
      · simp only [kpO, ho]
        exact ⟨c, E, (0, 0), u, hw, rfl⟩
      · rcases h3 e hm with hm | ⟨j, _, hj2, hj⟩
        · exact he e hm _ (upd hb hch)
        · have : j = 0 := by simp at hj2; omega
          subst this
          rw [add_zero] at hj
          simp only [EvO, hj]
          exact .inr ⟨hsp, _, u, n, E, hupd_same _ _ _, by rw [List.headD_cons, oneOf_oneO, hoff]⟩
    · exact hs.elim
  · exact hs.elim

theorem zeroCells_eq {z : Array Value} {n : Nat} (hz : 0 < z.size) : Builtin.zeroCells z n = (Array.range (n * z.size)).map fun i => z[i % z.size]! := rfl
theorem srcLen_run (P : Program) (w : World) {x : Value} {n : Nat} (h : srcLen x = some n) : (Builtin.lenOf x).run P w = .ok n w := by
  cases x <;> simp [srcLen] at h <;> simp [Builtin.lenOf, h]
theorem srcCells_run (P : Program) {h : H} {w : World} (hh : Hol h w) {size n : Nat} {x : Value} {cs : Array Value} (hs : srcCells h size n x = some cs) : (Builtin.firstCells size n x).run P w = .ok cs w ∧ ∀ es, ∀ e ∈ (Builtin.firstCells size n x).events P w es, e ∈ es ∨ EvO h e := by
  unfold srcCells at hs
  split at hs
  · exact ⟨by simp [Builtin.firstCells, run_lds hh hs], fun es e he => ev_lds' (P := P) hh hs es e (by simpa [Builtin.firstCells] using he)⟩
  · simp only [Option.some.injEq] at hs; subst hs; exact ⟨by simp [Builtin.firstCells], fun es e he => .inl (by simpa [Builtin.firstCells] using he)⟩
  · simp only [Option.some.injEq] at hs; subst hs; exact ⟨by simp [Builtin.firstCells], fun es e he => .inl (by simpa [Builtin.firstCells] using he)⟩
  · cases hs
theorem srcLen_ev (P : Program) (w : World) (es : Array Event) {x : Value} {n : Nat} (h : srcLen x = some n) : (Builtin.lenOf x).events P w es = es := by
  cases x <;> simp [srcLen] at h <;> simp [Builtin.lenOf]
/-- What was within what is held is so behind a turn. -/
theorem EvO_ch {h h' : H} (hc : ∀ b o, h b = some o → ∃ o', h' b = some o' ∧ chO o o') {e : Event} (he : EvO h e) : EvO h' e := by
  unfold EvO at he ⊢
  split at he
  · rcases he with ⟨c, E, fr, hb, hw⟩ | ⟨hs, o, v, n, E, hb, ho⟩
    · obtain ⟨o', hb', hch⟩ := hc _ _ hb
      simp only [chO, oneOf_cells] at hch
      split at hch
      · subst hch; exact .inl ⟨c, E, fr, hb', hw⟩
      · rename_i hn
        obtain ⟨c', rfl, hs⟩ := hch
        exact .inl ⟨c', E, fr, hb', fun _ => by unfold isRo roF roO at hn ⊢; rw [hs]; exact hn⟩
    · obtain ⟨o', hb', hch⟩ := hc _ _ hb
      unfold chO at hch
      rw [ho] at hch
      obtain ⟨u, rfl⟩ := hch
      exact .inr ⟨hs, _, u, n, E, hb', oneOf_oneO _ _ _ _⟩
  · obtain ⟨o, hb, ho⟩ := he
    obtain ⟨o', hb', hch⟩ := hc _ _ hb
    cases o <;> try exact ho.elim
    · simp only [chO, oneOf] at hch; obtain ⟨_, _, rfl⟩ := hch; exact ⟨_, hb', trivial⟩
    · simp only [chO, oneOf] at hch; obtain ⟨_, _, rfl⟩ := hch; exact ⟨_, hb', trivial⟩
  · exact he
  · exact he
theorem ev_room {P : Program} {h : H} (b : Nat) (w : World) (es : Array Event) : ∀ e ∈ (askRoom b).events P w es, e ∈ es ∨ EvO h e := by
  intro e he
  rcases Go.Conc.events_askRoom b w es e he with h1 | ⟨m, rfl, h2⟩
  · exact .inl h1
  · exact .inr (.inl h2)

theorem app_sound {t u E : TypeId} {i : TypeInfo} {z : Value} {d : TypeDesc} (hu : P.underlying t = some (.slice E)) (hu' : P.underlying u = some d) (hd : ∀ k, d ≠ .int k) (hi : P.info? E = some i) (hz : i.zero = some z)
    {s x : Value} {K : Value → H → Prop} (ty : TypeId) (hh : Hol h w) (hm : appM E i.size i.bytes z.cells s x h K) :
    ∃ v w' h', (Builtin.append_ #[t, u] ty #[s, x]).run P w = .ok v w' ∧ Fra h w h' w' ((Builtin.append_ #[t, u] ty #[s, x]).events P w #[]) ∧ K v h' := by
  unfold appM at hm
  split at hm
  · rename_i base len cap n hn
    have hr' := run_underlying hu' w
    have hln := fun es => srcLen_ev P w es hn
    split at hm
    · rename_i hle
      split at hm
      · rename_i new p hc
        obtain ⟨hc1, hc2⟩ := srcCells_run P hh hc
        obtain ⟨w', h', h1, h2, h3⟩ := run_storeH P hh hm
        refine ⟨_, w', h', ?_, ?_, h3⟩
        · simp [Builtin.append_, run_underlying hu, hr', run_size hi, srcLen_run P w hn, hle, hc1, h1]
        · have hev : (Builtin.append_ #[t, u] ty #[.slice (some p) len cap, x]).events P w #[] = (storeCells (p.add (len * i.size)) new.toList).events P w ((Builtin.firstCells i.size n x).events P w #[]) := by
            simp [Builtin.append_, run_underlying hu, hr', run_size hi, srcLen_run P w hn, hle, hc1, h1, hln]
          rw [hev]
          exact h2 _ fun e he h1 hch => EvO_ch hch ((hc2 #[] e he).resolve_left (by simp))
      · rename_i new hc
        obtain ⟨hc1, hc2⟩ := srcCells_run P hh hc
        refine ⟨_, w, h, ?_, Fra.still hh rfl rfl rfl rfl fun e he => ?_, hm⟩
        · simp [Builtin.append_, run_underlying hu, hr', run_size hi, srcLen_run P w hn, hle, hc1]
        · have hev : (Builtin.append_ #[t, u] ty #[.slice none len cap, x]).events P w #[] = (Builtin.firstCells i.size n x).events P w #[] := by
            simp [Builtin.append_, run_underlying hu, hr', run_size hi, srcLen_run P w hn, hle, hc1, hln]
          rw [hev] at he
          exact (hc2 #[] e he).resolve_left (by simp)
      · exact hm.elim
    · rename_i hle
      obtain ⟨⟨h63, h48⟩, hm⟩ := hm
      split at hm
      · rename_i old new ho hc
        have hq : (Question.appendCap (len + n) cap E).forced = false := rfl
        let c := (Question.appendCap (len + n) cap E).cut (w.tape w.drawn (Question.appendCap (len + n) cap E))
        have hc' : len + n ≤ c := Nat.le_add_right _ _
        have hK := hm c hc' w.heap.size (hol_new hh)
        have hhd : Hol h w.drew := hh
        have h63' : ¬ (9223372036854775807 < ((len : Int) + (n : Int))) := by omega
        have h48' : ¬ (281474976710656 < Builtin.nextslicecap (len + n) cap * i.bytes) := by omega
        obtain ⟨hfo, hfo2⟩ := srcCells_run P hhd ho
        obtain ⟨hfn, hfn2⟩ := srcCells_run P hhd hc
        refine ⟨_, w.drew.alloc (.cells (old ++ new ++ Builtin.zeroCells z.cells (c - (len + n))) E), _, ?_, Fra.new hh rfl rfl rfl rfl (HolO_new _ _) fun e he => ?_, hK⟩
        · simp [Builtin.append_, run_underlying hu, hr', run_size hi, run_info hi, run_zero hi hz, srcLen_run P w hn, hle, h63', h48', Question.forced, hfo, hfn, newRow, c]
        · have hev : (Builtin.append_ #[t, u] ty #[.slice base len cap, x]).events P w #[] = (Builtin.firstCells i.size n x).events P w.drew ((Builtin.firstCells i.size len (.slice base len cap)).events P w.drew ((askRoom (c * i.bytes)).events P w.drew #[])) := by
            simp [Builtin.append_, run_underlying hu, hr', run_size hi, run_info hi, run_zero hi hz, srcLen_run P w hn, hle, h63', h48', Question.forced, hfo, hfn, newRow, c, hln]
          rw [hev] at he
          have up : ∀ {e}, EvO h e → EvO (hupd h w.heap.size (.cells (old ++ new ++ Builtin.zeroCells z.cells (c - (len + n))) E)) e := fun {e} he => EvO_ch (fun b o hb => ⟨o, (by rw [hupd_ne _ _ (fun hx => by subst hx; rw [hol_new hh] at hb; cases hb)]; exact hb), chO.refl o⟩) he
          rcases hfn2 _ e he with h1 | h1
          · rcases hfo2 _ e h1 with h1 | h1
            · exact up ((ev_room (h := h) _ _ _ e h1).resolve_left (by simp))
            · exact up h1
          · exact up h1
      · exact hm.elim
  · exact hm.elim

theorem cpy_sound {t E : TypeId} {u : List TypeId} {i : TypeInfo} (hu : P.underlying t = some (.slice E)) (hi : P.info? E = some i) {base : Option Addr} {dl dc : Nat} {s : Value} {n : Nat} {K : Value → H → Prop} (ty : TypeId)
    (hh : Hol h w) (hn : srcLen s = some n) (hm : match srcCells h i.size (min n dl) s, base with
        | some new, some a => storeH h a new.toList fun h' => K (.int .i64 (min n dl : Nat)) h'
        | some _, none => K (.int .i64 (min n dl : Nat)) h
        | none, _ => False) :
    ∃ v w' h', (Builtin.copy_ (t :: u).toArray ty #[.slice base dl dc, s]).run P w = .ok v w' ∧ Fra h w h' w' ((Builtin.copy_ (t :: u).toArray ty #[.slice base dl dc, s]).events P w #[]) ∧ K v h' := by
  have hln := fun es => srcLen_ev P w es hn
  split at hm
  · rename_i new p hc
    obtain ⟨hc1, hc2⟩ := srcCells_run P hh hc
    obtain ⟨w', h', h1, h2, h3⟩ := run_storeH P hh hm
    refine ⟨_, w', h', ?_, ?_, h3⟩
    · simp [Builtin.copy_, run_underlying hu, run_size hi, srcLen_run P w hn, hc1, h1, goInt]
    · have hev : (Builtin.copy_ (t :: u).toArray ty #[.slice (some p) dl dc, s]).events P w #[] = (storeCells p new.toList).events P w ((Builtin.firstCells i.size (min n dl) s).events P w #[]) := by
        simp [Builtin.copy_, run_underlying hu, run_size hi, srcLen_run P w hn, hc1, h1, hln]
      rw [hev]
      exact h2 _ fun e he h1 hch => EvO_ch hch ((hc2 #[] e he).resolve_left (by simp))
  · rename_i new hc
    obtain ⟨hc1, hc2⟩ := srcCells_run P hh hc
    refine ⟨_, w, h, ?_, Fra.still hh rfl rfl rfl rfl fun e he => ?_, hm⟩
    · simp [Builtin.copy_, run_underlying hu, run_size hi, srcLen_run P w hn, hc1, goInt]
    · have hev : (Builtin.copy_ (t :: u).toArray ty #[.slice none dl dc, s]).events P w #[] = (Builtin.firstCells i.size (min n dl) s).events P w #[] := by
        simp [Builtin.copy_, run_underlying hu, run_size hi, srcLen_run P w hn, hc1, hln]
      rw [hev] at he
      exact (hc2 #[] e he).resolve_left (by simp)
  · exact hm.elim

theorem lM_q {Pg : Program} {P : Cx Pg} {l : L} {K : Value → H → Prop} {X : List PanicEntry → H → Prop} (hq : isQ l = true) (hm : lM P l e h K X) : ∃ v, qV l e h = some v ∧ K v h := by
  have : lM P l e h K X = opt (qV l e h) h K := by cases l <;> first | rfl | (simp [isQ] at hq)
  rw [this] at hm
  unfold opt at hm
  split at hm
  · exact ⟨_, by assumption, hm⟩
  · exact hm.elim

theorem bytes_run (P : Program) (w : World) {F : Value → ByteArray → Sem (ForInStep ByteArray)} (hF : ∀ n s, F (.int .u8 n) s = pure (ForInStep.yield (s.push (UInt8.ofNat n.toNat)))) : ∀ (cs : List Value) (s : ByteArray), cs.all isByte = true →
    (forIn cs s F).run P w = .ok (cs.foldl pushByte s) w
  | [], s, _ => by simp
  | c :: r, s, h => by
    simp only [List.all_cons, Bool.and_eq_true] at h
    have ih := bytes_run P w hF r
    cases c with
    | int k n => cases k <;> first | (simp [isByte] at h; done) | simp [pushByte, hF, ih _ h.2]
    | _ => simp [isByte] at h
/-- What an operation does, by what it yields in whatever world. -/
theorem does_of {Pg : Program} {P : Cx Pg} {s : Sem Next} {K : Value → H → Prop} (H0 : ∀ w, Hol h w → ∃ v w' h', (s.run P.prog w = .ok (.value v) w' ∨ (s.run P.prog w = .ok .skip w' ∧ v = undef)) ∧ Fra h w h' w' (s.events P.prog w #[]) ∧ K v h') : Does P s h K := by
  intro b a k cs ops i rest o ho hw hk hs hV
  refine P.ord _ _ rfl fun w hh => ?_
  obtain ⟨v, w', h', hr, hf, hv⟩ := H0 w hh
  have e1 : (execOp a.eval o).run P.prog w = s.run P.prog w := by
    have := congrArg Prod.fst (hs w)
    rwa [Sem.runT_fst, Sem.runT_fst] at this
  have e2 : (execOp a.eval o).events P.prog w #[] = s.events P.prog w #[] := congrArg Prod.snd (hs w)
  have hf' : Fra h w h' w' (Go.Conc.listed P.prog b.fn a o w) := hf.sub fun e he => by rw [← e2]; exact Go.Conc.mem_listed he
  rcases hr with hr | ⟨hr, rfl⟩
  · rw [Go.Conc.stepG_value ho hw hk (e1.trans hr), Go.Conc.goes_go]
    exact ⟨h', hf', hV v h' hv⟩
  · rw [Go.Conc.stepG_none ho hw hk (e1.trans hr), Go.Conc.goes_go]
    exact ⟨h', hf', hV _ h' hv⟩
theorem low_raw {Pg : Program} {P : Cx Pg} {o : Oper} (ha : agree e a) {K : Value → H → Prop} {X : List PanicEntry → H → Prop} (hm : lM P (.raw (bare o)) e h K X) : Does P (execOp a.eval o) h K := hm a ha

theorem callFunc_run {f : FuncId} (hf : callable P f = true) (args : Array Value) (w : World) : (callFunc f args).run P w = .ok (.enter f args) w := by
  unfold callable at hf
  split at hf
  · rename_i fn h1
    simp only [Bool.and_eq_true, Bool.not_eq_true'] at hf
    simp only [callFunc, Sem.run_bind, run_program, Result.andThen_ok, h1, hf.1, hf.2, Bool.false_eq_true, if_false]
    rfl
  · cases hf
theorem ev_make {P : Program} {h : H} {w : World} (t e : TypeId) (i : TypeInfo) (z : Value) (ht : P.underlying t = some (.slice e)) (hi : P.info? e = some i) (hz : i.zero = some z)
    (kl kc : IntKind) (l c : Int) (h0 : 0 ≤ l) (hlc : l ≤ c) (hbytes : (i.bytes : Int) * c ≤ 281474976710656) (h63 : c ≤ 9223372036854775807) :
    ∀ e ∈ (Instr.makeSlice t (.int kl l) (.int kc c)).events P w #[], EvO h e := by
  intro ev he
  have wl : IntKind.i64.wrap l = l := by rw [IntKind.wrap_i64]; omega
  have wc : IntKind.i64.wrap c = c := by rw [IntKind.wrap_i64]; omega
  have n1 : ¬ c < 0 := by omega
  have n2 : ¬ (281474976710656 < (i.bytes : Int) * c) := by omega
  have n3 : ¬ l < 0 := by omega
  have n4 : ¬ c < l := by omega
  have key : (Instr.makeSlice t (.int kl l) (.int kc c)).events P w #[] = (askRoom (c.toNat * i.bytes)).events P w #[] := by
    by_cases hn : c.toNat * i.size = 0
    · simp [Instr.makeSlice, run_underlying ht, asInt, asIntOf, typeInfo, hi, sizeOf, wl, wc, n1, n2, n3, n4, hn, newRow]
    · simp [Instr.makeSlice, run_underlying ht, asInt, asIntOf, typeInfo, hi, sizeOf, zeroValue, hz, wl, wc, n1, n2, n3, n4, newRow]
  rw [key] at he
  exact (ev_room _ _ _ ev he).resolve_left (by simp)
theorem nov {h : H} {es : Array Event} (he : es = #[]) : ∀ e ∈ es, EvO h e := fun e hm => by rw [he] at hm; simp at hm
theorem l_does {Pg : Program} {P : Cx Pg} (ha : agree e a) (o : Oper) {K : Value → H → Prop} {X : List PanicEntry → H → Prop} (hm : lM P (lowOp P.prog o) e h K X) : Does P (execOp a.eval o) h K := by
  by_cases hq : isQ (lowOp P.prog o) = true
  · obtain ⟨v, h1, h2⟩ := lM_q hq hm
    refine does_of fun w hh => ?_
    obtain ⟨h3, h4⟩ := q_sound ha hh o hq h1
    exact ⟨v, w, h, .inl h3, Fra.still hh rfl rfl rfl rfl h4, h2⟩
  · have raw : lM P (.raw (bare o)) e h K X → Does P (execOp a.eval o) h K := fun hm => low_raw ha hm
    obtain ⟨dst, op, type, pos, after, guard⟩ := o
    cases op with
    | alloc E =>
      simp only [lowOp] at hm
      split at hm
      · rename_i i hi
        split at hm
        · rename_i z hz
          refine does_of fun w hh => ?_
          refine ⟨.pointer (some ⟨w.heap.size, 0, none⟩), w.alloc (.cells z.cells E), _, .inl ?_, Fra.new hh rfl rfl rfl rfl (HolO_new _ _) (nov ?_), hm _ (hol_new hh)⟩
          · simp [execOp, Instr.alloc, run_zero hi hz, newVar, newRow]
          · simp [execOp, Instr.alloc, run_zero hi hz, newVar, newRow]
        · exact raw hm
      · exact raw hm
    | box E x =>
      simp only [lowOp, lM] at hm
      split at hm
      · rename_i v hv
        refine does_of fun w hh => ?_
        refine ⟨.pointer (some ⟨w.heap.size, 0, none⟩), w.alloc (.cells v.cells E), _, .inl ?_, Fra.new hh rfl rfl rfl rfl (HolO_new _ _) (nov ?_), hm _ (hol_new hh)⟩
        · simp [execOp, Instr.box, ev_sound ha hv, newVar, newRow]
        · simp [execOp, Instr.box, ev_sound ha hv, newVar, newRow]
      · exact hm.elim
    | buildSlice t n ps =>
      simp only [lowOp] at hm
      split at hm
      · rename_i E hu
        split at hm
        · rename_i i l hi hp'
          split at hm
          · rename_i z hz
            split at hm
            · rename_i hsz
              obtain ⟨hs1, hs2⟩ := hsz
              simp only [lM] at hm
              split at hm
              · rename_i c hc
                obtain ⟨vs, h1, h2⟩ := bindo hc
                have hcs : P.prog.cellsOf E = i.size := by simp [Program.cellsOf, hi]
                have hf := fill_sound ha _ ps.toList l vs _ c hp' h1 h2
                rw [hcs] at hf
                refine does_of fun w hh => ?_
                refine ⟨.slice (some ⟨w.heap.size, 0, none⟩) n n, w.alloc (.cells c E), _, .inl ?_, Fra.new hh rfl rfl rfl rfl (HolO_new _ _) (nov ?_), hm _ (hol_new hh)⟩
                · have hn : ¬ (16777216 < n * i.size) := by omega
                  unfold Builtin.zeroCells at hf
                  rw [hs2] at hf
                  by_cases h0 : n * i.size = 0
                  · rw [h0] at hf
                    have hr0 : Array.range 0 = #[] := rfl
                    simp only [hr0, Array.map_empty] at hf
                    simp [execOp, Instr.buildSlice, run_underlying hu, run_size hi, h0, hr0, hf, newRow]
                  · simp [execOp, Instr.buildSlice, run_underlying hu, run_size hi, hn, h0, run_zero hi hz, hs2, hf, newRow]
                · have hn : ¬ (16777216 < n * i.size) := by omega
                  unfold Builtin.zeroCells at hf
                  rw [hs2] at hf
                  by_cases h0 : n * i.size = 0
                  · rw [h0] at hf
                    have hr0 : Array.range 0 = #[] := rfl
                    simp only [hr0, Array.map_empty] at hf
                    simp [execOp, Instr.buildSlice, run_underlying hu, run_size hi, h0, hr0, hf, newRow]
                  · simp [execOp, Instr.buildSlice, run_underlying hu, run_size hi, hn, h0, run_zero hi hz, hs2, hf, newRow]
              · exact hm.elim
            · exact raw hm
          · exact raw hm
        · exact raw hm
      · exact raw hm
    | store t x y =>
      simp only [lowOp] at hm
      split at hm
      · rename_i i hi
        split at hm
        · rename_i hsz
          simp only [lM] at hm
          split at hm
          · rename_i p v hx hy
            have hcell : isCell v = true := by
              unfold storeH at hm
              rw [if_neg (by simp)] at hm
              split at hm
              · simpa using hm.2.2.2.1
              · split at hm
                · simpa using hm.2.2.2.2.1
                · exact hm.elim
              · exact hm.elim
            obtain ⟨_, hc⟩ := isCell_one hcell
            refine does_of fun w hh => ?_
            obtain ⟨w', h', h1, h2, h3⟩ := run_storeH P.prog hh hm
            refine ⟨_, w', h', .inr ⟨?_, rfl⟩, ?_, h3⟩
            · simp [execOp, ev_sound ha hx, ev_sound ha hy, Instr.storeAt, Instr.sureAddr, storeVar, run_size hi, hsz.1, hc, h1]
            · refine (h2 #[] (by simp)).sub fun e he => ?_
              simpa [execOp, ev_sound ha hx, ev_sound ha hy, Instr.storeAt, Instr.sureAddr, storeVar, run_size hi, hsz.1, hc, h1] using he
          · exact hm.elim
        · simp only [lM] at hm
          split at hm
          · rename_i p v hx hy
            obtain ⟨hn, hm⟩ := hm
            refine does_of fun w hh => ?_
            obtain ⟨w', h', h1, h2, h3⟩ := run_storeH P.prog hh hm
            refine ⟨_, w', h', .inr ⟨?_, rfl⟩, ?_, h3⟩
            · simp [execOp, ev_sound ha hx, ev_sound ha hy, Instr.storeAt, Instr.sureAddr, storeVar, run_size hi, hn, h1]
            · refine (h2 #[] (by simp)).sub fun e he => ?_
              simpa [execOp, ev_sound ha hx, ev_sound ha hy, Instr.storeAt, Instr.sureAddr, storeVar, run_size hi, hn, h1] using he
          · exact hm.elim
      · exact raw hm
    | convert s d x =>
      simp only [lowOp] at hm hq
      split at hm
      · simp_all [isQ]
      · simp_all [isQ]
      · split at hm
        · exact hm.elim
        · exact raw hm
      · split at hm
        · exact hm.elim
        · exact raw hm
      · exact raw hm
    | makeSlice t l c =>
      simp only [lowOp] at hm
      split at hm
      · rename_i E hu
        split at hm
        · rename_i i hi
          split at hm
          · rename_i z hz
            split at hm
            · rename_i hzs
              simp only [lM] at hm
              split at hm
              · rename_i kl n kc m hl hc
                obtain ⟨⟨h1, h2, h3, h4⟩, hm⟩ := hm
                refine does_of fun w hh => ?_
                have hr := run_make (P := P.prog) w t E i z hu hi hz kl kc n m h1 h2 h4 h3
                have hev := ev_make (P := P.prog) (h := hupd h w.heap.size (.cells (Builtin.zeroCells z.cells m.toNat) E)) (w := w) t E i z hu hi hz kl kc n m h1 h2 h4 h3
                have hz2 : madeCells z.cells (m.toNat * i.size) = Builtin.zeroCells z.cells m.toNat := by unfold madeCells Builtin.zeroCells; rw [hzs]
                rw [hz2] at hr
                refine ⟨.slice (some ⟨w.heap.size, 0, none⟩) n.toNat m.toNat, w.alloc (.cells (Builtin.zeroCells z.cells m.toNat) E), _, .inl ?_, Fra.new hh rfl rfl rfl rfl (HolO_new _ _) (fun e he => hev e ?_), hm _ (hol_new hh)⟩
                · simp only [execOp, ev_sound ha hl, ev_sound ha hc, Sem.run_bind, hr, Result.andThen_ok, Sem.run_pure]
                · simpa [execOp, ev_sound ha hl, ev_sound ha hc, hr] using he
              · exact hm.elim
            · exact raw hm
          · exact raw hm
        · exact raw hm
      · exact raw hm
    | panic x => simp only [lowOp, lM] at hm
    | call c =>
      obtain ⟨cal, args, ts⟩ := c
      obtain ⟨args⟩ := args
      cases cal with
      | invoke r m => exact raw hm
      | value f =>
        cases f with
        | const v => exact raw hm
        | global g => exact raw hm
        | func f =>
          have hE : execOp a.eval ⟨dst, .call ⟨.value (.func f), ⟨args⟩, ts⟩, type, pos, after, guard⟩ = callFunc f (args.map a.eval).toArray := by
            simp only [execOp, resolve, Act.eval, Deferred.ofValue, invoke]
            simp
          rw [hE]
          simp only [lowOp, lowFunc] at hm
          split at hm
          · simp only [lM] at hm
            split at hm
            · rename_i vs hvs
              rw [evs_sound ha hvs]; exact hm
            · exact hm.elim
          · simp only [lM] at hm
            split at hm
            · rename_i vs hvs
              rw [evs_sound ha hvs]; exact hm
            · exact hm.elim
        | tmp t =>
          simp only [lowOp, lM] at hm
          split at hm
          · rename_i f first cap vs hx hvs
            obtain ⟨hf, hm⟩ := hm
            have hav := evs_sound ha hvs
            have hE : execOp a.eval ⟨dst, .call ⟨.value (.tmp t), ⟨args⟩, ts⟩, type, pos, after, guard⟩ = callFunc f (first ++ vs.toArray ++ cap) := by
              simp only [execOp, resolve, ev_sound ha hx, Deferred.ofValue, invoke, ← hav]
              simp
            rw [hE]; exact hm
          · exact hm.elim
      | builtin b =>
        obtain ⟨ts⟩ := ts
        simp only [lowOp, lowBuiltin] at hm hq
        split at hm
        · split at hm <;> first | exact raw hm | (simp_all [isQ]; done) | (split at hm <;> first | exact raw hm | (simp_all [isQ]; done))
        · split at hm <;> first | exact raw hm | (simp_all [isQ]; done)
        · rename_i s x t u
          split at hm
          · exact raw hm
          · rename_i E d hd hu hu'
            split at hm
            · rename_i i hi
              split at hm
              · rename_i z hz
                simp only [lM] at hm
                split at hm
                · rename_i vs vx hs hx
                  refine does_of fun w hh => ?_
                  obtain ⟨v, w', h', h1, h2, h3⟩ := app_sound hu hu' (fun k hk => hd k (by first | exact hk | (subst hk; exact hu'))) hi hz type hh hm
                  refine ⟨v, w', h', .inl ?_, h2.sub fun e he => ?_, h3⟩
                  · simp [execOp, resolve, invoke, builtin, ev_sound ha hs, ev_sound ha hx, h1]
                  · simpa [execOp, resolve, invoke, builtin, ev_sound ha hs, ev_sound ha hx, h1] using he
                · exact hm.elim
              · exact raw hm
            · exact raw hm
          · exact raw hm
        · rename_i d s t u
          split at hm
          · rename_i E hu
            split at hm
            · rename_i i hi
              simp only [lM] at hm
              split at hm
              · rename_i base dl dc vs hd hs
                split at hm
                · rename_i n hn
                  refine does_of fun w hh => ?_
                  obtain ⟨v, w', h', h1, h2, h3⟩ := cpy_sound (u := u) hu hi (dl := dl) (dc := dc) type hh hn hm
                  refine ⟨v, w', h', .inl ?_, h2.sub fun e he => ?_, h3⟩
                  · simp [execOp, resolve, invoke, builtin, ev_sound ha hd, ev_sound ha hs, h1]
                  · simpa [execOp, resolve, invoke, builtin, ev_sound ha hd, ev_sound ha hs, h1] using he
                · exact hm.elim
              · exact hm.elim
            · exact raw hm
          · exact raw hm
        · simp_all [isQ]
        · simp_all [isQ]
        · exact raw hm
    | _ =>
      revert hm hq
      simp only [lowOp]
      repeat' split
      all_goals first
        | (intro hm hq; exact raw hm)
        | (intro hm hq; exact absurd rfl hq)
end Go.Proofs.Ytojhnclkhiffkaa
