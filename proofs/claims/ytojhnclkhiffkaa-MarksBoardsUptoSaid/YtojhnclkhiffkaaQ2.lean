/-
  Operations that write or make memory, and calls.
-/
import Derived.Test.YtojhnclkhiffkaaQ1
/-
  Operations that write or make memory, and calls.
-/
namespace Go.Proofs.Ytojhnclkhiffkaa
set_option linter.unusedVariables false
variable {P : Program} {e : Env} {h : H} {a : Act} {w : World}

theorem hupd_same (h : H) (b : Nat) (o : Obj) : hupd h b o b = some o := by simp [hupd]
theorem hupd_ne (h : H) {b x : Nat} (o : Obj) (hne : x ≠ b) : hupd h b o x = h x := by simp [hupd, hne]
theorem hupd_hupd (h : H) (b : Nat) (o o' : Obj) : hupd (hupd h b o) b o' = hupd h b o' := by
  funext x; unfold hupd; split <;> rfl
theorem hol_new {h : H} {w : World} (hh : Hol h w) : h w.heap.size = none := by
  cases hb : h w.heap.size with
  | none => rfl
  | some o =>
    obtain ⟨y, hy⟩ := HolO_some (hh _ _ hb)
    have := (Array.getElem?_eq_some_iff.1 hy).1
    omega
theorem HolO_cells {c : Array Value} {fr : Nat × Nat} (hn : ¬ isRo c fr) (E : TypeId) : HolO (.cells c E fr) (some (.cells c E fr)) := by
  simp only [HolO, oneOf_cells, noteOf_cells, if_neg hn]
theorem HolO_new (c : Array Value) (E : TypeId) : HolO (.cells c E) (some (.cells c E)) := HolO_cells (not_isRo0 c) E
theorem chO_cells {c c' : Array Value} {E : TypeId} {fr : Nat × Nat} (hn : ¬ isRo c fr) (hs : c'.size = c.size) : chO (.cells c E fr) (.cells c' E fr) := by
  simp only [chO, oneOf_cells, if_neg hn]
  exact ⟨c', rfl, hs⟩
/-- The world behind an own step that turns one block and draws as it likes. -/
structure Wst (w w' : World) (b : Nat) (o : Obj) : Prop where
  os : w'.os = w.os
  tape : w'.tape = w.tape
  output : w'.output = w.output
  size : w'.heap.size = w.heap.size
  at_ : w'.heap[b]? = some o
  ne : ∀ x, x ≠ b → w'.heap[x]? = w.heap[x]?
theorem Wst.hol {h : H} {w w' : World} {b : Nat} {o o' : Obj} (hh : Hol h w) (t : Wst w w' b o) (ho : HolO o' (some o)) : Hol (hupd h b o') w' := by
  intro x y hx
  unfold hupd at hx
  split at hx
  · rename_i hxb
    simp only [Option.some.injEq] at hx
    subst hx
    rw [hxb, t.at_]; exact ho
  · rename_i hxb
    rw [t.ne x hxb]
    exact hh x y hx
/-- An own block is turned. -/
theorem Fra.set {h : H} {w w' : World} {b : Nat} {o o0 o' : Obj} {es : Array Event} (hh : Hol h w) (hb : h b = some o0) (t : Wst w w' b o) (ho : HolO o' (some o)) (hc : chO o0 o') (hk : kpO (some o0) w.heap[b]? (some o)) (he : ∀ e ∈ es, EvO (hupd h b o') e) : Fra h w (hupd h b o') w' es := by
  refine ⟨t.hol hh ho, t.os, t.tape, t.output, by rw [t.size]; exact Nat.le_refl _, fun x y hx _ => ?_, fun x _ => ?_, he, fun x y hx hl => ?_, fun x y hx hn => ?_⟩
  · unfold hupd at hx
    split at hx
    · rename_i hxb
      simp only [Option.some.injEq] at hx
      subst hx
      exact ⟨o0, by rw [hxb, hb], hc⟩
    · exact ⟨y, hx, chO.refl y⟩
  · by_cases hxb : x = b
    · subst hxb
      rw [hb, t.at_]; exact hk
    · rw [t.ne x hxb]
      exact (Fra.refl hh).keep x (by assumption)
  · have : x < w.heap.size := by
      by_cases hxb : x = b
      · subst hxb; exact hh.lt hb
      · rw [hupd_ne _ _ hxb] at hx; exact hh.lt hx
    omega
  · by_cases hxb : x = b
    · subst hxb
      rw [hb] at hx
      simp only [Option.some.injEq] at hx
      subst hx
      rw [hupd_same]
      cases hno : noteOf o0 with
      | none => exact absurd hno hn
      | some z =>
        obtain ⟨E, n, s, a, L⟩ := z
        have e0 := noteOf_spec hno
        rw [e0] at hc ⊢
        simp only [chO, oneOf_noteO] at hc
        have hc' : o' = noteO E n s a L := hc
        rw [hc']
    · rw [hupd_ne _ _ hxb]; exact hx
/-- A block is made. -/
theorem Fra.new {h : H} {w w' : World} {o : Obj} {es : Array Event} (hh : Hol h w) (h1 : w'.heap = w.heap.push o) (h2 : w'.os = w.os) (h3 : w'.tape = w.tape) (h4 : w'.output = w.output) (ho : HolO o (some o)) (he : ∀ e ∈ es, EvO (hupd h w.heap.size o) e) (hpl : plainO o := by exact ⟨rfl, rfl⟩) : Fra h w (hupd h w.heap.size o) w' es := by
  have old : ∀ x, x ≠ w.heap.size → w'.heap[x]? = w.heap[x]? := fun x hx => by rw [h1, Array.getElem?_push, if_neg hx]
  refine ⟨fun x y hx => ?_, h2, h3, h4, by rw [h1]; simp, fun x y hx hl => ?_, fun x hl => ?_, he, fun x y hx hl => ?_, fun x y hx hn => ?_⟩
  · unfold hupd at hx
    split at hx
    · rename_i hxb
      simp only [Option.some.injEq] at hx
      subst hx
      rw [hxb, h1]
      simpa using ho
    · rename_i hxb
      rw [old x hxb]
      exact hh x y hx
  · rw [hupd_ne _ _ (by omega)] at hx
    exact ⟨y, hx, chO.refl y⟩
  · rw [old x (by omega)]
    exact (Fra.refl hh).keep x hl
  · unfold hupd at hx
    split at hx
    · simp only [Option.some.injEq] at hx
      subst hx; exact hpl
    · have := hh.lt hx; omega
  · rw [hupd_ne _ _ (by have := hh.lt hx; omega)]; exact hx

theorem EvO_cells {h : H} {b : Nat} {c : Array Value} {E : TypeId} {fr : Nat × Nat} (hb : h b = some (.cells c E fr)) {e : Event} {ad : Addr} (he : e.loc = .cell ad) (ha : ad.block = b) (hn : ¬ isRo c fr) : EvO h e := by
  simp only [EvO, he]
  exact .inl ⟨c, E, fr, by rw [ha]; exact hb, fun _ => hn⟩

theorem isCell_one {v : Value} (h : isCell v = true) : v.oneCell' = true ∧ v.cells = #[v] := by
  cases v <;> simp_all [isCell, Value.oneCell', Value.cells]

theorem run_storeCells (P : Program) {p : Addr} (hs : p.spot = none) {E : TypeId} {fr : Nat × Nat} : ∀ (vs : List Value) (i : Nat) (c : Array Value) (w : World) (es : Array Event), w.heap[p.block]? = some (.cells c E fr) → (fr.2 ≤ p.off + i ∨ p.off + i + vs.length ≤ fr.1) → p.off + i + vs.length ≤ c.size → vs.all isCell = true →
    ∃ w', (storeCells p vs i).run P w = .ok () w' ∧ Wst w w' p.block (.cells (splice c (p.off + i) vs) E fr) ∧ ∀ e ∈ (storeCells p vs i).events P w es, e ∈ es ∨ ∃ j, i ≤ j ∧ j < i + vs.length ∧ e.loc = .cell (p.add j)
  | [], i, c, w, es, hb, hf, hl, hc => ⟨w, rfl, ⟨rfl, rfl, rfl, rfl, by rw [splice, hb], fun _ _ => rfl⟩, fun e he => .inl (by simpa [storeCells] using he)⟩
  | v :: r, i, c, w, es, hb, hf, hl, hc => by
    simp only [List.all_cons, Bool.and_eq_true] at hc
    obtain ⟨h1, h2⟩ := isCell_one hc.1
    have hlt : p.off + i < c.size := by simp at hl; omega
    have hcell : w.cell? (p.add i) = some c[p.off + i] := by
      unfold World.cell?
      rw [add_block, hb]
      simp [add_spot hs, add_off, hlt]
    have hfro : w.frozen? (p.add i) = false := by
      unfold World.frozen?
      rw [add_block, hb]
      simp only [List.length_cons] at hf
      simp [add_off]
      omega
    have hst : (store (p.add i) v).run P w = .ok () (w.setCell (p.add i) v) := by
      rw [run_store P w _ v _ h1, hcell]
      simp [hfro]
    have hev : (store (p.add i) v).events P w es = es.push ⟨.cell (p.add i), true, false⟩ := by
      rw [events_store P w es _ v _ h1, hcell]
      simp [hfro]
      rfl
    have hset : Wst w (w.setCell (p.add i) v) p.block (.cells (c.setIfInBounds (p.off + i) v) E fr) := by
      refine ⟨rfl, rfl, rfl, by simp [World.setCell], ?_, fun x hx => ?_⟩
      · unfold World.setCell
        rw [Array.getElem?_modify, add_block, if_pos rfl, hb]
        simp [add_spot hs, add_off]
      · unfold World.setCell
        rw [Array.getElem?_modify, add_block, if_neg (fun h => hx h.symm)]
    obtain ⟨w', hr, hk, hee⟩ := run_storeCells P hs r (i + 1) (c.setIfInBounds (p.off + i) v) (w.setCell (p.add i) v) (es.push ⟨.cell (p.add i), true, false⟩) hset.at_ (by simp only [List.length_cons] at hf; omega) (by simp at hl ⊢; omega) hc.2
    refine ⟨w', ?_, ⟨hk.os.trans hset.os, hk.tape.trans hset.tape, hk.output.trans hset.output, hk.size.trans hset.size, hk.at_, fun x hx => (hk.ne x hx).trans (hset.ne x hx)⟩, fun e he => ?_⟩
    · simp only [storeCells, Sem.run_bind, hst, Result.andThen_ok, hr]
    · simp only [storeCells, Sem.events_bind, hst, Result.evThen_ok, hev] at he
      rcases hee e he with h | ⟨j, h3, h4, h5⟩
      · rcases Array.mem_push.1 h with h | rfl
        · exact .inl h
        · exact .inr ⟨i, Nat.le_refl _, by simp, rfl⟩
      · exact .inr ⟨j, by omega, by simp; omega, h5⟩
/-- What a store does. -/
theorem run_storeH (P : Program) {h : H} {w : World} (hh : Hol h w) {p : Addr} {vs : List Value} {K : H → Prop} (hs : storeH h p vs K) :
    ∃ w' h', (storeCells p vs).run P w = .ok () w' ∧ (∀ es, (∀ e ∈ es, ∀ h1, (∀ b o, h b = some o → ∃ o', h1 b = some o' ∧ chO o o') → EvO h1 e) → Fra h w h' w' ((storeCells p vs).events P w es)) ∧ K h' := by
  have same : ∀ b o, h b = some o → ∃ o', h b = some o' ∧ chO o o' := fun b o hb => ⟨o, hb, chO.refl o⟩
  unfold storeH at hs
  split at hs
  · rename_i h0; subst h0
    exact ⟨w, h, rfl, fun es he => Fra.still hh rfl rfl rfl rfl (fun e hm => he e hm h same), hs⟩
  rename_i hne
  have hpos : 0 < vs.length := List.length_pos_iff.2 hne
  have upd : ∀ {b0 : Nat} {o0 o1 : Obj}, h b0 = some o0 → chO o0 o1 → ∀ b o, h b = some o → ∃ o', hupd h b0 o1 b = some o' ∧ chO o o' := by
    intro b0 o0 o1 hb0 hc b o hb
    by_cases hbb : b = b0
    · subst hbb
      rw [hb0] at hb; simp only [Option.some.injEq] at hb; subst hb
      exact ⟨o1, hupd_same _ _ _, hc⟩
    · exact ⟨o, by rw [hupd_ne _ _ hbb]; exact hb, chO.refl o⟩
  split at hs
  · rename_i c E fr hb
    obtain ⟨hf, hsp, hl, hc, hK⟩ := hs
    have hn : ¬ isRo c fr := by
      unfold isRo roF roO
      rintro (rfl | rfl) <;> simp only at hf <;> omega
    have hw := hh _ _ hb
    simp only [HolO, oneOf_cells, noteOf_cells, if_neg hn] at hw
    obtain ⟨w', h1, h2, _⟩ := run_storeCells P hsp vs 0 c w #[] hw (by omega) (by omega) hc
    refine ⟨w', _, h1, fun es he => ?_, hK⟩
    obtain ⟨w2, h1', _, h3⟩ := run_storeCells P hsp vs 0 c w es hw (by omega) (by omega) hc
    rw [h1] at h1'
    cases h1'
    have hsz : (splice c p.off vs).size = c.size := size_splice _ _ _
    have hn' : ¬ isRo (splice c p.off vs) fr := by unfold isRo roF roO; rw [hsz]; exact hn
    have hch := chO_cells (E := E) hn hsz
    refine Fra.set hh hb (o := .cells (splice c p.off vs) E fr) (by simpa using h2) (HolO_cells hn' _) hch (by simp only [kpO, oneOf_cells]; exact fun h => absurd h hn) (fun e hm => ?_)
    rcases h3 e hm with hm | ⟨j, _, _, hj⟩
    · exact he e hm _ (upd hb hch)
    · exact EvO_cells (hupd_same _ _ _) hj (add_block p j) hn'
  · rename_i o _ hb
    split at hs
    · rename_i i v n E ho
      obtain ⟨hoff, hsp, hin, hlen, hc, hK⟩ := hs
      have hw := hh _ _ hb
      simp only [HolO, ho] at hw
      obtain ⟨c, hw, hcs, hcv⟩ := hw
      obtain ⟨u, rfl⟩ : ∃ u, vs = [u] := List.length_eq_one_iff.1 hlen
      obtain ⟨w', h1, h2, _⟩ := run_storeCells P hsp [u] 0 c w #[] hw (by simp) (by simp; omega) hc
      refine ⟨w', _, h1, fun es he => ?_, hK⟩
      obtain ⟨w2, h1', _, h3⟩ := run_storeCells P hsp [u] 0 c w es hw (by simp) (by simp; omega) hc
      rw [h1] at h1'
      cases h1'
      have hspl : splice c (p.off + 0) [u] = c.setIfInBounds i u := by simp [splice, hoff]
      rw [hspl] at h2
      have hch : chO o (oneO i u n E) := by unfold chO; rw [ho]; exact ⟨u, rfl⟩
      refine Fra.set hh hb (o := .cells (c.setIfInBounds i u) E (0, 0)) h2 ?_ hch ?_ (fun e hm => ?_)
      · simp only [HolO, List.headD_cons, oneOf_oneO]
        exact ⟨_, rfl, by simp [hcs], by simp [hcs, hin]⟩
      · simp only [kpO, ho]
        exact ⟨c, E, (0, 0), u, hw, rfl⟩
      · rcases h3 e hm with hm | ⟨j, _, hj2, hj⟩
        · exact he e hm _ (upd hb hch)
        · have : j = 0 := by simp at hj2; omega
          subst this
          rw [add_zero] at hj
          simp only [EvO, hj]
          exact .inr ⟨hsp, _, u, n, E, hupd_same _ _ _, by rw [List.headD_cons, oneOf_oneO, hoff]⟩
    · exact hs.elim
  · exact hs.elim

theorem srcLen_run (P : Program) (w : World) {x : Value} {n : Nat} (h : srcLen x = some n) : (Builtin.lenOf x).run P w = .ok n w := by
  cases x <;> simp [srcLen] at h <;> simp [Builtin.lenOf, h]
theorem srcCells_run (P : Program) {h : H} {w : World} (hh : Hol h w) {size n : Nat} {x : Value} {cs : Array Value} (hs : srcCells h size n x = some cs) : (Builtin.firstCells size n x).run P w = .ok cs w ∧ ∀ es, ∀ e ∈ (Builtin.firstCells size n x).events P w es, e ∈ es ∨ EvO h e := by
  unfold srcCells at hs
  split at hs
  · exact ⟨by simp [Builtin.firstCells, run_lds hh hs], fun es e he => ev_lds' (P := P) hh hs es e (by simpa [Builtin.firstCells] using he)⟩
  · simp only [Option.some.injEq] at hs; subst hs; exact ⟨by simp [Builtin.firstCells], fun es e he => .inl (by simpa [Builtin.firstCells] using he)⟩
  · simp only [Option.some.injEq] at hs; subst hs; exact ⟨by simp [Builtin.firstCells], fun es e he => .inl (by simpa [Builtin.firstCells] using he)⟩
  · cases hs
theorem srcLen_ev (P : Program) (w : World) (es : Array Event) {x : Value} {n : Nat} (h : srcLen x = some n) : (Builtin.lenOf x).events P w es = es := by
  cases x <;> simp [srcLen] at h <;> simp [Builtin.lenOf]
/-- What was within what is held is so behind a turn. -/
theorem EvO_ch {h h' : H} (hc : ∀ b o, h b = some o → ∃ o', h' b = some o' ∧ chO o o') {e : Event} (he : EvO h e) : EvO h' e := by
  unfold EvO at he ⊢
  split at he
  · rcases he with ⟨c, E, fr, hb, hw⟩ | ⟨hs, o, v, n, E, hb, ho⟩
    · obtain ⟨o', hb', hch⟩ := hc _ _ hb
      simp only [chO, oneOf_cells] at hch
      split at hch
      · subst hch; exact .inl ⟨c, E, fr, hb', hw⟩
      · rename_i hn
        obtain ⟨c', rfl, hs⟩ := hch
        exact .inl ⟨c', E, fr, hb', fun _ => by unfold isRo roF roO at hn ⊢; rw [hs]; exact hn⟩
    · obtain ⟨o', hb', hch⟩ := hc _ _ hb
      unfold chO at hch
      rw [ho] at hch
      obtain ⟨u, rfl⟩ := hch
      exact .inr ⟨hs, _, u, n, E, hb', oneOf_oneO _ _ _ _⟩
  · obtain ⟨o, hb, ho⟩ := he
    obtain ⟨o', hb', hch⟩ := hc _ _ hb
    cases o <;> try exact ho.elim
    · simp only [chO, oneOf] at hch; obtain ⟨_, _, rfl⟩ := hch; exact ⟨_, hb', trivial⟩
    · simp only [chO, oneOf] at hch; obtain ⟨_, _, rfl⟩ := hch; exact ⟨_, hb', trivial⟩
  · exact he
  · exact he
theorem ev_room {P : Program} {h : H} (b : Nat) (w : World) (es : Array Event) : ∀ e ∈ (askRoom b).events P w es, e ∈ es ∨ EvO h e := by
  intro e he
  rcases Go.Conc.events_askRoom b w es e he with h1 | ⟨m, rfl, h2⟩
  · exact .inl h1
  · exact .inr (.inl h2)

theorem app_sound {t u E : TypeId} {i : TypeInfo} {z : Value} {d : TypeDesc} (hu : P.underlying t = some (.slice E)) (hu' : P.underlying u = some d) (hd : ∀ k, d ≠ .int k) (hi : P.info? E = some i) (hz : i.zero = some z)
    {s x : Value} {K : Value → H → Prop} (ty : TypeId) (hh : Hol h w) (hm : appM E i.size i.bytes z.cells s x h K) :
    ∃ v w' h', (Builtin.append_ #[t, u] ty #[s, x]).run P w = .ok v w' ∧ Fra h w h' w' ((Builtin.append_ #[t, u] ty #[s, x]).events P w #[]) ∧ K v h' := by
  unfold appM at hm
  split at hm
  · rename_i base len cap n hn
    have hr' := run_underlying hu' w
    have hln := fun es => srcLen_ev P w es hn
    split at hm
    · rename_i hle
      split at hm
      · rename_i new p hc
        obtain ⟨hc1, hc2⟩ := srcCells_run P hh hc
        obtain ⟨w', h', h1, h2, h3⟩ := run_storeH P hh hm
        refine ⟨_, w', h', ?_, ?_, h3⟩
        · simp [Builtin.append_, run_underlying hu, hr', run_size hi, srcLen_run P w hn, hle, hc1, h1]
        · have hev : (Builtin.append_ #[t, u] ty #[.slice (some p) len cap, x]).events P w #[] = (storeCells (p.add (len * i.size)) new.toList).events P w ((Builtin.firstCells i.size n x).events P w #[]) := by
            simp [Builtin.append_, run_underlying hu, hr', run_size hi, srcLen_run P w hn, hle, hc1, h1, hln]
          rw [hev]
          exact h2 _ fun e he h1 hch => EvO_ch hch ((hc2 #[] e he).resolve_left (by simp))
      · rename_i new hc
        obtain ⟨hc1, hc2⟩ := srcCells_run P hh hc
        refine ⟨_, w, h, ?_, Fra.still hh rfl rfl rfl rfl fun e he => ?_, hm⟩
        · simp [Builtin.append_, run_underlying hu, hr', run_size hi, srcLen_run P w hn, hle, hc1]
        · have hev : (Builtin.append_ #[t, u] ty #[.slice none len cap, x]).events P w #[] = (Builtin.firstCells i.size n x).events P w #[] := by
            simp [Builtin.append_, run_underlying hu, hr', run_size hi, srcLen_run P w hn, hle, hc1, hln]
          rw [hev] at he
          exact (hc2 #[] e he).resolve_left (by simp)
      · exact hm.elim
    · rename_i hle
      obtain ⟨⟨h63, h48⟩, hm⟩ := hm
      split at hm
      · rename_i old new ho hc
        have hq : (Question.appendCap (len + n) cap E).forced = false := rfl
        let c := (Question.appendCap (len + n) cap E).cut (w.tape w.drawn (Question.appendCap (len + n) cap E))
        have hc' : len + n ≤ c := Nat.le_add_right _ _
        have hK := hm c hc' w.heap.size (hol_new hh)
        have hhd : Hol h w.drew := hh
        have h63' : ¬ (9223372036854775807 < ((len : Int) + (n : Int))) := by omega
        have h48' : ¬ (281474976710656 < Builtin.nextslicecap (len + n) cap * i.bytes) := by omega
        obtain ⟨hfo, hfo2⟩ := srcCells_run P hhd ho
        obtain ⟨hfn, hfn2⟩ := srcCells_run P hhd hc
        refine ⟨_, w.drew.alloc (.cells (old ++ new ++ Builtin.zeroCells z.cells (c - (len + n))) E), _, ?_, Fra.new hh rfl rfl rfl rfl (HolO_new _ _) fun e he => ?_, hK⟩
        · simp [Builtin.append_, run_underlying hu, hr', run_size hi, run_info hi, run_zero hi hz, srcLen_run P w hn, hle, h63', h48', Question.forced, hfo, hfn, newRow, c]
        · have hev : (Builtin.append_ #[t, u] ty #[.slice base len cap, x]).events P w #[] = (Builtin.firstCells i.size n x).events P w.drew ((Builtin.firstCells i.size len (.slice base len cap)).events P w.drew ((askRoom (c * i.bytes)).events P w.drew #[])) := by
            simp [Builtin.append_, run_underlying hu, hr', run_size hi, run_info hi, run_zero hi hz, srcLen_run P w hn, hle, h63', h48', Question.forced, hfo, hfn, newRow, c, hln]
          rw [hev] at he
          have up : ∀ {e}, EvO h e → EvO (hupd h w.heap.size (.cells (old ++ new ++ Builtin.zeroCells z.cells (c - (len + n))) E)) e := fun {e} he => EvO_ch (fun b o hb => ⟨o, (by rw [hupd_ne _ _ (fun hx => by subst hx; rw [hol_new hh] at hb; cases hb)]; exact hb), chO.refl o⟩) he
          rcases hfn2 _ e he with h1 | h1
          · rcases hfo2 _ e h1 with h1 | h1
            · exact up ((ev_room (h := h) _ _ _ e h1).resolve_left (by simp))
            · exact up h1
          · exact up h1
      · exact hm.elim
  · exact hm.elim

theorem cpy_sound {t E : TypeId} {u : List TypeId} {i : TypeInfo} (hu : P.underlying t = some (.slice E)) (hi : P.info? E = some i) {base : Option Addr} {dl dc : Nat} {s : Value} {n : Nat} {K : Value → H → Prop} (ty : TypeId)
    (hh : Hol h w) (hn : srcLen s = some n) (hm : match srcCells h i.size (min n dl) s, base with
        | some new, some a => storeH h a new.toList fun h' => K (.int .i64 (min n dl : Nat)) h'
        | some _, none => K (.int .i64 (min n dl : Nat)) h
        | none, _ => False) :
    ∃ v w' h', (Builtin.copy_ (t :: u).toArray ty #[.slice base dl dc, s]).run P w = .ok v w' ∧ Fra h w h' w' ((Builtin.copy_ (t :: u).toArray ty #[.slice base dl dc, s]).events P w #[]) ∧ K v h' := by
  have hln := fun es => srcLen_ev P w es hn
  split at hm
  · rename_i new p hc
    obtain ⟨hc1, hc2⟩ := srcCells_run P hh hc
    obtain ⟨w', h', h1, h2, h3⟩ := run_storeH P hh hm
    refine ⟨_, w', h', ?_, ?_, h3⟩
    · simp [Builtin.copy_, run_underlying hu, run_size hi, srcLen_run P w hn, hc1, h1, goInt]
    · have hev : (Builtin.copy_ (t :: u).toArray ty #[.slice (some p) dl dc, s]).events P w #[] = (storeCells p new.toList).events P w ((Builtin.firstCells i.size (min n dl) s).events P w #[]) := by
        simp [Builtin.copy_, run_underlying hu, run_size hi, srcLen_run P w hn, hc1, h1, hln]
      rw [hev]
      exact h2 _ fun e he h1 hch => EvO_ch hch ((hc2 #[] e he).resolve_left (by simp))
  · rename_i new hc
    obtain ⟨hc1, hc2⟩ := srcCells_run P hh hc
    refine ⟨_, w, h, ?_, Fra.still hh rfl rfl rfl rfl fun e he => ?_, hm⟩
    · simp [Builtin.copy_, run_underlying hu, run_size hi, srcLen_run P w hn, hc1, goInt]
    · have hev : (Builtin.copy_ (t :: u).toArray ty #[.slice none dl dc, s]).events P w #[] = (Builtin.firstCells i.size (min n dl) s).events P w #[] := by
        simp [Builtin.copy_, run_underlying hu, run_size hi, srcLen_run P w hn, hc1, hln]
      rw [hev] at he
      exact (hc2 #[] e he).resolve_left (by simp)
  · exact hm.elim

theorem lM_q {Pg : Program} {P : Cx Pg} {l : L} {K : Value → H → Prop} {X : List PanicEntry → H → Prop} (hq : isQ l = true) (hm : lM P l e h K X) : ∃ v, qV l e h = some v ∧ K v h := by
  have : lM P l e h K X = opt (qV l e h) h K := by cases l <;> first | rfl | (simp [isQ] at hq)
  rw [this] at hm
  unfold opt at hm
  split at hm
  · exact ⟨_, by assumption, hm⟩
  · exact hm.elim

/-- What an operation does, by what it yields in whatever world. -/
theorem does_of {Pg : Program} {P : Cx Pg} {s : Sem Next} {K : Value → H → Prop} (H0 : ∀ w, Hol h w → ∃ v w' h', (s.run P.prog w = .ok (.value v) w' ∨ (s.run P.prog w = .ok .skip w' ∧ v = undef)) ∧ Fra h w h' w' (s.events P.prog w #[]) ∧ K v h') : Does P s h K := by
  intro b a k cs ops i rest o ho hw hk hs hV
  refine P.ord _ _ rfl fun w hh => ?_
  obtain ⟨v, w', h', hr, hf, hv⟩ := H0 w hh
  have e1 : (execOp a.eval o).run P.prog w = s.run P.prog w := by
    have := congrArg Prod.fst (hs w)
    rwa [Sem.runT_fst, Sem.runT_fst] at this
  have e2 : (execOp a.eval o).events P.prog w #[] = s.events P.prog w #[] := congrArg Prod.snd (hs w)
  have hf' : Fra h w h' w' (Go.Conc.listed P.prog b.fn a o w) := hf.sub fun e he => by rw [← e2]; exact Go.Conc.mem_listed he
  rcases hr with hr | ⟨hr, rfl⟩
  · rw [Go.Conc.stepG_value ho hw hk (e1.trans hr), Go.Conc.goes_go]
    exact ⟨h', hf', hV v h' hv⟩
  · rw [Go.Conc.stepG_none ho hw hk (e1.trans hr), Go.Conc.goes_go]
    exact ⟨h', hf', hV _ h' hv⟩
theorem low_raw {Pg : Program} {P : Cx Pg} {o : Oper} (ha : agree e a) {K : Value → H → Prop} {X : List PanicEntry → H → Prop} (hm : lM P (.raw (bare o)) e h K X) : Does P (execOp a.eval o) h K := hm a ha

theorem ev_make {P : Program} {h : H} {w : World} (t e : TypeId) (i : TypeInfo) (z : Value) (ht : P.underlying t = some (.slice e)) (hi : P.info? e = some i) (hz : i.zero = some z)
    (kl kc : IntKind) (l c : Int) (h0 : 0 ≤ l) (hlc : l ≤ c) (hbytes : (i.bytes : Int) * c ≤ 281474976710656) (h63 : c ≤ 9223372036854775807) :
    ∀ e ∈ (Instr.makeSlice t (.int kl l) (.int kc c)).events P w #[], EvO h e := by
  intro ev he
  have wl : IntKind.i64.wrap l = l := by rw [IntKind.wrap_i64]; omega
  have wc : IntKind.i64.wrap c = c := by rw [IntKind.wrap_i64]; omega
  have n1 : ¬ c < 0 := by omega
  have n2 : ¬ (281474976710656 < (i.bytes : Int) * c) := by omega
  have n3 : ¬ l < 0 := by omega
  have n4 : ¬ c < l := by omega
  have key : (Instr.makeSlice t (.int kl l) (.int kc c)).events P w #[] = (askRoom (c.toNat * i.bytes)).events P w #[] := by
    by_cases hn : c.toNat * i.size = 0
    · simp [Instr.makeSlice, run_underlying ht, asInt, asIntOf, typeInfo, hi, sizeOf, wl, wc, n1, n2, n3, n4, hn, newRow]
    · simp [Instr.makeSlice, run_underlying ht, asInt, asIntOf, typeInfo, hi, sizeOf, zeroValue, hz, wl, wc, n1, n2, n3, n4, newRow]
  rw [key] at he
  exact (ev_room _ _ _ ev he).resolve_left (by simp)
theorem nov {h : H} {es : Array Event} (he : es = #[]) : ∀ e ∈ es, EvO h e := fun e hm => by rw [he] at hm; simp at hm
theorem l_does {Pg : Program} {P : Cx Pg} (ha : agree e a) (o : Oper) {K : Value → H → Prop} {X : List PanicEntry → H → Prop} (hm : lM P (lowOp P.prog o) e h K X) : Does P (execOp a.eval o) h K := by
  by_cases hq : isQ (lowOp P.prog o) = true
  · obtain ⟨v, h1, h2⟩ := lM_q hq hm
    refine does_of fun w hh => ?_
    obtain ⟨h3, h4⟩ := q_sound ha hh o hq h1
    exact ⟨v, w, h, .inl h3, Fra.still hh rfl rfl rfl rfl h4, h2⟩
  · have raw : lM P (.raw (bare o)) e h K X → Does P (execOp a.eval o) h K := fun hm => low_raw ha hm
    obtain ⟨dst, op, type, pos, after, guard⟩ := o
    cases op with
    | alloc E =>
      simp only [lowOp] at hm
      split at hm
      · rename_i i hi
        split at hm
        · rename_i z hz
          refine does_of fun w hh => ?_
          refine ⟨.pointer (some ⟨w.heap.size, 0, none⟩), w.alloc (.cells z.cells E), _, .inl ?_, Fra.new hh rfl rfl rfl rfl (HolO_new _ _) (nov ?_), hm _ (hol_new hh)⟩
          · simp [execOp, Instr.alloc, run_zero hi hz, newVar, newRow]
          · simp [execOp, Instr.alloc, run_zero hi hz, newVar, newRow]
        · exact raw hm
      · exact raw hm
    | box E x =>
      simp only [lowOp, lM] at hm
      split at hm
      · rename_i v hv
        refine does_of fun w hh => ?_
        refine ⟨.pointer (some ⟨w.heap.size, 0, none⟩), w.alloc (.cells v.cells E), _, .inl ?_, Fra.new hh rfl rfl rfl rfl (HolO_new _ _) (nov ?_), hm _ (hol_new hh)⟩
        · simp [execOp, Instr.box, ev_sound ha hv, newVar, newRow]
        · simp [execOp, Instr.box, ev_sound ha hv, newVar, newRow]
      · exact hm.elim
    | buildSlice t n ps =>
      simp only [lowOp] at hm
      split at hm
      · rename_i E hu
        split at hm
        · rename_i i l hi hp'
          split at hm
          · rename_i z hz
            split at hm
            · rename_i hsz
              obtain ⟨hs1, hs2⟩ := hsz
              simp only [lM] at hm
              split at hm
              · rename_i c hc
                obtain ⟨vs, h1, h2⟩ := bindo hc
                have hcs : P.prog.cellsOf E = i.size := by simp [Program.cellsOf, hi]
                have hf := fill_sound ha _ ps.toList l vs _ c hp' h1 h2
                rw [hcs] at hf
                refine does_of fun w hh => ?_
                refine ⟨.slice (some ⟨w.heap.size, 0, none⟩) n n, w.alloc (.cells c E), _, .inl ?_, Fra.new hh rfl rfl rfl rfl (HolO_new _ _) (nov ?_), hm _ (hol_new hh)⟩
                · have hn : ¬ (16777216 < n * i.size) := by omega
                  unfold Builtin.zeroCells at hf
                  rw [hs2] at hf
                  by_cases h0 : n * i.size = 0
                  · rw [h0] at hf
                    have hr0 : Array.range 0 = #[] := rfl
                    simp only [hr0, Array.map_empty] at hf
                    simp [execOp, Instr.buildSlice, run_underlying hu, run_size hi, h0, hr0, hf, newRow]
                  · simp [execOp, Instr.buildSlice, run_underlying hu, run_size hi, hn, h0, run_zero hi hz, hs2, hf, newRow]
                · have hn : ¬ (16777216 < n * i.size) := by omega
                  unfold Builtin.zeroCells at hf
                  rw [hs2] at hf
                  by_cases h0 : n * i.size = 0
                  · rw [h0] at hf
                    have hr0 : Array.range 0 = #[] := rfl
                    simp only [hr0, Array.map_empty] at hf
                    simp [execOp, Instr.buildSlice, run_underlying hu, run_size hi, h0, hr0, hf, newRow]
                  · simp [execOp, Instr.buildSlice, run_underlying hu, run_size hi, hn, h0, run_zero hi hz, hs2, hf, newRow]
              · exact hm.elim
            · exact raw hm
          · exact raw hm
        · exact raw hm
      · exact raw hm
    | store t x y =>
      simp only [lowOp] at hm
      split at hm
      · rename_i i hi
        split at hm
        · rename_i hsz
          simp only [lM] at hm
          split at hm
          · rename_i p v hx hy
            have hcell : isCell v = true := by
              unfold storeH at hm
              rw [if_neg (by simp)] at hm
              split at hm
              · simpa using hm.2.2.2.1
              · split at hm
                · simpa using hm.2.2.2.2.1
                · exact hm.elim
              · exact hm.elim
            obtain ⟨_, hc⟩ := isCell_one hcell
            refine does_of fun w hh => ?_
            obtain ⟨w', h', h1, h2, h3⟩ := run_storeH P.prog hh hm
            refine ⟨_, w', h', .inr ⟨?_, rfl⟩, ?_, h3⟩
            · simp [execOp, ev_sound ha hx, ev_sound ha hy, Instr.storeAt, Instr.sureAddr, storeVar, run_size hi, hsz.1, hc, h1]
            · refine (h2 #[] (by simp)).sub fun e he => ?_
              simpa [execOp, ev_sound ha hx, ev_sound ha hy, Instr.storeAt, Instr.sureAddr, storeVar, run_size hi, hsz.1, hc, h1] using he
          · exact hm.elim
        · simp only [lM] at hm
          split at hm
          · rename_i p v hx hy
            obtain ⟨hn, hm⟩ := hm
            refine does_of fun w hh => ?_
            obtain ⟨w', h', h1, h2, h3⟩ := run_storeH P.prog hh hm
            refine ⟨_, w', h', .inr ⟨?_, rfl⟩, ?_, h3⟩
            · simp [execOp, ev_sound ha hx, ev_sound ha hy, Instr.storeAt, Instr.sureAddr, storeVar, run_size hi, hn, h1]
            · refine (h2 #[] (by simp)).sub fun e he => ?_
              simpa [execOp, ev_sound ha hx, ev_sound ha hy, Instr.storeAt, Instr.sureAddr, storeVar, run_size hi, hn, h1] using he
          · exact hm.elim
      · exact raw hm
    | convert s d x =>
      simp only [lowOp] at hm hq
      split at hm
      · simp_all [isQ]
      · simp_all [isQ]
      · split at hm
        · exact hm.elim
        · exact raw hm
      · split at hm
        · exact hm.elim
        · exact raw hm
      · exact raw hm
    | makeSlice t l c =>
      simp only [lowOp] at hm
      split at hm
      · rename_i E hu
        split at hm
        · rename_i i hi
          split at hm
          · rename_i z hz
            split at hm
            · rename_i hzs
              simp only [lM] at hm
              split at hm
              · rename_i kl n kc m hl hc
                obtain ⟨⟨h1, h2, h3, h4⟩, hm⟩ := hm
                refine does_of fun w hh => ?_
                have hr := run_make (P := P.prog) w t E i z hu hi hz kl kc n m h1 h2 h4 h3
                have hev := ev_make (P := P.prog) (h := hupd h w.heap.size (.cells (Builtin.zeroCells z.cells m.toNat) E)) (w := w) t E i z hu hi hz kl kc n m h1 h2 h4 h3
                have hz2 : madeCells z.cells (m.toNat * i.size) = Builtin.zeroCells z.cells m.toNat := by unfold madeCells Builtin.zeroCells; rw [hzs]
                rw [hz2] at hr
                refine ⟨.slice (some ⟨w.heap.size, 0, none⟩) n.toNat m.toNat, w.alloc (.cells (Builtin.zeroCells z.cells m.toNat) E), _, .inl ?_, Fra.new hh rfl rfl rfl rfl (HolO_new _ _) (fun e he => hev e ?_), hm _ (hol_new hh)⟩
                · simp only [execOp, ev_sound ha hl, ev_sound ha hc, Sem.run_bind, hr, Result.andThen_ok, Sem.run_pure]
                · simpa [execOp, ev_sound ha hl, ev_sound ha hc, hr] using he
              · exact hm.elim
            · exact raw hm
          · exact raw hm
        · exact raw hm
      · exact raw hm
    | panic x => simp only [lowOp, lM] at hm
    | call c =>
      obtain ⟨cal, args, ts⟩ := c
      obtain ⟨args⟩ := args
      cases cal with
      | invoke r m => exact raw hm
      | value f =>
        cases f with
        | const v => exact raw hm
        | global g => exact raw hm
        | func f =>
          have hE : execOp a.eval ⟨dst, .call ⟨.value (.func f), ⟨args⟩, ts⟩, type, pos, after, guard⟩ = callFunc f (args.map a.eval).toArray := by
            simp only [execOp, resolve, Act.eval, Deferred.ofValue, invoke]
            simp
          rw [hE]
          simp only [lowOp, lowFunc] at hm
          split at hm
          · simp only [lM] at hm
            split at hm
            · rename_i vs hvs
              rw [evs_sound ha hvs]; exact hm
            · exact hm.elim
          · simp only [lM] at hm
            split at hm
            · rename_i vs hvs
              rw [evs_sound ha hvs]; exact hm
            · exact hm.elim
        | tmp t =>
          simp only [lowOp, lM] at hm
          split at hm
          · rename_i f first cap vs hx hvs
            obtain ⟨hf, hm⟩ := hm
            have hav := evs_sound ha hvs
            have hE : execOp a.eval ⟨dst, .call ⟨.value (.tmp t), ⟨args⟩, ts⟩, type, pos, after, guard⟩ = callFunc f (first ++ vs.toArray ++ cap) := by
              simp only [execOp, resolve, ev_sound ha hx, Deferred.ofValue, invoke, ← hav]
              simp
            rw [hE]; exact hm
          · exact hm.elim
      | builtin b =>
        obtain ⟨ts⟩ := ts
        simp only [lowOp, lowBuiltin] at hm hq
        split at hm
        · split at hm <;> first | exact raw hm | (simp_all [isQ]; done) | (split at hm <;> first | exact raw hm | (simp_all [isQ]; done))
        · split at hm <;> first | exact raw hm | (simp_all [isQ]; done)
        · rename_i s x t u
          split at hm
          · exact raw hm
          · rename_i E d hd hu hu'
            split at hm
            · rename_i i hi
              split at hm
              · rename_i z hz
                simp only [lM] at hm
                split at hm
                · rename_i vs vx hs hx
                  refine does_of fun w hh => ?_
                  obtain ⟨v, w', h', h1, h2, h3⟩ := app_sound hu hu' (fun k hk => hd k (by first | exact hk | (subst hk; exact hu'))) hi hz type hh hm
                  refine ⟨v, w', h', .inl ?_, h2.sub fun e he => ?_, h3⟩
                  · simp [execOp, resolve, invoke, builtin, ev_sound ha hs, ev_sound ha hx, h1]
                  · simpa [execOp, resolve, invoke, builtin, ev_sound ha hs, ev_sound ha hx, h1] using he
                · exact hm.elim
              · exact raw hm
            · exact raw hm
          · exact raw hm
        · rename_i d s t u
          split at hm
          · rename_i E hu
            split at hm
            · rename_i i hi
              simp only [lM] at hm
              split at hm
              · rename_i base dl dc vs hd hs
                split at hm
                · rename_i n hn
                  refine does_of fun w hh => ?_
                  obtain ⟨v, w', h', h1, h2, h3⟩ := cpy_sound (u := u) hu hi (dl := dl) (dc := dc) type hh hn hm
                  refine ⟨v, w', h', .inl ?_, h2.sub fun e he => ?_, h3⟩
                  · simp [execOp, resolve, invoke, builtin, ev_sound ha hd, ev_sound ha hs, h1]
                  · simpa [execOp, resolve, invoke, builtin, ev_sound ha hd, ev_sound ha hs, h1] using he
                · exact hm.elim
              · exact hm.elim
            · exact raw hm
          · exact raw hm
        · simp_all [isQ]
        · simp_all [isQ]
        · exact raw hm
    | _ =>
      revert hm hq
      simp only [lowOp]
      repeat' split
      all_goals first
        | (intro hm hq; exact raw hm)
        | (intro hm hq; exact absurd rfl hq)
end Go.Proofs.Ytojhnclkhiffkaa

/-
  Regions whose order the tape draws: one walk, in one order of the effects, serves every order.
-/
namespace Go.Proofs.Ytojhnclkhiffkaa
set_option linter.unusedVariables false

inductive HT where
  | done
  | q (i : Nat) (r : HT)
  | e (i : Nat) (Z : List Nat) (r : HT)
  | al (i : Nat) (Z : List Nat) (r t : HT)

section
variable {Pg : Program} {P : Cx Pg} {ops : Array Oper} {Q : Act → H → Prop}

/-- Operation 'o', taken in state a with h held: K of what follows. -/
def wpZ (P : Cx Pg) (o : Oper) (a : Act) (h : H) (K : Act → H → Prop) : Prop := Does P (execOp a.eval o) h fun v h' => K (a.put o.dst v) h'
/-- It reads this, and does nothing else, wherever 'h' is held. -/
def QY (Pg : Program) (o : Oper) (a : Act) (h : H) (v : Value) : Prop := ∀ w, Hol h w → (execOp a.eval o).run Pg w = .ok (.value v) w ∧ ∀ e ∈ (execOp a.eval o).events Pg w #[], EvO h e
theorem QY.does {o : Oper} {a : Act} {h : H} {v : Value} (hq : QY Pg o a h v) {K : Act → H → Prop} (hk : K (a.put o.dst v) h) : wpZ P o a h K :=
  does_of fun w hh => ⟨v, w, h, .inl (hq w hh).1, Fra.still hh rfl rfl rfl rfl (hq w hh).2, hk⟩
abbrev Sts := List (Nat × (H → Prop))
def stabW (Z : List Nat) (S : Sts) (h : H) : Prop := ∀ p ∈ S, p.1 ∈ Z → p.2 h

def wpT (P : Cx Pg) (ops : Array Oper) (Q : Act → H → Prop) : HT → Sts → Act → H → Prop
  | .done, _, a, w => Q a w
  | .q i r, S, a, w => ∃ o, ops[i]? = some o ∧ ((Region.wanted o (yielded ops a.tmps) = true ∧ ∃ v, QY Pg o a w v ∧ wpT P ops Q r ((i, fun w' => QY Pg o a w' v) :: S) (a.put o.dst v) w) ∨
      (Region.wanted o (yielded ops a.tmps) = false ∧ wpT P ops Q r S (a.put o.dst undef) w))
  | .e i Z r, S, a, w => ∃ o, ops[i]? = some o ∧ ((Region.wanted o (yielded ops a.tmps) = true ∧ wpZ P o a w (fun a' w' => stabW Z S w' ∧ wpT P ops Q r S a' w')) ∨
      (Region.wanted o (yielded ops a.tmps) = false ∧ wpT P ops Q r S (a.put o.dst undef) w))
  | .al i Z r t, S, a, w =>
    (∃ o, ops[i]? = some o ∧ ((Region.wanted o (yielded ops a.tmps) = true ∧ wpZ P o a w (fun a' w' => stabW Z S w' ∧ wpT P ops Q r S a' w')) ∨
      (Region.wanted o (yielded ops a.tmps) = false ∧ wpT P ops Q r S (a.put o.dst undef) w))) ∧ wpT P ops Q t S a w

theorem wpZ_mono {o : Oper} {a : Act} {w : H} {K K' : Act → H → Prop} (h : ∀ a w, K a w → K' a w) (hh : wpZ P o a w K) : wpZ P o a w K' := Does.mono hh fun v h' => h _ _
def Sle (S' S : Sts) : Prop := ∀ p' ∈ S', ∃ p ∈ S, p'.1 = p.1 ∧ ∀ w, p.2 w → p'.2 w
theorem Sle.stab {S' S : Sts} (h : Sle S' S) {Z : List Nat} {w : H} (hs : stabW Z S w) : stabW Z S' w := by
  intro p' hp' hz
  obtain ⟨p, hp, h1, h2⟩ := h p' hp'
  exact h2 w (hs p hp (h1 ▸ hz))
theorem Sle.cons {S' S : Sts} (h : Sle S' S) {i : Nat} {f g : H → Prop} (hfg : ∀ w, g w → f w) : Sle ((i, f) :: S') ((i, g) :: S) := by
  intro p' hp'
  rcases List.mem_cons.1 hp' with rfl | hp'
  · exact ⟨_, List.mem_cons_self, rfl, hfg⟩
  · obtain ⟨p, hp, h⟩ := h p' hp'
    exact ⟨p, List.mem_cons_of_mem _ hp, h⟩
theorem Sle.refl (S : Sts) : Sle S S := fun p hp => ⟨p, hp, rfl, fun _ h => h⟩

theorem wpT_mono : ∀ (t : HT) {S' S : Sts} {a : Act} {w : H}, Sle S' S → wpT P ops Q t S a w → wpT P ops Q t S' a w
  | .done, _, _, _, _, _, h => h
  | .q i r, S', S, a, w, hs, h => by
    obtain ⟨o, ho, h⟩ := h
    refine ⟨o, ho, ?_⟩
    rcases h with ⟨hw, v, hv, h⟩ | ⟨hw, h⟩
    · exact .inl ⟨hw, v, hv, wpT_mono r (hs.cons fun _ h => h) h⟩
    · exact .inr ⟨hw, wpT_mono r hs h⟩
  | .e i Z r, S', S, a, w, hs, h => by
    obtain ⟨o, ho, h⟩ := h
    refine ⟨o, ho, ?_⟩
    rcases h with ⟨hw, h⟩ | ⟨hw, h⟩
    · exact .inl ⟨hw, wpZ_mono (fun a' w' h => ⟨hs.stab h.1, wpT_mono r hs h.2⟩) h⟩
    · exact .inr ⟨hw, wpT_mono r hs h⟩
  | .al i Z r t, S', S, a, w, hs, h => by
    obtain ⟨⟨o, ho, h⟩, h'⟩ := h
    refine ⟨⟨o, ho, ?_⟩, wpT_mono t hs h'⟩
    rcases h with ⟨hw, h⟩ | ⟨hw, h⟩
    · exact .inl ⟨hw, wpZ_mono (fun a' w' h => ⟨hs.stab h.1, wpT_mono r hs h.2⟩) h⟩
    · exact .inr ⟨hw, wpT_mono r hs h⟩

def HT.pre : HT → List Nat
  | .q i r => i :: r.pre
  | _ => []
def HT.all : HT → List Nat
  | .done => []
  | .q i r => i :: r.all
  | .e i _ r => i :: r.all
  | .al i _ r _ => i :: r.all
def HT.del (x : Nat) : HT → HT
  | .q i r => if i = x then r else .q i (r.del x)
  | t => t
/-- What stands behind the leading readers, another tree in its place. -/
def HT.root : HT → HT
  | .q _ r => r.root
  | t => t
def HT.att (t : HT) (r : HT) : HT :=
  match t with
  | .q i t' => .q i (t'.att r)
  | _ => r

/-- 'x' and 'y' touch no slot in common. -/
def apartI (ops : Array Oper) (x y : Nat) : Prop := ∀ ox oy, ops[x]? = some ox → ops[y]? = some oy → ox.apart ops oy = true

def apB (ops : Array Oper) (i : Nat) : HT → Prop
  | .q j r => j = i ∨ (apartI ops j i ∧ apB ops i r)
  | _ => True
variable (hsel : ∀ (j : Nat) (o : Oper) cs b, ops[j]? = some o → o.op ≠ .select cs b)
include hsel

theorem first_q {i : Nat} {oi : Oper} (hi : ops[i]? = some oi) : ∀ (t : HT) {S : Sts} {a : Act} {w : H}, i ∈ t.pre → apB ops i t → wpT P ops Q t S a w →
    (Region.wanted oi (yielded ops a.tmps) = true ∧ ∃ v, QY Pg oi a w v ∧ wpT P ops Q (t.del i) ((i, fun w' => QY Pg oi a w' v) :: S) (a.put oi.dst v) w) ∨
    (Region.wanted oi (yielded ops a.tmps) = false ∧ wpT P ops Q (t.del i) S (a.put oi.dst undef) w)
  | .q j r, S, a, w, hm, hap, h => by
    obtain ⟨oj, hj, h⟩ := h
    by_cases hji : j = i
    · subst hji
      have : oj = oi := Option.some.inj (hj.symm.trans hi)
      subst this
      simpa [HT.del] using h
    · have hmr : i ∈ r.pre := by
        rcases List.mem_cons.1 hm with h' | h'
        · exact absurd h'.symm hji
        · exact h'
      obtain ⟨hapj, hap'⟩ := hap.resolve_left hji
      obtain ⟨p1, p2, p3⟩ := Oper.apart_spec (hapj oj oi hj hi)
      have sj := fun cs b => hsel j oj cs b hj
      have si := fun cs b => hsel i oi cs b hi
      have hdel : (HT.q j r).del i = .q j (r.del i) := by simp [HT.del, hji]
      rw [hdel]
      -- facts on the two that touch nothing in common
      have ei : ∀ (a : Act) u, execOp (a.put oj.dst u).eval oi = execOp a.eval oi := fun a u => execOp_put oi si a oj.dst u p1
      have wi : ∀ (a : Act) u, Region.wanted oi (yielded ops (a.put oj.dst u).tmps) = Region.wanted oi (yielded ops a.tmps) := fun a u => wanted_put oi a oj.dst u p1
      have ej : ∀ (a : Act) u, execOp (a.put oi.dst u).eval oj = execOp a.eval oj := fun a u => execOp_put oj sj a oi.dst u p3
      have wj : ∀ (a : Act) u, Region.wanted oj (yielded ops (a.put oi.dst u).tmps) = Region.wanted oj (yielded ops a.tmps) := fun a u => wanted_put oj a oi.dst u p3
      have cm : ∀ (a : Act) u v, (a.put oj.dst u).put oi.dst v = (a.put oi.dst v).put oj.dst u := fun a u v => Act.put_comm a u v p2
      rcases h with ⟨hw, vj, hvj, h⟩ | ⟨hw, h⟩
      · rcases first_q hi r hmr hap' h with ⟨hw', v, hv, h'⟩ | ⟨hw', h'⟩
        · refine .inl ⟨by rw [← wi a vj]; exact hw', v, by unfold QY at *; rw [← ei a vj]; exact hv, oj, hj, .inl ⟨by rw [wj]; exact hw, vj, by unfold QY at *; rw [ej]; exact hvj, ?_⟩⟩
          rw [← cm]
          refine wpT_mono _ ?_ h'
          intro p hp
          rcases List.mem_cons.1 hp with rfl | hp
          · exact ⟨_, List.mem_cons_of_mem _ List.mem_cons_self, rfl, fun w' hq => by unfold QY at *; rw [ej]; exact hq⟩
          · rcases List.mem_cons.1 hp with rfl | hp
            · exact ⟨_, List.mem_cons_self, rfl, fun w' hq => by unfold QY at *; rw [← ei a vj]; exact hq⟩
            · exact ⟨p, List.mem_cons_of_mem _ (List.mem_cons_of_mem _ hp), rfl, fun _ h => h⟩
        · refine .inr ⟨by rw [← wi a vj]; exact hw', oj, hj, .inl ⟨by rw [wj]; exact hw, vj, by unfold QY at *; rw [ej]; exact hvj, ?_⟩⟩
          rw [← cm]
          refine wpT_mono _ (Sle.cons (Sle.refl S) fun w' hq => ?_) h'
          unfold QY at *; rw [ej]; exact hq
      · rcases first_q hi r hmr hap' h with ⟨hw', v, hv, h'⟩ | ⟨hw', h'⟩
        · refine .inl ⟨by rw [← wi a undef]; exact hw', v, by unfold QY at *; rw [← ei a undef]; exact hv, oj, hj, .inr ⟨by rw [wj]; exact hw, ?_⟩⟩
          rw [← cm]
          refine wpT_mono _ (Sle.cons (Sle.refl S) fun w' hq => ?_) h'
          unfold QY at *; rw [← ei a undef]; exact hq
        · refine .inr ⟨by rw [← wi a undef]; exact hw', oj, hj, .inr ⟨by rw [wj]; exact hw, ?_⟩⟩
          rw [← cm]
          exact h'
  | .done, _, _, _, hm, _, _ => by cases hm
  | .e .., _, _, _, hm, _, _ => by cases hm
  | .al .., _, _, _, hm, _, _ => by cases hm

omit hsel in
/-- An operation, carried out ahead of a slot's being written that it does not look at. -/
theorem wp_put {oj : Oper} (sj : ∀ cs b, oj.op ≠ .select cs b) {d : Option Tmp} {v : Value} (h1 : ∀ t, d = some t → t ∉ oj.looksAt ops) (h2 : ∀ t, d = some t → oj.dst ≠ some t)
    {K : Act → H → Prop} {a : Act} {w : H} (h : wpZ P oj (a.put d v) w K) :
    wpZ P oj a w (fun a' w' => (∃ u, a' = a.put oj.dst u) ∧ K (a'.put d v) w') := by
  unfold wpZ at *
  rw [execOp_put oj sj a d v h1] at h
  refine Does.mono h fun u h' hk => ⟨⟨u, rfl⟩, ?_⟩
  rw [← Act.put_comm a v u h2]; exact hk

/-- Is 'i' one of the effects at the root, with 'r' behind it? -/
def Hd (i : Nat) (Z : List Nat) (r : HT) : HT → Prop
  | .e j Zj rj => i = j ∧ Z = Zj ∧ r = rj
  | .al j Zj rj t => (i = j ∧ Z = Zj ∧ r = rj) ∨ Hd i Z r t
  | _ => False
/-- Is 'i' the next effect, behind the leading readers, with 'r' behind it? -/
def Nxt (i : Nat) (Z : List Nat) (r : HT) (t : HT) : Prop := Hd i Z r t.root

def preE (ops : Array Oper) (i : Nat) (Z : List Nat) : HT → Prop
  | .q j r => apartI ops j i ∧ j ∈ Z ∧ preE ops i Z r
  | _ => True

omit hsel in
theorem alt_e {i : Nat} {Z : List Nat} {r0 : HT} {oi : Oper} (hi : ops[i]? = some oi) : ∀ (t : HT) {S : Sts} {a : Act} {w : H}, Hd i Z r0 t → wpT P ops Q t S a w →
    (Region.wanted oi (yielded ops a.tmps) = true ∧ wpZ P oi a w (fun a' w' => stabW Z S w' ∧ wpT P ops Q r0 S a' w')) ∨
    (Region.wanted oi (yielded ops a.tmps) = false ∧ wpT P ops Q r0 S (a.put oi.dst undef) w)
  | .e k Zk rk, S, a, w, hn, h => by
    obtain ⟨rfl, rfl, rfl⟩ := hn
    obtain ⟨o, ho, h⟩ := h
    have : o = oi := Option.some.inj (ho.symm.trans hi)
    subst this
    exact h
  | .al k Zk rk t, S, a, w, hn, h => by
    obtain ⟨⟨o, ho, h⟩, h'⟩ := h
    rcases hn with ⟨rfl, rfl, rfl⟩ | hn
    · have : o = oi := Option.some.inj (ho.symm.trans hi)
      subst this
      exact h
    · exact alt_e hi t hn h'
  | .done, _, _, _, hn, _ => hn.elim
  | .q .., _, _, _, hn, _ => hn.elim
theorem first_e {i : Nat} {Z : List Nat} {r0 : HT} {oi : Oper} (hi : ops[i]? = some oi) : ∀ (t : HT) {S : Sts} {a : Act} {w : H}, Nxt i Z r0 t → preE ops i Z t → wpT P ops Q t S a w →
    (Region.wanted oi (yielded ops a.tmps) = true ∧ wpZ P oi a w (fun a' w' => stabW Z S w' ∧ wpT P ops Q (t.att r0) S a' w')) ∨
    (Region.wanted oi (yielded ops a.tmps) = false ∧ wpT P ops Q (t.att r0) S (a.put oi.dst undef) w)
  | .q j r, S, a, w, hn, hp, h => by
    obtain ⟨oj, hj, h⟩ := h
    obtain ⟨hapj, hjz, hp⟩ := hp
    have hn' : Nxt i Z r0 r := hn
    obtain ⟨p1, p2, p3⟩ := Oper.apart_spec (hapj oj oi hj hi)
    have sj := fun cs b => hsel j oj cs b hj
    have si := fun cs b => hsel i oi cs b hi
    have wi : ∀ (a : Act) u, Region.wanted oi (yielded ops (a.put oj.dst u).tmps) = Region.wanted oi (yielded ops a.tmps) := fun a u => wanted_put oi a oj.dst u p1
    have ej : ∀ (a : Act) u, execOp (a.put oi.dst u).eval oj = execOp a.eval oj := fun a u => execOp_put oj sj a oi.dst u p3
    have wj : ∀ (a : Act) u, Region.wanted oj (yielded ops (a.put oi.dst u).tmps) = Region.wanted oj (yielded ops a.tmps) := fun a u => wanted_put oj a oi.dst u p3
    have cm : ∀ (a : Act) u v, (a.put oj.dst u).put oi.dst v = (a.put oi.dst v).put oj.dst u := fun a u v => Act.put_comm a u v p2
    rcases h with ⟨hw, vj, hvj, h⟩ | ⟨hw, h⟩
    · rcases first_e hi r hn' hp h with ⟨hw', h'⟩ | ⟨hw', h'⟩
      · refine .inl ⟨by rw [← wi a vj]; exact hw', ?_⟩
        refine wpZ_mono ?_ (wp_put (d := oj.dst) (v := vj) si p1 p2 h')
        rintro a' w' ⟨⟨u, ha'⟩, hst, hw''⟩
        have hself : QY Pg oj a w' vj := hst (j, fun w' => QY Pg oj a w' vj) List.mem_cons_self hjz
        have he : execOp a'.eval oj = execOp a.eval oj := by rw [ha', ej]
        refine ⟨fun p hp' hz => hst p (List.mem_cons_of_mem _ hp') hz, oj, hj, .inl ⟨?_, vj, ?_, ?_⟩⟩
        · rw [ha']; exact (wj a u).trans hw
        · unfold QY at *; rw [he]; exact hself
        · refine wpT_mono _ (Sle.cons (Sle.refl S) fun w'' hq => ?_) hw''
          unfold QY at *; rw [he]; exact hq
      · refine .inr ⟨by rw [← wi a vj]; exact hw', oj, hj, .inl ⟨by rw [wj]; exact hw, vj, by unfold QY at *; rw [ej]; exact hvj, ?_⟩⟩
        rw [← cm]
        refine wpT_mono _ (Sle.cons (Sle.refl S) fun w' hq => ?_) h'
        unfold QY at *; rw [ej]; exact hq
    · rcases first_e hi r hn' hp h with ⟨hw', h'⟩ | ⟨hw', h'⟩
      · refine .inl ⟨by rw [← wi a undef]; exact hw', ?_⟩
        refine wpZ_mono ?_ (wp_put (d := oj.dst) (v := undef) si p1 p2 h')
        rintro a' w' ⟨⟨u, ha'⟩, hst, hw''⟩
        refine ⟨hst, oj, hj, .inr ⟨?_, hw''⟩⟩
        rw [ha']; exact (wj a u).trans hw
      · refine .inr ⟨by rw [← wi a undef]; exact hw', oj, hj, .inr ⟨by rw [wj]; exact hw, ?_⟩⟩
        rw [← cm]; exact h'
  | .done, S, a, w, hn, hp, h => (show False from hn).elim
  | .e k Zk rk, S, a, w, hn, hp, h => alt_e hi (.e k Zk rk) hn h
  | .al k Zk rk t, S, a, w, hn, hp, h => alt_e hi (.al k Zk rk t) hn h
end
end Go.Proofs.Ytojhnclkhiffkaa

/-
  The check of a tree, and: the walk of a checked tree serves every order.
-/
namespace Go.Proofs.Ytojhnclkhiffkaa
set_option linter.unusedVariables false

def depsOf (ops : Array Oper) (i : Nat) : List Nat :=
  match ops[i]? with
  | some o => (o.after.toList.filter (Region.binds .any)).map (·.on)
  | none => []
def ancB (A : List (List Nat)) (x y : Nat) : Bool := (A.getD y []).contains x
def okA (ops : Array Oper) (A : List (List Nat)) : Bool :=
  (List.range ops.size).all fun i => (A.getD i []).all fun x => (depsOf ops i).contains x || (depsOf ops i).any fun d => decide (d < i) && ancB A x d
def apartB (ops : Array Oper) (x y : Nat) : Bool :=
  match ops[x]?, ops[y]? with
  | some ox, some oy => ox.apart ops oy
  | _, _ => false
def hds : HT → List Nat
  | .e i _ _ => [i]
  | .al i _ _ t => i :: hds t
  | _ => []
/-- An effect that comes next, with r behind it. -/
def okB (ops : Array Oper) (A : List (List Nat)) (E : List Nat) (i : Nat) (Z : List Nat) (r : HT) : Bool :=
  decide (i < ops.size) && (E.all fun x => ancB A x i || (apartB ops x i && Z.contains x)) && ((depsOf ops i).all fun d => decide (d < ops.size) && d != i && !r.all.contains d) && !r.all.contains i
/-- .. among the effects H, of all that is left, L. -/
def okC (A : List (List Nat)) (H L : List Nat) (i : Nat) (r : HT) : Bool :=
  H.contains i && L.contains i && (r.all.all fun y => L.contains y && (H.contains y || H.any fun x => ancB A x y)) && (L.all fun y => y == i || r.all.contains y) && decide (r.all.length + 1 = L.length)
def okT (ops : Array Oper) (A : List (List Nat)) : List Nat → Option (List Nat × List Nat) → HT → Bool
  | _, c, .done => c.isNone
  | E, c, .q i r => c.isNone && decide (i < ops.size) && (E.all fun x => ancB A x i || apartB ops x i) && ((depsOf ops i).all fun d => decide (d < ops.size) && d != i && !r.all.contains d) && !r.all.contains i && okT ops A (i :: E) none r
  | E, c, .e i Z r => okB ops A E i Z r && okC A (c.getD ([i], i :: r.all)).1 (c.getD ([i], i :: r.all)).2 i r && okT ops A E none r
  | E, c, .al i Z r t => okB ops A E i Z r && okC A (c.getD (i :: hds t, i :: r.all)).1 (c.getD (i :: hds t, i :: r.all)).2 i r && okT ops A E none r && okT ops A E (some (c.getD (i :: hds t, i :: r.all))) t

section
variable {ops : Array Oper} {A : List (List Nat)}

theorem apartI_of {x y : Nat} (h : apartB ops x y = true) : apartI ops x y := by
  intro ox oy hx hy
  unfold apartB at h
  rw [hx, hy] at h
  exact h

theorem okB_spec {E : List Nat} {i : Nat} {Z : List Nat} {r : HT} (h : okB ops A E i Z r = true) : i < ops.size ∧ (∀ x ∈ E, ancB A x i = true ∨ (apartI ops x i ∧ x ∈ Z)) ∧ (∀ d ∈ depsOf ops i, d < ops.size ∧ d ≠ i ∧ d ∉ r.all) ∧ i ∉ r.all := by
  simp only [okB, Bool.and_eq_true, decide_eq_true_eq, List.all_eq_true, Bool.or_eq_true, bne_iff_ne, Bool.not_eq_true', List.contains_eq_mem, decide_eq_false_iff_not] at h
  obtain ⟨⟨⟨h1, h2⟩, h3⟩, h4⟩ := h
  exact ⟨h1, fun x hx => (h2 x hx).imp id fun h => ⟨apartI_of h.1, h.2⟩, fun d hd => ⟨(h3 d hd).1.1, (h3 d hd).1.2, (h3 d hd).2⟩, h4⟩
theorem okC_spec {H L : List Nat} {i : Nat} {r : HT} (h : okC A H L i r = true) : i ∈ H ∧ i ∈ L ∧ (∀ y ∈ r.all, y ∈ L ∧ (y ∈ H ∨ ∃ x ∈ H, ancB A x y = true)) ∧ (∀ y ∈ L, y = i ∨ y ∈ r.all) ∧ r.all.length + 1 = L.length := by
  simp only [okC, Bool.and_eq_true, decide_eq_true_eq, List.all_eq_true, List.any_eq_true, Bool.or_eq_true, beq_iff_eq, List.contains_eq_mem] at h
  obtain ⟨⟨⟨⟨h1, h2⟩, h3⟩, h4⟩, h5⟩ := h
  exact ⟨h1, h2, h3, h4, h5⟩
theorem okB_weak {E E' : List Nat} {i : Nat} {Z : List Nat} {r : HT} (hs : ∀ x ∈ E', x ∈ E) (h : okB ops A E i Z r = true) : okB ops A E' i Z r = true := by
  simp only [okB, Bool.and_eq_true] at h ⊢
  obtain ⟨⟨⟨h1, h2⟩, h3⟩, h4⟩ := h
  refine ⟨⟨⟨h1, ?_⟩, h3⟩, h4⟩
  rw [List.all_eq_true] at h2 ⊢
  exact fun x hx => h2 x (hs x hx)
theorem okT_weak : ∀ (t : HT) {E E' : List Nat} {c : Option (List Nat × List Nat)}, (∀ x ∈ E', x ∈ E) → okT ops A E c t = true → okT ops A E' c t = true
  | .done, _, _, _, _, h => h
  | .q i r, E, E', c, hs, h => by
    simp only [okT, Bool.and_eq_true] at h ⊢
    obtain ⟨⟨⟨⟨⟨h0, h1⟩, h2⟩, h3⟩, h4⟩, h5⟩ := h
    refine ⟨⟨⟨⟨⟨h0, h1⟩, ?_⟩, h3⟩, h4⟩, okT_weak r (fun x hx => ?_) h5⟩
    · rw [List.all_eq_true] at h2 ⊢
      exact fun x hx => h2 x (hs x hx)
    · rcases List.mem_cons.1 hx with rfl | hx
      · exact List.mem_cons_self
      · exact List.mem_cons_of_mem _ (hs x hx)
  | .e i Z r, E, E', c, hs, h => by
    simp only [okT, Bool.and_eq_true] at h ⊢
    exact ⟨⟨okB_weak hs h.1.1, h.1.2⟩, okT_weak r hs h.2⟩
  | .al i Z r t, E, E', c, hs, h => by
    simp only [okT, Bool.and_eq_true] at h ⊢
    exact ⟨⟨⟨okB_weak hs h.1.1.1, h.1.1.2⟩, okT_weak r hs h.1.2⟩, okT_weak t hs h.2⟩

/-- What is known of an effect at the root. -/
theorem alt_get : ∀ (t : HT) {E : List Nat} {c : Option (List Nat × List Nat)} {i : Nat} {Z : List Nat} {r0 : HT}, okT ops A E c t = true → Hd i Z r0 t →
    okB ops A E i Z r0 = true ∧ okT ops A E none r0 = true ∧ okC A (c.getD (hds t, t.all)).1 (c.getD (hds t, t.all)).2 i r0 = true
  | .e j Zj rj, E, c, i, Z, r0, h, hn => by
    obtain ⟨rfl, rfl, rfl⟩ := hn
    simp only [okT, Bool.and_eq_true] at h
    exact ⟨h.1.1, h.2, h.1.2⟩
  | .al j Zj rj t, E, c, i, Z, r0, h, hn => by
    simp only [okT, Bool.and_eq_true] at h
    rcases hn with ⟨rfl, rfl, rfl⟩ | hn
    · exact ⟨h.1.1.1, h.1.2, h.1.1.2⟩
    · exact alt_get t h.2 hn
  | .done, _, _, _, _, _, _, hn => hn.elim
  | .q .., _, _, _, _, _, _, hn => hn.elim
theorem hds_mem : ∀ (t : HT) {i : Nat}, i ∈ hds t → ∃ Z r0, Hd i Z r0 t
  | .e j Zj rj, i, h => by
    have : i = j := by simpa [hds] using h
    exact ⟨Zj, rj, this, rfl, rfl⟩
  | .al j Zj rj t, i, h => by
    rcases List.mem_cons.1 h with h | h
    · exact ⟨Zj, rj, .inl ⟨h, rfl, rfl⟩⟩
    · obtain ⟨Z, r0, h⟩ := hds_mem t h
      exact ⟨Z, r0, .inr h⟩
  | .done, _, h => by cases h
  | .q .., _, h => by cases h

theorem del_all : ∀ (t : HT) {E : List Nat} {i : Nat}, okT ops A E none t = true → i ∈ t.pre → (∀ y, y ∈ (t.del i).all ↔ y ∈ t.all ∧ y ≠ i) ∧ (t.del i).all.length + 1 = t.all.length
  | .q j r, E, i, h, hm => by
    simp only [okT, Bool.and_eq_true, Bool.not_eq_true', List.contains_eq_mem, decide_eq_false_iff_not] at h
    obtain ⟨⟨_, h4⟩, h5⟩ := h
    by_cases hji : j = i
    · subst hji
      refine ⟨fun y => ?_, by simp [HT.del, HT.all]⟩
      simp only [HT.del, if_true, HT.all, List.mem_cons]
      refine ⟨fun hy => ⟨.inr hy, fun e => h4 (e ▸ hy)⟩, fun ⟨hy, hn⟩ => hy.resolve_left hn⟩
    · have hmr : i ∈ r.pre := by
        rcases List.mem_cons.1 hm with h' | h'
        · exact absurd h'.symm hji
        · exact h'
      obtain ⟨h6, h7⟩ := del_all r h5 hmr
      simp only [HT.del, if_neg hji, HT.all, List.mem_cons, List.length_cons]
      refine ⟨fun y => ?_, by omega⟩
      rw [h6]
      refine ⟨fun hy => ?_, fun ⟨hy, hn⟩ => ?_⟩
      · rcases hy with rfl | hy
        · exact ⟨.inl rfl, hji⟩
        · exact ⟨.inr hy.1, hy.2⟩
      · rcases hy with rfl | hy
        · exact .inl rfl
        · exact .inr ⟨hy, hn⟩
  | .done, _, _, _, h => by cases h
  | .e .., _, _, _, h => by cases h
  | .al .., _, _, _, h => by cases h

theorem okT_del : ∀ (t : HT) {E : List Nat} {i : Nat}, okT ops A E none t = true → i ∈ t.pre → okT ops A E none (t.del i) = true
  | .q j r, E, i, h, hm => by
    have h0 := h
    simp only [okT, Bool.and_eq_true] at h
    obtain ⟨⟨⟨⟨⟨h0', h1⟩, h2⟩, h3⟩, h4⟩, h5⟩ := h
    by_cases hji : j = i
    · subst hji
      simp only [HT.del, if_true]
      exact okT_weak r (fun x hx => List.mem_cons_of_mem _ hx) h5
    · have hmr : i ∈ r.pre := by
        rcases List.mem_cons.1 hm with h' | h'
        · exact absurd h'.symm hji
        · exact h'
      have hd := (del_all r h5 hmr).1
      simp only [HT.del, if_neg hji, okT, Bool.and_eq_true]
      refine ⟨⟨⟨⟨⟨h0', h1⟩, h2⟩, ?_⟩, ?_⟩, okT_del r h5 hmr⟩
      · rw [List.all_eq_true] at h3 ⊢
        intro d hd'
        have := h3 d hd'
        simp only [Bool.and_eq_true, Bool.not_eq_true', List.contains_eq_mem, decide_eq_false_iff_not] at this ⊢
        exact ⟨this.1, fun hc => this.2 ((hd d).1 hc).1⟩
      · simp only [Bool.not_eq_true', List.contains_eq_mem, decide_eq_false_iff_not] at h4 ⊢
        exact fun hc => h4 ((hd j).1 hc).1
  | .done, _, _, _, h => by cases h
  | .e .., _, _, _, h => by cases h
  | .al .., _, _, _, h => by cases h

theorem root_all : ∀ (t : HT) {E : List Nat} {i : Nat} {Z : List Nat} {r0 : HT}, okT ops A E none t = true → Nxt i Z r0 t → i ∈ t.all
  | .q j r, E, i, Z, r0, h, hn => by
    simp only [okT, Bool.and_eq_true] at h
    exact List.mem_cons_of_mem _ (root_all r h.2 hn)
  | .done, _, _, _, _, _, hn => (show False from hn).elim
  | .e k Zk rk, E, i, Z, r0, h, hn => (okC_spec (alt_get _ h hn).2.2).2.1
  | .al k Zk rk t, E, i, Z, r0, h, hn => (okC_spec (alt_get _ h hn).2.2).2.1
theorem alt_all {t : HT} {E : List Nat} {i : Nat} {Z : List Nat} {r0 : HT} (h : okT ops A E none t = true) (hn : Hd i Z r0 t) : (∀ y, y ∈ r0.all ↔ y ∈ t.all ∧ y ≠ i) ∧ r0.all.length + 1 = t.all.length := by
  obtain ⟨h1, h2, h3⟩ := alt_get t h hn
  obtain ⟨_, _, _, b4⟩ := okB_spec h1
  obtain ⟨_, c2, c3, c4, c5⟩ := okC_spec h3
  exact ⟨fun y => ⟨fun hy => ⟨(c3 y hy).1, fun e => b4 (e ▸ hy)⟩, fun ⟨hy, hne⟩ => (c4 y hy).resolve_left hne⟩, c5⟩
theorem att_all : ∀ (t : HT) {E : List Nat} {i : Nat} {Z : List Nat} {r0 : HT}, okT ops A E none t = true → Nxt i Z r0 t → (∀ y, y ∈ (t.att r0).all ↔ y ∈ t.all ∧ y ≠ i) ∧ (t.att r0).all.length + 1 = t.all.length
  | .q j r, E, i, Z, r0, h, hn => by
    simp only [okT, Bool.and_eq_true, Bool.not_eq_true', List.contains_eq_mem, decide_eq_false_iff_not] at h
    obtain ⟨⟨_, h4⟩, h5⟩ := h
    obtain ⟨h6, h7⟩ := att_all r h5 (hn : Nxt i Z r0 r)
    have hji : j ≠ i := by
      rintro rfl
      exact h4 (root_all r h5 hn)
    simp only [HT.att, HT.all, List.mem_cons, List.length_cons]
    refine ⟨fun y => ?_, by omega⟩
    rw [h6]
    refine ⟨fun hy => ?_, fun ⟨hy, hn⟩ => ?_⟩
    · rcases hy with rfl | hy
      · exact ⟨.inl rfl, hji⟩
      · exact ⟨.inr hy.1, hy.2⟩
    · rcases hy with rfl | hy
      · exact .inl rfl
      · exact .inr ⟨hy, hn⟩
  | .done, E, i, Z, r0, h, hn => (show False from hn).elim
  | .e k Zk rk, E, i, Z, r0, h, hn => alt_all h hn
  | .al k Zk rk t, E, i, Z, r0, h, hn => alt_all h hn

theorem okT_att : ∀ (t : HT) {E : List Nat} {i : Nat} {Z : List Nat} {r0 : HT}, okT ops A E none t = true → Nxt i Z r0 t → okT ops A E none (t.att r0) = true
  | .q j r, E, i, Z, r0, h, hn => by
    simp only [okT, Bool.and_eq_true] at h
    obtain ⟨⟨⟨⟨⟨h0, h1⟩, h2⟩, h3⟩, h4⟩, h5⟩ := h
    have hd := (att_all r h5 (hn : Nxt i Z r0 r)).1
    simp only [HT.att, okT, Bool.and_eq_true]
    refine ⟨⟨⟨⟨⟨h0, h1⟩, h2⟩, ?_⟩, ?_⟩, okT_att r h5 hn⟩
    · rw [List.all_eq_true] at h3 ⊢
      intro d hd'
      have := h3 d hd'
      simp only [Bool.and_eq_true, Bool.not_eq_true', List.contains_eq_mem, decide_eq_false_iff_not] at this ⊢
      exact ⟨this.1, fun hc => this.2 ((hd d).1 hc).1⟩
    · simp only [Bool.not_eq_true', List.contains_eq_mem, decide_eq_false_iff_not] at h4 ⊢
      exact fun hc => h4 ((hd j).1 hc).1
  | .done, E, i, Z, r0, h, hn => (show False from hn).elim
  | .e k Zk rk, E, i, Z, r0, h, hn => (alt_get _ h hn).2.1
  | .al k Zk rk t, E, i, Z, r0, h, hn => (alt_get _ h hn).2.1

theorem okT_E : ∀ (t : HT) {E : List Nat} {i x : Nat}, okT ops A E none t = true → i ∈ t.pre → x ∈ E → ancB A x i = true ∨ apartI ops x i
  | .q j r, E, i, x, h, hm, hx => by
    simp only [okT, Bool.and_eq_true] at h
    obtain ⟨⟨⟨⟨⟨h0, h1⟩, h2⟩, h3⟩, h4⟩, h5⟩ := h
    rcases List.mem_cons.1 hm with rfl | hm
    · rw [List.all_eq_true] at h2
      have := h2 x hx
      simp only [Bool.or_eq_true] at this
      exact this.imp id apartI_of
    · exact okT_E r h5 hm (List.mem_cons_of_mem _ hx)
  | .done, _, _, _, _, h, _ => by cases h
  | .e .., _, _, _, _, h, _ => by cases h
  | .al .., _, _, _, _, h, _ => by cases h

theorem apB_of : ∀ (t : HT) {E : List Nat} {i : Nat}, okT ops A E none t = true → i ∈ t.pre → (∀ x ∈ t.all, ancB A x i = false) → apB ops i t
  | .q j r, E, i, h, hm, hn => by
    by_cases hji : j = i
    · exact .inl hji
    · have hmr : i ∈ r.pre := by
        rcases List.mem_cons.1 hm with h' | h'
        · exact absurd h'.symm hji
        · exact h'
      simp only [okT, Bool.and_eq_true] at h
      refine .inr ⟨?_, apB_of r h.2 hmr (fun x hx => hn x (List.mem_cons_of_mem _ hx))⟩
      rcases okT_E r h.2 hmr List.mem_cons_self with h' | h'
      · rw [hn j List.mem_cons_self] at h'; cases h'
      · exact h'
  | .done, _, _, _, h, _ => by cases h
  | .e .., _, _, _, h, _ => by cases h
  | .al .., _, _, _, h, _ => by cases h

theorem okT_EZ : ∀ (t : HT) {E : List Nat} {i x : Nat} {Z : List Nat} {r0 : HT}, okT ops A E none t = true → Nxt i Z r0 t → x ∈ E → ancB A x i = true ∨ (apartI ops x i ∧ x ∈ Z)
  | .q j r, E, i, x, Z, r0, h, hn, hx => by
    simp only [okT, Bool.and_eq_true] at h
    exact okT_EZ r h.2 hn (List.mem_cons_of_mem _ hx)
  | .done, E, i, x, Z, r0, h, hn, hx => (show False from hn).elim
  | .e k Zk rk, E, i, x, Z, r0, h, hn, hx => (okB_spec (alt_get _ h hn).1).2.1 x hx
  | .al k Zk rk t, E, i, x, Z, r0, h, hn, hx => (okB_spec (alt_get _ h hn).1).2.1 x hx

theorem preE_of : ∀ (t : HT) {E : List Nat} {i : Nat} {Z : List Nat} {r0 : HT}, okT ops A E none t = true → Nxt i Z r0 t → (∀ x ∈ t.all, ancB A x i = false) → preE ops i Z t
  | .q j r, E, i, Z, r0, h, hn, ha => by
    simp only [okT, Bool.and_eq_true] at h
    rcases okT_EZ r h.2 hn List.mem_cons_self with h' | ⟨h1, h2⟩
    · rw [ha j List.mem_cons_self] at h'; cases h'
    · exact ⟨h1, h2, preE_of r h.2 hn (fun x hx => ha x (List.mem_cons_of_mem _ hx))⟩
  | .done, _, _, _, _, _, _, _ => trivial
  | .e .., _, _, _, _, _, _, _ => trivial
  | .al .., _, _, _, _, _, _, _ => trivial

theorem alt_cases {t : HT} {E : List Nat} {i k : Nat} {Z : List Nat} {r0 : HT} (h : okT ops A E none t = true) (hk : Hd k Z r0 t) (hm : i ∈ t.all) (ha : ∀ x ∈ t.all, ancB A x i = false) : ∃ Z r0, Hd i Z r0 t := by
  obtain ⟨h1, h2, h3⟩ := alt_get t h hk
  obtain ⟨c1, c2, c3, c4, c5⟩ := okC_spec h3
  have hin : i ∈ hds t := by
    rcases c4 i hm with rfl | h'
    · exact c1
    · rcases (c3 i h').2 with h' | ⟨x, hx, hxa⟩
      · exact h'
      · obtain ⟨Z', r', hx'⟩ := hds_mem t hx
        have := (okC_spec (alt_get t h hx').2.2).2.1
        rw [ha x this] at hxa; cases hxa
  exact hds_mem t hin
/-- What is ready is a leading reader or a next effect. -/
theorem cases_of : ∀ (t : HT) {E : List Nat} {i : Nat}, okT ops A E none t = true → i ∈ t.all → (∀ x ∈ t.all, ancB A x i = false) → i ∈ t.pre ∨ ∃ Z r0, Nxt i Z r0 t
  | .q j r, E, i, h, hm, ha => by
    simp only [okT, Bool.and_eq_true] at h
    rcases List.mem_cons.1 hm with rfl | hm
    · exact .inl List.mem_cons_self
    · rcases cases_of r h.2 hm (fun x hx => ha x (List.mem_cons_of_mem _ hx)) with h' | ⟨Z, r0, h'⟩
      · exact .inl (List.mem_cons_of_mem _ h')
      · exact .inr ⟨Z, r0, h'⟩
  | .done, _, _, _, h, _ => by cases h
  | .e k Zk rk, E, i, h, hm, ha => .inr (alt_cases (t := .e k Zk rk) h ⟨rfl, rfl, rfl⟩ hm ha)
  | .al k Zk rk t, E, i, h, hm, ha => .inr (alt_cases (t := .al k Zk rk t) h (.inl ⟨rfl, rfl, rfl⟩) hm ha)
end
end Go.Proofs.Ytojhnclkhiffkaa

/-
  The walk of a checked tree serves every order; lowering of code; the walk of lowered code is sound: in whatever company.
-/
namespace Go.Proofs.Ytojhnclkhiffkaa
open Go.Conc (G stepG_skip stepG_label stepG_inBlock stepG_seq stepG_cond stepG_block stepG_loop stepG_inLoop stepG_exit stepG_region stepG_region_end stepG_end stepG_ret' stepG_unwanted stepG_region_draw stepG_enter stepG_leave)
set_option linter.unusedVariables false

section
variable {Pg : Program} {P : Cx Pg} {h : H}
/-- A step that turns nothing. -/
theorem Cx.idle {g g' : Goroutine} (hs : g.status = .running) (h1 : ∀ w, stepG Pg P.main g w = .go g' w #[]) (h2 : P.J g' h) : P.J g h :=
  P.ord g h hs fun w hh => by rw [h1 w]; exact ⟨h, Fra.refl hh, h2⟩
end
section
variable {Pg : Program} {P : Cx Pg} {ops : Array Oper} {Q : Act → H → Prop} {A : List (List Nat)}

def opJ (P : Cx Pg) (ops : Array Oper) (i : Nat) (K : Act → H → Prop) (a : Act) (h : H) : Prop :=
  match ops[i]? with
  | none => False
  | some o => if Region.wanted o (yielded ops a.tmps) then wpZ P o a h K else K (a.put o.dst undef) h
def anyJ (P : Cx Pg) (ops : Array Oper) (Q : Act → H → Prop) : Nat → Array Bool → Act → H → Prop
  | 0, listed, a, h => Region.ready .any ops listed = [] ∧ Q a h
  | fuel + 1, listed, a, h =>
    (Region.ready .any ops listed = [] → Q a h) ∧
    ∀ i ∈ Region.ready .any ops listed, opJ P ops i (anyJ P ops Q fuel (listed.setIfInBounds i true)) a h
theorem anyJ_sound {b : Frame} {k : List Item} {cs : List Frame} (hk : b.kind ≠ .early) (hQ : ∀ a h, Q a h → P.J (G (b.at a k) cs) h) : ∀ (fuel t : Nat) (listed : Array Bool) (a : Act) (h : H), anyJ P ops Q fuel listed a h →
    P.J (G (b.at a (.inRegion ops (Region.linearise.go .any ops fuel t listed []) :: k)) cs) h := by
  have done : ∀ a h, Q a h → P.J (G (b.at a (.inRegion ops [] :: k)) cs) h := fun a h hq => Cx.idle rfl (fun _ => stepG_region_end) (hQ a h hq)
  intro fuel
  induction fuel with
  | zero => intro t listed a h hh; simpa [Region.linearise.go] using done a h hh.2
  | succ fuel ih =>
    intro t listed a h hh
    obtain ⟨h₀, h₁⟩ := hh
    simp only [Region.linearise.go]
    change P.J (G (b.at a (.inRegion ops (match (Region.ready .any ops listed)[t % (Region.ready .any ops listed).length]? with
      | some i => Region.linearise.go .any ops fuel (t / (Region.ready .any ops listed).length) (listed.setIfInBounds i true) [i]
      | none => [].reverse) :: k)) cs) h
    cases hi : (Region.ready .any ops listed)[t % (Region.ready .any ops listed).length]? with
    | none =>
      have hnil : Region.ready .any ops listed = [] := by
        cases hr : Region.ready .any ops listed with
        | nil => rfl
        | cons x xs =>
          rw [hr] at hi
          have hlt : t % (x :: xs).length < (x :: xs).length := Nat.mod_lt _ (by simp)
          simp at hi
          simp at hlt
          omega
      simpa using done a h (h₀ hnil)
    | some i =>
      simp only []
      rw [linearise_go_acc, List.reverse_singleton, List.singleton_append]
      have hop := h₁ i (List.mem_of_getElem? hi)
      unfold opJ at hop
      split at hop
      · exact hop.elim
      · rename_i o ho
        split at hop
        · rename_i hw
          exact hop b a k cs ops i _ o ho hw hk (fun _ => rfl) fun v h' hv => ih _ _ _ _ hv
        · rename_i hw
          exact Cx.idle rfl (fun _ => stepG_unwanted ho (by simpa using hw)) (ih _ _ _ _ hop)

structure Inv (ops : Array Oper) (t : HT) (listed : Array Bool) : Prop where
  size : listed.size = ops.size
  all : ∀ y, y < ops.size → (listed.getD y true = false ↔ y ∈ t.all)
  lt : ∀ y ∈ t.all, y < ops.size
  closed : ∀ j, j < ops.size → listed.getD j false = true → ∀ d ∈ depsOf ops j, listed.getD d false = true

theorem getD_tf {listed : Array Bool} {i : Nat} (h : i < listed.size) : listed.getD i true = listed.getD i false := by
  simp [h]
theorem mem_deps {ops : Array Oper} {i : Nat} {o : Oper} (ho : ops[i]? = some o) (d : Nat) : d ∈ depsOf ops i ↔ ∃ e ∈ o.after, Region.binds .any e = true ∧ e.on = d := by
  unfold depsOf
  rw [ho]
  simp only [List.mem_map, List.mem_filter, Array.mem_toList_iff]
  constructor
  · rintro ⟨e, ⟨h1, h2⟩, h3⟩; exact ⟨e, h1, h2, h3⟩
  · rintro ⟨e, h1, h2, h3⟩; exact ⟨e, ⟨h1, h2⟩, h3⟩

theorem anc_listed (hA : okA ops A = true) {listed : Array Bool} (hs : listed.size = ops.size) (hc : ∀ j, j < ops.size → listed.getD j false = true → ∀ d ∈ depsOf ops j, listed.getD d false = true) :
    ∀ (i : Nat) (x : Nat), i < ops.size → (∀ d ∈ depsOf ops i, listed.getD d false = true) → ancB A x i = true → listed.getD x false = true := by
  intro i
  induction i using Nat.strongRecOn with
  | _ i ih =>
    intro x hi hd hx
    unfold okA at hA
    have h1 := List.all_eq_true.1 hA i (List.mem_range.2 hi)
    have hx' : x ∈ A.getD i [] := by simpa [ancB] using hx
    have h2 := List.all_eq_true.1 h1 x hx'
    simp only [Bool.or_eq_true, List.contains_eq_mem, decide_eq_true_eq, List.any_eq_true, Bool.and_eq_true] at h2
    rcases h2 with h2 | ⟨d, hd1, hd2, hd3⟩
    · exact hd x h2
    · exact ih d hd2 x (by omega) (hc d (by omega) (hd d hd1)) hd3

theorem Inv.set {t t' : HT} {listed : Array Bool} (inv : Inv ops t listed) {i : Nat} (hr : i ∈ Region.ready .any ops listed) (ha : ∀ y, y ∈ t'.all ↔ y ∈ t.all ∧ y ≠ i) : Inv ops t' (listed.setIfInBounds i true) := by
  obtain ⟨h0, o, ho, hall⟩ := mem_ready.1 hr
  have hi : i < ops.size := (Array.getElem?_eq_some_iff.1 ho).1
  refine ⟨by simp [inv.size], fun y hy => ?_, fun y hy => inv.lt y ((ha y).1 hy).1, fun j hj hl d hd => ?_⟩
  · rw [ha]
    by_cases hyi : y = i
    · subst hyi
      have : (listed.setIfInBounds y true).getD y true = true := by simp [inv.size, hi]
      rw [this]; simp
    · rw [getD_set_ne true (Ne.symm hyi), inv.all y hy]
      simp [hyi]
  · by_cases hji : j = i
    · subst hji
      obtain ⟨e, he, hb, hon⟩ := (mem_deps ho d).1 hd
      subst hon
      exact getD_set_true (hall e he hb)
    · rw [getD_set_ne false (Ne.symm hji)] at hl
      exact getD_set_true (inv.closed j hj hl d hd)

variable (hsel : ∀ (j : Nat) (o : Oper) cs b, ops[j]? = some o → o.op ≠ .select cs b)
include hsel

theorem any_of_tree (hA : okA ops A = true) : ∀ (fuel : Nat) (t : HT) (listed : Array Bool) (S : Sts) (a : Act) (w : H),
    t.all.length = fuel → okT ops A [] none t = true → Inv ops t listed → wpT P ops Q t S a w → anyJ P ops Q fuel listed a w := by
  intro fuel
  induction fuel with
  | zero =>
    intro t listed S a w hl hk inv h
    have ht : t = .done := by cases t <;> simp [HT.all] at hl ⊢
    subst ht
    refine ⟨?_, h⟩
    rw [List.eq_nil_iff_forall_not_mem]
    intro i hi
    obtain ⟨h0, o, ho, _⟩ := mem_ready.1 hi
    have := (inv.all i (Array.getElem?_eq_some_iff.1 ho).1).1 h0
    cases this
  | succ fuel ih =>
    intro t listed S a w hl hk inv h
    refine ⟨fun hnil => ?_, fun i hi => ?_⟩
    · -- something is ready
      exfalso
      have hfirst : ∃ i, i ∈ t.all ∧ i < ops.size ∧ ∀ d ∈ depsOf ops i, d < ops.size ∧ d ∉ t.all := by
        cases t with
        | done => simp [HT.all] at hl
        | q i r =>
          simp only [okT, Bool.and_eq_true, List.all_eq_true, decide_eq_true_eq, bne_iff_ne, Bool.not_eq_true', List.contains_eq_mem, decide_eq_false_iff_not] at hk
          exact ⟨i, List.mem_cons_self, hk.1.1.1.1.2, fun d hd => ⟨(hk.1.1.2 d hd).1.1, fun hm => (List.mem_cons.1 hm).elim (hk.1.1.2 d hd).1.2 (hk.1.1.2 d hd).2⟩⟩
        | e i Z r =>
          obtain ⟨b1, _, b3, _⟩ := okB_spec (alt_get (.e i Z r) hk ⟨rfl, rfl, rfl⟩).1
          exact ⟨i, List.mem_cons_self, b1, fun d hd => ⟨(b3 d hd).1, fun hm => (List.mem_cons.1 hm).elim (b3 d hd).2.1 (b3 d hd).2.2⟩⟩
        | al i Z r t =>
          obtain ⟨b1, _, b3, _⟩ := okB_spec (alt_get (.al i Z r t) hk (.inl ⟨rfl, rfl, rfl⟩)).1
          exact ⟨i, List.mem_cons_self, b1, fun d hd => ⟨(b3 d hd).1, fun hm => (List.mem_cons.1 hm).elim (b3 d hd).2.1 (b3 d hd).2.2⟩⟩
      obtain ⟨i, h1, h2, h3⟩ := hfirst
      have : i ∈ Region.ready .any ops listed := by
        rw [mem_ready]
        refine ⟨(inv.all i h2).2 h1, ops[i], by simp [h2], fun e he hb => ?_⟩
        obtain ⟨h4, h5⟩ := h3 e.on ((mem_deps (by simp [h2] : ops[i]? = some ops[i]) e.on).2 ⟨e, he, hb, rfl⟩)
        have h6 : ¬ listed.getD e.on true = false := fun hf => h5 ((inv.all _ h4).1 hf)
        rw [getD_tf (by rw [inv.size]; exact h4)] at h6
        simpa using h6
      rw [hnil] at this
      cases this
    · obtain ⟨h0, o, ho, hall⟩ := mem_ready.1 hi
      have hin : i < ops.size := (Array.getElem?_eq_some_iff.1 ho).1
      have hmem := (inv.all i hin).1 h0
      have hno : ∀ x ∈ t.all, ancB A x i = false := by
        intro x hx
        cases hb : ancB A x i with
        | false => rfl
        | true =>
          have h1 := anc_listed hA inv.size inv.closed i x hin (fun d hd => by
            obtain ⟨e, he, hb, rfl⟩ := (mem_deps ho d).1 hd
            exact hall e he hb) hb
          have hxl := inv.lt x hx
          have h2 := (inv.all x hxl).2 hx
          rw [getD_tf (by rw [inv.size]; exact hxl), h1] at h2
          cases h2
      unfold opJ
      rw [ho]
      simp only []
      rcases cases_of t hk hmem hno with hp | ⟨Z, r0, hn⟩
      · obtain ⟨hd1, hd2⟩ := del_all t hk hp
        have hk' := okT_del t hk hp
        have inv' := inv.set hi hd1
        rcases first_q hsel ho t hp (apB_of t hk hp hno) h with ⟨hw, v, hv, h'⟩ | ⟨hw, h'⟩
        · rw [if_pos hw]
          exact hv.does (ih _ _ _ _ _ (by omega) hk' inv' h')
        · rw [if_neg (by rw [hw]; simp)]
          exact ih _ _ _ _ _ (by omega) hk' inv' h'
      · obtain ⟨hd1, hd2⟩ := att_all t hk hn
        have hk' := okT_att t hk hn
        have inv' := inv.set hi hd1
        rcases first_e hsel ho t hn (preE_of t hk hn hno) h with ⟨hw, h'⟩ | ⟨hw, h'⟩
        · rw [if_pos hw]
          exact wpZ_mono (fun a' w' h => ih _ _ _ _ _ (by omega) hk' inv' h.2) h'
        · rw [if_neg (by rw [hw]; simp)]
          exact ih _ _ _ _ _ (by omega) hk' inv' h'
omit hsel
/-- A drawn region. -/
theorem region_tree {b : Frame} {k : List Item} {cs : List Frame} (hkd : b.kind ≠ .early) (hQ : ∀ a h, Q a h → P.J (G (b.at a k) cs) h) {id : Nat} {a : Act} {w : H} {t : HT} (hm : Pg.follows .mixedOrders = true) (hA : okA ops A = true) (hk : okT ops A [] none t = true) (hl : t.all.length = ops.size) (hs : Region.noSelect ops = true)
    (hal : ((List.range ops.size).all fun y => t.all.contains y) = true) (h : wpT P ops Q t [] a w) : P.J (G (b.at a (.code (.region id ops true) :: k)) cs) w := by
  have hlt : ∀ y ∈ t.all, y < ops.size := by
    have : ∀ (t : HT) {E : List Nat}, okT ops A E none t = true → ∀ y ∈ t.all, y < ops.size := by
      intro t
      induction t with
      | done => intro E _ y hy; cases hy
      | q i r ihr =>
        intro E hk y hy
        simp only [okT, Bool.and_eq_true, decide_eq_true_eq] at hk
        rcases List.mem_cons.1 hy with rfl | hy
        · exact hk.1.1.1.1.2
        · exact ihr hk.2 y hy
      | e i Z r ihr =>
        intro E hk y hy
        obtain ⟨k1, k2, _⟩ := alt_get (.e i Z r) hk ⟨rfl, rfl, rfl⟩
        rcases List.mem_cons.1 hy with rfl | hy
        · exact (okB_spec k1).1
        · exact ihr k2 y hy
      | al i Z r t ihr _ =>
        intro E hk y hy
        obtain ⟨k1, k2, _⟩ := alt_get (.al i Z r t) hk (.inl ⟨rfl, rfl, rfl⟩)
        rcases List.mem_cons.1 hy with rfl | hy
        · exact (okB_spec k1).1
        · exact ihr k2 y hy
    exact this t hk
  have hany : anyJ P ops Q ops.size (Array.replicate ops.size false) a w := by
    refine any_of_tree (Region.noSelect_spec hs) hA ops.size t _ [] a _ hl hk ⟨by simp, fun y hy => ?_, hlt, fun j hj hl' => ?_⟩ h
    · have := List.all_eq_true.1 hal y (List.mem_range.2 hy)
      simp only [List.contains_eq_mem, decide_eq_true_eq] at this
      simp [hy, this]
    · simp [hj] at hl'
  refine P.ord _ _ rfl fun w₁ hh => ?_
  rw [stepG_region_draw, Go.Conc.goes_go]
  refine ⟨w, Fra.still hh rfl rfl rfl rfl (by simp), ?_⟩
  simp only [Region.schedule, hm, Bool.true_or, if_true]
  exact anyJ_sound hkd hQ ops.size _ _ a w hany
end

/-! ### Lowering of code -/
inductive Hint where
  | leaf
  | seq (a : Hint) (L : List Nat) (b : Hint)
  | cond (a b : Hint)
  | block (a : Hint)
  | loop (S K : List Nat) (a : Hint)
  | draw (A : List (List Nat)) (t : HT)
  | scope (a : Hint)
  | rf (K Kb : List Nat) (a b : Hint)

/-- The slots that code may write. -/
structure NN where
  lo : Nat
  hi : Nat
instance (n : Nat) : OfNat NN n := ⟨⟨0, n⟩⟩
def NN.ok (n : NN) (d : Nat) : Bool := decide (n.lo ≤ d) && decide (d < n.hi)
theorem NN.ok_spec {n : NN} {d : Nat} (h : n.ok d = true) : n.lo ≤ d ∧ d < n.hi := by simpa [NN.ok] using h
def okDst (n : NN) (ops : Array Oper) : Bool := ops.toList.all fun o => o.dst.all n.ok
def lowLO (P : Program) (n : NN) (ops : Array Oper) (o : Oper) : LO :=
  match o.dst.all n.ok, o.guard with
  | true, none => ⟨o.dst, none, lowOp P o⟩
  | true, some (j, want) => (match (ops[j]?).bind (·.dst) with
    | some t => ⟨o.dst, some (t, want), lowOp P o⟩
    | none => ⟨o.dst, none, .bad⟩)
  | false, _ => ⟨o.dst, none, .bad⟩
def lowDT (P : Program) (n : NN) (ops : Array Oper) : HT → DT
  | .done => .done
  | .q i r => match ops[i]? with
    | some o => if isQ (lowOp P o) = true then .q i (lowLO P n ops o) (lowDT P n ops r) else .q i ⟨none, none, .bad⟩ .done
    | none => .q i ⟨none, none, .bad⟩ .done
  | .e i Z r => match ops[i]? with
    | some o => .e i Z (lowLO P n ops o) (lowDT P n ops r)
    | none => .q i ⟨none, none, .bad⟩ .done
  | .al i Z r t => match ops[i]? with
    | some o => .al i Z (lowLO P n ops o) (lowDT P n ops r) (lowDT P n ops t)
    | none => .q i ⟨none, none, .bad⟩ .done
def okDraw (P : Program) (ops : Array Oper) (A : List (List Nat)) (t : HT) : Bool :=
  P.follows .mixedOrders && okA ops A && okT ops A [] none t && (t.all.length == ops.size) && Region.noSelect ops && ((List.range ops.size).all fun y => t.all.contains y)
def isDefer (o : Oper) : Bool :=
  match o.op with
  | .defer _ => true
  | _ => false
def noDefer (ops : Array Oper) : Bool := ops.toList.all fun o => !isDefer o
def lowC (P : Program) (n : NN) : Hint → Code → LC
  | .leaf, .skip => .skip
  | .leaf, .ret => .ret
  | .leaf, .exit id => .exit id
  | .leaf, .goto l => .goto l
  | .leaf, .label _ => .skip
  | .leaf, .region _ ops false => if noDefer ops = true then .ops (ops.toList.map (lowLO P n ops)) else .bad
  | .draw A t, .region _ ops true => if okDraw P ops A t = true ∧ noDefer ops = true ∧ okDst n ops = true then .draw (lowDT P n ops t) else .bad
  | .scope a, .scope x => .scope (lowC P n a x)
  | .seq a L b, .seq x y => .seq (lowC P n a x) L (lowC P n b y)
  | .cond a b, .cond c x y => .cond c (lowC P n a x) (lowC P n b y)
  | .block a, .block id x => .block id (lowC P n a x)
  | .loop S K a, .loop x => .loop S K (lowC P n a x)
  | _, _ => .bad

theorem wanted_of {ops : Array Oper} {o : Oper} {e : Env} {a : Act} (ha : agree e a) {j : Nat} {want : Bool} {t : Nat} {v : Value} (hg : o.guard = some (j, want)) (ht : (ops[j]?).bind (·.dst) = some t) (hv : e.get t = some v) :
    Region.wanted o (yielded ops a.tmps) = gW v want := by
  unfold Region.wanted yielded
  rw [hg]
  simp only [ht, Option.bind_some, ha t v hv]
  cases v <;> simp [gW]
theorem wanted_none {o : Oper} {y : Nat → Option Bool} (hg : o.guard = none) : Region.wanted o y = true := by
  unfold Region.wanted; rw [hg]

/-- One operation under its guard. -/
theorem guard_sound {Pg : Program} {P : Cx Pg} {n : NN} {ops : Array Oper} {o : Oper} {e : Env} {a : Act} (ha : agree e a) {A B : Prop} {X : Prop} (hbad : ∀ {K : Value → H → Prop} {Xp : List PanicEntry → H → Prop} {h : H}, lM P .bad e h K Xp → X)
    (hA : (lowLO Pg n ops o).l = lowOp Pg o → (lowLO Pg n ops o).d = o.dst → (∀ t, o.dst = some t → n.lo ≤ t ∧ t < n.hi) → Region.wanted o (yielded ops a.tmps) = true → A → X)
    (hB : (lowLO Pg n ops o).d = o.dst → (∀ t, o.dst = some t → n.lo ≤ t ∧ t < n.hi) → Region.wanted o (yielded ops a.tmps) = false → B → X)
    (hAbad : (lowLO Pg n ops o).l = .bad → (lowLO Pg n ops o).g = none → A → X)
    (hm : guardM e (lowLO Pg n ops o).g A B) : X := by
  have key := hm
  unfold lowLO at hm
  split at hm
  · rename_i h1 h2
    have hd : ∀ t, o.dst = some t → n.lo ≤ t ∧ t < n.hi := by
      intro t ht; rw [ht] at h1; exact NN.ok_spec h1
    refine hA (by unfold lowLO; rw [h1, h2]) (by unfold lowLO; rw [h1, h2]) hd (wanted_none h2) hm
  · rename_i j want h1 h2
    have hd : ∀ t, o.dst = some t → n.lo ≤ t ∧ t < n.hi := by
      intro t ht; rw [ht] at h1; exact NN.ok_spec h1
    split at hm
    · rename_i t ht
      have e1 : (lowLO Pg n ops o).l = lowOp Pg o := by unfold lowLO; rw [h1, h2]; simp only [ht]
      have e2 : (lowLO Pg n ops o).d = o.dst := by unfold lowLO; rw [h1, h2]; simp only [ht]
      unfold guardM at hm
      simp only at hm
      split at hm
      · rename_i v hv
        have hw := wanted_of ha h2 ht hv
        cases hgw : gW v want with
        | true => exact hA e1 e2 hd (hw.trans hgw) (hm.1 hgw)
        | false => exact hB e2 hd (hw.trans hgw) (hm.2 hgw)
      · exact hm.elim
    · rename_i ht
      exact hAbad (by unfold lowLO; rw [h1, h2]; simp only [ht]) (by unfold lowLO; rw [h1, h2]; simp only [ht]) hm
  · rename_i h1
    exact hAbad (by unfold lowLO; rw [h1]) (by unfold lowLO; rw [h1]) hm


/-! ### Soundness -/
/-- What is known of a frame. -/
structure At (n : NN) (ds : List Deferred) (e : Env) (a : Act) : Prop where
  defers : a.defers = ds
  size : a.tmps.size = n.hi
  agree : agree e a
theorem put_defers (a : Act) (d : Option Nat) (v : Value) : (a.put d v).defers = a.defers := by cases d <;> rfl
theorem At.put {n : NN} {ds : List Deferred} {e : Env} {a : Act} (x : At n ds e a) {d : Option Nat} (hd : ∀ t, d = some t → n.lo ≤ t ∧ t < n.hi) (v : Value) : At n ds (e.put d v) (a.put d v) := by
  refine ⟨(put_defers _ _ _).trans x.defers, ?_, ?_⟩
  · cases d with
    | none => exact x.size
    | some t => simp [Act.put, x.size]
  · cases d with
    | none => exact x.agree
    | some d =>
      intro t u hg
      have hlt : d < a.tmps.size := by rw [x.size]; exact (hd d rfl).2
      simp only [Env.put, Env.get] at hg
      by_cases hdt : d = t
      · subst hdt
        simp only [if_true, Option.some.injEq] at hg
        subst hg
        simp [Act.put, hlt]
      · rw [if_neg hdt] at hg
        have := x.agree t u hg
        simp only [Act.put]
        rw [Array.getElem?_setIfInBounds_ne hdt]
        exact this

section
variable {Pg : Program} {P : Cx Pg}
/-- The ways out that are walked. -/
def okX : Exit → Prop
  | .normal | .exit _ | .ret => True
  | _ => False
/-- Where the walk goes on behind a piece of code. -/
def Aft (P : Cx Pg) (b : Frame) (k : List Item) (cs : List Frame) : Exit → Act → H → Prop
  | .normal, a, h => P.J (G (b.at a k) cs) h
  | .exit id, a, h => ∃ k', exitTo id k = some k' ∧ P.J (G (b.at a k') cs) h
  | .ret, a, h => ∀ todo, P.J (G { b.at a todo with mode := .returning } cs) h
  | _, _, _ => False
/-- A way out other than the normal one passes a plain item. -/
theorem Aft.push {b : Frame} {x : Item} {k : List Item} {cs : List Frame} {e : Exit} {a : Act} {h : H} (hx : x.plain = true) (he : e ≠ .normal) (ha : Aft P b k cs e a h) : Aft P b (x :: k) cs e a h := by
  cases e with
  | normal => exact absurd rfl he
  | exit id => obtain ⟨k', hk, hg⟩ := ha; exact ⟨k', by cases x <;> simp_all [exitTo, Item.plain], hg⟩
  | ret => exact ha
  | goto l => exact ha
  | panic ch => exact ha
  | outgrown => exact ha

theorem ops_sound {ds : List Deferred} {b : Frame} {k : List Item} {cs : List Frame} (hkd : b.kind ≠ .early) {n : NN} {ops : Array Oper} {K : Env → H → Prop} {X : List PanicEntry → H → Prop}
    (hK : ∀ e h a, At n ds e a → K e h → P.J (G (b.at a k) cs) h) : ∀ (l : List Nat) (e : Env) (h : H) (a : Act), At n ds e a →
    vcOps P (l.map fun i => match ops[i]? with | some o => lowLO Pg n ops o | none => ⟨none, none, .bad⟩) K X e h → P.J (G (b.at a (.inRegion ops l :: k)) cs) h
  | [], e, h, a, x, hm => Cx.idle rfl (fun _ => stepG_region_end) (hK e h a x hm)
  | i :: r, e, h, a, x, hm => by
    simp only [List.map_cons, vcOps] at hm
    cases ho : ops[i]? with
    | none => rw [ho] at hm; exact hm.elim
    | some o =>
      rw [ho] at hm
      refine guard_sound (P := P) (n := n) (ops := ops) (o := o) x.agree (fun h => h.elim) ?_ ?_ ?_ hm
      · intro e1 e2 hd hw hA
        rw [e1, e2] at hA
        exact l_does x.agree o hA b a k cs ops i r o ho hw hkd (fun _ => rfl) fun v h' hv => ops_sound hkd hK r _ _ _ (x.put hd v) hv
      · intro e2 hd hw hB
        rw [e2] at hB
        exact Cx.idle rfl (fun _ => stepG_unwanted ho hw) (ops_sound hkd hK r _ _ _ (x.put hd undef) hB)
      · intro e1 _ hA
        rw [e1] at hA
        exact hA.elim
theorem range_map (ops : Array Oper) (f : Oper → LO) (d : LO) : (List.range ops.size).map (fun i => match ops[i]? with | some o => f o | none => d) = ops.toList.map f := by
  apply List.ext_getElem?
  intro i
  simp only [List.getElem?_map]
  by_cases hi : i < ops.size
  · rw [List.getElem?_range hi]
    simp [hi]
  · rw [List.getElem?_eq_none (by simpa using Nat.le_of_not_lt hi)]
    simp [Nat.le_of_not_lt hi]

theorem qV_noLd {l : L} {e : Env} {h h' : H} (hq : isQ l = true) (hl : isLd l = false) : qV l e h = qV l e h' := by
  cases l <;> first | rfl | (simp [isLd] at hl; done)

def Srel (S : List (Nat × L × Env × Value)) (S' : Sts) : Prop :=
  ∀ p' ∈ S', (∀ w, p'.2 w) ∨ ∃ p ∈ S, p.1 = p'.1 ∧ ∀ w, qV p.2.1 p.2.2.1 w = some p.2.2.2 → p'.2 w
theorem stab_mem {Z : List Nat} {S : List (Nat × L × Env × Value)} {h : H} (hs : stab Z S h) : ∀ p ∈ S, p.1 ∈ Z → qV p.2.1 p.2.2.1 h = some p.2.2.2 := by
  induction S with
  | nil => intro p hp; cases hp
  | cons q r ih =>
    intro p hp hz
    have hs' : if Z.contains q.1 = true then qV q.2.1 q.2.2.1 h = some q.2.2.2 ∧ stab Z r h else stab Z r h := hs
    rcases List.mem_cons.1 hp with hp | hp
    · subst hp
      rw [if_pos (by simpa using hz)] at hs'
      exact hs'.1
    · split at hs'
      · exact ih hs'.2 p hp hz
      · exact ih hs' p hp hz
theorem Srel.stab {S : List (Nat × L × Env × Value)} {S' : Sts} (hr : Srel S S') {Z : List Nat} {w : H} (hs : stab Z S w) : stabW Z S' w := by
  intro p' hp' hz
  rcases hr p' hp' with h | ⟨p, hp, he, h⟩
  · exact h w
  · exact h w (stab_mem hs p hp (he ▸ hz))

theorem dt_sound {ds : List Deferred} {n : NN} {ops : Array Oper} {K : Env → H → Prop} {X : List PanicEntry → H → Prop} {Q : Act → H → Prop}
    (hK : ∀ e h a, At n ds e a → K e h → Q a h) : ∀ (t : HT) (S : List (Nat × L × Env × Value)) (S' : Sts) (e : Env) (h : H) (a : Act), At n ds e a → Srel S S' →
    vcDT P (lowDT Pg n ops t) K X S e h → wpT P ops Q t S' a h
  | .done, S, S', e, h, a, x, hr, hm => hK e h a x hm
  | .q i r, S, S', e, h, a, x, hr, hm => by
    have bad : ¬ vcDT P (.q i ⟨none, none, .bad⟩ .done) K X S e h := by
      intro hm; exact hm.elim
    unfold lowDT at hm
    split at hm
    · rename_i o ho
      split at hm
      · rename_i hq
        refine ⟨o, ho, ?_⟩
        simp only [vcDT] at hm
        refine guard_sound (P := P) (n := n) (ops := ops) (o := o) x.agree (fun h => h.elim) ?_ ?_ ?_ hm
        · intro e1 e2 hd hw hA
          rw [e1, e2] at hA
          unfold opt at hA
          split at hA
          · rename_i v hv
            have hy : ∀ h', qV (lowOp Pg o) e h' = some v → QY Pg o a h' v := fun h' hv' w hh => q_sound x.agree hh o hq hv'
            refine .inl ⟨hw, v, hy h hv, ?_⟩
            refine dt_sound hK r _ _ _ _ _ (x.put hd v) ?_ hA
            intro p' hp'
            rcases List.mem_cons.1 hp' with rfl | hp'
            · cases hl : isLd (lowOp Pg o) with
              | true => exact .inr ⟨_, by simp only [if_true]; exact List.mem_cons_self, rfl, hy⟩
              | false => exact .inl fun w' => hy w' (by rw [qV_noLd hq hl (h' := h)]; exact hv)
            · rcases hr p' hp' with h' | ⟨p, hp, h'⟩
              · exact .inl h'
              · refine .inr ⟨p, ?_, h'⟩
                split
                · exact List.mem_cons_of_mem _ hp
                · exact hp
          · exact hA.elim
        · intro e2 hd hw hB
          rw [e2] at hB
          exact .inr ⟨hw, dt_sound hK r _ _ _ _ _ (x.put hd undef) hr hB⟩
        · intro e1 _ hA
          rw [e1] at hA
          exact hA.elim
      · exact (bad hm).elim
    · exact (bad hm).elim
  | .e i Z r, S, S', e, h, a, x, hr, hm => by
    have bad : ¬ vcDT P (.q i ⟨none, none, .bad⟩ .done) K X S e h := by
      intro hm; exact hm.elim
    unfold lowDT at hm
    split at hm
    · rename_i o ho
      refine ⟨o, ho, ?_⟩
      simp only [vcDT] at hm
      refine guard_sound (P := P) (n := n) (ops := ops) (o := o) x.agree (fun h => h.elim) ?_ ?_ ?_ hm
      · intro e1 e2 hd hw hA
        rw [e1, e2] at hA
        refine .inl ⟨hw, Does.mono (l_does x.agree o hA) ?_⟩
        intro v h' hKv
        exact ⟨hr.stab hKv.1, dt_sound hK r _ _ _ _ _ (x.put hd v) hr hKv.2⟩
      · intro e2 hd hw hB
        rw [e2] at hB
        exact .inr ⟨hw, dt_sound hK r _ _ _ _ _ (x.put hd undef) hr hB⟩
      · intro e1 _ hA
        rw [e1] at hA
        exact hA.elim
    · exact (bad hm).elim
  | .al i Z r t, S, S', e, h, a, x, hr, hm => by
    have bad : ¬ vcDT P (.q i ⟨none, none, .bad⟩ .done) K X S e h := by
      intro hm; exact hm.elim
    unfold lowDT at hm
    split at hm
    · rename_i o ho
      simp only [vcDT] at hm
      obtain ⟨hm, hm'⟩ := hm
      refine ⟨⟨o, ho, ?_⟩, dt_sound hK t _ _ _ _ _ x hr hm'⟩
      refine guard_sound (P := P) (n := n) (ops := ops) (o := o) x.agree (fun h => h.elim) ?_ ?_ ?_ hm
      · intro e1 e2 hd hw hA
        rw [e1, e2] at hA
        refine .inl ⟨hw, Does.mono (l_does x.agree o hA) ?_⟩
        intro v h' hKv
        exact ⟨hr.stab hKv.1, dt_sound hK r _ _ _ _ _ (x.put hd v) hr hKv.2⟩
      · intro e2 hd hw hB
        rw [e2] at hB
        exact .inr ⟨hw, dt_sound hK r _ _ _ _ _ (x.put hd undef) hr hB⟩
      · intro e1 _ hA
        rw [e1] at hA
        exact hA.elim
    · exact (bad hm).elim

theorem evs_get {e : Env} {a : Act} (ha : agree e a) : ∀ {S : List Nat} {vs : List Value}, evs e (S.map .tmp) = some vs → vs.length = S.length ∧ ∀ t v, Env.get (S.zip vs) t = some v → a.tmps[t]? = some v
  | [], vs, h => by
    simp only [List.map_nil, evs, Option.some.injEq] at h; subst h
    exact ⟨rfl, fun t v h => by cases h⟩
  | s :: r, vs, h => by
    simp only [List.map_cons, evs] at h
    obtain ⟨v, h1, h2⟩ := bindo h
    obtain ⟨ws, h3, h4⟩ := bindo h2
    simp only [Option.some.injEq] at h4; subst h4
    obtain ⟨h5, h6⟩ := evs_get ha h3
    refine ⟨by simp [h5], fun t u hg => ?_⟩
    simp only [List.zip_cons_cons, Env.get] at hg
    by_cases hst : s = t
    · rw [if_pos hst] at hg
      simp only [Option.some.injEq] at hg; subst hg; subst hst
      exact ha s v h1
    · rw [if_neg hst] at hg
      exact h6 t u hg
theorem keep_get (e : Env) : ∀ (L : List Nat) (t : Nat) (v : Value), (e.keep L).get t = some v → e.get t = some v
  | [], t, v, h => by cases h
  | s :: r, t, v, h => by
    unfold Env.keep at h
    split at h
    · rename_i u hu
      simp only [Env.get] at h
      by_cases hst : s = t
      · rw [if_pos hst] at h
        rw [← hst, hu]; exact h
      · rw [if_neg hst] at h
        exact keep_get e r t v h
    · exact keep_get e r t v h
theorem get_append (e f : Env) (t : Nat) (v : Value) (h : Env.get (e ++ f) t = some v) : e.get t = some v ∨ f.get t = some v := by
  induction e with
  | nil => exact .inr h
  | cons p r ih =>
    simp only [List.cons_append, Env.get] at h ⊢
    split at h
    · rename_i hp; left; rw [if_pos hp]; exact h
    · rename_i hp; rw [if_neg hp]; exact ih h

theorem vc_sound : ∀ (c : Code) {n : NN} {ds : List Deferred} (ht : Hint) (Q : Post) (e : Env) (h : H) (a : Act), At n ds e a → vc P (lowC Pg n ht c) Q e h →
    ∀ (b : Frame) (k : List Item) (cs : List Frame), b.kind ≠ .early → (∀ x e' h' a', okX x → At n ds e' a' → Q x e' h' → Aft P b k cs x a' h') → P.J (G (b.at a (.code c :: k)) cs) h := by
  intro c
  induction c with
  | skip =>
    intro n dsv ht Q e h a x hm b k cs hkd hQ
    cases ht <;> simp only [lowC, vc] at hm
    exact Cx.idle rfl (fun _ => stepG_skip) (hQ .normal _ _ _ trivial x hm)
  | label l =>
    intro n dsv ht Q e h a x hm b k cs hkd hQ
    cases ht <;> simp only [lowC, vc] at hm
    exact Cx.idle rfl (fun _ => stepG_label) (hQ .normal _ _ _ trivial x hm)
  | ret =>
    intro n dsv ht Q e h a x hm b k cs hkd hQ
    cases ht <;> simp only [lowC, vc] at hm
    exact Cx.idle rfl (fun _ => stepG_ret') (hQ .ret _ _ _ trivial x hm _)
  | exit id =>
    intro n dsv ht Q e h a x hm b k cs hkd hQ
    cases ht <;> simp only [lowC, vc] at hm
    obtain ⟨k', hk', hg⟩ := hQ (.exit id) _ _ _ trivial x hm
    exact Cx.idle rfl (fun _ => stepG_exit hk') hg
  | goto l =>
    intro n dsv ht Q e h a x hm b k cs hkd hQ
    cases ht <;> simp only [lowC, vc] at hm
  | region id ops draw =>
    intro n dsv ht Q e h a x hm b k cs hkd hQ
    cases ht with
    | leaf =>
      cases draw with
      | true => simp only [lowC, vc] at hm
      | false =>
        simp only [lowC] at hm
        split at hm
        · rename_i hnd
          simp only [vc] at hm
          refine Cx.idle rfl (fun _ => stepG_region) ?_
          rw [← range_map ops (lowLO Pg n ops) ⟨none, none, .bad⟩] at hm
          exact ops_sound hkd (fun e h a x hK => hQ .normal _ _ _ trivial x hK) _ e h a x hm
        · exact hm.elim
    | draw A t =>
      cases draw with
      | false => simp only [lowC, vc] at hm
      | true =>
        simp only [lowC] at hm
        split at hm
        · rename_i hok'
          obtain ⟨hok, hnd, hdst⟩ := hok'
          simp only [okDraw, Bool.and_eq_true, beq_iff_eq] at hok
          obtain ⟨⟨⟨⟨⟨h1, h2⟩, h3⟩, h4⟩, h5⟩, h6⟩ := hok
          simp only [vc] at hm
          exact region_tree (Q := fun a h => P.J (G (b.at a k) cs) h) hkd (fun _ _ h => h) h1 h2 h3 h4 h5 h6 (dt_sound (n := n) (fun e h a x hK => hQ .normal e h a trivial x hK) t [] [] e h a x (fun p hp => by cases hp) hm)
        · exact hm.elim
    | _ => simp only [lowC, vc] at hm
  | seq x y ihx ihy =>
    intro n dsv ht Q e h a st hm b k cs hkd hQ
    cases ht with
    | seq hx L hy =>
      simp only [lowC, vc] at hm
      refine Cx.idle rfl (fun _ => stepG_seq) (ihx hx _ e h a st hm b (.code y :: k) cs hkd ?_)
      intro ex e' h' a' hx' st' hq
      cases ex with
      | normal => exact ihy hy _ _ _ _ ⟨st'.defers, st'.size, fun t v hg => st'.agree t v (keep_get e' L t v hg)⟩ hq b k cs hkd hQ
      | _ => exact (hQ _ _ _ _ hx' st' hq).push rfl (by simp)
    | _ => simp only [lowC, vc] at hm
  | cond c x y ihx ihy =>
    intro n dsv ht Q e h a st hm b k cs hkd hQ
    cases ht with
    | cond hx hy =>
      simp only [lowC, vc, condM] at hm
      split at hm
      · rename_i t hc
        have hev := ev_sound st.agree hc
        refine Cx.idle rfl (fun _ => stepG_cond (t := t) hev) ?_
        cases t with
        | true => exact ihx hx _ e h a st (hm.1 rfl) b k cs hkd hQ
        | false => exact ihy hy _ e h a st (hm.2 rfl) b k cs hkd hQ
      · exact hm.elim
    | _ => simp only [lowC, vc] at hm
  | block id x ih =>
    intro n dsv ht Q e h a st hm b k cs hkd hQ
    cases ht with
    | block hx =>
      simp only [lowC, vc] at hm
      refine Cx.idle rfl (fun _ => stepG_block) (ih hx _ e h a st hm b (.inBlock id :: k) cs hkd ?_)
      intro ex e' h' a' hx' st' hq
      cases ex with
      | normal => exact Cx.idle rfl (fun _ => stepG_inBlock) (hQ _ _ _ _ hx' st' hq)
      | exit i =>
        by_cases hi : i = id
        · simp only [hi, if_true] at hq
          exact ⟨k, by simp [exitTo, hi], hQ .normal _ _ _ trivial st' hq⟩
        · simp only [if_neg hi] at hq
          obtain ⟨k', hk', hg⟩ := hQ (.exit i) _ _ _ trivial st' hq
          have : (id == i) = false := by simp; exact fun h => hi h.symm
          exact ⟨k', by simp [exitTo, this, hk'], hg⟩
      | ret => exact hQ _ _ _ _ hx' st' hq
      | goto l => exact hQ _ _ _ _ hx' st' hq
      | panic c => exact hQ _ _ _ _ hx' st' hq
      | outgrown => exact hQ _ _ _ _ hx' st' hq
    | _ => simp only [lowC, vc] at hm
  | loop x ih =>
    intro n dsv ht Q e h a st hm b k cs hkd hQ
    cases ht with
    | loop S K hx =>
      simp only [lowC, vc] at hm
      obtain ⟨I, μ, ⟨vs, h1, h2⟩, hround⟩ := hm
      have vsof : ∀ {e : Env} {a : Act} {vs : List Value}, agree e a → evs e (S.map .tmp) = some vs → vs = S.map fun t => a.tmps.getD t undef := by
        intro e a vs ha hv
        rw [← evs_sound ha hv, List.map_map]
        rfl
      have lift : ∀ {e' : Env} {a : Act} {vs : List Value}, agree e' a → evs e' (S.map .tmp) = some vs → e'.keep K = e.keep K → agree (S.zip vs ++ e.keep K) a := by
        intro e' a vs ha hv hk t v hg
        rcases get_append _ _ t v hg with hg | hg
        · exact (evs_get ha hv).2 t v hg
        · rw [← hk] at hg
          exact ha t v (keep_get e' K t v hg)
      have key : ∀ (N : Nat) (h : H) (a : Act) (vs : List Value), μ vs h ≤ N → vs.length = S.length → I vs h → At n dsv (S.zip vs ++ e.keep K) a → P.J (G (b.at a (.code x :: .inLoop x :: k)) cs) h := by
        intro N
        induction N with
        | zero =>
          intro h a vs hN hl hI hat
          refine ih hx _ _ h a hat (hround vs h hl hI) b _ cs hkd ?_
          intro ex e' h' a' hx' st' hq
          cases ex with
          | normal => obtain ⟨⟨vs', m1, m2, m3⟩, m4⟩ := hq; omega
          | _ => exact (hQ _ _ _ _ hx' st' hq).push rfl (by simp)
        | succ N ihN =>
          intro h a vs hN hl hI hat
          refine ih hx _ _ h a hat (hround vs h hl hI) b _ cs hkd ?_
          intro ex e' h' a' hx' st' hq
          cases ex with
          | normal =>
            obtain ⟨⟨vs', m1, m2, m3⟩, m4⟩ := hq
            refine Cx.idle rfl (fun _ => stepG_inLoop) (ihN h' a' vs' (by omega) (evs_get st'.agree m1).1 m2 ⟨st'.defers, st'.size, lift st'.agree m1 m4⟩)
          | _ => exact (hQ _ _ _ _ hx' st' hq).push rfl (by simp)
      exact Cx.idle rfl (fun _ => stepG_loop) (key _ h a vs (Nat.le_refl _) (evs_get st.agree h1).1 h2 ⟨st.defers, st.size, lift st.agree h1 rfl⟩)
    | _ => simp only [lowC, vc] at hm
  | _ =>
    intro n dsv ht Q e h a x hm b k cs hkd hQ
    cases ht <;> simp only [lowC, vc] at hm
end
end Go.Proofs.Ytojhnclkhiffkaa

