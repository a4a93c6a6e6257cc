/-
  The invariant, who stands where. A step of a worker's behind its walk.
-/
import Derived.Test.YtojhnclkhiffkaaU6
namespace Go.Proofs.Ytojhnclkhiffkaa
open Go.Conc Go.RowKit
open Go.ConcN (upd upd_same upd_ne RelBy WSit WgLive PayAt AsideCell RW DWs AtR0 AtK1 AtD1 AtD2 AtD3 AtD4 CTag WD Vc cnt pend isOpen isW3 isFin OpenSt AllQuit Vc_le Vc_upd le_sumTo bk_cell others_uncounted Com get_map_set get_map_set_same deafBehind_idle cell_of_block)
open Go.ConcR (rd wr mk stA smA WgAt wgBlock KK DC0 Bk Payload g_of_ofEvents ofEvent_cell ofEvent_mk ofEvent_loc_mark bk_of_mute loc_of_ofEvent again_blocked)
set_option linter.unusedVariables false

def updC {α : Type 1} (f : Nat → α) (i : Nat) (x : α) : Nat → α := fun a => if a = i then x else f a
theorem updC_same {α : Type 1} (f : Nat → α) (i : Nat) (x : α) : updC f i x i = x := by simp [updC]
theorem updC_ne {α : Type 1} (f : Nat → α) {i a : Nat} (x : α) (h : a ≠ i) : updC f i x a = f a := by simp [updC, h]
def wdf (D : Nat → Ch) (i : Nat) : WD := ⟨min 7 (D (i + 1)).stage, (D (i + 1)).fuel, (D (i + 1)).deaf⟩
theorem wdf_upd (D : Nat → Ch) {k : Nat} (k1 : 1 ≤ k) (c : Ch) : wdf (updC D k c) = upd (wdf D) (k - 1) ⟨min 7 c.stage, c.fuel, c.deaf⟩ := by
  funext i
  by_cases e : i = k - 1
  · subst e
    rw [upd_same, wdf, show k - 1 + 1 = k by omega, updC_same]
  · rw [upd_ne _ _ e, wdf, wdf, updC_ne _ _ (by omega)]
def tagOf (ph V : Nat) (blk : Bool) : CTag :=
  match ph with
  | 0 => .kd
  | 1 => .anch
  | 2 => .sp 0 3
  | 3 => .sp 0 3
  | 4 => .w2 V
  | 5 => if blk then .blk else .w3
  | 6 => .w4
  | _ => .acq
def dph (ph : Nat) : Nat := if ph = 1 ∨ ph = 2 ∨ ph = 4 ∨ ph = 5 ∨ ph = 6 then 1 else 0
def dfsOf (ph : Nat) (D : Nat → Ch) (k : Nat) : Nat := if k = 0 then dph ph else (D k).deaf
def bl (blk : Bool) (a : Goroutine) : Goroutine := if blk then { a with status := .blocked } else a

section
variable (pr : Pro) (P : Program)
/-- Where a worker stands. -/
def Sit (Wg : Nat) (c : Ch) (h : H) (g : Goroutine) (w : World) : Prop :=
  (c.stage = 8 ∧ c.deaf = 0 ∧ TW pr P c.rk g h) ∨
  (c.stage ≤ 7 ∧ @WSit ⟨c.E⟩ P pr.tg Wg c.C 1 noL noL 0 1 c.v c.stage c.fuel c.deaf g w ∧ h c.C = some (.deferred none) ∧ pr.post c.d (hdel h c.C))
structure Cmp (j M Wg : Nat) (e0 : Value) (γ : List Value) (ph V : Nat) (ds : List Value) (N0 : Nat) (W0 : World) (Hs : Nat → H) (D : Nat → Ch) (blk : Bool) (gs : Array Goroutine) (w : World) (t : Trace) : Prop where
  I : HI pr j M Wg e0 γ ph V ds N0 W0 Hs w
  tr : TI pr j M Wg γ Hs (fun k => (D k).stage) (dfsOf ph D) t w.heap.size
  size : gs.size = j + 1
  sit : ∀ k, 1 ≤ k → k ≤ j → ∃ g, gs[k]? = some g ∧ Sit pr P Wg (D k) (Hs k) g w
  dd : ∀ k, 1 ≤ k → k ≤ j → ds[k - 1]? = some (D k).d
  wg : ∃ st sm, WgAt pr.tg Wg w st sm ∧ Go.ConcN.Mode j (wdf D) (tagOf ph V blk) st sm
  bd : ph = 1 → Vc j (wdf D) ≤ V
  jb : j < 2147483647 ∧ ((ph = 2 ∨ ph = 3) ∨ 7 < ph → j < 2147483646 ∧ ph ≤ 7)
end
section
variable {pr : Pro} {P : Program} {j M Wg : Nat} {e0 : Value} {γ : List Value} {ph V : Nat} {ds : List Value} {N0 : Nat} {W0 : World} {Hs : Nat → H} {D : Nat → Ch} {blk : Bool} {gs : Array Goroutine} {w w' : World} {t : Trace}
theorem rw_of {E : TypeId} {C : Nat} (hC : w'.heap[C]? = w.heap[C]?) (hl : WgLive pr.tg Wg w') : @RW ⟨E⟩ pr.tg Wg C 1 0 0 w w' := by
  letI : Payload := ⟨E⟩
  exact ⟨fun b hb => by omega, fun _ => hl, fun ⟨cs, h1, h2⟩ => ⟨cs, hC.trans h1, h2⟩, cell_of_block hC 0⟩
theorem Sit.rely {c : Ch} {h : H} {g : Goroutine} (s : Sit pr P Wg c h g w) (hC : c.stage ≤ 7 → w'.heap[c.C]? = w.heap[c.C]?) (hl : WgLive pr.tg Wg w') : Sit pr P Wg c h g w' := by
  rcases s with s | ⟨h1, h2, h3⟩
  · exact .inl s
  · exact .inr ⟨h1, @WSit.rely ⟨c.E⟩ _ _ _ _ _ _ _ _ _ _ _ _ _ _ _ _ h2 (rw_of (hC h1) hl), h3⟩
theorem TW.running {α : Tr} {g : Goroutine} {h : H} (s : TW pr P α g h) : g.status = .running := by
  cases α with
  | mk ι f =>
    have s' : RobW pr P (fun g h => ∃ i, TW pr P (f i) g h) g h := s
    cases s' <;> assumption
theorem Sit.status {c : Ch} {h : H} {g : Goroutine} (s : Sit pr P Wg c h g w) : g.status = .running ∨ g.status = .finished := by
  rcases s with ⟨_, _, s⟩ | ⟨_, h2, _⟩
  · exact .inl s.running
  · exact @WSit.status ⟨c.E⟩ _ _ _ _ _ _ _ _ _ _ _ _ _ _ _ h2
theorem Sit.woken {c : Ch} {h : H} {g : Goroutine} (s : Sit pr P Wg c h g w) (a a' : Goroutine) (w' : World) : woken P a a' w' g = g := by
  unfold Go.Conc.woken
  split
  · exact again_running _ s.status
  · rfl
theorem Cmp.lastCell (X : Cmp pr P j M Wg e0 γ ph V ds N0 W0 Hs D blk gs w t) {k : Nat} (k1 : 1 ≤ k) (hk : k ≤ j) (h7 : (D k).stage ≤ 7) : Hs k (D k).C = some (.deferred none) := by
  obtain ⟨g, _, s⟩ := X.sit k k1 hk
  rcases s with ⟨h8, _⟩ | ⟨_, _, h, _⟩
  · omega
  · exact h
theorem def_none {h hk : H} (a : Ap h hk) {b : Nat} (hb : hk b = some (.deferred none)) : h b = none := by
  cases h2 : h b with
  | none => rfl
  | some o =>
    exfalso
    have d := a _ _ _ h2 hb
    generalize hx : (Obj.deferred none) = x at d
    cases d <;> cases hx
theorem Cmp.live (X : Cmp pr P j M Wg e0 γ ph V ds N0 W0 Hs D blk gs w t) : WgLive pr.tg Wg w := let ⟨st, sm, h, _⟩ := X.wg; ⟨st, sm, h⟩

/-- THE ASSEMBLY behind a step of worker k. -/
theorem Cmp.asm (X : Cmp pr P j M Wg e0 γ ph V ds N0 W0 Hs D blk gs w t) {k : Nat} (k1 : 1 ≤ k) (hk : k ≤ j) {g g' a : Goroutine} {u : Trace} {c' : Ch} {Hs' : Nat → H} {γ' : List Value} {st' sm' : Int}
    (hg : gs[k]? = some g) (ha : gs[0]? = some (bl blk a)) (har : a.status = .running) (hblk : blk = true → ph = 5 ∧ a.offers = none)
    (I' : HI pr j M Wg e0 γ' ph V ds N0 W0 Hs' w') (tr' : TI pr j M Wg γ' Hs' (fun k' => (updC D k c' k').stage) (dfsOf ph (updC D k c')) (t ++ u) w'.heap.size)
    (hs : Sit pr P Wg c' (Hs' k) g' w') (hoth : ∀ k', k' ≠ k → Hs' k' = Hs k') (hC : ∀ k', 1 ≤ k' → k' ≤ j → k' ≠ k → (D k').stage ≤ 7 → w'.heap[(D k').C]? = w.heap[(D k').C]?) (hd : c'.d = (D k).d)
    (hwg : WgAt pr.tg Wg w' st' sm') (hmode : ∀ blk', (blk' = true → blk = true) → (mayWake P g = true → g'.status = .running → blk' = false) → Go.ConcN.Mode j (wdf (updC D k c')) (tagOf ph V blk') st' sm')
    (hbd : Vc j (wdf (updC D k c')) ≤ Vc j (wdf D)) :
    ∃ blk', Cmp pr P j M Wg e0 γ' ph V ds N0 W0 Hs' (updC D k c') blk' ((gs.map (woken P g g' w')).setIfInBounds k g') w' (t ++ u) ∧ ((gs.map (woken P g g' w')).setIfInBounds k g')[0]? = some (bl blk' a) ∧ (blk' = true → ph = 5 ∧ a.offers = none) := by
  have hl : WgLive pr.tg Wg w' := ⟨_, _, hwg⟩
  have core : ∀ blk', Go.ConcN.Mode j (wdf (updC D k c')) (tagOf ph V blk') st' sm' → Cmp pr P j M Wg e0 γ' ph V ds N0 W0 Hs' (updC D k c') blk' ((gs.map (woken P g g' w')).setIfInBounds k g') w' (t ++ u) := by
    intro blk' hm
    refine ⟨I', tr', by simp [X.size], fun k' h1 h2 => ?_, fun k' h1 h2 => ?_, ⟨st', sm', hwg, hm⟩, fun e => Nat.le_trans hbd (X.bd e), X.jb⟩
    · by_cases e : k' = k
      · subst e
        exact ⟨g', get_map_set_same _ _ _ (by rw [X.size]; omega), by rw [updC_same]; exact hs⟩
      · obtain ⟨x, hx, sx⟩ := X.sit k' h1 h2
        refine ⟨x, by rw [get_map_set _ _ _ _ (Ne.symm e), hx, Option.map_some, sx.woken], ?_⟩
        rw [updC_ne _ _ e, hoth k' e]
        exact sx.rely (hC k' h1 h2 e) hl
    · by_cases e : k' = k
      · subst e; rw [updC_same, hd]; exact X.dd k' h1 h2
      · rw [updC_ne _ _ e]; exact X.dd k' h1 h2
  have h0 : ((gs.map (woken P g g' w')).setIfInBounds k g')[0]? = some (woken P g g' w' (bl blk a)) := by rw [get_map_set _ _ _ _ (by omega), ha]; rfl
  by_cases hw : (mayWake P g && g'.status != .blocked && g'.status != .waiting) = true
  · cases blk with
    | false =>
      refine ⟨false, core false (hmode false id fun _ _ => rfl), ?_, by simp⟩
      rw [h0]
      unfold woken
      rw [if_pos hw]
      exact congrArg some (again_running _ (.inl har))
    | true =>
      refine ⟨false, core false (hmode false (by simp) fun _ _ => rfl), ?_, by simp⟩
      rw [h0]
      unfold woken
      rw [if_pos hw]
      exact congrArg some (again_blocked har (hblk rfl).2 w')
  · refine ⟨blk, core blk (hmode blk id fun h1 h2 => ?_), ?_, hblk⟩
    · exfalso; apply hw; simp [h1, h2]
    · rw [h0]; unfold woken; rw [if_neg hw]

/-- The library's bookkeeping, as operations. -/
theorem shop_of_Bk {k : Nat} {fn : FuncId} {pos : String} {es : Array Event} (h : ∀ e ∈ es, Bk Wg e) : ∀ op ∈ MemOp.ofEvents k fn pos es, ShOp (InB Wg) k op := by
  intro op hop
  rw [ofEvents_eq] at hop
  obtain ⟨e, he, rfl⟩ := Array.mem_map.1 hop
  refine ⟨rfl, fun x hx => ?_⟩
  rcases h e he with h1 | h1 | ⟨a, wr, rfl, ha⟩
  · simp only [ofEvent_loc_mark h1] at hx; cases hx
  · simp only [ofEvent_loc_mark h1] at hx; cases hx
  · simp only [ofEvent_cell, MemAct.touch?, Option.some.injEq] at hx
    subst hx
    exact ⟨⟨a, rfl, ha⟩, by simp, by simp⟩
theorem Rel.new {k : Nat} (hd : Deaf t k = 0) (fn : FuncId) (pos : String) : Rel Wg (t ++ MemOp.ofEvents k fn pos #[Go.ConcR.mk (.releaseMerge (stA Wg))]) k t.size := by
  refine ⟨RelBy.new hd fn pos, fun i x hi hg hx => ?_⟩
  have e1 : MemOp.ofEvents k fn pos #[Go.ConcR.mk (.releaseMerge (stA Wg))] = #[{ g := k, fn, pos, act := .mark (.releaseMerge (stA Wg)) }] := by rw [ofEvents_eq]; simp [ofEvent_mk]
  obtain ⟨op, hop, _⟩ := touch_of hx
  have := lt_size_of_getElem? hop
  rw [e1] at this
  simp at this
  omega
end
end Go.Proofs.Ytojhnclkhiffkaa
