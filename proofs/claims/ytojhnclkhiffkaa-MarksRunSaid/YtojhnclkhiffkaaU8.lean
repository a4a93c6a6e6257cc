/-
  A step of a worker's behind its walk: at its deferred 'Done', to its end.
-/
import Derived.Test.YtojhnclkhiffkaaU7
namespace Go.Proofs.Ytojhnclkhiffkaa
open Go.Conc Go.RowKit
open Go.ConcN (upd upd_same upd_ne RelBy WSit WgLive PayAt AsideCell RW DWs AtR0 AtK1 AtD1 AtD2 AtD3 AtD4 CTag WD Vc cnt pend isOpen isW3 isFin OpenSt AllQuit Vc_le Vc_upd le_sumTo bk_cell others_uncounted get_map_set get_map_set_same deafBehind_idle cell_of_block sumTo)
open Go.ConcR (rd wr mk stA smA WgAt wgBlock KK DC0 Bk Payload g_of_ofEvents ofEvent_cell ofEvent_mk ofEvent_loc_mark bk_of_mute loc_of_ofEvent again_blocked)
set_option linter.unusedVariables false

theorem tagOf_re {ph V : Nat} {blk blk' : Bool} (h : blk' = true → blk = true) : tagOf ph V blk' = tagOf ph V blk ∨ (tagOf ph V blk = .blk ∧ tagOf ph V blk' = .w3) := by
  cases blk <;> cases blk'
  · exact .inl rfl
  · exact absurd (h rfl) (by simp)
  · match ph with
    | 5 => exact .inr ⟨rfl, rfl⟩
    | 0 | 1 | 2 | 3 | 4 | 6 => exact .inl rfl
    | n + 7 => exact .inl rfl
  · exact .inl rfl
theorem tagOf_blk {ph V : Nat} {blk : Bool} (h : tagOf ph V blk = .blk) : blk = true := by
  cases blk with
  | true => rfl
  | false =>
    match ph, h with
    | 0, h | 1, h | 2, h | 3, h | 4, h | 5, h | 6, h => simp [tagOf] at h
    | n + 7, h => simp [tagOf] at h
theorem tagOf_noret {ph V : Nat} {blk : Bool} : tagOf ph V blk ≠ .ret := by
  match ph with
  | 0 | 1 | 2 | 3 | 4 | 6 => simp [tagOf]
  | 5 => cases blk <;> simp [tagOf]
  | n + 7 => simp [tagOf]
section
variable {pr : Pro} {P : Program} {j M Wg : Nat} {e0 : Value} {γ : List Value} {ph V : Nat} {ds : List Value} {N0 : Nat} {W0 : World} {Hs : Nat → H} {D : Nat → Ch} {blk : Bool} {gs : Array Goroutine} {w w' : World} {t : Trace}

set_option maxHeartbeats 4000000 in
theorem Cmp.low (X : Cmp pr P j M Wg e0 γ ph V ds N0 W0 Hs D blk gs w t) {k : Nat} (k1 : 1 ≤ k) (hk : k ≤ j) (h7 : (D k).stage ≤ 7) {g a : Goroutine} (hg : gs[k]? = some g) (hrun : g.status = .running)
    (ha : gs[0]? = some (bl blk a)) (har : a.status = .running) (hblk : blk = true → ph = 5 ∧ a.offers = none) :
    ∃ g' w' es c' blk', stepG P false g w = .go g' w' es ∧ Cmp pr P j M Wg e0 γ ph V ds N0 W0 Hs (updC D k c') blk' ((gs.map (woken P g g' w')).setIfInBounds k g') w' (t ++ MemOp.ofEvents k g.frame.fn g.frame.place es) ∧
      ((gs.map (woken P g g' w')).setIfInBounds k g')[0]? = some (bl blk' a) ∧ (blk' = true → ph = 5 ∧ a.offers = none) ∧ c'.rk = (D k).rk ∧ (c'.stage < (D k).stage ∨ (c'.stage = (D k).stage ∧ c'.fuel + 1 = (D k).fuel)) := by
  obtain ⟨g₁, hg₁, hs⟩ := X.sit k k1 hk
  obtain rfl : g = g₁ := by rw [hg] at hg₁; exact Option.some.inj hg₁
  rcases hs with ⟨h8, _⟩ | ⟨_, hs, hC, hp⟩
  · omega
  letI : Payload := ⟨(D k).E⟩
  obtain ⟨st, sm, hwg, hmode⟩ := X.wg
  have hi : k - 1 < j := by omega
  have hki : k - 1 + 1 = k := by omega
  have hdk0 : Deaf t k = (D k).deaf := by
    have := X.tr.df k hk
    rw [this, dfsOf, if_neg (by omega)]
  have hDi : wdf D (k - 1) = ⟨(D k).stage, (D k).fuel, (D k).deaf⟩ := by
    unfold wdf
    rw [hki, Nat.min_eq_right h7]
  generalize hst : (D k).stage = s at hs
  generalize hfu : (D k).fuel = m at hs
  generalize hde : (D k).deaf = dd at hs
  rw [hst, hfu, hde] at hDi
  have hsi : (wdf D (k - 1)).stage = s := by rw [hDi]
  have hdk : Deaf t k = dd := by rw [hdk0, hde]
  have hjb := X.jb
  have hVj := Vc_le j (wdf D)
  have nWC : Wg ≠ (D k).C := by
    rintro e
    rcases X.I.atW hk with h1 | ⟨E, n, t, s, L, h1, _⟩ <;> rw [e] at h1 <;> rw [h1] at hC <;> cases hC
  -- THE ASSEMBLY
  have asm : ∀ {g' : Goroutine} {w' : World} {es : Array Event} {s' m' dd' : Nat} {st' sm' : Int}, stepG P false g w = .go g' w' es → s' ≤ 7 → HI pr j M Wg e0 γ ph V ds N0 W0 Hs w' → WSit P pr.tg Wg (D k).C 1 noL noL 0 1 (D k).v s' m' dd' g' w' →
      TI pr j M Wg γ Hs (fun k' => (updC D k { D k with stage := s', fuel := m', deaf := dd' } k').stage) (dfsOf ph (updC D k { D k with stage := s', fuel := m', deaf := dd' })) (t ++ MemOp.ofEvents k g.frame.fn g.frame.place es) w'.heap.size →
      (∀ k', 1 ≤ k' → k' ≤ j → k' ≠ k → (D k').stage ≤ 7 → w'.heap[(D k').C]? = w.heap[(D k').C]?) → WgAt pr.tg Wg w' st' sm' →
      (∀ tag', (tag' = tagOf ph V blk ∨ (tagOf ph V blk = .blk ∧ tag' = .w3)) → (mayWake P g = true → g'.status = .running → tag' ≠ .blk) → Go.ConcN.Mode j (upd (wdf D) (k - 1) ⟨s', m', dd'⟩) tag' st' sm') →
      ((s' < s ∧ cnt ⟨s', m', dd'⟩ ≤ cnt (wdf D (k - 1))) ∨ (s' = s ∧ m' + 1 = m)) →
      ∃ g' w' es c' blk', stepG P false g w = .go g' w' es ∧ Cmp pr P j M Wg e0 γ ph V ds N0 W0 Hs (updC D k c') blk' ((gs.map (woken P g g' w')).setIfInBounds k g') w' (t ++ MemOp.ofEvents k g.frame.fn g.frame.place es) ∧
        ((gs.map (woken P g g' w')).setIfInBounds k g')[0]? = some (bl blk' a) ∧ (blk' = true → ph = 5 ∧ a.offers = none) ∧ c'.rk = (D k).rk ∧ (c'.stage < s ∨ (c'.stage = s ∧ c'.fuel + 1 = m)) := by
    intro g' w' es s' m' dd' st' sm' hgo hs7 hI hs' htr hCs hwg' hm hlt
    have ewd : wdf (updC D k { D k with stage := s', fuel := m', deaf := dd' }) = upd (wdf D) (k - 1) ⟨s', m', dd'⟩ := by
      rw [wdf_upd D k1]
      simp only [Nat.min_eq_right hs7]
    obtain ⟨blk', c1, c2, c3⟩ := X.asm k1 hk (c' := { D k with stage := s', fuel := m', deaf := dd' }) hg ha har hblk hI htr (.inr ⟨hs7, hs', hC, hp⟩) (fun _ _ => rfl) hCs rfl hwg' (fun blk' h1 h2 => by
      rw [ewd]
      exact hm _ (tagOf_re h1) (fun h3 h4 e => by rw [h2 h3 h4] at e; exact absurd (tagOf_blk e) (by simp))) (by
      rw [ewd]
      have e1 := Vc_upd (wdf D) (⟨s', m', dd'⟩ : WD) hi
      rcases hlt with ⟨_, h⟩ | ⟨h, _⟩
      · omega
      · have : cnt (⟨s', m', dd'⟩ : WD) = cnt (wdf D (k - 1)) := by rw [hDi, h]; rfl
        omega)
    exact ⟨g', w', es, _, blk', hgo, c1, c2, c3, rfl, hlt.imp (fun h => h.1) id⟩
  have hne : ∀ k', k' ≠ k → (updC D k { D k with stage := 0, fuel := 0, deaf := 0 } k').stage = (D k').stage := fun k' e => by rw [updC_ne _ _ e]
  -- BOOKKEEPING: at most the group's block turns
  have bookG : ∀ {g' : Goroutine} {w' : World} {es : Array Event} {s' m' dd' : Nat} {st' sm' : Int}, stepG P false g w = .go g' w' es → Aside Wg w w' → WgAt pr.tg Wg w' st' sm' → (∀ e ∈ es, Bk Wg e) →
      (∀ jx e, es[jx]? = some e → (MemAct.ofEvent e).touch? = none ∨ 0 < deafBehind dd (es.extract 0 jx)) → WSit P pr.tg Wg (D k).C 1 noL noL 0 1 (D k).v s' m' dd' g' w' → deafBehind dd es = dd' → s ≤ 6 → s' ≤ 6 →
      (∀ tag', (tag' = tagOf ph V blk ∨ (tagOf ph V blk = .blk ∧ tag' = .w3)) → (mayWake P g = true → g'.status = .running → tag' ≠ .blk) → Go.ConcN.Mode j (upd (wdf D) (k - 1) ⟨s', m', dd'⟩) tag' st' sm') →
      ((s' < s ∧ cnt ⟨s', m', dd'⟩ ≤ cnt (wdf D (k - 1))) ∨ (s' = s ∧ m' + 1 = m)) →
      ∃ g' w' es c' blk', stepG P false g w = .go g' w' es ∧ Cmp pr P j M Wg e0 γ ph V ds N0 W0 Hs (updC D k c') blk' ((gs.map (woken P g g' w')).setIfInBounds k g') w' (t ++ MemOp.ofEvents k g.frame.fn g.frame.place es) ∧
        ((gs.map (woken P g g' w')).setIfInBounds k g')[0]? = some (bl blk' a) ∧ (blk' = true → ph = 5 ∧ a.offers = none) ∧ c'.rk = (D k).rk ∧ (c'.stage < s ∨ (c'.stage = s ∧ c'.fuel + 1 = m)) := by
    intro g' w' es s' m' dd' st' sm' hgo hAs hwg' hbk hd hs' hdd h6 h6' hm hlt
    have hsh := shop_of_Bk (k := k) (fn := g.frame.fn) (pos := g.frame.place) hbk
    refine asm hgo (by omega) (X.I.wg hAs hwg') hs' ?_ (fun k' h1 h2 h3 h4 => hAs.block _ ?_) hwg' hm hlt
    · rw [hAs.size]
      refine X.tr.book X.I hk hsh (fun k' e => by simp only [updC_ne _ _ e]) (.inr fun h => ?_) ?_ (fun k' e => ?_) (Go.ConcN.norel_of (Go.ConcN.norel_of_Bk hbk)) fun _ _ => ?_
      · simp only [updC_same] at h; omega
      · rw [Deaf_own, hdk, dfsOf, if_neg (by omega), updC_same]; exact hdd
      · unfold dfsOf
        by_cases e0 : k' = 0
        · rw [if_pos e0, if_pos e0]
        · rw [if_neg e0, if_neg e0, updC_ne _ _ e]
      · obtain ⟨r, R⟩ := X.tr.rel k k1 hk (by show (D k).stage ≤ 6; omega)
        exact ⟨r, R.app (R.rel.book hdk _ _ hbk hd) fun op hop _ x hx => ((hsh op hop).2 x hx).1⟩
    · have := X.lastCell h1 h2 h4
      intro e
      rcases X.I.atW h2 with h5 | ⟨E, n, t, s, L, h5, _⟩ <;> rw [e] at this <;> rw [h5] at this <;> cases this
  have book : ∀ {g' : Goroutine} {w' : World} {es : Array Event} {s' m' dd' : Nat} {st' sm' : Int}, stepG P false g w = .go g' w' es → Aside Wg w w' → WgAt pr.tg Wg w' st' sm' → (∀ e ∈ es, Bk Wg e) →
      (∀ jx e, es[jx]? = some e → (MemAct.ofEvent e).touch? = none ∨ 0 < deafBehind dd (es.extract 0 jx)) → WSit P pr.tg Wg (D k).C 1 noL noL 0 1 (D k).v s' m' dd' g' w' → deafBehind dd es = dd' → s ≤ 6 → s' ≤ 6 →
      Go.ConcN.Mode j (upd (wdf D) (k - 1) ⟨s', m', dd'⟩) (tagOf ph V blk) st' sm' → ((s' < s ∧ cnt ⟨s', m', dd'⟩ ≤ cnt (wdf D (k - 1))) ∨ (s' = s ∧ m' + 1 = m)) → _ :=
    fun hgo hAs hwg' hbk hd hs' hdd h6 h6' hm hlt => bookG hgo hAs hwg' hbk hd hs' hdd h6 h6' (fun _ ht _ => hm.retag ht) hlt
  -- AN IDLE STEP BEHIND THE RELEASE
  have idle : ∀ {g' : Goroutine} {m' : Nat}, stepG P false g w = .go g' w #[] → WSit P pr.tg Wg (D k).C 1 noL noL 0 1 (D k).v s m' dd g' w → m' + 1 = m → s ≤ 6 → _ :=
    fun {g'} {m'} hgo hs' hm h6 => book hgo (.refl Wg w) hwg (by simp) (by simp) hs' rfl h6 h6 (by have := hmode.same (i := k - 1) m' dd; rwa [hsi] at this) (.inr ⟨rfl, hm⟩)
  cases hs with
  | r0 h =>
    rcases Goes.cases h with hstop | ⟨m', rfl, hstep⟩
    · obtain ⟨_, _, g', hgo, m₂, hkk⟩ := hstop w (RW.refl w)
      refine asm hgo (by omega) X.I (.k1 hkk) ?_ (fun _ _ _ _ _ => rfl) hwg (fun _ ht _ => (hmode.counted hi (by rw [hsi]; omega) (.inl rfl) _ _).retag ht) (.inl ⟨by omega, by simp [cnt, hsi]⟩)
      refine X.tr.book X.I hk (fun op hop => ?_) (fun k' e => by simp only [updC_ne _ _ e]) (.inr fun h => ?_) ?_ (fun k' e => ?_) (fun op hop => ?_) fun _ _ => ⟨_, Rel.new hdk _ _⟩
      · rw [ofEvents_eq] at hop
        simp only [List.map_toArray, List.map_cons, List.map_nil, List.mem_toArray, List.mem_cons, List.not_mem_nil, or_false] at hop
        subst hop
        exact ⟨rfl, fun x hx => by cases hx⟩
      · simp only [updC_same] at h; omega
      · rw [Deaf_own, hdk, dfsOf, if_neg (by omega), updC_same]; rfl
      · unfold dfsOf
        by_cases e0 : k' = 0
        · rw [if_pos e0, if_pos e0]
        · rw [if_neg e0, if_neg e0, updC_ne _ _ e]
      · rw [ofEvents_eq] at hop
        simp only [List.map_toArray, List.map_cons, List.map_nil, List.mem_toArray, List.mem_cons, List.not_mem_nil, or_false] at hop
        subst hop
        intro h
        rw [show MemAct.ofEvent (Go.ConcR.mk (.releaseMerge (stA Wg))) = .mark (.releaseMerge (stA Wg)) from rfl] at h
        cases h
    · obtain ⟨g', w', es, hgo, ⟨hac, hev⟩, hg'⟩ := hstep w (RW.refl w)
      have hA : Aside (D k).C w w' := ⟨hac.tape, hac.os, hac.output, hac.size, hac.block⟩
      have hwg' : WgAt pr.tg Wg w' st sm := hwg.of_block (hA.block Wg nWC)
      have hsh : ∀ op ∈ MemOp.ofEvents k g.frame.fn g.frame.place es, ShOp (InB Wg) k op := by
        intro op hop
        rw [ofEvents_eq] at hop
        obtain ⟨e, he, rfl⟩ := Array.mem_map.1 hop
        refine ⟨rfl, fun x hx => ?_⟩
        rcases ((hev e he).1 g.frame.fn g.frame.place).2 x hx with ⟨⟨a, h1, h2⟩, h3, h4⟩ | h1 | h1
        · exact ⟨⟨a, h1, h2⟩, h3, fun e => absurd e h4⟩
        · exact h1.elim
        · exact h1.1.elim
      refine asm hgo (by omega) (X.I.cc hk hC hA) (.r0 hg') ?_ (fun k' h1 h2 h3 h4 => hA.block _ ?_) hwg' (fun _ ht _ => Go.ConcN.Mode.retag (by have := hmode.same (i := k - 1) m' 0; rwa [hsi] at this) ht) (.inr ⟨rfl, rfl⟩)
      · rw [hA.size]
        refine X.tr.book X.I hk hsh (fun k' e => by simp only [updC_ne _ _ e]) (.inr fun h => ?_) ?_ (fun k' e => ?_) (Go.ConcN.norel_of fun e he => (hev e he).2.2.2) fun _ h => ?_
        · simp only [updC_same] at h; omega
        · rw [Deaf_own, hdk, dfsOf, if_neg (by omega), updC_same]
          exact deafBehind_idle (fun e he => ⟨(hev e he).2.1, (hev e he).2.2.1⟩) 0
        · unfold dfsOf
          by_cases e0 : k' = 0
          · rw [if_pos e0, if_pos e0]
          · rw [if_neg e0, if_neg e0, updC_ne _ _ e]
        · simp only [updC_same] at h; omega
      · have hc' := X.lastCell h1 h2 h4
        intro e
        have := X.I.ap k' k h2 hk h3 _ _ _ hc' (by rw [e]; exact hC)
        generalize hx : (Obj.deferred none) = x at this
        cases this <;> cases hx
  | k1 h =>
    rcases Goes.cases h with hstop | ⟨m', rfl, hstep⟩
    · obtain ⟨_, g', hgo, m₂, hkk⟩ := hstop w (RW.refl w)
      exact book hgo (.refl Wg w) hwg (by intro e he; simp at he; subst he; exact .inl rfl) (by intro jx e he; exact .inl (by have := Array.mem_of_getElem? he; simp at this; subst this; rfl)) (.d1 hkk) rfl (by omega) (by omega)
        (hmode.counted hi (by rw [hsi]; omega) (.inr rfl) _ _) (.inl ⟨by omega, by simp [cnt, hsi]⟩)
    · obtain ⟨g', w', es, hgo, ⟨rfl, rfl⟩, hg'⟩ := hstep w (RW.refl w)
      exact idle hgo (.k1 hg') rfl (by omega)
  | d1 h =>
    rcases Goes.cases h with hstop | ⟨m', rfl, hstep⟩
    · obtain ⟨_, hall⟩ := hstop w (RW.refl w)
      have hc1 : cnt (wdf D (k - 1)) = 1 := by simp [cnt, hsi]
      have hV1 : 1 ≤ Vc j (wdf D) := by have := le_sumTo (f := fun x => cnt (wdf D x)) hi; simp only [Vc]; omega
      have bk2 : ∀ e ∈ #[rd (stA Wg), wr (stA Wg)], Bk Wg e := by intro e he; simp at he; rcases he with rfl | rfl <;> exact bk_cell _ _ rfl
      have df2 : ∀ jx e, (#[rd (stA Wg), wr (stA Wg)] : Array Event)[jx]? = some e → (MemAct.ofEvent e).touch? = none ∨ 0 < deafBehind 1 ((#[rd (stA Wg), wr (stA Wg)] : Array Event).extract 0 jx) := by
        intro jx e he
        match jx, he with
        | 0, _ => exact .inr (by simp [deafBehind])
        | 1, _ => exact .inr (by simp [deafBehind, rd])
        | jx + 2, he => simp at he
      have hq0 : ∀ q, cnt (⟨1, q, 1⟩ : WD) = 0 := fun _ => rfl
      have opq : ∀ q, OpenSt j (wdf D) → OpenSt j (upd (wdf D) (k - 1) ⟨1, q, 1⟩) := fun q h a ha => by
        by_cases e : a = k - 1
        · subst e; rw [upd_same]; simp
        · rw [upd_ne _ _ e]; exact h a ha
      have hpd : pend (tagOf ph V blk) ≤ 1 ∧ (pend (tagOf ph V blk) = 1 → ph = 2 ∨ ph = 3) := by
        match ph with
        | 0 | 1 | 4 | 6 => simp [tagOf, pend]
        | 2 | 3 => simp [tagOf, pend]
        | 5 => cases blk <;> simp [tagOf, pend]
        | n + 7 => simp [tagOf, pend]
      have hjp : j + pend (tagOf ph V blk) ≤ 2147483647 := by
        obtain ⟨p1, p2⟩ := hpd
        rcases Nat.lt_or_ge (pend (tagOf ph V blk)) 1 with h | h
        · omega
        · have := hjb.2 (.inl (p2 (by omega))); omega
      generalize htag : tagOf ph V blk = tag at hmode book hjp
      cases hmode with
      | opn h1 h2 h3 =>
        obtain ⟨v, hv⟩ : ∃ v, Vc j (wdf D) + pend tag = v + 1 := ⟨Vc j (wdf D) + pend tag - 1, by omega⟩
        rw [hv] at hwg
        have hw1 : WgAt pr.tg Wg w (((v : Nat) + 1) * KK + ((0 : Nat) : Int)) 0 := by simpa using hwg
        obtain ⟨g', hgo, _, hq⟩ := hall v 0 (by omega) (by omega) hw1
        obtain ⟨q, hq⟩ := hq (by omega)
        have hv' : Vc j (upd (wdf D) (k - 1) ⟨1, q, 1⟩) + pend tag = v := by have := Vc_upd (wdf D) (⟨1, q, 1⟩ : WD) hi; have := hq0 q; omega
        refine book hgo (aside_setCell w (stA Wg) _) (hwg.setSt _) bk2 df2 (.quit hq) rfl (by omega) (by omega) ?_ (.inl ⟨by omega, by simp [cnt]⟩)
        have e : ((v : Nat) : Int) * KK + ((0 : Nat) : Int) = ((Vc j (upd (wdf D) (k - 1) ⟨1, q, 1⟩) + pend tag : Nat) : Int) * KK := by rw [hv']; simp
        rw [e]
        exact .opn h1 (opq q h2) (fun vs ev => by have := h3 vs ev; omega)
      | reg h1 h2 h3 =>
        obtain ⟨v, hv⟩ : ∃ v, Vc j (wdf D) = v + 1 := ⟨Vc j (wdf D) - 1, by omega⟩
        rw [hv] at hwg
        have hp0 : pend tag = 0 := by cases tag <;> first | rfl | exact h1.elim
        have hw1 : WgAt pr.tg Wg w (((v : Nat) + 1) * KK + ((1 : Nat) : Int)) 0 := by simpa using hwg
        obtain ⟨g', hgo, hl, hq⟩ := hall v 1 (by omega) (by omega) hw1
        by_cases hv0 : v = 0
        · subst hv0
          obtain ⟨m₂, hkk⟩ := hl ⟨rfl, rfl⟩
          refine book hgo (aside_setCell w (stA Wg) _) (hwg.setSt _) bk2 df2 (.d2 hkk) rfl (by omega) (by omega) ?_ (.inl ⟨by omega, by simp [cnt]⟩)
          have hoth : ∀ a, a < j → a ≠ k - 1 → (wdf D a).stage = 1 := fun a ha e => by
            have c0 := others_uncounted hi hv hc1 a ha e
            have := h2 a ha
            simp only [cnt] at c0
            split at c0 <;> omega
          have := Go.ConcN.Mode.last (j := j) (D := upd (wdf D) (k - 1) ⟨4, m₂, 1⟩) (tag := tag) (k - 1) h1 hi (by rw [upd_same]; simp) (fun a ha e => by rw [upd_ne _ _ e]; exact hoth a ha e)
          rw [upd_same] at this
          simpa using this
        · obtain ⟨q, hq⟩ := hq (by omega)
          have hv' : Vc j (upd (wdf D) (k - 1) ⟨1, q, 1⟩) = v := by have := Vc_upd (wdf D) (⟨1, q, 1⟩ : WD) hi; have := hq0 q; omega
          refine book hgo (aside_setCell w (stA Wg) _) (hwg.setSt _) bk2 df2 (.quit hq) rfl (by omega) (by omega) ?_ (.inl ⟨by omega, by simp [cnt]⟩)
          have e : ((v : Nat) : Int) * KK + ((1 : Nat) : Int) = ((Vc j (upd (wdf D) (k - 1) ⟨1, q, 1⟩) : Nat) : Int) * KK + 1 := by rw [hv']; simp
          rw [e]
          exact .reg h1 (opq q h2) (by omega)
      | last L _ h2 h3 h4 =>
        by_cases e : k - 1 = L
        · subst e; omega
        · have := h4 (k - 1) hi e; omega
      | sema h2 => have := h2 (k - 1) hi; omega
      | fin _ h2 => have := h2 (k - 1) hi; omega
    · obtain ⟨g', w', es, hgo, ⟨rfl, rfl⟩, hg'⟩ := hstep w (RW.refl w)
      exact idle hgo (.d1 hg') rfl (by omega)
  | d2 h =>
    rcases Goes.cases h with hstop | ⟨m', rfl, hstep⟩
    · obtain ⟨_, hx⟩ := hstop w (RW.refl w)
      obtain ⟨hW3, hoth, rfl, rfl⟩ := hmode.isLast hi (by omega)
      simp only [hsi] at hwg
      obtain ⟨g', hgo, m₂, hkk⟩ := hx (by simpa using hwg)
      refine book hgo (.refl Wg w) hwg (by intro e he; simp at he; subst he; exact bk_cell _ _ rfl) (by intro jx e he; match jx, he with | 0, _ => exact .inr (by simp [deafBehind]) | jx + 1, he => simp at he) (.d3 hkk) rfl (by omega) (by omega) ?_ (.inl ⟨by omega, by simp [cnt]⟩)
      have := Go.ConcN.Mode.last (j := j) (D := upd (wdf D) (k - 1) ⟨3, m₂, 1⟩) (tag := tagOf ph V blk) (k - 1) hW3 hi (by rw [upd_same]; simp) (fun a ha e => by rw [upd_ne _ _ e]; exact hoth a ha e)
      rw [upd_same] at this
      simpa using this
    · obtain ⟨g', w', es, hgo, ⟨rfl, rfl⟩, hg'⟩ := hstep w (RW.refl w)
      exact idle hgo (.d2 hg') rfl (by omega)
  | d3 h =>
    rcases Goes.cases h with hstop | ⟨m', rfl, hstep⟩
    · obtain ⟨_, hx⟩ := hstop w (RW.refl w)
      obtain ⟨hW3, hoth, rfl, rfl⟩ := hmode.isLast hi (by omega)
      simp only [hsi] at hwg
      obtain ⟨g', hgo, m₂, hkk⟩ := hx (by simpa using hwg)
      refine book hgo (aside_setCell w (stA Wg) _) (hwg.setSt 0) (by intro e he; simp at he; subst he; exact bk_cell _ _ rfl) (by intro jx e he; match jx, he with | 0, _ => exact .inr (by simp [deafBehind]) | jx + 1, he => simp at he) (.d4 hkk) rfl (by omega) (by omega) ?_ (.inl ⟨by omega, by simp [cnt]⟩)
      have := Go.ConcN.Mode.last (j := j) (D := upd (wdf D) (k - 1) ⟨2, m₂, 1⟩) (tag := tagOf ph V blk) (k - 1) hW3 hi (by rw [upd_same]; simp) (fun a ha e => by rw [upd_ne _ _ e]; exact hoth a ha e)
      rw [upd_same] at this
      simpa using this
    · obtain ⟨g', w', es, hgo, ⟨rfl, rfl⟩, hg'⟩ := hstep w (RW.refl w)
      exact idle hgo (.d3 hg') rfl (by omega)
  | d4 h =>
    rcases Goes.cases h with hstop | ⟨m', rfl, hstep⟩
    · obtain ⟨_, hmw, hx⟩ := hstop w (RW.refl w)
      obtain ⟨hW3, hoth, rfl, rfl⟩ := hmode.isLast hi (by omega)
      simp only [hsi] at hwg
      obtain ⟨g', hgo, q, hq⟩ := hx (by simpa using hwg)
      have hrun' : g'.status = .running := by
        cases q with
        | zero => exact absurd hq.2 (by decide)
        | succ q => exact hq.elim (fun x => absurd x.2 (by decide)) (fun x => x.1)
      refine bookG hgo (aside_setCell w (smA Wg) _) (hwg.setSm 1) (es := semEvents (smA Wg)) ?_ ?_ (.quit hq) (by simp [deafBehind, semEvents]) (by omega) (by omega) ?_ (.inl ⟨by omega, by simp [cnt]⟩)
      · intro e he
        simp [semEvents] at he
        rcases he with rfl | rfl | rfl | rfl
        · exact .inl rfl
        · exact bk_cell _ _ rfl
        · exact bk_cell _ _ rfl
        · exact .inr (.inl rfl)
      · intro jx e he
        match jx, he with
        | 0, he => simp [semEvents] at he; subst he; exact .inl rfl
        | 1, _ => exact .inr (by simp [deafBehind, semEvents])
        | 2, _ => exact .inr (by simp [deafBehind, semEvents])
        | 3, he => simp [semEvents] at he; subst he; exact .inl rfl
        | jx + 4, he => simp [semEvents] at he
      · intro tag' ht hw
        have hnb := hw hmw hrun'
        have e3 : tag' = .w3 := by
          rcases ht with rfl | ⟨_, rfl⟩
          · revert hW3 hnb
            generalize tagOf ph V blk = tg
            cases tg <;> intro hW3 hnb <;> first | rfl | exact hW3.elim | exact absurd rfl hnb
          · rfl
        subst e3
        simp only [if_true]
        exact .sema fun a ha => by
          by_cases e : a = k - 1
          · subst e; rw [upd_same]
          · rw [upd_ne _ _ e]; exact hoth a ha e
    · obtain ⟨g', w', es, hgo, ⟨rfl, rfl⟩, hg'⟩ := hstep w (RW.refl w)
      exact idle hgo (.d4 hg') rfl (by omega)
  | quit h =>
    cases m with
    | zero => rw [h.1] at hrun; cases hrun
    | succ q =>
      rcases h with ⟨hf, _⟩ | ⟨_, g', es, hmute, hstep, hq⟩
      · rw [hf] at hrun; cases hrun
      · have hbk : ∀ e ∈ es, Bk Wg e := fun e he => bk_of_mute (hmute e he)
        have hno : ∀ jx e, es[jx]? = some e → (MemAct.ofEvent e).touch? = none ∨ 0 < deafBehind dd (es.extract 0 jx) := fun jx e he => .inl (by
          rcases bk_of_mute (Wg := Wg) (hmute e (Array.mem_of_getElem? he)) with h1 | h1 | ⟨a, wr, rfl, _⟩
          · rw [ofEvent_loc_mark h1]; rfl
          · rw [ofEvent_loc_mark h1]; rfl
          · have := hmute _ (Array.mem_of_getElem? he); simp [Event.mute] at this)
        exact book (hstep w) (.refl Wg w) hwg hbk hno (.quit hq) rfl (by omega) (by omega) (by have := hmode.same (i := k - 1) q (deafBehind dd es); rwa [hsi] at this) (.inr ⟨rfl, rfl⟩)
end
end Go.Proofs.Ytojhnclkhiffkaa
