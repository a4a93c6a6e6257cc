/-
  A go statement; the join.
-/
import Derived.Test.YtojhnclkhiffkaaU11
namespace Go.Proofs.Ytojhnclkhiffkaa
open Go.Conc Go.RowKit
open Go.ConcN (upd upd_same upd_ne WSit WgLive WD Vc Vc_le pend isOpen isW3 isFin OpenSt AllQuit get_map_set get_map_set_same RelBy AcqAll cnt sumTo sumTo_congr)
open Go.ConcR (rd wr mk stA smA WgAt wgBlock KK Payload Bk g_of_ofEvents ofEvent_mk)
set_option linter.unusedVariables false

section
variable {pr : Pro} {P : Program} {j M Wg : Nat} {e0 : Value} {γ : List Value} {ph V : Nat} {ds : List Value} {N0 : Nat} {W0 : World} {Hs : Nat → H} {D : Nat → Ch} {blk : Bool} {gs : Array Goroutine} {w w' : World} {t : Trace}
theorem sp_sub {k : Nat} {h hc h' : H} {d : Value} {ds' : List Value} (sp : ∀ b, b ≠ Wg → SpO pr k (h b) (hc b) (h' b)) (hcW : hc Wg = some (nW pr d)) (hW' : h' Wg = some (nG pr 0 0 ds')) :
    ((∀ l, OwnL hc l → OwnL h l) ∧ ∀ l, RdL hc l → RdL h l ∨ OwnL h l) ∧ (∀ l, OwnL h' l → OwnL h l) ∧ ∀ l, RdL h' l → RdL h l ∨ OwnL h l := by
  have ncW : ∀ ad : Addr, ad.block = Wg → ¬ OwnL hc (.cell ad) ∧ ¬ RdL hc (.cell ad) := fun ad e => note_noL (b := Wg) (.inr ⟨_, _, _, _, _, hcW, by omega⟩) ⟨ad, rfl, e⟩
  have nW : ∀ ad : Addr, ad.block = Wg → ¬ OwnL h' (.cell ad) ∧ ¬ RdL h' (.cell ad) := fun ad e => note_noL (b := Wg) (.inr ⟨_, _, _, _, _, hW', by omega⟩) ⟨ad, rfl, e⟩
  refine ⟨⟨fun l hl => ?_, fun l hl => ?_⟩, fun l hl => ?_, fun l hl => ?_⟩
  · cases l with
    | cell ad =>
      by_cases e : ad.block = Wg
      · exact absurd hl (ncW ad e).1
      · have s := sp ad.block e
        simp only [OwnL] at hl ⊢
        generalize hx : h ad.block = x at s
        generalize hy : hc ad.block = y at s hl
        generalize hz : h' ad.block = z at s
        cases s with
        | mine => rcases hl with ⟨c, E, fr, h1, _⟩ | ⟨_, v, n, E, h1⟩ | ⟨_, s, n, E, L, h1, _⟩ <;> cases h1
        | give c E => exact hl
        | copy c E fr hr => exact hl
        | part E n a L v hv ha =>
          rcases hl with ⟨c, E', fr, h1, _⟩ | ⟨hs, v', n', E', h1⟩ | ⟨_, s, n', E', L', h1, _⟩
          · cases h1
          · have := congrArg oneOf (Option.some.inj h1)
            simp only [oneOf_oneO, Option.some.injEq, Prod.mk.injEq] at this
            exact .inr (.inr ⟨hs, a, n, E, L, rfl, by omega⟩)
          · cases h1
        | note L =>
          rcases hl with ⟨c, E', fr, h1, _⟩ | ⟨hs, v', n', E', h1⟩ | ⟨_, s, n', E', L', h1, _⟩
          · cases h1
          · have := congrArg oneOf (Option.some.inj h1)
            rw [oneOf_oneO, show nM pr k L = noteO pr.E 1 1 k L.toArray from rfl, oneOf_noteO] at this
            cases this
          · have := (note_inj (Option.some.inj h1)).2.2.1; omega
    | obj r =>
      obtain ⟨o, hb, hm⟩ := hl
      by_cases e : r = Wg
      · subst e; rw [hcW] at hb; simp only [Option.some.injEq] at hb; subst hb; exact hm.elim
      · have s := sp r e
        rw [hb] at s
        generalize hx : h r = x at s
        generalize hy : (some o : Option Obj) = y at s
        generalize hz : h' r = z at s
        cases s with
        | mine => cases hy
        | give c E => simp only [Option.some.injEq] at hy; subst hy; exact hm.elim
        | copy c E fr hr => simp only [Option.some.injEq] at hy; subst hy; exact hm.elim
        | part E n a L v hv ha => simp only [Option.some.injEq] at hy; subst hy; exact hm.elim
        | note L => simp only [Option.some.injEq] at hy; subst hy; exact hm.elim
    | _ => exact hl.elim
  · cases l with
    | cell ad =>
      by_cases e : ad.block = Wg
      · exact absurd hl (ncW ad e).2
      · have s := sp ad.block e
        left
        simp only [RdL] at hl ⊢
        generalize hx : h ad.block = x at s
        generalize hy : hc ad.block = y at s hl
        generalize hz : h' ad.block = z at s
        obtain ⟨c', E', fr', h1, hr'⟩ := hl
        cases s with
        | mine => cases h1
        | give c E => exact ⟨c', E', fr', h1, hr'⟩
        | copy c E fr hr => exact ⟨c', E', fr', h1, hr'⟩
        | part E n a L v hv ha => cases h1
        | note L => cases h1
    | _ => exact hl.elim
  · cases l with
    | cell ad =>
      by_cases e : ad.block = Wg
      · exact absurd hl (nW ad e).1
      · have s := sp ad.block e
        simp only [OwnL] at hl ⊢
        generalize hx : h ad.block = x at s
        generalize hy : hc ad.block = y at s
        generalize hz : h' ad.block = z at s hl
        cases s with
        | mine => exact hl
        | give c E => rcases hl with ⟨c, E, fr, h1, _⟩ | ⟨_, v, n, E, h1⟩ | ⟨_, s, n, E, L, h1, _⟩ <;> cases h1
        | copy c E fr hr => exact hl
        | part E n a L v hv ha =>
          rcases hl with ⟨c, E', fr, h1, _⟩ | ⟨hs, v', n', E', h1⟩ | ⟨hs, s, n', E', L', h1, hle⟩
          · cases h1
          · cases h1
          · have := note_inj (Option.some.inj h1)
            exact .inr (.inr ⟨hs, a, n, E, L, rfl, by omega⟩)
        | note L => exact hl
    | obj r =>
      obtain ⟨o, hb, hm⟩ := hl
      by_cases e : r = Wg
      · subst e; rw [hW'] at hb; simp only [Option.some.injEq] at hb; subst hb; exact hm.elim
      · have s := sp r e
        rw [hb] at s
        generalize hx : h r = x at s
        generalize hy : hc r = y at s
        generalize hz : (some o : Option Obj) = z at s
        cases s with
        | mine => exact ⟨o, by rw [hx, hz], hm⟩
        | give c E => cases hz
        | copy c E fr hr => simp only [Option.some.injEq] at hz; subst hz; exact hm.elim
        | part E n a L v hv ha => simp only [Option.some.injEq] at hz; subst hz; exact hm.elim
        | note L => simp only [Option.some.injEq] at hz; subst hz; exact hm.elim
    | _ => exact hl.elim
  · cases l with
    | cell ad =>
      by_cases e : ad.block = Wg
      · exact absurd hl (nW ad e).2
      · have s := sp ad.block e
        left
        simp only [RdL] at hl ⊢
        generalize hx : h ad.block = x at s
        generalize hy : hc ad.block = y at s
        generalize hz : h' ad.block = z at s hl
        obtain ⟨c', E', fr', h1, hr'⟩ := hl
        cases s with
        | mine => exact ⟨c', E', fr', h1, hr'⟩
        | give c E => cases h1
        | copy c E fr hr => exact ⟨c', E', fr', h1, hr'⟩
        | part E n a L v hv ha => cases h1
        | note L => cases h1
    | _ => exact hl.elim

/-- A go STATEMENT. -/
theorem Cmp.fork (X : Cmp pr P j M Wg e0 γ 3 V ds N0 W0 Hs D false gs w t) {hc h' : H} {d : Value} {α : Tr} {a' child : Goroutine} (sp : ∀ b, b ≠ Wg → SpO pr (ds.length + 1) (Hs 0 b) (hc b) (h' b)) (hcW : hc Wg = some (nW pr d)) (hW' : h' Wg = some (nG pr 0 0 (ds ++ [d])))
    (hch : TW pr P α child hc) {x y : MemOp} (hx : x.g = 0 ∧ x.act = .go (j + 1)) (hy : y.g = j + 1 ∧ y.act = .start) :
    Cmp pr P (j + 1) M Wg e0 γ 0 0 (ds ++ [d]) N0 W0 (upd (upd Hs 0 h') (j + 1) hc) (updC D (j + 1) ⟨α, 8, 0, 0, d, 0, 0, undef⟩) false ((gs.setIfInBounds 0 a').push child) w (t ++ #[x, y]) := by
  obtain ⟨st, sm, hwg, hmode⟩ := X.wg
  obtain ⟨⟨s1, s2⟩, s3, s4⟩ := sp_sub sp hcW hW'
  have dl := X.I.dl
  obtain ⟨ho, hst, hsm, _⟩ := hmode.open_inv (tag := .sp 0 3) trivial
  have wd : ∀ i, i < j → wdf (updC D (j + 1) ⟨α, 8, 0, 0, d, 0, 0, undef⟩) i = wdf D i := fun i hi => by unfold wdf; rw [updC_ne _ _ (by omega)]
  have wj : (wdf (updC D (j + 1) ⟨α, 8, 0, 0, d, 0, 0, undef⟩) j).stage = 7 := by unfold wdf; rw [updC_same]; rfl
  refine ⟨X.I.fork sp hcW hW', X.tr.fork (by unfold dfsOf; rfl) hx hy s1 s2 s3 s4 (fun k hk => by simp only [updC_ne _ _ (show k ≠ j + 1 by omega)]) (fun k k1 hk => by unfold dfsOf; rw [if_neg (by omega), if_neg (by omega), updC_ne _ _ (by omega)]) rfl (by unfold dfsOf; rw [if_neg (by omega), updC_same]) (by simp only [updC_same]; omega), by simp [X.size], fun k k1 hk => ?_, fun k k1 hk => ?_, ⟨st, sm, hwg, ?_⟩, fun e => by omega, by have := X.jb.2 (.inl (.inr rfl)); omega, fun e => by omega⟩
  · by_cases e : k = j + 1
    · subst e
      refine ⟨child, ?_, ?_⟩
      · have hsz : (gs.setIfInBounds 0 a').size = j + 1 := by simp [X.size]
        rw [← hsz, Array.getElem?_push_size]
      · rw [updC_same, upd_same]; exact .inl ⟨rfl, rfl, hch⟩
    · obtain ⟨g, hg, hs⟩ := X.sit k k1 (by omega)
      refine ⟨g, ?_, by rw [updC_ne _ _ e, upd_ne _ _ e, upd_ne _ _ (by omega)]; exact hs⟩
      rw [Array.getElem?_push_lt (by simp [X.size]; omega), ← Array.getElem?_eq_getElem, Array.getElem?_setIfInBounds_ne (by omega)]
      exact hg
  · by_cases e : k = j + 1
    · subst e
      rw [updC_same, Nat.add_sub_cancel, ← dl]; simp
    · rw [updC_ne _ _ e]
      have := X.dd k k1 (by omega)
      rw [List.getElem?_append_left (List.getElem?_eq_some_iff.1 this).1]; exact this
  · have hV : Vc (j + 1) (wdf (updC D (j + 1) ⟨α, 8, 0, 0, d, 0, 0, undef⟩)) = Vc j (wdf D) + 1 := by
      simp only [Vc, sumTo]
      rw [sumTo_congr (fun i hi => by rw [wd i hi])]
      simp [cnt, wj]
    have : Go.ConcN.Mode (j + 1) (wdf (updC D (j + 1) ⟨α, 8, 0, 0, d, 0, 0, undef⟩)) .kd (((Vc (j + 1) (wdf (updC D (j + 1) ⟨α, 8, 0, 0, d, 0, 0, undef⟩)) + pend .kd : Nat) : Int) * KK) 0 :=
      .opn trivial (fun i hi => by
        by_cases e : i = j
        · subst e; rw [wj]; simp
        · rw [wd i (by omega)]; exact ho i (by omega)) (fun vs e => by cases e)
    rw [hV] at this
    rw [hst, hsm]
    exact this

/-- THE JOIN. -/
theorem Cmp.join (X : Cmp pr P j M Wg e0 γ 7 V ds N0 W0 Hs D false gs w t) (fn : FuncId) (pos : String) {a a' : Goroutine} : ∃ hs, Joined pr (Hs 0) ds hs w ∧ ∀ h', Hol h' w → Taken pr Wg (Hs 0) hs h' →
    Sol pr P j Wg N0 W0 D h' true ((gs.map (woken P a a' w)).setIfInBounds 0 a') w (t ++ MemOp.ofEvents 0 fn pos #[Go.ConcR.mk (.acquire (stA Wg))]) := by
  obtain ⟨st, sm, hwg, hmode⟩ := X.wg
  obtain ⟨hq, rfl, rfl⟩ := hmode.fin_inv (tag := .acq) trivial
  have st1 : ∀ k, 1 ≤ k → k ≤ j → (D k).stage = 1 := fun k k1 hk => by
    have := hq (k - 1) (by omega)
    unfold wdf at this
    simp only [show k - 1 + 1 = k by omega] at this
    omega
  have sits : ∀ k, 1 ≤ k → k ≤ j → ∃ g, gs[k]? = some g ∧ QuitsD P (D k).fuel (D k).deaf g ∧ Hs k (D k).C = some (.deferred none) ∧ pr.post (D k).d (hdel (Hs k) (D k).C) := by
    intro k k1 hk
    obtain ⟨g, hg, hs⟩ := X.sit k k1 hk
    rcases hs with ⟨h8, _⟩ | ⟨_, h2, h3, h4⟩
    · have := st1 k k1 hk; omega
    · exact ⟨g, hg, @Go.ConcN.WSit.quits ⟨(D k).E⟩ _ _ _ _ _ _ _ _ _ _ _ _ _ _ _ h2 (st1 k k1 hk), h3, h4⟩
  let hs : List H := (List.range j).map fun i => hdel (Hs (i + 1)) (D (i + 1)).C
  have hget : ∀ (i : Nat) (x : H), hs[i]? = some x → i < j ∧ x = hdel (Hs (i + 1)) (D (i + 1)).C := by
    intro i x hx
    simp only [hs, List.getElem?_map] at hx
    rcases Nat.lt_or_ge i j with h | h
    · rw [List.getElem?_range h] at hx
      simp only [Option.map_some, Option.some.injEq] at hx
      exact ⟨h, hx.symm⟩
    · rw [List.getElem?_eq_none (by simpa using h)] at hx; cases hx
  have hdl : ∀ {h : H} {C b : Nat} {o : Obj}, hdel h C b = some o → h b = some o ∧ b ≠ C := by
    intro h C b o hb
    unfold hdel at hb
    split at hb
    · cases hb
    · exact ⟨hb, by assumption⟩
  refine ⟨hs, ⟨by simp [hs, X.I.dl], fun i d x hd hx => ?_, fun x hx => ?_, M, γ, e0, X.I.hM, fun M' k L h => ?_, X.I.at_, X.I.hst, X.I.ext0, fun v hv => by rw [X.I.dl]; exact X.I.byle v hv, fun i x hx => ?_⟩, fun h' hol tk => ?_⟩
  · obtain ⟨hi, rfl⟩ := hget i x hx
    have h1 := X.dd (i + 1) (by omega) (by omega)
    simp only [Nat.add_sub_cancel] at h1
    rw [hd] at h1
    simp only [Option.some.injEq] at h1
    rw [h1]
    obtain ⟨_, _, _, _, h4⟩ := sits (i + 1) (by omega) (by omega)
    exact h4
  · obtain ⟨i, hi⟩ := List.mem_iff_getElem?.1 hx
    obtain ⟨hi, rfl⟩ := hget i x hi
    exact fun b o hb => X.I.hol (i + 1) (by omega) b o (hdl hb).1
  · rcases X.I.nts0 M' _ h (noteOf_ne _ _ _ _ _) with h1 | h1 | ⟨E, n, a, L', h1⟩
    · exact h1
    · subst h1
      have := (note_inj (Option.some.inj (h.symm.trans X.I.hW))).2.2.1; omega
    · have := (note_inj h1).2.2.1; omega
  · obtain ⟨hi, rfl⟩ := hget i x hx
    cases hb : hdel (Hs (i + 1)) (D (i + 1)).C M with
    | none => exact .inl rfl
    | some o =>
      right
      have h1 := (hdl hb).1
      rcases X.I.atM (k := i + 1) (by omega) with h2 | ⟨E, n, s, a, L, h2, _⟩
      · rw [h2] at h1; cases h1
      · rw [h2] at h1
        simp only [Option.some.injEq] at h1
        subst h1
        rcases X.I.ntc (i + 1) (by omega) (by omega) M _ h2 (noteOf_ne _ _ _ _ _) with ⟨_, L', e, hext⟩ | ⟨e, _⟩
        · exact ⟨L', by rw [e], hext⟩
        · exact absurd e X.I.ne
  · have e1 : MemOp.ofEvents 0 fn pos #[Go.ConcR.mk (.acquire (stA Wg))] = #[{ g := 0, fn, pos, act := .mark (.acquire (stA Wg)) }] := by rw [ofEvents_eq]; simp [ofEvent_mk]
    have hd0 : Deaf t 0 = 0 := X.tr.df 0 (by omega)
    have hrel : ∀ k, 1 ≤ k → k ≤ j → ∃ r, Rel Wg t k r := fun k k1 hk => X.tr.rel k k1 hk (by show (D k).stage ≤ 6; rw [st1 k k1 hk]; omega)
    have hsh : ∀ op ∈ MemOp.ofEvents 0 fn pos #[Go.ConcR.mk (.acquire (stA Wg))], ShOp (fun _ => False) 0 op := by
      intro op hop
      rw [e1] at hop
      simp at hop
      subst hop
      exact ⟨rfl, fun x hx => by simp [MemAct.touch?] at hx⟩
    have hstill : ∀ op ∈ MemOp.ofEvents 0 fn pos #[Go.ConcR.mk (.acquire (stA Wg))], op.act ≠ .mark .disable ∧ op.act ≠ .mark .enable := by
      intro op hop
      rw [e1] at hop
      simp at hop
      subst hop
      exact ⟨by simp, by simp⟩
    have hno : ∀ l, InB Wg l → ¬ OwnL h' l ∧ ¬ RdL h' l := fun l hl => note_noL (.inr ⟨_, _, _, _, _, tk.1, by omega⟩) hl
    have hperm : ∀ l, ¬ InB Wg l → Perm (t ++ MemOp.ofEvents 0 fn pos #[Go.ConcR.mk (.acquire (stA Wg))]) 0 l := fun l hl => by
      rw [e1]; exact join_knows X.tr.T hrel X.tr.norel hd0 ⟨rfl, rfl⟩ hl
    refine ⟨hol, fun b o hb => ?_, X.tr.T.sh (fun i a ha hs => hs.elim) (fun i op a _ _ hs => hs.elim) (fun l hl => hl.elim) (Nat.zero_le _) hsh, ⟨fun l hl => hperm l fun h => (hno l h).1 hl, fun l hl => .of (hperm l fun h => (hno l h).2 hl)⟩, by rw [Go.ConcN.Deaf_still t 0 _ hstill, hd0], X.I.bel, X.I.n0, fun b o hb hlt => ?_, by simp [X.size], fun k k1 hk => ?_, fun h => by simp at h, .inr ⟨rfl, tk.1, X.tr.norel.app fun op hop e => ?_, ?_⟩⟩
    · by_cases e : b = Wg
      · subst e
        have := tk.1
        rw [hb] at this
        simp only [Option.some.injEq] at this
        exact .inr ⟨rfl, rfl, this⟩
      · exact .inl (tk.2 b o hb e).1
    · have hW0 := X.I.Wg0
      obtain ⟨_, x, hx, y, hy, hor⟩ := tk.2 b o hb (by omega)
      have hyo : ∃ c E, y = .cells c E (roF c) := by
        rcases hx with rfl | hx
        · exact X.I.old 0 (by omega) b y hy hlt
        · obtain ⟨i, hi⟩ := List.mem_iff_getElem?.1 hx
          obtain ⟨hi, rfl⟩ := hget i x hi
          exact X.I.old (i + 1) (by omega) b y (hdl hy).1 hlt
      rcases hor with h | h
      · exact h
      · exact absurd hyo h
    · obtain ⟨g, hg, hqq, _⟩ := sits k k1 hk
      refine ⟨st1 k k1 hk, ?_, g, by rw [get_map_set _ _ _ _ (by omega), hg, Option.map_some, woken_quitsD hqq], hqq⟩
      rw [Go.ConcN.Deaf_still t k _ hstill]
      have := X.tr.df k hk
      rw [this, dfsOf, if_neg (by omega)]
    · rw [e1] at hop
      simp at hop
      subst hop
      simp at e
    · have hy : (t ++ #[({ g := 0, fn, pos, act := .mark (.acquire (stA Wg)) } : MemOp)])[t.size]? = some { g := 0, fn, pos, act := .mark (.acquire (stA Wg)) } := by simp
      refine ⟨t.size, by rw [e1, act?_of hy], by rw [e1, Trace.g?, hy]; rfl, by rw [e1]; exact ⟨0, by rw [Trace.g?, hy]; rfl, by rw [deaf_old (Nat.le_refl _)]; exact hd0⟩, fun i hi => ?_⟩
      obtain ⟨r, R⟩ := hrel (i + 1) (by omega) (by omega)
      exact ⟨r, R.rel.appOther g_of_ofEvents (by omega), lt_of_act? R.rel.act⟩
end
end Go.Proofs.Ytojhnclkhiffkaa
