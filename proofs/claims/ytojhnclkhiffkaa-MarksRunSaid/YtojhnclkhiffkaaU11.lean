/-
  The starter's steps in company: its own; its bookkeeping; notes; the opening; a go statement; the join.
-/
import Derived.Test.YtojhnclkhiffkaaU10
namespace Go.Proofs.Ytojhnclkhiffkaa
open Go.Conc Go.RowKit
open Go.ConcN (upd upd_same upd_ne WgLive WD Vc Vc_le pend isOpen isW3 isFin OpenSt AllQuit get_map_set get_map_set_same RelBy AcqAll cnt sumTo)
open Go.ConcR (rd wr mk stA smA WgAt wgBlock KK Payload Bk g_of_ofEvents ofEvent_mk)
set_option linter.unusedVariables false

section
variable {pr : Pro} {P : Program} {j M Wg : Nat} {e0 : Value} {γ : List Value} {ph V : Nat} {ds : List Value} {N0 : Nat} {W0 : World} {Hs : Nat → H} {D : Nat → Ch} {blk : Bool} {gs : Array Goroutine} {w w' : World} {t : Trace}
theorem Cmp.asm0 (X : Cmp pr P j M Wg e0 γ ph V ds N0 W0 Hs D blk gs w t) {a a' : Goroutine} {u : Trace} {Hs' : Nat → H} {ph' V' : Nat} {st' sm' : Int} {blk' : Bool}
    (I' : HI pr j M Wg e0 γ ph' V' ds N0 W0 Hs' w') (tr' : TI pr j M Wg γ Hs' (fun k => (D k).stage) (dfsOf ph' D) (t ++ u) w'.heap.size) (hoth : ∀ k, 1 ≤ k → Hs' k = Hs k)
    (hC : ∀ k, 1 ≤ k → k ≤ j → (D k).stage ≤ 7 → w'.heap[(D k).C]? = w.heap[(D k).C]?) (hwg : WgAt pr.tg Wg w' st' sm') (hm : Go.ConcN.Mode j (wdf D) (tagOf ph' V' blk') st' sm')
    (hbd : ph' = 1 → Vc j (wdf D) ≤ V') (hjb : (ph' = 2 ∨ ph' = 3) ∨ 7 < ph' → j < 2147483646 ∧ ph' ≤ 7) : Cmp pr P j M Wg e0 γ ph' V' ds N0 W0 Hs' D blk' ((gs.map (woken P a a' w')).setIfInBounds 0 a') w' (t ++ u) := by
  refine ⟨I', tr', by simp [X.size], fun k h1 h2 => ?_, X.dd, ⟨st', sm', hwg, hm⟩, hbd, X.jb.1, hjb⟩
  obtain ⟨x, hx, sx⟩ := X.sit k h1 h2
  refine ⟨x, by rw [get_map_set _ _ _ _ (by omega), hx, Option.map_some, sx.woken], ?_⟩
  rw [hoth k h1]
  exact sx.rely (hC k h1 h2) ⟨_, _, hwg⟩
/-- AN OWN STEP of the starter's. -/
theorem Cmp.own0 (X : Cmp pr P j M Wg e0 γ ph V ds N0 W0 Hs D false gs w t) {a a' : Goroutine} {h1 : H} {es : Array Event} (F : Fra (Hs 0) w h1 w' es) (fn : FuncId) (pos : String) :
    Cmp pr P j M Wg e0 γ ph V ds N0 W0 (upd Hs 0 h1) D false ((gs.map (woken P a a' w')).setIfInBounds 0 a') w' (t ++ MemOp.ofEvents 0 fn pos es) := by
  obtain ⟨st, sm, hwg, hmode⟩ := X.wg
  have hwg' : WgAt pr.tg Wg w' st sm := hwg.of_block (F.block ((X.I.hol 0 (by omega)).lt X.I.hW) (.inr (.inr (.inl ⟨_, _, _, _, _, X.I.hW⟩))))
  refine X.asm0 (X.I.own (by omega) F) (X.tr.own X.I (by omega) (.inl rfl) F _ _) (fun k k1 => upd_ne _ _ (by omega)) (fun k k1 hk h7 => F.block ((X.I.hol k hk).lt (X.lastCell k1 hk h7)) (.inl ?_)) hwg' hmode X.bd X.jb.2
  exact def_none (X.I.ap 0 k (by omega) hk (by omega)) (X.lastCell k1 hk h7)
theorem phase_sub {h : H} {ph V ph' V' : Nat} {ds ds' : List Value} (hW : h Wg = some (nG pr ph V ds)) : (∀ l, OwnL (hupd h Wg (nG pr ph' V' ds')) l → OwnL h l) ∧ ∀ l, RdL (hupd h Wg (nG pr ph' V' ds')) l → RdL h l ∨ OwnL h l := by
  refine ⟨fun l hl => ?_, fun l hl => ?_⟩
  · cases l with
    | cell ad =>
      by_cases e : ad.block = Wg
      · exfalso
        have := (note_noL (h := hupd h Wg (nG pr ph' V' ds')) (b := Wg) (.inr ⟨_, _, _, _, _, hupd_same _ _ _, by omega⟩) (l := .cell ad) ⟨ad, rfl, e⟩).1
        exact this hl
      · simp only [OwnL, hupd_ne _ _ e] at hl; exact hl
    | obj r =>
      obtain ⟨x, hx, hm⟩ := hl
      by_cases e : r = Wg
      · subst e; rw [hupd_same] at hx; simp only [Option.some.injEq] at hx; subst hx; exact hm.elim
      · rw [hupd_ne _ _ e] at hx; exact ⟨x, hx, hm⟩
    | _ => exact hl.elim
  · cases l with
    | cell ad =>
      by_cases e : ad.block = Wg
      · exfalso
        have := (note_noL (h := hupd h Wg (nG pr ph' V' ds')) (b := Wg) (.inr ⟨_, _, _, _, _, hupd_same _ _ _, by omega⟩) (l := .cell ad) ⟨ad, rfl, e⟩).2
        exact this hl
      · simp only [RdL, hupd_ne _ _ e] at hl; exact .inl hl
    | _ => exact hl.elim
/-- BOOKKEEPING of the starter's. -/
theorem Cmp.book0 (X : Cmp pr P j M Wg e0 γ ph V ds N0 W0 Hs D false gs w t) {a a' : Goroutine} {es : Array Event} {ph' V' : Nat} {st' sm' : Int} (fn : FuncId) (pos : String) (hAs : Aside Wg w w') (hwg' : WgAt pr.tg Wg w' st' sm')
    (hsh : ∀ op ∈ MemOp.ofEvents 0 fn pos es, ShOp (InB Wg) 0 op) (hnr : ∀ e ∈ es, e.loc ≠ .mark (.release (stA Wg))) (hdf : deafBehind (dph ph) es = dph ph') (hm : Go.ConcN.Mode j (wdf D) (tagOf ph' V' false) st' sm')
    (hbd : ph' = 1 → Vc j (wdf D) ≤ V') (hjb : (ph' = 2 ∨ ph' = 3) ∨ 7 < ph' → j < 2147483646 ∧ ph' ≤ 7) :
    Cmp pr P j M Wg e0 γ ph' V' ds N0 W0 (upd Hs 0 (hupd (Hs 0) Wg (nG pr ph' V' ds))) D false ((gs.map (woken P a a' w')).setIfInBounds 0 a') w' (t ++ MemOp.ofEvents 0 fn pos es) := by
  refine X.asm0 ((X.I.wg hAs hwg').phase ph' V') ?_ (fun k k1 => upd_ne _ _ (by omega)) (fun k k1 hk h7 => hAs.block _ ?_) hwg' hm hbd hjb
  · rw [hAs.size]
    have := X.tr.book X.I (Nat.zero_le j) hsh (st' := fun k => (D k).stage) (dfs' := dfsOf ph' D) (fun _ _ => rfl) (.inl rfl) (by rw [Deaf_own, X.tr.df 0 (by omega)]; exact hdf) (fun k e => by unfold dfsOf; rw [if_neg e, if_neg e]) (Go.ConcN.norel_of hnr) (fun h => by omega)
    refine this.sub (fun k hk => ?_) (fun _ _ h => h) (fun _ _ => rfl) (fun _ _ _ h => h)
    by_cases e : k = 0
    · subst e; rw [upd_same]; exact phase_sub X.I.hW
    · rw [upd_ne _ _ e]; exact ⟨fun _ h => h, fun _ h => .inl h⟩
  · have hc := X.lastCell k1 hk h7
    intro e
    rcases X.I.atW hk with h5 | ⟨E, n, t, s, L, h5, _⟩ <;> rw [e] at hc <;> rw [h5] at hc <;> cases hc
/-- It puts a block aside. -/
theorem Cmp.aside0 (X : Cmp pr P j M Wg e0 γ ph V ds N0 W0 Hs D blk gs w t) {b : Nat} {c : Array Value} {E : TypeId} (hb : Hs 0 b = some (.cells c E)) {o : Obj} (ho : HolO o (some (.cells c E))) (hn : noteOf o ≠ none → ∃ E n a L, o = noteO E n 0 a L)
    (hk : o = .deferred none ∨ (∃ c' E' fr, o = .cells c' E' fr ∧ isRo c' fr) ∨ ∃ E n a L, o = noteO E n 0 a L) : Cmp pr P j M Wg e0 γ ph V ds N0 W0 (upd Hs 0 (hupd (Hs 0) b o)) D blk gs w t := by
  refine ⟨X.I.aside (by omega) hb ho (fun h => ⟨rfl, hn h⟩), X.tr.sub (fun k _ => ?_) (fun _ _ h => h) (fun _ _ => rfl) (fun _ _ _ h => h), X.size, fun k h1 h2 => ?_, X.dd, X.wg, X.bd, X.jb⟩
  · by_cases e : k = 0
    · subst e; rw [upd_same]; exact aside_sub hb hk
    · rw [upd_ne _ _ e]; exact ⟨fun _ h => h, fun _ h => .inl h⟩
  · rw [upd_ne _ _ (by omega)]; exact X.sit k h1 h2
theorem Sol.aside0 {h : H} {cl : Bool} (X : Sol pr P j Wg N0 W0 D h cl gs w t) {b : Nat} {c : Array Value} {E : TypeId} (hb : h b = some (.cells c E)) : Sol pr P j Wg N0 W0 D (hupd h b (.cells c E (roO c))) cl gs w t := by
  have at0 : ∀ x y, hupd h b (.cells c E (roO c)) x = some y → (x = b ∧ y = .cells c E (roO c)) ∨ (x ≠ b ∧ h x = some y) := by
    intro x y hx
    by_cases e : x = b
    · subst e; rw [hupd_same] at hx; simp only [Option.some.injEq] at hx; exact .inl ⟨rfl, hx.symm⟩
    · rw [hupd_ne _ _ e] at hx; exact .inr ⟨e, hx⟩
  have hw : w.heap[b]? = some (.cells c E) := (HolO_own (not_isRo0 c)).1 (X.hol b _ hb)
  obtain ⟨s1, s2⟩ := aside_sub hb (o := .cells c E (roO c)) (.inr (.inl ⟨c, E, _, rfl, isRo_roO c⟩))
  refine ⟨fun x y hx => ?_, fun x y hx => ?_, X.T, X.p.sub s1 s2, X.df0, X.bel, X.n0, fun x y hx hlt => ?_, X.size, X.kids, X.nr0, ?_⟩
  · rcases at0 x y hx with ⟨rfl, rfl⟩ | ⟨_, hx⟩
    · rw [hw]; exact (HolO_ro (isRo_roO c)).2 ⟨_, rfl, fun _ => rfl⟩
    · exact X.hol x y hx
  · rcases at0 x y hx with ⟨rfl, rfl⟩ | ⟨_, hx⟩
    · exact .inl ⟨rfl, rfl⟩
    · exact X.pl x y hx
  · rcases at0 x y hx with ⟨rfl, rfl⟩ | ⟨_, hx⟩
    · obtain ⟨c', E', e⟩ := X.old x _ hb hlt
      simp [roF] at e
    · exact X.old x y hx hlt
  · rcases X.done with hd | ⟨d1, d2, d3⟩
    · exact .inl hd
    · refine .inr ⟨d1, ?_, d3⟩
      rw [hupd_ne]
      · exact d2
      · rintro rfl; rw [d2] at hb; cases hb

/-- THE OPENING. -/
theorem Sol.opn {h : H} {cl : Bool} (X : Sol pr P j Wg N0 W0 D h cl gs w t) {M Wg' : Nat} (hn : ∀ b o, h b = some o → plainO o) (hM : h M = some (.cells #[pr.val [e0]] pr.E)) (hW : h Wg' = some (.cells #[.int .u64 0, .int .u32 0] pr.tg)) (hp : ∀ b, pr.pub [e0] b = none)
    (hb0 : pr.by_ e0 = 0) (hne : M ≠ Wg') : j = 0 ∧ Cmp pr P 0 M Wg' e0 [e0] 0 0 [] N0 W0 (fun _ => hupd (hupd h M (nM pr 0 [e0])) Wg' (nG pr 0 0 [])) D false gs w t := by
  have hcl : j = 0 ∧ cl = false := by
    rcases X.done with hd | ⟨_, d2, _⟩
    · exact hd
    · have := (hn _ _ d2).2
      rw [show nG pr 9 0 [] = noteO pr.tg 2 12 0 #[] from rfl, noteOf_noteO] at this
      cases this
  obtain ⟨rfl, rfl⟩ := hcl
  refine ⟨rfl, ?_⟩
  have hwM : w.heap[M]? = some (.cells #[pr.val [e0]] pr.E) := (HolO_own (not_isRo0 _)).1 (X.hol _ _ hM)
  have hwW : w.heap[Wg']? = some (.cells #[.int .u64 0, .int .u32 0] pr.tg) := (HolO_own (not_isRo0 _)).1 (X.hol _ _ hW)
  let h' := hupd (hupd h M (nM pr 0 [e0])) Wg' (nG pr 0 0 [])
  have at0 : ∀ b o, h' b = some o → (b = Wg' ∧ o = nG pr 0 0 []) ∨ (b = M ∧ o = nM pr 0 [e0]) ∨ (b ≠ M ∧ b ≠ Wg' ∧ h b = some o) := by
    intro b o hb
    by_cases e : b = Wg'
    · subst e
      have hb : hupd (hupd h M (nM pr 0 [e0])) b (nG pr 0 0 []) b = some o := hb
      rw [hupd_same] at hb; simp only [Option.some.injEq] at hb; exact .inl ⟨rfl, hb.symm⟩
    · have hb : hupd (hupd h M (nM pr 0 [e0])) Wg' (nG pr 0 0 []) b = some o := hb
      rw [hupd_ne _ _ e] at hb
      by_cases e2 : b = M
      · subst e2; rw [hupd_same] at hb; simp only [Option.some.injEq] at hb; exact .inr (.inl ⟨rfl, hb.symm⟩)
      · rw [hupd_ne _ _ e2] at hb; exact .inr (.inr ⟨e2, e, hb⟩)
  have noold : ∀ {b : Nat} {c : Array Value} {E : TypeId}, h b = some (.cells c E) → N0 ≤ b := by
    intro b c E hb
    rcases Nat.lt_or_ge b N0 with hlt | hge
    · obtain ⟨c', E', e⟩ := X.old b _ hb hlt
      simp [roF] at e
    · exact hge
  have hM' : h' M = some (nM pr 0 [e0]) := by
    show hupd (hupd h M (nM pr 0 [e0])) Wg' (nG pr 0 0 []) M = _
    rw [hupd_ne _ _ hne, hupd_same]
  have hW' : h' Wg' = some (nG pr 0 0 []) := hupd_same _ _ _
  have I : HI pr 0 M Wg' e0 [e0] 0 0 [] N0 W0 (fun _ => h') w := by
    refine ⟨fun k _ b o hb => ?_, fun k k' h1 h2 h3 => by omega, hM', hW', hne, fun b o hb hnn => ?_, fun k h1 h2 => by omega, rfl, ⟨hwM, fun b c E h => absurd h (by rw [hp]; simp)⟩, fun b c E h => absurd h (by rw [hp]; simp), .one, ⟨[], by simp, by simp⟩, fun v hv => ?_, X.bel, X.n0, fun k _ b o hb hlt => ?_⟩
    · rcases at0 b o hb with ⟨rfl, rfl⟩ | ⟨rfl, rfl⟩ | ⟨_, _, hb⟩
      · rw [hwW]; exact HolO_note.2 ⟨_, rfl, rfl, fun h => by omega, fun _ => ⟨0, 0, rfl⟩⟩
      · rw [hwM]; exact HolO_note.2 ⟨_, rfl, rfl, fun h => by omega, fun h => by omega⟩
      · exact X.hol b o hb
    · rcases at0 b o hb with ⟨rfl, rfl⟩ | ⟨rfl, rfl⟩ | ⟨_, _, hb⟩
      · exact .inr (.inl rfl)
      · exact .inl rfl
      · exact absurd (hn b o hb).2 hnn
    · simp at hv; subst hv; rw [hb0]; exact Nat.le_refl _
    · rcases at0 b o hb with ⟨rfl, rfl⟩ | ⟨rfl, rfl⟩ | ⟨_, _, hb⟩
      · have := noold hW; omega
      · have := noold hM; omega
      · exact X.old b o hb hlt
  have g0 : ∀ (i : Nat) (op : MemOp), t[i]? = some op → op.g = 0 := fun i op hi => by have := X.T.gs i op hi; omega
  have kn : ∀ i a, touchAt t i = some a → Knows t 0 i := fun i a ha => by
    obtain ⟨op, hop, _⟩ := touch_of ha
    have := knows_own hop
    rwa [g0 i op hop] at this
  refine ⟨I, ⟨X.T, fun k hk _ => ?_, fun k hk i a ha _ _ => ?_, fun i op a hop _ _ _ => g0 i op hop, fun i a ad _ _ hb => absurd (hp _) hb, X.nr0 rfl _, fun k hk => ?_, fun k h1 h2 => by omega⟩, X.size, fun k h1 h2 => by omega, fun k h1 h2 => by omega, ⟨0, 0, hwW, ?_⟩, fun e => by omega, by omega, fun e => by omega⟩
  · obtain rfl : k = 0 := by omega
    exact ⟨fun l hl i a ha _ => kn i a ha, fun l hl i a ha _ _ => kn i a ha⟩
  · obtain rfl : k = 0 := by omega
    exact kn i a ha
  · obtain rfl : k = 0 := by omega
    exact X.df0
  · have := Go.ConcN.Mode.opn (j := 0) (D := wdf D) (tag := .kd) trivial (fun i hi => by omega) (fun vs e => by cases e)
    rw [show tagOf 0 0 false = .kd from rfl]
    simpa [Vc, sumTo, pend] using this
end
end Go.Proofs.Ytojhnclkhiffkaa
