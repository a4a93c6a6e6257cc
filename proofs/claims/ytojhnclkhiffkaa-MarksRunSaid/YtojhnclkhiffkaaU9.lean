/-
  A step of a worker's.
-/
import Derived.Test.YtojhnclkhiffkaaU8
namespace Go.Proofs.Ytojhnclkhiffkaa
open Go.Conc Go.RowKit
open Go.ConcN (upd upd_same upd_ne WSit WgLive WD Vc)
open Go.ConcR (rd wr mk stA smA WgAt wgBlock KK Payload)
set_option linter.unusedVariables false

theorem goes_inv {s : GStep} {K : Goroutine → World → Array Event → Prop} (h : s.goes K) : ∃ g w es, s = .go g w es ∧ K g w es := by
  cases s <;> first | exact ⟨_, _, _, rfl, h⟩ | exact h.elim
theorem updC_updC {α : Type 1} (f : Nat → α) (i : Nat) (x y : α) : updC (updC f i x) i y = updC f i y := by
  funext a
  by_cases h : a = i
  · subst h; rw [updC_same, updC_same]
  · rw [updC_ne _ _ h, updC_ne _ _ h, updC_ne _ _ h]
theorem hdel_hupd_self (h : H) (b : Nat) (o : Obj) : hdel (hupd h b o) b = hdel h b := by
  funext x
  unfold hdel hupd
  by_cases e : x = b
  · rw [if_pos e, if_pos e]
  · rw [if_neg e, if_neg e, if_neg e]
section
variable {pr : Pro} {P : Program} {j M Wg : Nat} {e0 : Value} {γ : List Value} {ph V : Nat} {ds : List Value} {N0 : Nat} {W0 : World} {Hs : Nat → H} {D : Nat → Ch} {blk : Bool} {gs : Array Goroutine} {w w' : World} {t : Trace}
/-- An own block that is put aside: nothing is gained. -/
theorem aside_sub {h : H} {b : Nat} {c : Array Value} {E : TypeId} (hb : h b = some (.cells c E)) {o : Obj} (ho : o = .deferred none ∨ (∃ c' E' fr, o = .cells c' E' fr ∧ isRo c' fr) ∨ ∃ E n a L, o = noteO E n 0 a L) :
    (∀ l, OwnL (hupd h b o) l → OwnL h l) ∧ ∀ l, RdL (hupd h b o) l → RdL h l ∨ OwnL h l := by
  have own : ∀ ad : Addr, ad.block = b → OwnL h (.cell ad) := fun ad e => .inl ⟨c, E, _, by rw [e]; exact hb, not_isRo0 c⟩
  refine ⟨fun l hl => ?_, fun l hl => ?_⟩
  · cases l with
    | cell ad =>
      by_cases e : ad.block = b
      · exact own ad e
      · simp only [OwnL, hupd_ne _ _ e] at hl; exact hl
    | obj r =>
      obtain ⟨x, hx, hm⟩ := hl
      by_cases e : r = b
      · subst e
        rw [hupd_same] at hx
        simp only [Option.some.injEq] at hx
        subst hx
        rcases ho with rfl | ⟨c', E', fr, rfl, _⟩ | ⟨E', n, a, L, rfl⟩ <;> exact hm.elim
      · rw [hupd_ne _ _ e] at hx; exact ⟨x, hx, hm⟩
    | _ => exact hl.elim
  · cases l with
    | cell ad =>
      by_cases e : ad.block = b
      · exact .inr (own ad e)
      · simp only [RdL, hupd_ne _ _ e] at hl; exact .inl hl
    | _ => exact hl.elim
theorem note_inj {E E' : TypeId} {n n' t t' a a' : Nat} {L L' : Array Value} (h : noteO E n t a L = noteO E' n' t' a' L') : E = E' ∧ n = n' ∧ t = t' ∧ a = a' ∧ L = L' := by
  have := congrArg noteOf h
  simpa only [noteOf_noteO, Option.some.injEq, Prod.mk.injEq] using this
theorem Cmp.same (X : Cmp pr P j M Wg e0 γ ph V ds N0 W0 Hs D blk gs w t) {k : Nat} (k1 : 1 ≤ k) {c : Ch} (h1 : c.stage = (D k).stage) (h2 : c.fuel = (D k).fuel) (h3 : c.deaf = (D k).deaf) :
    (fun k' => (updC D k c k').stage) = (fun k' => (D k').stage) ∧ dfsOf ph (updC D k c) = dfsOf ph D ∧ wdf (updC D k c) = wdf D := by
  have key : ∀ k', (updC D k c k').stage = (D k').stage ∧ (updC D k c k').fuel = (D k').fuel ∧ (updC D k c k').deaf = (D k').deaf := by
    intro k'
    by_cases e : k' = k
    · subst e; rw [updC_same]; exact ⟨h1, h2, h3⟩
    · rw [updC_ne _ _ e]; exact ⟨rfl, rfl, rfl⟩
  refine ⟨funext fun k' => (key k').1, funext fun k' => ?_, funext fun i => ?_⟩
  · unfold dfsOf; rw [(key k').2.2]
  · unfold wdf; rw [(key _).1, (key _).2.1, (key _).2.2]

theorem Cmp.high (X : Cmp pr P j M Wg e0 γ ph V ds N0 W0 Hs D blk gs w t) {k : Nat} (k1 : 1 ≤ k) (hk : k ≤ j) (h8 : (D k).stage = 8) {g a : Goroutine} (hg : gs[k]? = some g) (hrun : g.status = .running)
    (ha : gs[0]? = some (bl blk a)) (har : a.status = .running) (hblk : blk = true → ph = 5 ∧ a.offers = none) :
    ∃ g' w' es γ' Hs' c' blk', stepG P false g w = .go g' w' es ∧ Cmp pr P j M Wg e0 γ' ph V ds N0 W0 Hs' (updC D k c') blk' ((gs.map (woken P g g' w')).setIfInBounds k g') w' (t ++ MemOp.ofEvents k g.frame.fn g.frame.place es) ∧
      ((gs.map (woken P g g' w')).setIfInBounds k g')[0]? = some (bl blk' a) ∧ (blk' = true → ph = 5 ∧ a.offers = none) ∧ Hs' 0 = Hs 0 ∧ ((c'.stage = 8 ∧ Tr.lt c'.rk (D k).rk) ∨ c'.stage < 8) := by
  obtain ⟨g₁, hg₁, hs⟩ := X.sit k k1 hk
  obtain rfl : g = g₁ := by rw [hg] at hg₁; exact Option.some.inj hg₁
  rcases hs with ⟨_, hdf, hs⟩ | ⟨h7, _⟩
  rotate_left
  · omega
  obtain ⟨st, sm, hwg, hmode⟩ := X.wg
  have hol := X.I.hol k hk
  have lastC : ∀ k', 1 ≤ k' → k' ≤ j → k' ≠ k → (D k').stage ≤ 7 → Hs k (D k').C = none := fun k' h1 h2 h3 h4 => def_none (X.I.ap k k' hk h2 (Ne.symm h3)) (X.lastCell h1 h2 h4)
  generalize hrk : (D k).rk = α at hs
  cases α with
  | mk ι f =>
    have hs' : RobW pr P (fun g h => ∃ i, TW pr P (f i) g h) g (Hs k) := hs
    cases hs' with
    | ord _ st1 =>
      obtain ⟨g', w', es, hgo, h1, F, i, hi⟩ := goes_inv (st1 w hol)
      obtain ⟨s1, s2, s3⟩ := X.same k1 (c := { D k with rk := f i }) rfl rfl rfl
      have hb := fun {b : Nat} (h : Hs k b = none) (hlt : b < w.heap.size) => F.block hlt (.inl h)
      have hwg' : WgAt pr.tg Wg w' st sm := hwg.of_block (F.block ((X.I.hol 0 (by omega)).lt X.I.hW) ((X.I.atW hk).imp id fun ⟨E, n, t, s, L, h, _⟩ => .inr (.inl ⟨E, n, t, s, L, h⟩)))
      obtain ⟨blk', c1, c2, c3⟩ := X.asm k1 hk (c' := { D k with rk := f i }) (u := MemOp.ofEvents k g.frame.fn g.frame.place es) hg ha har hblk (X.I.own hk F) (by rw [s1, s2]; exact X.tr.own X.I hk (.inr h8) F _ _) (.inl ⟨h8, hdf, by rw [upd_same]; exact hi⟩) (fun k' e => upd_ne _ _ e)
        (fun k' h1 h2 h3 h4 => hb (lastC k' h1 h2 h3 h4) ((X.I.hol k' h2).lt (X.lastCell h1 h2 h4))) rfl hwg' (fun blk' h1 _ => by rw [s3]; exact hmode.retag (tagOf_re h1)) (by rw [s3]; exact Nat.le_refl _)
      exact ⟨g', w', es, γ, _, _, blk', hgo, c1, c2, c3, upd_ne _ _ (by omega), .inl ⟨h8, i, rfl⟩⟩
    | sh _ M' k' L hM st1 =>
      rcases X.I.ntc k k1 hk M' _ hM (noteOf_ne _ _ _ _ _) with ⟨rfl, L', e, hext⟩ | ⟨_, d, _, e⟩
      rotate_left
      · have := (note_inj e).2.2.1; omega
      obtain ⟨_, _, _, rfl, eL⟩ := note_inj e
      have eL' : L = L' := by have := congrArg Array.toList eL; simpa using this
      subst eL'
      obtain ⟨g', w', es, h', γ', hgo, hu, hT, i, hi⟩ := st1 w γ hol X.I.at_ hext ⟨e0, X.I.hst⟩
      obtain ⟨w1, w2, w3, w4, w5, w6⟩ := upd_world (E := pr.E) X.I.at_.1 hu
      obtain ⟨s1, s2, s3⟩ := X.same k1 (c := { D k' with rk := f i }) rfl rfl rfl
      have hwg' : WgAt pr.tg Wg w' st sm := hwg.of_block (w6 Wg (Ne.symm X.I.ne))
      obtain ⟨blk', c1, c2, c3⟩ := X.asm k1 hk (c' := { D k' with rk := f i }) (u := MemOp.ofEvents k' g.frame.fn g.frame.place es) hg ha har hblk (X.I.sh k1 hk hu hT) (by rw [s1, s2]; exact X.tr.sh X.I k1 hk h8 (by rw [dfsOf, if_neg (by omega)]; exact hdf) hu hT _ _) (.inl ⟨h8, hdf, by rw [upd_same]; exact hi⟩) (fun k'' e => upd_ne _ _ e)
        (fun k'' h1 h2 h3 h4 => w6 _ fun e => by
          have := X.lastCell h1 h2 h4
          rcases X.I.atM h2 with h5 | ⟨E, n, t, s, L, h5, _⟩ <;> rw [e] at this <;> rw [h5] at this <;> cases this) rfl hwg' (fun blk' h1 _ => by rw [s3]; exact hmode.retag (tagOf_re h1)) (by rw [s3]; exact Nat.le_refl _)
      exact ⟨g', w', es, γ', _, _, blk', hgo, c1, c2, c3, upd_ne _ _ (by omega), .inl ⟨h8, i, rfl⟩⟩
    | leaf _ Wg' C E v d hd hC hp st1 =>
      rcases X.I.ntc k k1 hk Wg' _ hd (noteOf_ne _ _ _ _ _) with ⟨_, L', e, hext⟩ | ⟨rfl, d', hd', e⟩
      · have := (note_inj e).2.2.1; omega
      have ed : d = d' := by have := congrArg Array.toList (note_inj e).2.2.2.2; simpa using this
      subst ed
      have edk : d = (D k).d := by have := X.dd k k1 hk; rw [hd'] at this; simpa using this
      obtain ⟨m, hm⟩ := st1 w hol
      let c1 : Ch := { rk := (D k).rk, stage := 7, fuel := m, deaf := 0, d := (D k).d, C := C, E := E, v := v }
      have sub := aside_sub hC (o := .deferred none) (.inl rfl)
      have same : ∀ k', k' ≠ k → (updC D k c1 k') = D k' := fun k' e => updC_ne _ _ e
      have I1 := X.I.aside hk hC (o := .deferred none) ⟨_, rfl⟩ (fun h => absurd rfl h)
      have X1 : Cmp pr P j M Wg' e0 γ ph V ds N0 W0 (upd Hs k (hupd (Hs k) C (.deferred none))) (updC D k c1) blk gs w t := by
        refine ⟨I1, X.tr.sub (fun k' _ => ?_) (fun k' _ h => ?_) (fun k' _ => ?_) (fun k' _ _ h => ?_), X.size, fun k' h1 h2 => ?_, fun k' h1 h2 => ?_, ⟨st, sm, hwg, ?_⟩, fun e => ?_, X.jb⟩
        · by_cases e : k' = k
          · subst e; rw [upd_same]; exact sub
          · rw [upd_ne _ _ e]; exact ⟨fun _ h => h, fun _ h => .inl h⟩
        · by_cases e : k' = k
          · subst e; exact h8
          · simp only [same k' e] at h; exact h
        · unfold dfsOf
          by_cases e0 : k' = 0
          · rw [if_pos e0, if_pos e0]
          · rw [if_neg e0, if_neg e0]
            by_cases e : k' = k
            · subst e; rw [updC_same, hdf]
            · rw [same k' e]
        · by_cases e : k' = k
          · subst e; simp only [updC_same] at h; exact absurd (show (7 : Nat) ≤ 6 from h) (by omega)
          · simp only [same k' e] at h; exact h
        · by_cases e : k' = k
          · subst e
            rw [updC_same, upd_same]
            refine ⟨g, hg, .inr ⟨Nat.le_refl _, @WSit.r0 ⟨E⟩ _ _ _ _ _ _ _ _ _ _ _ _ _ hm, hupd_same _ _ _, ?_⟩⟩
            rw [hdel_hupd_self]
            show pr.post (D k').d _
            rw [← edk]; exact hp
          · rw [same k' e, upd_ne _ _ e]; exact X.sit k' h1 h2
        · by_cases e : k' = k
          · subst e; rw [updC_same]; exact X.dd k' h1 h2
          · rw [same k' e]; exact X.dd k' h1 h2
        · refine hmode.congr fun i _ => ?_
          unfold wdf
          by_cases e : i + 1 = k
          · rw [e, updC_same, h8]; rfl
          · rw [same _ e]
        · have : Vc j (wdf (updC D k c1)) = Vc j (wdf D) := Go.ConcN.sumTo_congr fun i _ => by
            unfold wdf Go.ConcN.cnt
            by_cases e : i + 1 = k
            · rw [e, updC_same, h8]; rfl
            · rw [same _ e]
          rw [this]; exact X.bd e
      obtain ⟨g', w', es, c', blk', hgo, hX, h0, hb, hr, hlt⟩ := X1.low k1 hk (by rw [updC_same]; exact Nat.le_refl _) hg hrun ha har hblk
      rw [updC_updC] at hX
      rw [updC_same] at hlt
      refine ⟨g', w', es, γ, _, c', blk', hgo, hX, h0, hb, upd_ne _ _ (by omega), .inr ?_⟩
      have h77 : c1.stage = 7 := rfl
      rcases hlt with h | ⟨h, _⟩ <;> omega
end
end Go.Proofs.Ytojhnclkhiffkaa
