/-
  THE RUN: every step of the machine keeps the invariant and lowers the measure, or is the return, and all is well.
-/
import Derived.Test.YtojhnclkhiffkaaU12
namespace Go.Proofs.Ytojhnclkhiffkaa
open Go.Conc Go.RowKit
open Go.ConcN (upd upd_same upd_ne WSit WgLive WD Vc Vc_le pend isOpen isW3 isFin OpenSt AllQuit get_map_set get_map_set_same RelBy cnt sumTo exists_counted norel_of_Bk bk_cell)
open Go.ConcR (rd wr stA smA WgAt wgBlock KK Payload Bk g_of_ofEvents ofEvent_mk again_blocked)
set_option linter.unusedVariables false

/-! ### The measure -/
abbrev TrLT : Tr → Tr → Prop := Relation.TransGen Tr.lt
def wrk : WR → WR → Prop := Prod.Lex (· < ·) (Prod.Lex TrLT (· < ·))
def stepL {α : Type 1} (r : α → α → Prop) (l' l : List α) : Prop := ∃ (i : Nat) (x y : α), l[i]? = some y ∧ r x y ∧ l' = l.set i x
theorem stepL_nil {α : Type 1} {r : α → α → Prop} : Acc (stepL r) [] := ⟨_, fun l ⟨i, x, y, h, _⟩ => by simp at h⟩
theorem stepL_cons {α : Type 1} {r : α → α → Prop} {x : α} {l : List α} (hx : Acc r x) (hl : Acc (stepL r) l) : Acc (stepL r) (x :: l) := by
  induction hx generalizing l with
  | intro x _ ihx =>
    induction hl with
    | intro l hl ihl =>
      refine ⟨_, fun m ⟨i, a, b, h1, h2, h3⟩ => ?_⟩
      cases i with
      | zero =>
        simp only [List.getElem?_cons_zero, Option.some.injEq] at h1
        subst h1
        rw [h3]
        exact ihx a h2 ⟨_, hl⟩
      | succ i =>
        rw [h3, List.set_cons_succ]
        exact ihl _ ⟨i, a, b, by simpa using h1, h2, rfl⟩
theorem stepL_wf {α : Type 1} {r : α → α → Prop} (h : WellFounded r) : WellFounded (stepL r) := ⟨fun l => by
  induction l with
  | nil => exact stepL_nil
  | cons x l ih => exact stepL_cons (h.apply x) ih⟩
theorem TrLT.wf : WellFounded TrLT := Tr.wf.transGen
theorem wrk.wf : WellFounded wrk := (Prod.lex ⟨_, Nat.lt_wfRel.wf⟩ ⟨_, (Prod.lex ⟨_, TrLT.wf⟩ ⟨_, Nat.lt_wfRel.wf⟩).wf⟩).wf
abbrev Ms := Tr × (List WR × Nat)
def LtM : Ms → Ms → Prop := Prod.Lex TrLT (Prod.Lex (stepL wrk) (· < ·))
theorem LtM.wf : WellFounded LtM := (Prod.lex ⟨_, TrLT.wf⟩ ⟨_, (Prod.lex ⟨_, stepL_wf wrk.wf⟩ ⟨_, Nat.lt_wfRel.wf⟩).wf⟩).wf
/-- The invariant rule, whatever the measure's universe. -/
theorem run_inv {P : Program} {α : Type 1} {r : α → α → Prop} (wf : WellFounded r) (Inv : α → Machine → Trace → Prop) (Q : Machine → Outcome → World → Trace → Prop)
    (h : ∀ μ m t, Inv μ m t → (∃ o w ops, stepT P m = (.ended o w, ops) ∧ Q m o w (t ++ ops)) ∨ (∃ m' ops μ', stepT P m = (.next m', ops) ∧ r μ' μ ∧ Inv μ' m' (t ++ ops))) :
    ∀ μ m t, Inv μ m t → ∃ n last o w t', runNT P (n + 1) m t = (.ended o w, t') ∧ runN P n m = .next last ∧ step P last = .ended o w ∧ Q last o w t' := by
  intro μ
  induction μ using wf.induction with
  | _ μ ih =>
    intro m t hI
    rcases h μ m t hI with ⟨o, w, ops, hs, hq⟩ | ⟨m', ops, μ', hs, hr, hI'⟩
    · exact ⟨0, m, o, w, t ++ ops, by simp [runNT, hs], rfl, by simp [step, hs], hq⟩
    · obtain ⟨n, last, o, w, t', h1, h2, h3, h4⟩ := ih μ' hr m' (t ++ ops) hI'
      exact ⟨n + 1, last, o, w, t', by rw [runNT_succ_next hs]; exact h1, by rw [runN_succ_next hs]; exact h2, h3, h4⟩

section
variable (pr : Pro) (P : Program) (N0 : Nat) (W0 : World)
def Now (α : Tr) (l : List WR) (bit : Nat) (gs : Array Goroutine) (w : World) (t : Trace) : Prop :=
  ∃ a h, a.status = .running ∧ TM pr P α a h ∧
    ((∃ j Wg D cl, Sol pr P j Wg N0 W0 D h cl gs w t ∧ gs[0]? = some a ∧ l = ranks j D ∧ bit = 1) ∨
     (∃ j M Wg e0 γ ph V ds Hs D blk, Cmp pr P j M Wg e0 γ ph V ds N0 W0 Hs D blk gs w t ∧ Hs 0 = h ∧ gs[0]? = some (bl blk a) ∧ (blk = true → ph = 5 ∧ a.offers = none) ∧ l = ranks j D ∧ bit = if blk then 0 else 1))
end
section
variable {pr : Pro} {P : Program} {N0 : Nat} {W0 : World}
def Res (pr : Pro) (P : Program) (N0 : Nat) (W0 : World) (α : Tr) (l : List WR) (gs : Array Goroutine) (w : World) (sl : Option (Nat × Nat)) (t : Trace) : Prop :=
  (∃ o w₁ ops, runT P (crowd gs w sl) 0 = (.ended o w₁, ops) ∧ ∀ w₀ sl₀, Go.Conc.Good P (PostW pr N0 W0) (crowd gs w₀ sl₀) o w₁ (t ++ ops)) ∨
  (∃ gs' w' ops α' l' bit', runT P (crowd gs w sl) 0 = (.next (crowd gs' w' sl), ops) ∧ Now pr P N0 W0 α' l' bit' gs' w' (t ++ ops) ∧ (TrLT α' α ∨ (α' = α ∧ l' = l ∧ bit' = 0)))
theorem Res.up {α α' : Tr} {l l' : List WR} {gs : Array Goroutine} {w : World} {sl : Option (Nat × Nat)} {t : Trace} (h : TrLT α' α) (r : Res pr P N0 W0 α' l' gs w sl t) : Res pr P N0 W0 α l gs w sl t := by
  rcases r with r | ⟨gs', w', ops, β, l'', b, h1, h2, h3⟩
  · exact .inl r
  · refine .inr ⟨gs', w', ops, β, l'', b, h1, h2, .inl ?_⟩
    rcases h3 with h3 | ⟨rfl, _⟩
    · exact h3.trans h
    · exact h
theorem Upd_self {Hs : Nat → H} {b : Nat} {o : Obj} (h : Hs 0 b = some o) : upd Hs 0 (hupd (Hs 0) b o) = Hs := by
  funext k
  by_cases e : k = 0
  · subst e
    rw [upd_same]
    funext x
    unfold hupd
    by_cases hx : x = b
    · rw [if_pos hx, hx, h]
    · rw [if_neg hx]
  · rw [upd_ne _ _ e]

theorem TM_run : ∀ (α : Tr) {g : Goroutine} {h : H}, TM pr P α g h → g.status = .running := by
  intro α
  induction α with
  | mk ι f ih =>
    intro g h hT
    have hT' : RobM pr P (JW pr P) (fun g h => ∃ i, TM pr P (f i) g h) g h := hT
    cases hT' with
    | opn M Wg' e0 hn hM hW hp hb hne st => obtain ⟨i, hi⟩ := st; exact ih i hi
    | ro b c E hb st => obtain ⟨i, hi⟩ := st; exact ih i hi
    | part b c E hb hg st => obtain ⟨i, hi⟩ := st; exact ih i hi
    | _ => assumption
theorem TM_running {α : Tr} {g : Goroutine} {h : H} (hT : TM pr P α g h) : g.status = .running := TM_run α hT

set_option maxHeartbeats 2000000 in
theorem mainStep : ∀ (α : Tr) {l : List WR} {gs : Array Goroutine} {w : World} {t : Trace}, Now pr P N0 W0 α l 1 gs w t → ∀ sl, Res pr P N0 W0 α l gs w sl t := by
  intro α
  induction α with
  | mk ι f ih =>
    intro l gs w t hN sl
    obtain ⟨a, h, har, hT, hN⟩ := hN
    have hT' : RobM pr P (JW pr P) (fun g h => ∃ i, TM pr P (f i) g h) a h := hT
    have lt : ∀ i, TrLT (f i) (.mk ι f) := fun i => .single ⟨i, rfl⟩
    rcases hN with ⟨j, Wg, D, cl, X, ha, rfl, _⟩ | ⟨j, M, Wg, e0, γ, ph, V, ds, Hs, D, blk, X, rfl, ha, hblk, rfl, hbit⟩
    · -- ALONE
      have noG : ∀ {Wg' ph V ds}, h Wg' = some (nG pr ph V ds) → ph = 9 := by
        intro Wg' ph V ds hW
        rcases X.pl _ _ hW with hp | ⟨_, _, e⟩
        · exact absurd hp.2 (noteOf_ne _ _ _ _ _)
        · have := (note_inj e).2.2.1; omega
      cases hT' with
      | ord hs st =>
        obtain ⟨a', w', es, hgo, h1, F, i, hi⟩ := goes_inv (st w X.hol)
        refine .inr ⟨_, w', _, f i, _, 1, runT_crowd_go (i := 0) (g' := a') ha (by simpa using hgo), ⟨a', h1, TM_running hi, hi, .inl ⟨j, Wg, D, cl, X.own F _ _, get_map_set_same _ _ _ (by rw [X.size]; omega), rfl, rfl⟩⟩, .inl (lt i)⟩
      | ret hs hn st =>
        obtain ⟨v, es, hst, hev, hfin⟩ := st w X.hol
        exact .inl (X.ret ha hst hev hfin sl)
      | opn M Wg' e0 hn hM hW hp hb hne st =>
        obtain ⟨i, hi⟩ := st
        obtain ⟨rfl, C⟩ := X.opn hn hM hW hp hb hne
        exact (ih i ⟨a, _, har, hi, .inr ⟨0, M, Wg', e0, [e0], 0, 0, [], _, D, false, C, rfl, ha, by simp, rfl, rfl⟩⟩ sl).up (lt i)
      | ro b c E hb st =>
        obtain ⟨i, hi⟩ := st
        exact (ih i ⟨a, _, har, hi, .inl ⟨j, Wg, D, cl, X.aside0 hb, ha, rfl, rfl⟩⟩ sl).up (lt i)
      | part b c E hb hg st => obtain ⟨Wg', ph, V, ds, hlt, hW⟩ := hg; have := noG hW; omega
      | dis hs Wg' V ds hW st => have := noG hW; omega
      | said hs Wg' ph V ds hph hW st => have := noG hW; omega
      | add hs Wg' V ds hW hV st => have := noG hW; omega
      | ena hs Wg' ph V ds hph hW st => have := noG hW; omega
      | go hs Wg' V ds hW st => have := noG hW; omega
      | ld hs Wg' V ds hW st => have := noG hW; omega
      | cas hs Wg' u ds hW st => have := noG hW; omega
      | sem hs Wg' V ds ho hW st => have := noG hW; omega
      | ld2 hs Wg' V ds hW st => have := noG hW; omega
      | acq hs Wg' V ds hW st => have := noG hW; omega
    · -- IN COMPANY
      obtain rfl : blk = false := by cases blk with | false => rfl | true => simp at hbit
      have ha : gs[0]? = some a := ha
      have hol := X.I.hol 0 (by omega)
      obtain ⟨st, sm, hwg, hmode⟩ := X.wg
      have isW : ∀ {Wg' ph' V' ds'}, Hs 0 Wg' = some (nG pr ph' V' ds') → Wg' = Wg ∧ ph' = ph ∧ V' = V ∧ ds' = ds := by
        intro Wg' ph' V' ds' hW
        rcases X.I.nts0 _ _ hW (noteOf_ne _ _ _ _ _) with rfl | rfl | ⟨E, n, s, L, e⟩
        · have := (note_inj (Option.some.inj (hW.symm.trans X.I.hM))).2.2.1; omega
        · have := note_inj (Option.some.inj (hW.symm.trans X.I.hW))
          refine ⟨rfl, by omega, this.2.2.2.1, ?_⟩
          have := congrArg Array.toList this.2.2.2.2
          simpa using this
        · have := (note_inj e).2.2.1; omega
      have hVj := Vc_le j (wdf D)
      have dl := X.I.dl
      -- bookkeeping: all the phases
      have book : ∀ {a' : Goroutine} {w' : World} {es : Array Event} {ph' V' : Nat} {st' sm' : Int} {i : ι}, stepG P true a w = .go a' w' es → Aside Wg w w' → WgAt pr.tg Wg w' st' sm' → (∀ op ∈ MemOp.ofEvents 0 a.frame.fn a.frame.place es, ShOp (InB Wg) 0 op) → (∀ e ∈ es, e.loc ≠ .mark (.release (stA Wg))) →
          deafBehind (dph ph) es = dph ph' → Go.ConcN.Mode j (wdf D) (tagOf ph' V' false) st' sm' → (ph' = 1 → Vc j (wdf D) ≤ V') → ((ph' = 2 ∨ ph' = 3) ∨ 7 < ph' → j < 2147483646 ∧ ph' ≤ 7) → TM pr P (f i) a' (hupd (Hs 0) Wg (nG pr ph' V' ds)) →
          Res pr P N0 W0 (.mk ι f) (ranks j D) gs w sl t := by
        intro a' w' es ph' V' st' sm' i hgo hAs hwg' hsh hnr hdf hm hbd hjb hi
        exact .inr ⟨_, w', _, f i, _, 1, runT_crowd_go (i := 0) (g' := a') ha (by simpa using hgo), ⟨a', _, TM_running hi, hi, .inr ⟨j, M, Wg, e0, γ, ph', V', ds, _, D, false, X.book0 _ _ hAs hwg' hsh hnr hdf hm hbd hjb, upd_same _ _ _, get_map_set_same _ _ _ (by rw [X.size]; omega), by simp, rfl, rfl⟩⟩, .inl (lt i)⟩
      have mks : ∀ {m : Mark}, (MemAct.mark m).touch? = none → ∀ op ∈ MemOp.ofEvents 0 a.frame.fn a.frame.place #[Go.ConcR.mk m], ShOp (InB Wg) 0 op := by
        intro m hm op hop
        rw [ofEvents_eq] at hop
        simp only [List.map_toArray, List.map_cons, List.map_nil, List.mem_toArray, List.mem_cons, List.not_mem_nil, or_false] at hop
        subst hop
        refine ⟨rfl, fun x hx => ?_⟩
        rw [ofEvent_mk, hm] at hx; cases hx
      have bk : ∀ {es : Array Event}, (∀ e ∈ es, Bk Wg e) → (∀ op ∈ MemOp.ofEvents 0 a.frame.fn a.frame.place es, ShOp (InB Wg) 0 op) ∧ ∀ e ∈ es, e.loc ≠ .mark (.release (stA Wg)) := fun h => ⟨shop_of_Bk h, norel_of_Bk h⟩
      have brd : ∀ e ∈ #[rd (stA Wg)], Bk Wg e := by intro e he; simp at he; subst he; exact bk_cell _ _ rfl
      have brw : ∀ e ∈ #[rd (stA Wg), wr (stA Wg)], Bk Wg e := by intro e he; simp at he; rcases he with rfl | rfl <;> exact bk_cell _ _ rfl
      cases hT' with
      | ord hs st =>
        obtain ⟨a', w', es, hgo, h1, F, i, hi⟩ := goes_inv (st w hol)
        exact .inr ⟨_, w', _, f i, _, 1, runT_crowd_go (i := 0) (g' := a') ha (by simpa using hgo), ⟨a', h1, TM_running hi, hi, .inr ⟨j, M, Wg, e0, γ, ph, V, ds, _, D, false, X.own0 F _ _, upd_same _ _ _, get_map_set_same _ _ _ (by rw [X.size]; omega), by simp, rfl, rfl⟩⟩, .inl (lt i)⟩
      | ret hs hn st =>
        exfalso
        rcases hn with hn | ⟨Wg', hn⟩
        · rcases hn _ _ X.I.hM with h | h
          · exact absurd h.2 (noteOf_ne _ _ _ _ _)
          · have := (note_inj h).2.2.1; omega
        · obtain ⟨_, e, _⟩ := isW hn
          subst e
          have := (X.jb.2 (.inr (by omega))).2
          omega
      | opn M Wg' e0 hn hM hW hp hb hne st => exact absurd (hn _ _ X.I.hM).2 (noteOf_ne _ _ _ _ _)
      | ro b c E hb st =>
        obtain ⟨i, hi⟩ := st
        exact (ih i ⟨a, _, har, hi, .inr ⟨j, M, Wg, e0, γ, ph, V, ds, _, D, false, X.aside0 hb ((HolO_ro (isRo_roO c)).2 ⟨_, rfl, fun _ => rfl⟩) (fun h => absurd rfl h) (.inr (.inl ⟨c, E, _, rfl, isRo_roO c⟩)), upd_same _ _ _, ha, by simp, rfl, rfl⟩⟩ sl).up (lt i)
      | part b c E hb hg st =>
        obtain ⟨i, hi⟩ := st
        exact (ih i ⟨a, _, har, hi, .inr ⟨j, M, Wg, e0, γ, ph, V, ds, _, D, false, X.aside0 hb (HolO_note.2 ⟨c, rfl, rfl, fun _ _ _ => rfl, fun h => by omega⟩) (fun _ => ⟨E, c.size, 0, c, rfl⟩) (.inr (.inr ⟨E, c.size, 0, c, rfl⟩)), upd_same _ _ _, ha, by simp, rfl, rfl⟩⟩ sl).up (lt i)
      | dis hs Wg' V' ds' hW st' =>
        obtain ⟨rfl, rfl, rfl, rfl⟩ := isW hW
        obtain ⟨a', hgo, i, hi⟩ := st' w hol
        exact book (ph' := 1) (V' := ds'.length) hgo (.refl _ w) hwg (mks rfl) (by intro e he; simp at he; subst he; simp [Go.ConcR.mk]) rfl (hmode.reopen (tag := .kd) (tag' := .anch) trivial trivial rfl (fun vs e => by cases e)) (fun _ => by omega) (fun h => by omega) hi
      | said hs Wg' ph' V' ds' hph hW st' =>
        obtain ⟨rfl, rfl, rfl, rfl⟩ := isW hW
        obtain ⟨a', ad, hb, hgo, i, hi⟩ := st' w hol
        have hi' : TM pr P (f i) a' (hupd (Hs 0) Wg' (nG pr ph' V' ds')) := by
          have := congrFun (Upd_self (Hs := Hs) X.I.hW) 0
          rw [upd_same] at this
          rw [this]; exact hi
        rcases hgo with hgo | hgo
        · refine book (ph' := ph') (V' := V') hgo (.refl _ w) hwg ?_ (by intro e he; simp at he; subst he; simp [Go.ConcR.mk]) (Go.ConcN.deafBehind_idle (by intro e he; simp at he; subst he; simp [Go.ConcR.mk]) _) hmode X.bd X.jb.2 hi'
          intro op hop
          rw [ofEvents_eq] at hop
          simp only [List.map_toArray, List.map_cons, List.map_nil, List.mem_toArray, List.mem_cons, List.not_mem_nil, or_false] at hop
          subst hop
          refine ⟨rfl, fun x hx => ?_⟩
          simp only [ofEvent_mk, MemAct.touch?, Option.some.injEq] at hx
          subst hx
          exact ⟨⟨ad, rfl, hb⟩, by simp, fun _ => rfl⟩
        · refine book (ph' := ph') (V' := V') hgo (.refl _ w) hwg ?_ (by intro e he; simp at he; subst he; simp [Go.ConcR.mk]) (Go.ConcN.deafBehind_idle (by intro e he; simp at he; subst he; simp [Go.ConcR.mk]) _) hmode X.bd X.jb.2 hi'
          intro op hop
          rw [ofEvents_eq] at hop
          simp only [List.map_toArray, List.map_cons, List.map_nil, List.mem_toArray, List.mem_cons, List.not_mem_nil, or_false] at hop
          subst hop
          refine ⟨rfl, fun x hx => ?_⟩
          simp only [ofEvent_mk, MemAct.touch?, Option.some.injEq] at hx
          subst hx
          exact ⟨⟨ad, rfl, hb⟩, by simp, fun _ => rfl⟩
      | add hs Wg' V' ds' hW hV st' =>
        obtain ⟨rfl, rfl, rfl, rfl⟩ := isW hW
        obtain ⟨ho, rfl, rfl, _⟩ := hmode.open_inv (tag := .anch) trivial
        obtain ⟨a', hgo, i, hi⟩ := st' w (Vc j (wdf D)) (X.bd rfl) hol (by simpa [pend] using hwg)
        refine book (ph' := 2) (V' := V') hgo (aside_setCell w (stA Wg') _) (hwg.setSt _) (bk brw).1 (bk brw).2 (by simp [deafBehind, dph, rd, wr]) ?_ (fun h => by omega) (fun _ => by omega) hi
        have e : (((Vc j (wdf D) : Nat) : Int) + 1) * KK = ((Vc j (wdf D) + pend (.sp 0 3) : Nat) : Int) * KK := by simp [pend]
        rw [e]
        exact .opn trivial ho (fun vs e => by cases e)
      | ena hs Wg' ph' V' ds' hph hW st' =>
        obtain ⟨rfl, rfl, rfl, rfl⟩ := isW hW
        obtain ⟨a', hgo, i, hi⟩ := st' w hol
        rcases hph with rfl | rfl
        · exact book (ph' := 3) (V' := V') hgo (.refl _ w) hwg (mks rfl) (by intro e he; simp at he; subst he; simp [Go.ConcR.mk]) rfl hmode (fun h => by omega) (fun _ => ⟨(X.jb.2 (.inl (.inl rfl))).1, by omega⟩) hi
        · refine book (ph' := 7) (V' := V') hgo (.refl _ w) hwg (mks rfl) (by intro e he; simp at he; subst he; simp [Go.ConcR.mk]) rfl ?_ (fun h => by omega) (fun h => by omega) hi
          obtain ⟨hq, rfl, rfl⟩ := hmode.fin_inv (tag := .w4) trivial
          exact .fin trivial hq
      | go hs Wg' V' ds' hW st' =>
        obtain ⟨rfl, rfl, rfl, rfl⟩ := isW hW
        obtain ⟨a', child, d, hc, h', hgo, sp, hcW, hW', ⟨β, hch⟩, i, hi⟩ := st' w hol
        have hrun := runT_crowd_spawn (P := P) (sl := sl) (i := 0) ha (by simpa using hgo)
        have e0' : MemOp.ofEvents 0 a.frame.fn a.frame.place #[] = #[] := by rw [ofEvents_eq]; simp
        rw [e0', X.size] at hrun
        refine .inr ⟨_, w, _, f i, _, 1, hrun, ⟨a', h', TM_running hi, hi, .inr ⟨j + 1, M, Wg', e0, γ, 0, 0, _, _, _, false, X.fork sp hcW hW' hch (x := { g := 0, fn := a.frame.fn, pos := a.frame.place, act := .go (j + 1) }) (y := { g := j + 1, fn := child.frame.fn, pos := a.frame.place, act := .start }) ⟨rfl, rfl⟩ ⟨rfl, rfl⟩, ?_, ?_, by simp, rfl, rfl⟩⟩, .inl (lt i)⟩
        · rw [upd_ne _ _ (by omega), upd_same]
        · rw [Array.getElem?_push_lt (by simp [X.size]), ← Array.getElem?_eq_getElem]
          simp [X.size, bl]
      | ld hs Wg' V' ds' hW st' =>
        obtain ⟨rfl, rfl, rfl, rfl⟩ := isW hW
        obtain ⟨ho, rfl, rfl, _⟩ := hmode.open_inv (tag := .anch) trivial
        obtain ⟨a', hgo, i, hi⟩ := st' w (Vc j (wdf D)) (X.bd rfl) hol (by simpa [pend] using hwg)
        by_cases h0 : Vc j (wdf D) = 0
        · rw [if_pos h0] at hi
          refine book (ph' := 6) (V' := 0) hgo (.refl _ w) hwg (bk brd).1 (bk brd).2 (by simp [deafBehind, dph, rd]) ?_ (fun h => by omega) (fun h => by omega) hi
          have e : ((Vc j (wdf D) + pend .anch : Nat) : Int) * KK = 0 := by rw [h0]; simp [pend]
          rw [e]
          exact .fin trivial (Go.ConcN.allQuit_of ho h0)
        · rw [if_neg h0] at hi
          exact book (ph' := 4) (V' := (Vc j (wdf D))) hgo (.refl _ w) hwg (bk brd).1 (bk brd).2 (by simp [deafBehind, dph, rd]) (hmode.reopen (tag := .anch) (tag' := .w2 (Vc j (wdf D))) trivial trivial rfl (fun vs e => by cases e; omega)) (fun h => by omega) (fun h => by omega) hi
      | cas hs Wg' u ds' hW st' =>
        obtain ⟨rfl, rfl, rfl, rfl⟩ := isW hW
        obtain ⟨ho, rfl, rfl, hw2⟩ := hmode.open_inv (tag := .w2 u) trivial
        obtain ⟨hle, h1⟩ := hw2 u rfl
        obtain ⟨hhit, hmiss⟩ := st' w (Vc j (wdf D)) hle hol (by simpa [pend] using hwg)
        by_cases e : Vc j (wdf D) = u
        · obtain ⟨a', hgo, i, hi⟩ := hhit e
          exact book (ph' := 5) (V' := 0) hgo (aside_setCell w (stA Wg') _) (hwg.setSt _) (bk brw).1 (bk brw).2 (by simp [deafBehind, dph, rd, wr]) (.reg trivial ho (by omega)) (fun h => by omega) (fun h => by omega) hi
        · obtain ⟨a', hgo, i, hi⟩ := hmiss e
          exact book (ph' := 1) (V' := (Vc j (wdf D))) hgo (.refl _ w) hwg (bk brd).1 (bk brd).2 (by simp [deafBehind, dph, rd]) (hmode.reopen (tag := .w2 u) (tag' := .anch) trivial trivial rfl (fun vs e => by cases e)) (fun _ => Nat.le_refl _) (fun h => by omega) hi
      | sem hs Wg' V' ds' hoff hW st' =>
        obtain ⟨rfl, rfl, rfl, rfl⟩ := isW hW
        obtain ⟨hb, htake⟩ := st' w hol
        have block : WgAt pr.tg Wg' w st 0 → Go.ConcN.Mode j (wdf D) (tagOf 5 V' true) st 0 → sm = 0 → Res pr P N0 W0 (.mk ι f) (ranks j D) gs w sl t := by
          intro h0 hm hsm
          subst hsm
          have hgo := hb ⟨st, h0⟩
          have hnw : ∀ o, woken P a { a with status := .blocked } w o = o := fun o => by unfold woken; simp
          refine .inr ⟨_, w, _, .mk ι f, _, 0, runT_crowd_go (i := 0) (g' := { a with status := .blocked }) ha (by simpa using hgo), ⟨a, Hs 0, har, hT, .inr ⟨j, M, Wg', e0, γ, 5, V', ds', _, D, true, ?_, rfl, get_map_set_same _ _ _ (by rw [X.size]; omega), fun _ => ⟨rfl, hoff⟩, rfl, rfl⟩⟩, .inr ⟨rfl, rfl, rfl⟩⟩
          refine X.asm0 X.I ?_ (fun _ _ => rfl) (fun _ _ _ _ => rfl) h0 hm (fun h => by omega) (fun h => by omega)
          have : MemOp.ofEvents 0 a.frame.fn a.frame.place #[] = #[] := by rw [ofEvents_eq]; simp
          rw [this, Array.append_empty]
          exact X.tr
        generalize htag : tagOf 5 V' false = tag at hmode
        have e3 : tag = .w3 := by rw [← htag]; rfl
        subst e3
        cases hmode with
        | opn h1 _ _ => exact h1.elim
        | reg h1 h2 h3 => exact block hwg (.reg trivial h2 h3) rfl
        | last L h1 h2 h3 h4 => exact block hwg (.last L trivial h2 h3 h4) rfl
        | sema h2 =>
          obtain ⟨a', hgo, i, hi⟩ := htake hwg
          refine book (ph' := 6) (V' := 0) hgo (aside_setCell w (smA Wg') _) (hwg.setSm 0) (shop_of_Bk ?_) (norel_of_Bk (Wg := Wg') ?_) (by simp [deafBehind, dph, semEvents]) (.fin trivial h2) (fun h => by omega) (fun h => by omega) hi
          · intro e he
            simp [semEvents] at he
            rcases he with rfl | rfl | rfl | rfl
            · exact .inl rfl
            · exact bk_cell _ _ rfl
            · exact bk_cell _ _ rfl
            · exact .inr (.inl rfl)
          · intro e he
            simp [semEvents] at he
            rcases he with rfl | rfl | rfl | rfl
            · exact .inl rfl
            · exact bk_cell _ _ rfl
            · exact bk_cell _ _ rfl
            · exact .inr (.inl rfl)
        | fin h1 _ => exact h1.elim
      | ld2 hs Wg' V' ds' hW st' =>
        obtain ⟨rfl, rfl, rfl, rfl⟩ := isW hW
        obtain ⟨hq, rfl, rfl⟩ := hmode.fin_inv (tag := .w4) trivial
        obtain ⟨a', hgo, i, hi⟩ := st' w hol hwg
        have hi' : TM pr P (f i) a' (hupd (Hs 0) Wg' (nG pr 6 V' ds')) := by
          have := congrFun (Upd_self (Hs := Hs) X.I.hW) 0
          rw [upd_same] at this
          rw [this]; exact hi
        exact book (ph' := 6) (V' := V') hgo (.refl _ w) hwg (bk brd).1 (bk brd).2 (by simp [deafBehind, dph, rd]) (.fin trivial hq) (fun h => by omega) (fun h => by omega) hi'
      | acq hs Wg' V' ds' hW st' =>
        obtain ⟨rfl, rfl, rfl, rfl⟩ := isW hW
        obtain ⟨a', hgo, hJ⟩ := st' w hol
        obtain ⟨hs', hj, hS⟩ := X.join a.frame.fn a.frame.place (a := a) (a' := a')
        obtain ⟨h', k1, k2, i, hi⟩ := hJ hs' hj
        exact .inr ⟨_, w, _, f i, _, 1, runT_crowd_go (i := 0) (g' := a') ha (by simpa using hgo), ⟨a', h', TM_running hi, hi, .inl ⟨j, Wg', D, true, hS h' k1 k2, get_map_set_same _ _ _ (by rw [X.size]; omega), rfl, rfl⟩⟩, .inl (lt i)⟩

/-! ### A worker's step; the scheduler's draw -/
theorem rank_lt {j : Nat} {D : Nat → Ch} {k : Nat} (k1 : 1 ≤ k) (hk : k ≤ j) {c : Ch} (h : wrk (rank c) (rank (D k))) : stepL wrk (ranks j (updC D k c)) (ranks j D) := by
  refine ⟨k - 1, rank c, rank (D k), ?_, h, ranks_upd j D k1 hk c⟩
  unfold ranks
  rw [List.getElem?_map, List.getElem?_range (by omega)]
  simp [show k - 1 + 1 = k by omega]
theorem kidStep {α : Tr} {l : List WR} {bit : Nat} {gs : Array Goroutine} {w : World} {t : Trace} (hN : Now pr P N0 W0 α l bit gs w t) {k : Nat} (k1 : 1 ≤ k) {g : Goroutine} (hg : gs[k]? = some g) (hrun : g.status = .running) (sl : Option (Nat × Nat)) :
    ∃ gs' w' ops l' bit', runT P (crowd gs w sl) k = (.next (crowd gs' w' sl), ops) ∧ Now pr P N0 W0 α l' bit' gs' w' (t ++ ops) ∧ stepL wrk l' l := by
  obtain ⟨a, h, har, hT, hN⟩ := hN
  have hk0 : (k == 0) = false := by simp; omega
  rcases hN with ⟨j, Wg, D, cl, X, ha, rfl, _⟩ | ⟨j, M, Wg, e0, γ, ph, V, ds, Hs, D, blk, X, rfl, ha, hblk, rfl, hbit⟩
  · have hk : k ≤ j := by have := (Array.getElem?_eq_some_iff.1 hg).1; rw [X.size] at this; omega
    obtain ⟨g', es, c', hgo, h1, h2, h3, hX⟩ := X.kid k1 hk hg hrun
    obtain ⟨X', ha'⟩ := hX a ha har
    refine ⟨_, w, _, _, 1, runT_crowd_go (i := k) (g' := g') hg (by rw [hk0]; exact hgo), ⟨a, h, har, hT, .inl ⟨j, Wg, _, cl, X', ha', rfl, rfl⟩⟩, rank_lt k1 hk ?_⟩
    unfold rank
    rw [h1, h2]
    exact .right _ (.right _ h3)
  · have hk : k ≤ j := by have := (Array.getElem?_eq_some_iff.1 hg).1; rw [X.size] at this; omega
    rcases Nat.lt_or_ge (D k).stage 8 with h7 | h8
    · obtain ⟨g', w', es, c', blk', hgo, X', ha', hb', hr, hlt⟩ := X.low k1 hk (by omega) hg hrun ha har hblk
      refine ⟨_, w', _, _, _, runT_crowd_go (i := k) (g' := g') hg (by rw [hk0]; exact hgo), ⟨a, _, har, hT, .inr ⟨j, M, Wg, e0, γ, ph, V, ds, _, _, blk', X', rfl, ha', hb', rfl, rfl⟩⟩, rank_lt k1 hk ?_⟩
      unfold rank
      rcases hlt with hlt | ⟨h1, h2⟩
      · exact .left _ _ hlt
      · rw [h1, hr]; exact .right _ (.right _ (by omega))
    · have h8' : (D k).stage = 8 := by
        obtain ⟨_, _, hs⟩ := X.sit k k1 hk
        rcases hs with ⟨h, _⟩ | ⟨h, _⟩ <;> omega
      obtain ⟨g', w', es, γ', Hs', c', blk', hgo, X', ha', hb', h0, hlt⟩ := X.high k1 hk h8' hg hrun ha har hblk
      refine ⟨_, w', _, _, _, runT_crowd_go (i := k) (g' := g') hg (by rw [hk0]; exact hgo), ⟨a, _, har, hT, .inr ⟨j, M, Wg, e0, γ', ph, V, ds, _, _, blk', X', h0, ha', hb', rfl, rfl⟩⟩, rank_lt k1 hk ?_⟩
      unfold rank
      rcases hlt with ⟨h1, h2⟩ | h1
      · rw [h1, h8']; exact .right _ (.left _ _ (.single h2))
      · exact .left _ _ (by omega)

theorem HI.at {j M Wg : Nat} {e0 : Value} {γ : List Value} {ph V : Nat} {ds : List Value} {Hs : Nat → H} {w : World} (I : HI pr j M Wg e0 γ ph V ds N0 W0 Hs w) (d : Nat) : HI pr j M Wg e0 γ ph V ds N0 W0 Hs (w.at d) :=
  ⟨I.hol, I.ap, I.hM, I.hW, I.ne, I.nts0, I.ntc, I.dl, I.at_, I.pub, I.hst, I.ext0, I.byle, ⟨I.bel.os, I.bel.tape, I.bel.output, I.bel.size, I.bel.block⟩, I.n0, I.old⟩
theorem Now.at {α : Tr} {l : List WR} {bit : Nat} {gs : Array Goroutine} {w : World} {t : Trace} (hN : Now pr P N0 W0 α l bit gs w t) (d : Nat) : Now pr P N0 W0 α l bit gs (w.at d) t := by
  obtain ⟨a, h, har, hT, hN⟩ := hN
  refine ⟨a, h, har, hT, ?_⟩
  rcases hN with ⟨j, Wg, D, cl, X, ha, hl, hb⟩ | ⟨j, M, Wg, e0, γ, ph, V, ds, Hs, D, blk, X, hh, ha, hblk, hl, hbit⟩
  · exact .inl ⟨j, Wg, D, cl, ⟨X.hol, X.pl, X.T, X.p, X.df0, ⟨X.bel.os, X.bel.tape, X.bel.output, X.bel.size, X.bel.block⟩, X.n0, X.old, X.size, X.kids, X.nr0, X.done⟩, ha, hl, hb⟩
  · refine .inr ⟨j, M, Wg, e0, γ, ph, V, ds, Hs, D, blk, ⟨X.I.at d, X.tr, X.size, fun k k1 hk => ?_, X.dd, X.wg, X.bd, X.jb⟩, hh, ha, hblk, hl, hbit⟩
    obtain ⟨g, hg, hs⟩ := X.sit k k1 hk
    exact ⟨g, hg, hs.rely (fun _ => rfl) X.live⟩
theorem Sit.running {Wg : Nat} {c : Ch} {h : H} {g : Goroutine} {w : World} (s : Sit pr P Wg c h g w) (hs : c.stage ≠ 1) : g.status = .running := by
  rcases s with ⟨_, _, s⟩ | ⟨_, h2, _⟩
  · exact TW.running s
  · exact @Go.ConcN.WSit.running_of ⟨c.E⟩ _ _ _ _ _ _ _ _ _ _ _ _ _ _ _ h2 hs
/-- NO DEADLOCK; nobody sleeps. -/
theorem Now.alive {α : Tr} {l : List WR} {bit : Nat} {gs : Array Goroutine} {w : World} {t : Trace} (hN : Now pr P N0 W0 α l bit gs w t) : (∀ g ∈ gs, awake g) ∧ (∃ (i : Nat) (g : Goroutine), gs[i]? = some g ∧ g.status = .running) ∧ (∀ g, gs[0]? = some g → g.status = .running → bit = 1) := by
  obtain ⟨a, h, har, hT, hN⟩ := hN
  rcases hN with ⟨j, Wg, D, cl, X, ha, hl, hb⟩ | ⟨j, M, Wg, e0, γ, ph, V, ds, Hs, D, blk, X, hh, ha, hblk, hl, hbit⟩
  · refine ⟨fun g hg tm => ?_, ⟨0, a, ha, har⟩, fun _ _ _ => hb⟩
    obtain ⟨i, hi⟩ := Array.mem_iff_getElem?.1 hg
    by_cases h0 : i = 0
    · subst h0; rw [ha] at hi; cases hi; rw [har]; simp
    · obtain ⟨_, _, g1, hg1, hq⟩ := X.kids i (by omega) (by have := (Array.getElem?_eq_some_iff.1 hi).1; rw [X.size] at this; omega)
      rw [hi] at hg1; cases hg1
      rcases hq.status with h | h <;> rw [h] <;> simp
  · refine ⟨fun g hg tm => ?_, ?_, fun g hg hr => ?_⟩
    · obtain ⟨i, hi⟩ := Array.mem_iff_getElem?.1 hg
      by_cases h0 : i = 0
      · subst h0
        rw [ha] at hi; cases hi
        cases blk with
        | false => rw [show (bl false a).status = a.status from rfl, har]; simp
        | true => rw [show (bl true a).status = .blocked from rfl]; simp
      · obtain ⟨g1, hg1, hs⟩ := X.sit i (by omega) (by have := (Array.getElem?_eq_some_iff.1 hi).1; rw [X.size] at this; omega)
        rw [hi] at hg1; cases hg1
        rcases hs.status with h | h <;> rw [h] <;> simp
    · cases blk with
      | false => exact ⟨0, a, ha, har⟩
      | true =>
        obtain ⟨rfl, _⟩ := hblk rfl
        obtain ⟨st, sm, _, hm⟩ := X.wg
        have kid : ∀ i, i < j → (wdf D i).stage ≠ 1 → ∃ (i : Nat) (g : Goroutine), gs[i]? = some g ∧ g.status = .running := by
          intro i hi hne
          obtain ⟨g, hg, hs⟩ := X.sit (i + 1) (by omega) (by omega)
          refine ⟨i + 1, g, hg, hs.running fun e => hne ?_⟩
          unfold wdf
          rw [e]; rfl
        generalize htag : tagOf 5 V true = tag at hm
        have e3 : tag = .blk := by rw [← htag]; rfl
        subst e3
        cases hm with
        | opn h1 _ _ => exact h1.elim
        | reg _ _ h3 =>
          obtain ⟨i, hi, h5⟩ := exists_counted h3
          exact kid i hi (by omega)
        | last L _ h2 h3 _ => exact kid L h2 (by omega)
        | fin h1 _ => exact h1.elim
    · cases blk with
      | false => exact hbit
      | true => rw [ha] at hg; cases hg; rw [show (bl true a).status = .blocked from rfl] at hr; cases hr

/-- FROM THE ENTRY TO THE RETURN, ON EVERY TAPE. -/
theorem company_runs {a : Goroutine} {h : H} {w : World} (hJ : JM pr P a h) (hol : Hol h w) (hro : ∀ b o, h b = some o → ∃ c E, o = .cells c E (roF c)) :
    ∃ N last o w' t', runNT P (N + 1) (solo a w) #[] = (.ended o w', t') ∧ runN P N (solo a w) = .next last ∧ step P last = .ended o w' ∧ Go.Conc.Good P (fun v w' => ∃ h, pr.fin v h ∧ Hol h w' ∧ Below w.heap.size w w') last o w' t' := by
  obtain ⟨α, hT⟩ := hJ
  let Inv : Ms → Machine → Trace → Prop := fun μ m t => ∃ gs w1 sl, m = crowd gs w1 sl ∧ Now pr P w.heap.size w μ.1 μ.2.1 μ.2.2 gs w1 t
  have key : ∀ μ m t, Inv μ m t → (∃ o w' ops, stepT P m = (.ended o w', ops) ∧ Go.Conc.Good P (PostW pr w.heap.size w) m o w' (t ++ ops)) ∨ (∃ m' ops μ', stepT P m = (.next m', ops) ∧ LtM μ' μ ∧ Inv μ' m' (t ++ ops)) := by
    rintro ⟨α, l, bit⟩ m t ⟨gs, w1, sl, rfl, hN⟩
    obtain ⟨h1, h2, h3⟩ := hN.alive
    obtain ⟨i, g, d, sl', hg, hrun, hstep⟩ := crowd_pick (P := P) (w := w1) (sl := sl) h1 h2
    rw [hstep]
    have hN' := hN.at d
    by_cases h0 : i = 0
    · subst h0
      have hb := h3 g hg hrun
      simp only at hb
      subst hb
      rcases mainStep α hN' sl' with ⟨o, w', ops, k1, k2⟩ | ⟨gs', w', ops, α', l', bit', k1, k2, k3⟩
      · exact .inl ⟨o, w', ops, k1, k2 w1 sl⟩
      · refine .inr ⟨_, ops, (α', l', bit'), k1, ?_, gs', w', sl', rfl, k2⟩
        rcases k3 with k3 | ⟨rfl, rfl, rfl⟩
        · exact .left _ _ k3
        · exact .right _ (.right _ (by decide))
    · obtain ⟨gs', w', ops, l', bit', k1, k2, k3⟩ := kidStep hN' (by omega) hg hrun sl'
      exact .inr ⟨_, ops, (α, l', bit'), k1, .right _ (.left _ _ k3), gs', w', sl', rfl, k2⟩
  have har := TM_running hT
  let D0 : Nat → Ch := fun _ => ⟨.mk Empty Empty.elim, 0, 0, 0, undef, 0, 0, undef⟩
  have start : Inv (α, ranks 0 D0, 1) (solo a w) #[] := by
    refine ⟨#[a], w, none, rfl, a, h, har, hT, .inl ⟨0, 0, D0, false, ⟨hol, fun b o hb => ?_, ⟨fun said => Go.ConcN.noRace_nil said, fun i op hi => by simp at hi, fun i x hx => by simp [touchAt, Trace.act?] at hx⟩, ⟨fun l _ i a ha => by simp [touchAt, Trace.act?] at ha, fun l _ i a ha => by simp [touchAt, Trace.act?] at ha⟩, rfl, .refl _ _, Nat.le_refl _, fun b o hb _ => hro b o hb, rfl, fun k k1 hk => by omega, fun _ ad i => by simp [Trace.act?], .inl ⟨rfl, rfl⟩⟩, rfl, rfl, rfl⟩⟩
    obtain ⟨c, E, rfl⟩ := hro b o hb
    exact .inl ⟨rfl, rfl⟩
  exact run_inv LtM.wf Inv _ key _ _ _ start
#print axioms company_runs
end
end Go.Proofs.Ytojhnclkhiffkaa
