/-
  Behind the join: what the starter holds then; a contract used where all that is held is plain.
-/
import Derived.Test.YtojhnclkhiffkaaM14

namespace Go.Proofs.Ytojhnclkhiffkaa
open Go.Conc Go.Conc.Lib
set_option linter.unusedVariables false
set_option linter.unusedSimpArgs false
/-! ### A contract, and all that is held is plain still -/
def allP (h : H) : Prop := ∀ b o, h b = some o → plainO o
theorem allP_hp (w : World) : allP (hp w) := fun b o hb => by
  obtain ⟨c, E, fr, _, rfl⟩ := hp_some hb
  exact ⟨rfl, rfl⟩
theorem allP_fra {h h1 : H} {w w' : World} {es : Array Event} (hp : allP h) (F : Fra h w h1 w' es) : allP h1 := by
  intro b o hb
  cases hno : noteOf o with
  | some z => exact absurd (hp b o (F.noteOld hb (by rw [hno]; simp))).2 (by rw [hno]; simp)
  | none =>
    cases hone : oneOf o with
    | none => exact ⟨hone, hno⟩
    | some z =>
      exfalso
      obtain ⟨i, v, n, E⟩ := z
      have e1 := oneOf_spec hone
      by_cases hlt : b < w.heap.size
      · obtain ⟨o0, h0, hc⟩ := F.old _ _ hb hlt
        have hpl := hp b o0 h0
        rw [e1] at hc
        cases o0 with
        | deferred l =>
          have := chO_def hc hpl.1
          rw [← this] at hpl
          exact absurd hpl.1 (by rw [oneOf_oneO]; simp)
        | cells c0 E0 fr0 =>
          simp only [chO, oneOf_cells] at hc
          split at hc
          · cases hc
          · obtain ⟨_, hc, _⟩ := hc; cases hc
        | _ => simp [chO, oneOf, oneO] at hc
      · have := (F.nw _ _ hb (by omega)).1
        rw [hone] at this; cases this
section
variable {pr : Pro} {Pg : Program}
/-- A walk that may use that all is plain. -/
def CQ (pr : Pro) (Pg : Program) : Cx Pg := ⟨true, fun g h => allP h → JM pr Pg g h, fun g h hs st hp => JM.of (.ord hs fun w hw => by
  refine goes_mono (st w hw) ?_
  rintro g' w' es ⟨h', F, hJ⟩
  exact ⟨h', F, hJ (allP_fra hp F)⟩)⟩
theorem ok_q {f : FuncId} {args : Array Value} {h : H} {R : Value → H → Prop} (hk : Ok (CQ pr Pg) f args h R) (hp : allP h) : Ok (CM pr Pg) f args h fun v h' => R v h' ∧ allP h' := by
  intro b a k cs ops i rest o ho hw hkd hs hV
  refine hk b a k cs ops i rest o ho hw hkd hs ?_ hp
  intro e h' hR hp'
  obtain ⟨v, he, hR⟩ := hR
  injection he with he
  subst he
  exact hV _ _ ⟨_, rfl, hR, hp'⟩
end
/-! ### What is held behind the join -/
def heldO (o : Obj) : Prop := ¬ ∃ c E, o = .cells c E (roF c)
open Classical in
noncomputable def endH (pr : Pro) (Wg : Nat) (h : H) (hs : List H) (w : World) : H := fun b =>
  if b = Wg then some (nG pr 9 0 [])
  else if ∃ x, (x = h ∨ x ∈ hs) ∧ ∃ y, x b = some y ∧ heldO y then
    match w.heap[b]? with
    | some (.cells c E fr) => some (.cells c E (if isRo c fr then roF c else fr))
    | _ => none
  else if ∃ x, (x = h ∨ x ∈ hs) ∧ ∃ c E, x b = some (.cells c E (roF c)) then hp w b
  else none
section
variable {pr : Pro} {Wg b : Nat} {h x : H} {hs : List H} {w : World} {c : Array Value} {E : TypeId}
theorem endH_wg : endH pr Wg h hs w Wg = some (nG pr 9 0 []) := by unfold endH; rw [if_pos rfl]
theorem endH_at {y : Obj} (hb : b ≠ Wg) (hx : x = h ∨ x ∈ hs) (hy : x b = some y) (hn : heldO y) (hw : w.heap[b]? = some (.cells c E)) : endH pr Wg h hs w b = some (.cells c E) := by
  unfold endH
  rw [if_neg hb, if_pos ⟨x, hx, y, hy, hn⟩, hw]
  simp only [if_neg (not_isRo0 c)]
theorem held_own (c : Array Value) (E : TypeId) : heldO (.cells c E) := by
  rintro ⟨c', E', e⟩
  cases e
theorem endH_own (hb : b ≠ Wg) (hx : x = h ∨ x ∈ hs) (hy : x b = some (.cells c E)) (hh : Hol x w) : endH pr Wg h hs w b = some (.cells c E) :=
  endH_at hb hx hy (held_own c E) ((HolO_own (not_isRo0 c)).1 (hh _ _ hy))
theorem endH_open (hb : b ≠ Wg) (hx : x = h ∨ x ∈ hs) (hy : x b = some (.cells c E (roO c))) (hh : Hol x w) : endH pr Wg h hs w b = some (.cells c E) := by
  refine endH_at hb hx hy ?_ ?_
  · rintro ⟨c', E', e⟩
    injection e with e1 e2 e3
    subst e1
    exact absurd (congrArg Prod.snd e3) (by simp [roF, roO])
  · obtain ⟨fr, h1, h2⟩ := (HolO_ro (isRo_roO c)).1 (hh _ _ hy)
    rw [h1, h2 rfl]
theorem endH_ro (hb : b ≠ Wg) (hx : x = h ∨ x ∈ hs) (hy : x b = some (.cells c E (roF c))) (hh : Hol x w) : ∃ fr, endH pr Wg h hs w b = some (.cells c E fr) := by
  obtain ⟨fr, h1, _⟩ := (HolO_ro (isRo_roF c)).1 (hh _ _ hy)
  unfold endH
  rw [if_neg hb]
  by_cases hq : ∃ x, (x = h ∨ x ∈ hs) ∧ ∃ y, x b = some y ∧ heldO y
  · rw [if_pos hq, h1]
    exact ⟨_, rfl⟩
  · rw [if_neg hq, if_pos ⟨x, hx, c, E, hy⟩]
    exact ⟨_, hp_cells h1⟩
theorem HolO_any {fr : Nat × Nat} {o : Option Obj} (h : HolO (.cells c E fr) o) : ∃ fr', o = some (.cells c E fr') := by
  by_cases hr : isRo c fr
  · obtain ⟨fr', h1, _⟩ := (HolO_ro hr).1 h
    exact ⟨fr', h1⟩
  · exact ⟨fr, (HolO_own hr).1 h⟩
theorem endH_cells {fr : Nat × Nat} (hb : b ≠ Wg) (hx : x = h ∨ x ∈ hs) (hy : x b = some (.cells c E fr)) (hh : Hol x w) : ∃ fr, endH pr Wg h hs w b = some (.cells c E fr) := by
  obtain ⟨fr', h1⟩ := HolO_any (hh _ _ hy)
  unfold endH
  rw [if_neg hb]
  by_cases hq : ∃ x, (x = h ∨ x ∈ hs) ∧ ∃ y, x b = some y ∧ heldO y
  · rw [if_pos hq, h1]
    exact ⟨_, rfl⟩
  · rw [if_neg hq]
    have : ∃ x, (x = h ∨ x ∈ hs) ∧ ∃ c E, x b = some (.cells c E (roF c)) := by
      refine ⟨x, hx, ?_⟩
      by_cases hn : heldO (.cells c E fr)
      · exact absurd ⟨x, hx, _, hy, hn⟩ hq
      · obtain ⟨c', E', e⟩ := Classical.not_not.1 hn
        exact ⟨c', E', by rw [hy, e]⟩
    rw [if_pos this]
    exact ⟨_, hp_cells h1⟩
theorem held_one (i n : Nat) (v : Value) (E : TypeId) : heldO (oneO i v n E) := by rintro ⟨c', E', e⟩; cases e
theorem held_note (E : TypeId) (n t a : Nat) (L : Array Value) : heldO (noteO E n t a L) := by rintro ⟨c', E', e⟩; cases e
theorem endH_one {i n : Nat} {v : Value} (hb : b ≠ Wg) (hx : x = h ∨ x ∈ hs) (hy : x b = some (oneO i v n E)) (hh : Hol x w) : ∃ c, w.heap[b]? = some (.cells c E) ∧ endH pr Wg h hs w b = some (.cells c E) ∧ c.size = n ∧ c[i]? = some v := by
  obtain ⟨c, h1, h2, h3⟩ := HolO_one.1 (hh _ _ hy)
  exact ⟨c, h1, endH_at hb hx hy (held_one _ _ _ _) h1, h2, h3⟩
theorem endH_note {n t a : Nat} {L : Array Value} (hb : b ≠ Wg) (hx : x = h ∨ x ∈ hs) (hy : x b = some (noteO E n t a L)) (hh : Hol x w) : ∃ c, w.heap[b]? = some (.cells c E) ∧ endH pr Wg h hs w b = some (.cells c E) ∧ c.size = n := by
  obtain ⟨c, h1, h2, _⟩ := HolO_note.1 (hh _ _ hy)
  exact ⟨c, h1, endH_at hb hx hy (held_note _ _ _ _ _) h1, h2⟩
theorem endH_hol {V : Nat} {ds : List Value} {ph : Nat} (hh : Hol h w) (hW : h Wg = some (nG pr ph V ds)) : Hol (endH pr Wg h hs w) w := by
  intro b o hb
  unfold endH at hb
  split at hb
  · rename_i e
    subst e
    cases hb
    obtain ⟨c, h1, h2, _, h4⟩ := HolO_note.1 (hh _ _ hW)
    exact HolO_note.2 ⟨c, h1, h2, fun h => by omega, fun _ => h4 (by omega)⟩
  · split at hb
    · split at hb
      · rename_i c E fr hw
        cases hb
        rw [hw]
        by_cases hr : isRo c fr
        · rw [if_pos hr]
          exact (HolO_ro (isRo_roF c)).2 ⟨fr, rfl, fun e => absurd (congrArg Prod.snd e) (by simp [roF, roO])⟩
        · rw [if_neg hr]
          exact HolO_cells hr E
      · cases hb
    · split at hb
      · exact hol_hp w b o hb
      · cases hb
theorem endH_taken : Taken pr Wg h hs (endH pr Wg h hs w) := by
  refine ⟨endH_wg, fun b o hb hne => ?_⟩
  unfold endH at hb
  rw [if_neg hne] at hb
  split at hb
  · rename_i hx
    obtain ⟨x, hx, y, hy, hn⟩ := hx
    split at hb
    · cases hb
      exact ⟨⟨rfl, rfl⟩, x, hx, y, hy, .inr hn⟩
    · cases hb
  · split at hb
    · rename_i hx
      obtain ⟨x, hx, c, E, hy⟩ := hx
      obtain ⟨c', E', fr, _, rfl⟩ := hp_some hb
      exact ⟨⟨rfl, rfl⟩, x, hx, _, hy, .inl ⟨c', E', rfl⟩⟩
    · cases hb
end
end Go.Proofs.Ytojhnclkhiffkaa
namespace Go.Proofs.Ytojhnclkhiffkaa
open Go.Conc Go.Conc.Lib
set_option linter.unusedVariables false
set_option linter.unusedSimpArgs false
/-- What the workers are to leave, as far as they are started. -/
def dsOf (e1 e2 : Nat → Nat → Value) (n i j : Nat) : List Value := (List.range i).map (fun i => e1 i (i + 1)) ++ (List.range j).map (fun j => e2 j (n + j + 1))
theorem dsOf_len (e1 e2 : Nat → Nat → Value) (n i j : Nat) : (dsOf e1 e2 n i j).length = i + j := by simp [dsOf]
theorem dsOf_i (e1 e2 : Nat → Nat → Value) (n i : Nat) : dsOf e1 e2 n i 0 ++ [e1 i (i + 1)] = dsOf e1 e2 n (i + 1) 0 := by simp [dsOf, List.range_succ]
theorem dsOf_j (e1 e2 : Nat → Nat → Value) (n j : Nat) : dsOf e1 e2 n n j ++ [e2 j (n + j + 1)] = dsOf e1 e2 n n (j + 1) := by simp [dsOf, List.range_succ]
theorem dsOf_1 (e1 e2 : Nat → Nat → Value) {n m i : Nat} (h : i < n) : (dsOf e1 e2 n n m)[i]? = some (e1 i (i + 1)) := by
  unfold dsOf
  rw [List.getElem?_append_left (by simpa using h)]
  simp [h]
theorem dsOf_2 (e1 e2 : Nat → Nat → Value) {n m j : Nat} (h : j < m) : (dsOf e1 e2 n n m)[n + j]? = some (e2 j (n + j + 1)) := by
  unfold dsOf
  rw [List.getElem?_append_right (by simp)]
  simp [h]
section
variable {pr : Pro}
def stH (pr : Pro) (h3 : H) (A B Wg : Nat) (EA EB : TypeId) (n m : Nat) (LA LB : Array Value) (i j : Nat) (ds : List Value) : H :=
  hupd (hupd (hupd h3 A (noteO EA n 0 i LA)) B (noteO EB m 0 j LB)) Wg (nG pr 0 0 ds)
def roX (o : Option Obj) : Option Obj := match o with
  | some (.cells c E fr) => if isRo c fr then some (.cells c E fr) else none
  | _ => none
theorem roX_ro {c : Array Value} {E : TypeId} {fr : Nat × Nat} (h : isRo c fr) : roX (some (.cells c E fr)) = some (.cells c E fr) := by simp [roX, h]
theorem spO_ro (k : Nat) (o : Option Obj) : SpO pr k o (roX o) o := by
  unfold roX
  split
  · split
    · rename_i h; exact .copy _ _ _ h
    · exact .mine _
  · exact .mine _
/-- What a worker is born with. -/
def kidH (pr : Pro) (h3 : H) (A B Wg M ib : Nat) (E : TypeId) (n : Nat) (z : Value) (e0 : Value) (i k : Nat) (d : Value) : H := fun b =>
  if b = Wg then some (nW pr d) else if b = ib then some (.cells #[.int .i64 (i : Int)] 3) else if b = A then some (oneO i z n E) else if b = B then none else if b = M then some (nM pr k [e0]) else roX (h3 b)
/-- What is known of what is held behind the join. -/
structure Behind (pr : Pro) (h3 : H) (A B Wg M : Nat) (EA EB : TypeId) (n m : Nat) (e0 : Value) (e1 e2 : Nat → Nat → Value) (hs : List H) (h' : H) : Prop where
  len : hs.length = n + m
  wg : h' Wg = some (nG pr 9 0 [])
  ro : ∀ b c E fr, h3 b = some (.cells c E fr) → isRo c fr → b ≠ Wg → b ≠ A → b ≠ B → ∃ fr', h' b = some (.cells c E fr')
  opn : ∀ b c E, h3 b = some (.cells c E (roO c)) → b ≠ Wg → b ≠ A → b ≠ B → h' b = some (.cells c E)
  own : ∀ b c E, h3 b = some (.cells c E) → b ≠ Wg → b ≠ A → b ≠ B → h' b = some (.cells c E)
  fa : ∃ us : Array Value, h' A = some (.cells us EA) ∧ us.size = n ∧ ∀ x i u, x ∈ hs → x A = some (oneO i u n EA) → us[i]? = some u
  fb : ∃ us : Array Value, h' B = some (.cells us EB) ∧ us.size = m ∧ ∀ x i u, x ∈ hs → x B = some (oneO i u m EB) → us[i]? = some u
  fm : ∃ γ, h' M = some (.cells #[pr.val γ] pr.E) ∧ pr.Hst e0 γ ∧ pr.Ext 0 [e0] γ ∧ (∀ v ∈ γ, pr.by_ v ≤ n + m) ∧ ∀ (i : Nat) (x : H), hs[i]? = some x → ∀ L, x M = some (nM pr (i + 1) L) → pr.Ext (i + 1) L γ
  kid : ∀ x b c E fr, x ∈ hs → x b = some (.cells c E fr) → E ≠ pr.tg → ∃ fr', h' b = some (.cells c E fr')
  p1 : ∀ i x, i < n → hs[i]? = some x → pr.post (e1 i (i + 1)) x
  p2 : ∀ j x, j < m → hs[n + j]? = some x → pr.post (e2 j (n + j + 1)) x
theorem nM_inj {k k' : Nat} {L L' : List Value} (h : nM pr k L = nM pr k' L') : k = k' ∧ L = L' := by
  obtain ⟨_, _, _, h1, h2⟩ := note_inj h
  exact ⟨h1, by simpa using congrArg Array.toList h2⟩
theorem givs_of {h3 : H} {A B Wg M sb w1 w2 n m : Nat} {EA EB : TypeId} {LA LB : Array Value} {zA zB e0 : Value} {e1 e2 : Nat → Nat → Value} {R : Value → H → Prop} {p : Option Addr} {pc : Nat} {fs : Nat × Nat} {lk : Value} {Es : TypeId}
    (hS : h3 sb = some (.cells #[.slice p n pc, .int .i64 m, lk] Es fs)) (hA : h3 A = some (noteO EA n 0 0 LA)) (hB : h3 B = some (noteO EB m 0 0 LB)) (hM : h3 M = some (nM pr 0 [e0])) (hW : h3 Wg = some (nG pr 0 0 [])) (hAB : A ≠ B)
    (zA_ : ∀ i, i < n → LA[i]? = some zA) (zB_ : ∀ j, j < m → LB[j]? = some zB) (hle : n + m < 2147483646)
    (J1 : ∀ i ib, i < n → h3 ib = none → JW pr Try.prog (born Try.prog (call44 Wg w1 ib)) (kidH pr h3 A B Wg M ib EA n zA e0 i (i + 1) (e1 i (i + 1))))
    (J2 : ∀ j ib, j < m → h3 ib = none → JW pr Try.prog (born Try.prog (call46 Wg w2 ib)) (kidH pr h3 B A Wg M ib EB m zB e0 j (n + j + 1) (e2 j (n + j + 1))))
    (F : ∀ hs h', Behind pr h3 A B Wg M EA EB n m e0 e1 e2 hs h' → R (.tuple #[]) h') :
    Givs pr Wg sb w1 w2 n m R fun i j ds h => h = stH pr h3 A B Wg EA EB n m LA LB i j ds ∧ ds = dsOf e1 e2 n i j ∧ (j ≠ 0 → i = n) := by
  have AM : A ≠ M := by rintro rfl; rw [hA] at hM; have := (note_inj (Option.some.inj hM)).2.2.1; omega
  have BM : B ≠ M := by rintro rfl; rw [hB] at hM; have := (note_inj (Option.some.inj hM)).2.2.1; omega
  have AW : A ≠ Wg := by rintro rfl; rw [hA] at hW; have := (note_inj (Option.some.inj hW)).2.2.1; omega
  have BW : B ≠ Wg := by rintro rfl; rw [hB] at hW; have := (note_inj (Option.some.inj hW)).2.2.1; omega
  have MW : M ≠ Wg := by rintro rfl; rw [hM] at hW; have := (note_inj (Option.some.inj hW)).2.2.1; omega
  have SA : sb ≠ A := by rintro rfl; rw [hS] at hA; cases hA
  have SB : sb ≠ B := by rintro rfl; rw [hS] at hB; cases hB
  have SW : sb ≠ Wg := by rintro rfl; rw [hS] at hW; cases hW
  have qW : ∀ i j ds, stH pr h3 A B Wg EA EB n m LA LB i j ds Wg = some (nG pr 0 0 ds) := fun i j ds => hupd_same _ _ _
  have qB : ∀ i j ds, stH pr h3 A B Wg EA EB n m LA LB i j ds B = some (noteO EB m 0 j LB) := fun i j ds => by unfold stH; rw [hupd_ne _ _ BW, hupd_same]
  have qA : ∀ i j ds, stH pr h3 A B Wg EA EB n m LA LB i j ds A = some (noteO EA n 0 i LA) := fun i j ds => by unfold stH; rw [hupd_ne _ _ AW, hupd_ne _ _ hAB, hupd_same]
  have qx : ∀ i j ds b, b ≠ A → b ≠ B → b ≠ Wg → stH pr h3 A B Wg EA EB n m LA LB i j ds b = h3 b := fun i j ds b h1 h2 h3' => by unfold stH; rw [hupd_ne _ _ h3', hupd_ne _ _ h2, hupd_ne _ _ h1]
  refine ⟨?_, ?_, ?_, ?_, hle⟩
  · rintro i j ds h ⟨rfl, rfl, _⟩
    refine ⟨⟨p, pc, ?_⟩, ?_, ⟨0, qW _ _ _⟩, dsOf_len _ _ _ _ _⟩
    · rw [cellAt_look, qx _ _ _ _ SA SB SW, hS]; rfl
    · rw [cellAt_look, qx _ _ _ _ SA SB SW, hS]; rfl
  · rintro i ds h ib hi ⟨rfl, rfl, _⟩ hib
    have iW : ib ≠ Wg := by rintro rfl; rw [qW] at hib; cases hib
    have iA : ib ≠ A := by rintro rfl; rw [qA] at hib; cases hib
    have iB : ib ≠ B := by rintro rfl; rw [qB] at hib; cases hib
    rw [qx _ _ _ _ iA iB iW] at hib
    have iM : ib ≠ M := by rintro rfl; rw [hM] at hib; cases hib
    refine ⟨e1 i (i + 1), kidH pr h3 A B Wg M ib EA n zA e0 i (i + 1) (e1 i (i + 1)), stH pr h3 A B Wg EA EB n m LA LB (i + 1) 0 (dsOf e1 e2 n (i + 1) 0), ?_, ?_, ?_, J1 i ib hi hib, by rw [dsOf_i], dsOf_i _ _ _ _, fun h => absurd rfl h⟩
    · intro b hb
      rw [hupd_ne _ _ hb, dsOf_len, Nat.add_zero]
      unfold kidH
      rw [if_neg hb]
      by_cases b1 : b = ib
      · subst b1
        rw [hupd_same, if_pos rfl, qx _ _ _ _ iA iB iW, hib]
        exact .give _ _
      rw [hupd_ne _ _ b1, if_neg b1]
      by_cases b2 : b = A
      · subst b2
        rw [if_pos rfl, qA, qA]
        exact .part _ _ _ _ _ (zA_ i hi) hi
      rw [if_neg b2]
      by_cases b3 : b = B
      · subst b3
        rw [if_pos rfl, qB, qB]
        exact .mine _
      rw [if_neg b3, qx _ _ _ _ b2 b3 hb, qx _ _ _ _ b2 b3 hb]
      by_cases b4 : b = M
      · subst b4
        rw [if_pos rfl, hM]
        exact .note _
      rw [if_neg b4]
      exact spO_ro _ _
    · unfold kidH; rw [if_pos rfl]
    · rw [qW, dsOf_i]
  · rintro j ds h ib hj ⟨rfl, rfl, _⟩ hib
    have iW : ib ≠ Wg := by rintro rfl; rw [qW] at hib; cases hib
    have iA : ib ≠ A := by rintro rfl; rw [qA] at hib; cases hib
    have iB : ib ≠ B := by rintro rfl; rw [qB] at hib; cases hib
    rw [qx _ _ _ _ iA iB iW] at hib
    have iM : ib ≠ M := by rintro rfl; rw [hM] at hib; cases hib
    refine ⟨e2 j (n + j + 1), kidH pr h3 B A Wg M ib EB m zB e0 j (n + j + 1) (e2 j (n + j + 1)), stH pr h3 A B Wg EA EB n m LA LB n (j + 1) (dsOf e1 e2 n n (j + 1)), ?_, ?_, ?_, J2 j ib hj hib, by rw [dsOf_j], dsOf_j _ _ _ _, fun _ => rfl⟩
    · intro b hb
      rw [hupd_ne _ _ hb, dsOf_len]
      unfold kidH
      rw [if_neg hb]
      by_cases b1 : b = ib
      · subst b1
        rw [hupd_same, if_pos rfl, qx _ _ _ _ iA iB iW, hib]
        exact .give _ _
      rw [hupd_ne _ _ b1, if_neg b1]
      by_cases b3 : b = B
      · subst b3
        rw [if_pos rfl, qB, qB]
        exact .part _ _ _ _ _ (zB_ j hj) hj
      rw [if_neg b3]
      by_cases b2 : b = A
      · subst b2
        rw [if_pos rfl, qA, qA]
        exact .mine _
      rw [if_neg b2, qx _ _ _ _ b2 b3 hb, qx _ _ _ _ b2 b3 hb]
      by_cases b4 : b = M
      · subst b4
        rw [if_pos rfl, hM]
        exact .note _
      rw [if_neg b4]
      exact spO_ro _ _
    · unfold kidH; rw [if_pos rfl]
    · rw [qW, dsOf_j]
  · rintro ds h ⟨rfl, rfl, _⟩ w hw hs hj
    have eH : hupd (stH pr h3 A B Wg EA EB n m LA LB n m (dsOf e1 e2 n n m)) Wg (nG pr 7 0 (dsOf e1 e2 n n m)) = hupd (hupd (hupd h3 A (noteO EA n 0 n LA)) B (noteO EB m 0 m LB)) Wg (nG pr 7 0 (dsOf e1 e2 n n m)) := by unfold stH; rw [hupd_hupd]
    rw [eH] at hw hj ⊢
    generalize hh7 : hupd (hupd (hupd h3 A (noteO EA n 0 n LA)) B (noteO EB m 0 m LB)) Wg (nG pr 7 0 (dsOf e1 e2 n n m)) = h7 at hw hj
    have kW : h7 Wg = some (nG pr 7 0 (dsOf e1 e2 n n m)) := by rw [← hh7, hupd_same]
    have kB : h7 B = some (noteO EB m 0 m LB) := by rw [← hh7, hupd_ne _ _ BW, hupd_same]
    have kA : h7 A = some (noteO EA n 0 n LA) := by rw [← hh7, hupd_ne _ _ AW, hupd_ne _ _ hAB, hupd_same]
    have kx : ∀ b, b ≠ A → b ≠ B → b ≠ Wg → h7 b = h3 b := fun b h1 h2 h3' => by rw [← hh7, hupd_ne _ _ h3', hupd_ne _ _ h2, hupd_ne _ _ h1]
    have kM : h7 M = some (nM pr 0 [e0]) := by rw [kx _ (Ne.symm AM) (Ne.symm BM) MW, hM]
    refine ⟨endH pr Wg h7 hs w, endH_hol hw kW, endH_taken, F hs _ ?_⟩
    obtain ⟨M', γ, e0', j1, j2, j3, j4, j5, j6, j7⟩ := hj.hist
    obtain rfl : M = M' := j2 _ _ _ kM
    rw [kM] at j1
    have je : e0 = e0' := by have := (nM_inj (Option.some.inj j1)).2; simpa using this
    subst je
    have hlen : hs.length = n + m := by rw [hj.len, dsOf_len]
    refine ⟨hlen, endH_wg, ?_, ?_, ?_, ?_, ?_, ?_, ?_, ?_, ?_⟩
    · rintro b c E fr hb (rfl | rfl) b1 b2 b3
      · exact endH_ro b1 (.inl rfl) (by rw [kx _ b2 b3 b1, hb]) hw
      · exact ⟨_, endH_open b1 (.inl rfl) (by rw [kx _ b2 b3 b1, hb]) hw⟩
    · intro b c E hb b1 b2 b3
      exact endH_open b1 (.inl rfl) (by rw [kx _ b2 b3 b1, hb]) hw
    · intro b c E hb b1 b2 b3
      exact endH_own b1 (.inl rfl) (by rw [kx _ b2 b3 b1, hb]) hw
    · obtain ⟨c, c1, c2, c3⟩ := endH_note (pr := pr) (hs := hs) AW (.inl rfl) kA hw
      refine ⟨c, c2, c3, fun x i u hx hu => ?_⟩
      obtain ⟨c', d1, _, _, d4⟩ := endH_one (pr := pr) (h := h7) AW (.inr hx) hu (hj.hol x hx)
      rw [c1] at d1
      cases d1
      exact d4
    · obtain ⟨c, c1, c2, c3⟩ := endH_note (pr := pr) (hs := hs) BW (.inl rfl) kB hw
      refine ⟨c, c2, c3, fun x i u hx hu => ?_⟩
      obtain ⟨c', d1, _, _, d4⟩ := endH_one (pr := pr) (h := h7) BW (.inr hx) hu (hj.hol x hx)
      rw [c1] at d1
      cases d1
      exact d4
    · refine ⟨γ, endH_at MW (.inl rfl) kM (held_note _ _ _ _ _) j3.1, j4, j5, fun v hv => by have := j6 v hv; rw [dsOf_len] at this; exact this, fun i x hx L hL => ?_⟩
      rcases j7 i x hx with h | ⟨L', h1, h2⟩
      · rw [hL] at h; cases h
      · rw [hL] at h1
        obtain ⟨_, rfl⟩ := nM_inj (Option.some.inj h1)
        exact h2
    · intro x b c E fr hx hb hE
      refine endH_cells ?_ (.inr hx) hb (hj.hol x hx)
      rintro rfl
      obtain ⟨fr', h1⟩ := HolO_any (hj.hol x hx _ _ hb)
      obtain ⟨c', h2, _⟩ := HolO_note.1 (hw _ _ kW)
      rw [h1] at h2
      cases h2
      exact hE rfl
    · intro i x hi hx
      exact hj.post i _ x (dsOf_1 _ _ hi) hx
    · intro j x hj' hx
      exact hj.post (n + j) _ x (dsOf_2 _ _ hj') hx
end
end Go.Proofs.Ytojhnclkhiffkaa
