/-
  Goroutines in company, joined by a group: what is asked of the starter and of each worker. A worker's judgement and the starter's, as trees of whatever height.
-/
import Derived.Test.YtojhnclkhiffkaaKE
import Derived.Conc.CrowdRun
namespace Go.Proofs.Ytojhnclkhiffkaa
open Go.Conc (G goes_go)
open Go.ConcN (RW DWs AtR0)
open Go.ConcR (KK wgBlock WgAt stA smA rd wr mk Payload)
set_option linter.unusedVariables false

/-! ### Heights of trees -/
inductive Tr : Type 1
  | mk (ι : Type) (f : ι → Tr)
def Tr.lt (a : Tr) : Tr → Prop
  | .mk _ f => ∃ i, a = f i
theorem Tr.wf : WellFounded Tr.lt := ⟨fun t => by
  induction t with
  | mk ι f ih =>
    refine ⟨_, fun a ha => ?_⟩
    obtain ⟨i, rfl⟩ := ha
    exact ih i⟩

/-! ### A protocol of one shared cell -/
/-- The cell's type, the group's; the cell's value by its history; who made an entry; which entry may come next; the blocks that a history has published; what a worker leaves; what the starter answers. -/
structure Pro where
  E : TypeId
  tg : TypeId
  val : List Value → Value
  by_ : Value → Nat
  ok : List Value → Value → Prop
  pub : List Value → Nat → Option (Array Value × TypeId)
  post : Value → H → Prop
  fin : Value → H → Prop

section
variable (pr : Pro)
/-- Goroutine k knows the history so far. -/
def nM (k : Nat) (L : List Value) : Obj := noteO pr.E 1 1 k L.toArray
/-- The starter's note at the group: its phase, a bound of the count, what the workers are to leave. -/
def nG (ph V : Nat) (ds : List Value) : Obj := noteO pr.tg 2 (3 + ph) V ds.toArray
/-- A worker's note at the group: what it is to leave. -/
def nW (d : Value) : Obj := noteO pr.tg 2 2 0 #[d]
def Pro.Ext (k : Nat) (L γ : List Value) : Prop := ∃ r, γ = L ++ r ∧ ∀ v ∈ r, pr.by_ v ≠ k
def Pro.At (M : Nat) (γ : List Value) (w : World) : Prop := w.heap[M]? = some (.cells #[pr.val γ] pr.E) ∧ ∀ b c E, pr.pub γ b = some (c, E) → w.heap[b]? = some (.cells c E)
inductive Pro.Hst (e0 : Value) : List Value → Prop
  | one : Pro.Hst e0 [e0]
  | snoc {γ : List Value} {v : Value} : Pro.Hst e0 γ → pr.ok γ v → Pro.Hst e0 (γ ++ [v])
/-- A step at the shared cell: a load; a load and a store. -/
def Pro.Upd (M k : Nat) (γ γ' : List Value) (w w' : World) (es : Array Event) : Prop :=
  (γ' = γ ∧ w' = w ∧ es = #[rd ⟨M, 0, none⟩]) ∨
  ∃ v, pr.by_ v = k ∧ pr.ok γ v ∧ γ' = γ ++ [v] ∧ w' = w.setCell ⟨M, 0, none⟩ (pr.val γ') ∧ es = #[rd ⟨M, 0, none⟩, wr ⟨M, 0, none⟩]
structure Pro.Turn (M k : Nat) (γ γ' : List Value) (h h' : H) : Prop where
  note : h' M = some (nM pr k γ')
  same : ∀ b, b ≠ M → h' b = h b ∨ ∃ c E, pr.pub γ' b = some (c, E) ∧ h' b = some (.cells c E (roO c)) ∧ ((pr.pub γ b = some (c, E) ∧ h b = none) ∨ (pr.pub γ b = none ∧ h b = some (.cells c E)))
  grow : ∀ b x, pr.pub γ b = some x → pr.pub γ' b = some x
  new : ∀ b c E, pr.pub γ' b = some (c, E) → pr.pub γ b = none → h b = some (.cells c E) ∧ h' b = some (.cells c E (roO c)) ∧ b ≠ M

/-- What the starter gives to worker k at a block: (its own, the worker's, its own behind). -/
inductive SpO (k : Nat) : Option Obj → Option Obj → Option Obj → Prop
  | mine (x : Option Obj) : SpO k x none x
  | give (c : Array Value) (E : TypeId) : SpO k (some (.cells c E)) (some (.cells c E)) none
  | copy (c : Array Value) (E : TypeId) (fr : Nat × Nat) : isRo c fr → SpO k (some (.cells c E fr)) (some (.cells c E fr)) (some (.cells c E fr))
  | part (E : TypeId) (n a : Nat) (L : Array Value) (v : Value) : L[a]? = some v → a < n → SpO k (some (noteO E n 0 a L)) (some (oneO a v n E)) (some (noteO E n 0 (a + 1) L))
  | note (L : List Value) : SpO k (some (nM pr 0 L)) (some (nM pr k L)) (some (nM pr 0 L))

/-- What the starter finds behind the join. -/
structure Joined (h : H) (ds : List Value) (hs : List H) (w : World) : Prop where
  len : hs.length = ds.length
  post : ∀ (i : Nat) (d : Value) (x : H), ds[i]? = some d → hs[i]? = some x → pr.post d x
  hol : ∀ x, x ∈ hs → Hol x w
  hist : ∃ M γ e0, h M = some (nM pr 0 [e0]) ∧ (∀ M' k L, h M' = some (nM pr k L) → M' = M) ∧ pr.At M γ w ∧ pr.Hst e0 γ ∧ pr.Ext 0 [e0] γ ∧ (∀ v ∈ γ, pr.by_ v ≤ ds.length) ∧
    ∀ (i : Nat) (x : H), hs[i]? = some x → x M = none ∨ ∃ L, x M = some (nM pr (i + 1) L) ∧ pr.Ext (i + 1) L γ
/-- What it may hold then: what it or a worker held; as its own only what was not there at the start. -/
def Taken (Wg : Nat) (h : H) (hs : List H) (h' : H) : Prop :=
  h' Wg = some (nG pr 9 0 []) ∧ ∀ b o, h' b = some o → b ≠ Wg → plainO o ∧ ∃ x, (x = h ∨ x ∈ hs) ∧ ∃ y, x b = some y ∧ ((∃ c E, o = .cells c E (roF c)) ∨ ¬ ∃ c E, y = .cells c E (roF c))
def noL : Nat → Loc → Prop := fun _ _ => False

variable (P : Program)
/-- A worker's next step: an own one; one at the shared cell; it is at its deferred 'Done'. -/
inductive RobW (R : Goroutine → H → Prop) (g : Goroutine) (h : H) : Prop
  | ord (hs : g.status = .running) (st : ∀ w, Hol h w → (stepG P false g w).goes fun g' w' es => ∃ h', Fra h w h' w' es ∧ R g' h') : RobW R g h
  | sh (hs : g.status = .running) (M k : Nat) (L : List Value) (hM : h M = some (nM pr k L))
      (st : ∀ w γ, Hol h w → pr.At M γ w → pr.Ext k L γ → (∃ e0, pr.Hst e0 γ) → ∃ g' w' es h' γ', stepG P false g w = .go g' w' es ∧ pr.Upd M k γ γ' w w' es ∧ pr.Turn M k γ γ' h h' ∧ R g' h') : RobW R g h
  | leaf (hs : g.status = .running) (Wg C : Nat) (E : TypeId) (v d : Value) (hd : h Wg = some (nW pr d)) (hC : h C = some (.cells #[v] E)) (hp : pr.post d (hdel h C))
      (st : ∀ w, Hol h w → ∃ m, @Go.Conc.Goes P false (@RW ⟨E⟩ pr.tg Wg C 1 0 0) (@DWs ⟨E⟩ Wg noL noL C 1 1) (@AtR0 ⟨E⟩ P pr.tg Wg C 1 0 1 v) m g w) : RobW R g h

/-- The starter's. -/
inductive RobM (Wk R : Goroutine → H → Prop) (g : Goroutine) (h : H) : Prop
  | ord (hs : g.status = .running) (st : ∀ w, Hol h w → (stepG P true g w).goes fun g' w' es => ∃ h', Fra h w h' w' es ∧ R g' h') : RobM Wk R g h
  | ret (hs : g.status = .running) (hn : (∀ b o, h b = some o → plainO o ∨ o = nG pr 9 0 []) ∨ ∃ Wg, h Wg = some (nG pr 9 0 [])) (st : ∀ w, Hol h w → ∃ v es, stepG P true g w = .ended (.done v) w es ∧ (∀ e ∈ es, EvO h e) ∧ pr.fin v h) : RobM Wk R g h
  | opn (M Wg : Nat) (e0 : Value) (hn : ∀ b o, h b = some o → plainO o) (hM : h M = some (.cells #[pr.val [e0]] pr.E)) (hW : h Wg = some (.cells #[.int .u64 0, .int .u32 0] pr.tg)) (hp : ∀ b, pr.pub [e0] b = none) (hb : pr.by_ e0 = 0) (hne : M ≠ Wg)
      (st : R g (hupd (hupd h M (nM pr 0 [e0])) Wg (nG pr 0 0 []))) : RobM Wk R g h
  | ro (b : Nat) (c : Array Value) (E : TypeId) (hb : h b = some (.cells c E)) (st : R g (hupd h b (.cells c E (roO c)))) : RobM Wk R g h
  | part (b : Nat) (c : Array Value) (E : TypeId) (hb : h b = some (.cells c E)) (hg : ∃ Wg ph V ds, ph < 8 ∧ h Wg = some (nG pr ph V ds)) (st : R g (hupd h b (noteO E c.size 0 0 c))) : RobM Wk R g h
  | dis (hs : g.status = .running) (Wg V : Nat) (ds : List Value) (hW : h Wg = some (nG pr 0 V ds)) (st : ∀ w, Hol h w → ∃ g', stepG P true g w = .go g' w #[mk .disable] ∧ R g' (hupd h Wg (nG pr 1 ds.length ds))) : RobM Wk R g h
  | said (hs : g.status = .running) (Wg ph V : Nat) (ds : List Value) (hph : ph < 8) (hW : h Wg = some (nG pr ph V ds))
      (st : ∀ w, Hol h w → ∃ g' a, a.block = Wg ∧ (stepG P true g w = .go g' w #[mk (.read a)] ∨ stepG P true g w = .go g' w #[mk (.write a)]) ∧ R g' h) : RobM Wk R g h
  | add (hs : g.status = .running) (Wg V : Nat) (ds : List Value) (hW : h Wg = some (nG pr 1 V ds)) (hV : ds.length < 2147483646)
      (st : ∀ w (v : Nat), v ≤ V → Hol h w → WgAt pr.tg Wg w (v * KK) 0 → ∃ g', stepG P true g w = .go g' (w.setCell (stA Wg) (.int .u64 ((v + 1) * KK))) #[rd (stA Wg), wr (stA Wg)] ∧ R g' (hupd h Wg (nG pr 2 V ds))) : RobM Wk R g h
  | ena (hs : g.status = .running) (Wg ph V : Nat) (ds : List Value) (hph : ph = 2 ∨ ph = 6) (hW : h Wg = some (nG pr ph V ds)) (st : ∀ w, Hol h w → ∃ g', stepG P true g w = .go g' w #[mk .enable] ∧ R g' (hupd h Wg (nG pr (ph + 1) V ds))) : RobM Wk R g h
  | go (hs : g.status = .running) (Wg V : Nat) (ds : List Value) (hW : h Wg = some (nG pr 3 V ds))
      (st : ∀ w, Hol h w → ∃ g' child d hc h', stepG P true g w = .spawn g' child w #[] ∧ (∀ b, b ≠ Wg → SpO pr (ds.length + 1) (h b) (hc b) (h' b)) ∧ hc Wg = some (nW pr d) ∧ h' Wg = some (nG pr 0 0 (ds ++ [d])) ∧ Wk child hc ∧ R g' h') : RobM Wk R g h
  | ld (hs : g.status = .running) (Wg V : Nat) (ds : List Value) (hW : h Wg = some (nG pr 1 V ds))
      (st : ∀ w (v : Nat), v ≤ V → Hol h w → WgAt pr.tg Wg w (v * KK) 0 → ∃ g', stepG P true g w = .go g' w #[rd (stA Wg)] ∧ R g' (hupd h Wg (if v = 0 then nG pr 6 0 ds else nG pr 4 v ds))) : RobM Wk R g h
  | cas (hs : g.status = .running) (Wg u : Nat) (ds : List Value) (hW : h Wg = some (nG pr 4 u ds))
      (st : ∀ w (v : Nat), v ≤ u → Hol h w → WgAt pr.tg Wg w (v * KK) 0 →
        (v = u → ∃ g', stepG P true g w = .go g' (w.setCell (stA Wg) (.int .u64 (v * KK + 1))) #[rd (stA Wg), wr (stA Wg)] ∧ R g' (hupd h Wg (nG pr 5 0 ds))) ∧
        (v ≠ u → ∃ g', stepG P true g w = .go g' w #[rd (stA Wg)] ∧ R g' (hupd h Wg (nG pr 1 v ds)))) : RobM Wk R g h
  | sem (hs : g.status = .running) (Wg V : Nat) (ds : List Value) (ho : g.offers = none) (hW : h Wg = some (nG pr 5 V ds))
      (st : ∀ w, Hol h w → ((∃ st, WgAt pr.tg Wg w st 0) → stepG P true g w = .go { g with status := .blocked } w #[]) ∧
        (WgAt pr.tg Wg w 0 1 → ∃ g', stepG P true g w = .go g' (w.setCell (smA Wg) (.int .u32 0)) (Go.Conc.semEvents (smA Wg)) ∧ R g' (hupd h Wg (nG pr 6 0 ds)))) : RobM Wk R g h
  | ld2 (hs : g.status = .running) (Wg V : Nat) (ds : List Value) (hW : h Wg = some (nG pr 6 V ds)) (st : ∀ w, Hol h w → WgAt pr.tg Wg w 0 0 → ∃ g', stepG P true g w = .go g' w #[rd (stA Wg)] ∧ R g' h) : RobM Wk R g h
  | acq (hs : g.status = .running) (Wg V : Nat) (ds : List Value) (hW : h Wg = some (nG pr 7 V ds))
      (st : ∀ w, Hol h w → ∃ g', stepG P true g w = .go g' w #[mk (.acquire (stA Wg))] ∧ ∀ hs, Joined pr h ds hs w → ∃ h', Hol h' w ∧ Taken pr Wg h hs h' ∧ R g' h') : RobM Wk R g h

variable {pr P}
theorem goes_mono {s : GStep} {K K' : Goroutine → World → Array Event → Prop} (h : s.goes K) (hk : ∀ g w es, K g w es → K' g w es) : s.goes K' := by
  cases s <;> first | exact hk _ _ _ h | exact h.elim
theorem RobW.mono {R R' : Goroutine → H → Prop} (hr : ∀ g h, R g h → R' g h) {g : Goroutine} {h : H} (H0 : RobW pr P R g h) : RobW pr P R' g h := by
  cases H0 with
  | ord hs st => exact .ord hs fun w hw => goes_mono (st w hw) fun _ _ _ ⟨h', f, r⟩ => ⟨h', f, hr _ _ r⟩
  | sh hs M k L hM st => exact .sh hs M k L hM fun w γ hw ha he hH => let ⟨g', w', es, h', γ', h1, h2, h3, h4⟩ := st w γ hw ha he hH; ⟨g', w', es, h', γ', h1, h2, h3, hr _ _ h4⟩
  | leaf hs Wg C E v d hd hC hp st => exact .leaf hs Wg C E v d hd hC hp st
theorem RobM.mono {Wk R R' : Goroutine → H → Prop} (hr : ∀ g h, R g h → R' g h) {g : Goroutine} {h : H} (H0 : RobM pr P Wk R g h) : RobM pr P Wk R' g h := by
  cases H0 with
  | ord hs st => exact .ord hs fun w hw => goes_mono (st w hw) fun _ _ _ ⟨h', f, r⟩ => ⟨h', f, hr _ _ r⟩
  | ret hs hn st => exact .ret hs hn st
  | opn M Wg e0 hn hM hW hp hb hne st => exact .opn M Wg e0 hn hM hW hp hb hne (hr _ _ st)
  | ro b c E hb st => exact .ro b c E hb (hr _ _ st)
  | part b c E hb hg st => exact .part b c E hb hg (hr _ _ st)
  | dis hs Wg V ds hW st => exact .dis hs Wg V ds hW fun w hw => let ⟨g', h1, h2⟩ := st w hw; ⟨g', h1, hr _ _ h2⟩
  | said hs Wg ph V ds hph hW st => exact .said hs Wg ph V ds hph hW fun w hw => let ⟨g', a, h1, h2, h3⟩ := st w hw; ⟨g', a, h1, h2, hr _ _ h3⟩
  | add hs Wg V ds hW hV st => exact .add hs Wg V ds hW hV fun w v hv hw ha => let ⟨g', h1, h2⟩ := st w v hv hw ha; ⟨g', h1, hr _ _ h2⟩
  | ena hs Wg ph V ds hph hW st => exact .ena hs Wg ph V ds hph hW fun w hw => let ⟨g', h1, h2⟩ := st w hw; ⟨g', h1, hr _ _ h2⟩
  | go hs Wg V ds hW st => exact .go hs Wg V ds hW fun w hw => let ⟨g', ch, d, hc, h', h1, h2, h3, h4, h5, h6⟩ := st w hw; ⟨g', ch, d, hc, h', h1, h2, h3, h4, h5, hr _ _ h6⟩
  | ld hs Wg V ds hW st => exact .ld hs Wg V ds hW fun w v hv hw ha => let ⟨g', h1, h2⟩ := st w v hv hw ha; ⟨g', h1, hr _ _ h2⟩
  | cas hs Wg u ds hW st => exact .cas hs Wg u ds hW fun w v hv hw ha => ⟨fun e => let ⟨g', h1, h2⟩ := (st w v hv hw ha).1 e; ⟨g', h1, hr _ _ h2⟩, fun e => let ⟨g', h1, h2⟩ := (st w v hv hw ha).2 e; ⟨g', h1, hr _ _ h2⟩⟩
  | sem hs Wg V ds ho hW st => exact .sem hs Wg V ds ho hW fun w hw => ⟨(st w hw).1, fun e => let ⟨g', h1, h2⟩ := (st w hw).2 e; ⟨g', h1, hr _ _ h2⟩⟩
  | ld2 hs Wg V ds hW st => exact .ld2 hs Wg V ds hW fun w hw ha => let ⟨g', h1, h2⟩ := st w hw ha; ⟨g', h1, hr _ _ h2⟩
  | acq hs Wg V ds hW st => exact .acq hs Wg V ds hW fun w hw => let ⟨g', h1, h2⟩ := st w hw; ⟨g', h1, fun hs hj => let ⟨h', k1, k2, k3⟩ := h2 hs hj; ⟨h', k1, k2, hr _ _ k3⟩⟩

variable (pr P)
/-- The trees. -/
def TW : Tr → Goroutine → H → Prop
  | .mk ι f => RobW pr P fun g h => ∃ i, TW (f i) g h
def JW (g : Goroutine) (h : H) : Prop := ∃ α, TW pr P α g h
def TM : Tr → Goroutine → H → Prop
  | .mk ι f => RobM pr P (JW pr P) fun g h => ∃ i, TM (f i) g h
def JM (g : Goroutine) (h : H) : Prop := ∃ α, TM pr P α g h
variable {pr P}
theorem JW.of {g : Goroutine} {h : H} (H0 : RobW pr P (JW pr P) g h) : JW pr P g h :=
  ⟨.mk {x : Goroutine × H // JW pr P x.1 x.2} fun x => Classical.choose x.2, H0.mono fun g h hj => ⟨⟨(g, h), hj⟩, Classical.choose_spec hj⟩⟩
theorem JM.of {g : Goroutine} {h : H} (H0 : RobM pr P (JW pr P) (JM pr P) g h) : JM pr P g h :=
  ⟨.mk {x : Goroutine × H // JM pr P x.1 x.2} fun x => Classical.choose x.2, H0.mono fun g h hj => ⟨⟨(g, h), hj⟩, Classical.choose_spec hj⟩⟩
variable (pr P)
/-- The worker's walks, the starter's. -/
def CW : Cx P := ⟨false, JW pr P, fun _ _ hs st => JW.of (.ord hs st)⟩
def CM : Cx P := ⟨true, JM pr P, fun _ _ hs st => JM.of (.ord hs st)⟩
end
end Go.Proofs.Ytojhnclkhiffkaa
