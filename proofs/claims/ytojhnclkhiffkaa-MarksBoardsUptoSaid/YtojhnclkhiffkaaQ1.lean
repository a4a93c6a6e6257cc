/-
  A logic over heaps for lowered code, for a goroutine that is not alone: the definitions. A heap is what this goroutine holds: its own blocks, blocks that nobody writes (their frozen range is the mark 'roF'), single cells of shared blocks, and notes.
-/
import Derived.Calls
import Derived.Tactics
import Derived.Orders
import Derived.Still
import Derived.Laws.Cells
import Derived.Laws.Append
import Derived.Laws.Slices
import Derived.Laws.Rows
import Derived.Laws.CopyRow
import Derived.Laws.Pointers
import Derived.Laws.MakeOwn
import Derived.RangeFuncLeaves
import Derived.RangeFuncSeq
import Derived.RangeFuncCalls
import Derived.OrdersIn
import Derived.TacticsIn
import Derived.Conc.CompanyDraw
import Derived.Conc.Neutral
import Derived.Conc.AppendEvents3
import Derived.Conc.EventLaws2
/-
  A logic over heaps for lowered code, for a goroutine that is not alone: the definitions. A heap is what this goroutine holds: its own blocks, blocks that nobody writes (their frozen range is the mark 'roF'), single cells of shared blocks, and notes.
-/
namespace Go.Proofs.Ytojhnclkhiffkaa
open Go.Conc (G)
set_option linter.unusedVariables false

/-! ### Heaps -/
abbrev H := Nat → Option Obj
def hdel (h : H) (b : Nat) : H := fun x => if x = b then none else h x
def hupd (h : H) (b : Nat) (o : Obj) : H := fun x => if x = b then some o else h x
/-- A single cell of a block that others have too: cell i, of n, its value v. -/
def oneO (i : Nat) (v : Value) (n : Nat) (E : TypeId) : Obj := .deferred (some [⟨.collected i, #[v]⟩, ⟨.collected n, #[]⟩, ⟨.collected E, #[]⟩])
def oneOf : Obj → Option (Nat × Value × Nat × TypeId)
  | .deferred (some [⟨.collected i, ⟨[v]⟩⟩, ⟨.collected n, ⟨[]⟩⟩, ⟨.collected E, ⟨[]⟩⟩]) => some (i, v, n, E)
  | _ => none
theorem oneOf_oneO (i : Nat) (v : Value) (n : Nat) (E : TypeId) : oneOf (oneO i v n E) = some (i, v, n, E) := rfl
theorem oneOf_cells (c : Array Value) (E : TypeId) (fr : Nat × Nat) : oneOf (.cells c E fr) = none := rfl
theorem oneOf_spec {o : Obj} {i : Nat} {v : Value} {n : Nat} {E : TypeId} (h : oneOf o = some (i, v, n, E)) : o = oneO i v n E := by
  unfold oneOf at h
  split at h
  · simp only [Option.some.injEq, Prod.mk.injEq] at h
    obtain ⟨rfl, rfl, rfl, rfl⟩ := h
    rfl
  · cases h
/-- A note on a shared block of n cells: of what sort, a number, a list. Sort 0: the cells from a on are mine, and are L's. From sort 2 on: the block is a group's. -/
def noteO (E : TypeId) (n t a : Nat) (L : Array Value) : Obj := .deferred (some [⟨.collected E, #[]⟩, ⟨.collected n, #[]⟩, ⟨.collected t, L⟩, ⟨.collected a, #[]⟩])
def noteOf : Obj → Option (TypeId × Nat × Nat × Nat × Array Value)
  | .deferred (some [⟨.collected E, ⟨[]⟩⟩, ⟨.collected n, ⟨[]⟩⟩, ⟨.collected t, L⟩, ⟨.collected a, ⟨[]⟩⟩]) => some (E, n, t, a, L)
  | _ => none
theorem noteOf_noteO (E : TypeId) (n t a : Nat) (L : Array Value) : noteOf (noteO E n t a L) = some (E, n, t, a, L) := rfl
theorem oneOf_noteO (E : TypeId) (n t a : Nat) (L : Array Value) : oneOf (noteO E n t a L) = none := rfl
theorem noteOf_cells (c : Array Value) (E : TypeId) (fr : Nat × Nat) : noteOf (.cells c E fr) = none := rfl
theorem noteOf_spec {o : Obj} {E : TypeId} {n t a : Nat} {L : Array Value} (h : noteOf o = some (E, n, t, a, L)) : o = noteO E n t a L := by
  unfold noteOf at h
  split at h
  · simp only [Option.some.injEq, Prod.mk.injEq] at h
    obtain ⟨rfl, rfl, rfl, rfl, rfl⟩ := h
    rfl
  · cases h
/-- The marks of blocks that nobody writes: any; one that lies open. -/
def roF (c : Array Value) : Nat × Nat := (0, c.size + 1)
def roO (c : Array Value) : Nat × Nat := (0, c.size + 2)
def isRo (c : Array Value) (fr : Nat × Nat) : Prop := fr = roF c ∨ fr = roO c
instance (c : Array Value) (fr : Nat × Nat) : Decidable (isRo c fr) := inferInstanceAs (Decidable (_ ∨ _))
/-- What the world's blocks of cells are to one who only reads them. -/
def hp (w : World) : H := fun b => match w.heap[b]? with
  | some (.cells c E _) => some (.cells c E (roF c))
  | _ => none
theorem hp_cells {w : World} {b : Nat} {c : Array Value} {E : TypeId} {fr : Nat × Nat} (hb : w.heap[b]? = some (.cells c E fr)) : hp w b = some (.cells c E (roF c)) := by
  unfold hp; rw [hb]
theorem hp_some {w : World} {b : Nat} {o : Obj} (h : hp w b = some o) : ∃ c E fr, w.heap[b]? = some (.cells c E fr) ∧ o = .cells c E (roF c) := by
  unfold hp at h
  split at h
  · rename_i c E fr hb; cases h; exact ⟨c, E, fr, hb, rfl⟩
  · cases h
theorem isRo_roF (c : Array Value) : isRo c (roF c) := .inl rfl
theorem isRo_roO (c : Array Value) : isRo c (roO c) := .inr rfl
theorem not_isRo0 (c : Array Value) : ¬ isRo c (0, 0) := by simp [isRo, roF, roO]
def cellAt (h : H) (a : Addr) : Option Value :=
  match h a.block with
  | some (.cells c _ _) => if a.spot.isSome then none else c[a.off]?
  | some o => match oneOf o with
    | some (i, v, _, _) => if a.spot.isSome then none else if a.off = i then some v else none
    | none => none
  | none => none
def cellsAt (h : H) (a : Addr) (n : Nat) : Option (Array Value) :=
  if n = 0 then some #[] else
  match h a.block with
  | some (.cells c _ _) => if a.spot.isNone && decide (a.off + n ≤ c.size) then some (c.extract a.off (a.off + n)) else none
  | _ => none
def isCell : Value → Bool
  | .agg _ | .tuple _ => false
  | _ => true
def splice (c : Array Value) (o : Nat) : List Value → Array Value
  | [] => c
  | v :: r => splice (c.setIfInBounds o v) (o + 1) r
def storeH (h : H) (a : Addr) (vs : List Value) (K : H → Prop) : Prop :=
  if vs = [] then K h else
  match h a.block with
  | some (.cells c E fr) => (fr.2 ≤ a.off ∨ a.off + vs.length ≤ fr.1) ∧ a.spot = none ∧ a.off + vs.length ≤ c.size ∧ (vs.all isCell = true) ∧ K (hupd h a.block (.cells (splice c a.off vs) E fr))
  | some o => match oneOf o with
    | some (i, _, n, E) => a.off = i ∧ a.spot = none ∧ i < n ∧ vs.length = 1 ∧ (vs.all isCell = true) ∧ K (hupd h a.block (oneO i (vs.headD undef) n E))
    | none => False
  | none => False

/-! ### What a goroutine holds of a world -/
def HolO (o : Obj) (x : Option Obj) : Prop :=
  match oneOf o with
  | some (i, v, n, E) => ∃ c, x = some (.cells c E (0, 0)) ∧ c.size = n ∧ c[i]? = some v
  | none => match noteOf o with
    | some (E, n, t, a, L) => ∃ c, x = some (.cells c E (0, 0)) ∧ c.size = n ∧ (t = 0 → ∀ i, a ≤ i → c[i]? = L[i]?) ∧ (2 ≤ t → ∃ st sm, c = #[.int .u64 st, .int .u32 sm])
    | none => match o with
      | .cells c E fr => if isRo c fr then ∃ fr', x = some (.cells c E fr') ∧ (fr = roO c → fr' = (0, 0)) else x = some (.cells c E fr)
      | .deferred _ => ∃ o, x = some o
      | o => x = some o
def Hol (h : H) (w : World) : Prop := ∀ b o, h b = some o → HolO o w.heap[b]?

theorem HolO_some {o : Obj} {x : Option Obj} (h : HolO o x) : ∃ y, x = some y := by
  unfold HolO at h
  split at h
  · obtain ⟨c, h, _⟩ := h; exact ⟨_, h⟩
  · split at h
    · obtain ⟨c, h, _⟩ := h; exact ⟨_, h⟩
    · split at h
      · split at h
        · obtain ⟨_, h, _⟩ := h; exact ⟨_, h⟩
        · exact ⟨_, h⟩
      · exact h
      · exact ⟨_, h⟩
theorem Hol.lt {h : H} {w : World} (hh : Hol h w) {b : Nat} {o : Obj} (hb : h b = some o) : b < w.heap.size := by
  obtain ⟨y, hy⟩ := HolO_some (hh _ _ hb)
  exact (Array.getElem?_eq_some_iff.1 hy).1

/-- How one's own step may turn an object. -/
def chO (o o' : Obj) : Prop :=
  match oneOf o with
  | some (i, _, n, E) => ∃ v, o' = oneO i v n E
  | none => match o with
    | .cells c E fr => if isRo c fr then o' = o else ∃ c', o' = .cells c' E fr ∧ c'.size = c.size
    | .map _ _ => ∃ e c, o' = .map e c
    | .mapIter m s _ _ => ∃ seen st, o' = .mapIter m s seen st
    | _ => o' = o
/-- What stays in the world where the heap held has this. -/
def kpO (o : Option Obj) (x x' : Option Obj) : Prop :=
  match o with
  | none => x' = x
  | some o => match oneOf o with
    | some (i, _, _, _) => ∃ c E f v, x = some (.cells c E f) ∧ x' = some (.cells (c.setIfInBounds i v) E f)
    | none => match o with
      | .cells c _ fr => isRo c fr → x' = x
      | .deferred _ => x' = x
      | _ => True
/-- An access that is within what is held. -/
def EvO (h : H) (e : Event) : Prop :=
  match e.loc with
  | .cell a => (∃ c E fr, h a.block = some (.cells c E fr) ∧ (e.write = true → ¬ isRo c fr)) ∨ (a.spot = none ∧ ∃ o v n E, h a.block = some o ∧ oneOf o = some (a.off, v, n, E))
  | .obj r => ∃ o, h r = some o ∧ (match o with | .map .. | .mapIter .. => True | _ => False)
  | .mark m => Go.Conc.Neutral m ∨ ∃ f, m = .extern f
  | _ => False

/-- Neither a single cell nor a note. -/
def plainO (o : Obj) : Prop := oneOf o = none ∧ noteOf o = none
/-- An own step: of the world, of what is held, of what it lists. -/
structure Fra (h : H) (w : World) (h' : H) (w' : World) (es : Array Event) : Prop where
  hol : Hol h' w'
  os : w'.os = w.os
  tape : w'.tape = w.tape
  output : w'.output = w.output
  size : w.heap.size ≤ w'.heap.size
  old : ∀ b o', h' b = some o' → b < w.heap.size → ∃ o, h b = some o ∧ chO o o'
  keep : ∀ b, b < w.heap.size → kpO (h b) w.heap[b]? w'.heap[b]?
  ev : ∀ e ∈ es, EvO h' e
  nw : ∀ b o', h' b = some o' → w.heap.size ≤ b → plainO o'
  nk : ∀ b o, h b = some o → noteOf o ≠ none → h' b = some o

theorem chO.refl (o : Obj) : chO o o := by
  unfold chO
  split
  · rename_i i v n E h
    exact ⟨v, oneOf_spec h⟩
  · split
    · split
      · rfl
      · exact ⟨_, rfl, rfl⟩
    · exact ⟨_, _, rfl⟩
    · exact ⟨_, _, rfl⟩
    · rfl
theorem set_same (c : Array Value) {i : Nat} {v : Value} (h : c[i]? = some v) : c.setIfInBounds i v = c := by
  obtain ⟨hlt, rfl⟩ := Array.getElem?_eq_some_iff.1 h
  apply Array.ext_getElem?
  intro j
  by_cases hj : i = j
  · subst hj; simp [hlt]
  · rw [Array.getElem?_setIfInBounds_ne hj]
/-- Nothing is turned. -/
theorem Fra.still {h : H} {w w' : World} {es : Array Event} (hh : Hol h w) (h1 : w'.heap = w.heap) (h2 : w'.os = w.os) (h3 : w'.tape = w.tape) (h4 : w'.output = w.output) (he : ∀ e ∈ es, EvO h e) : Fra h w h w' es := by
  refine ⟨fun b o hb => by rw [h1]; exact hh b o hb, h2, h3, h4, by rw [h1]; exact Nat.le_refl _, fun b o hb _ => ⟨o, hb, chO.refl o⟩, fun b _ => ?_, he, fun b o hb hl => absurd (hh.lt hb) (by omega), fun b o hb _ => hb⟩
  rw [h1]
  cases hb : h b with
  | none => rfl
  | some o =>
    simp only [kpO]
    split
    · rename_i i v n E ho
      have := hh b o hb
      simp only [HolO, ho] at this
      obtain ⟨c, hc, _, hi⟩ := this
      exact ⟨c, E, (0, 0), v, hc, by rw [set_same c hi, hc]⟩
    · split <;> first | exact fun _ => rfl | exact fun _ => trivial | rfl | trivial
theorem Fra.refl {h : H} {w : World} (hh : Hol h w) : Fra h w h w #[] := Fra.still hh rfl rfl rfl rfl (by simp)
theorem Fra.sub {h h' : H} {w w' : World} {es es' : Array Event} (f : Fra h w h' w' es) (hs : ∀ e ∈ es', e ∈ es) : Fra h w h' w' es' := { f with ev := fun e he => f.ev e (hs e he) }

/-- Who walks: a judgement of a goroutine and what it holds, closed under own steps. -/
structure Cx (Pg : Program) where
  main : Bool
  J : Goroutine → H → Prop
  ord : ∀ g h, g.status = .running → (∀ w, Hol h w → (stepG Pg main g w).goes fun g' w' es => ∃ h', Fra h w h' w' es ∧ J g' h') → J g h
abbrev Cx.prog {Pg : Program} (_ : Cx Pg) : Program := Pg

/-- 's', the operation at hand, does this: whatever stands around it. -/
def Does {Pg : Program} (P : Cx Pg) (s : Sem Next) (h : H) (V : Value → H → Prop) : Prop :=
  ∀ (b : Frame) (a : Act) (k : List Item) (cs : List Frame) (ops : Array Oper) (i : Nat) (rest : List Nat) (o : Oper), ops[i]? = some o → Region.wanted o (yielded ops a.tmps) = true → b.kind ≠ .early →
    (∀ w, (execOp a.eval o).runT Pg w #[] = s.runT Pg w #[]) →
    (∀ v h', V v h' → P.J (G (b.at (a.put o.dst v) (.inRegion ops rest :: k)) cs) h') → P.J (G (b.at a (.inRegion ops (i :: rest) :: k)) cs) h
theorem Does.mono {Pg : Program} {P : Cx Pg} {s : Sem Next} {h : H} {V V' : Value → H → Prop} (hd : Does P s h V) (hv : ∀ v h', V v h' → V' v h') : Does P s h V' :=
  fun b a k cs ops i rest o ho hw hk hs hV => hd b a k cs ops i rest o ho hw hk hs fun v h' hv' => hV v h' (hv v h' hv')
theorem Does.congr {Pg : Program} {P : Cx Pg} {s s' : Sem Next} {h : H} {V : Value → H → Prop} (hd : Does P s h V) (he : ∀ w, s'.runT Pg w #[] = s.runT Pg w #[]) : Does P s' h V :=
  fun b a k cs ops i rest o ho hw hk hs hV => hd b a k cs ops i rest o ho hw hk (fun w => (hs w).trans (he w)) hV

/-- A call, told by heaps alone. -/
def CallsE {Pg : Program} (P : Cx Pg) (f : FuncId) (args : Array Value) (h : H) (R : Ending → H → Prop) : Prop := Does P (callFunc f args) h fun v h' => R (.returned v) h'
def Ok {Pg : Program} (P : Cx Pg) (f : FuncId) (args : Array Value) (h : H) (R : Value → H → Prop) : Prop :=
  CallsE P f args h fun e h' => ∃ v, e = .returned v ∧ R v h'
def callK {Pg : Program} (P : Cx Pg) (f : FuncId) (args : Array Value) (h : H) (K : Value → H → Prop) (X : List PanicEntry → H → Prop) : Prop := Does P (callFunc f args) h K

theorem CallsE.mono {Pg : Program} {P : Cx Pg} {f : FuncId} {args : Array Value} {h : H} {R R' : Ending → H → Prop} (hc : CallsE P f args h R) (hr : ∀ e h', R e h' → R' e h') : CallsE P f args h R' :=
  Does.mono hc fun v h' => hr _ h'
theorem Ok.mono {Pg : Program} {P : Cx Pg} {f : FuncId} {args : Array Value} {h : H} {R R' : Value → H → Prop} (hc : Ok P f args h R) (hr : ∀ v h', R v h' → R' v h') : Ok P f args h R' :=
  CallsE.mono hc fun _ _ ⟨v, he, r⟩ => ⟨v, he, hr v _ r⟩
/-- A contract, used at a call. -/
theorem Ok.k {Pg : Program} {P : Cx Pg} {f : FuncId} {args : Array Value} {h : H} {R : Value → H → Prop} {K : Value → H → Prop} {X : List PanicEntry → H → Prop}
    (hc : Ok P f args h R) (hr : ∀ v h', R v h' → K v h') : callK P f args h K X :=
  Does.mono hc fun v h' ⟨v', he, r⟩ => by cases he; exact hr _ _ r

/-! ### Environments: what is known of the slots -/
abbrev Env := List (Nat × Value)
def Env.get : Env → Nat → Option Value
  | [], _ => none
  | p :: r, t => if p.1 = t then some p.2 else Env.get r t
def ev (e : Env) : Operand → Option Value
  | .tmp t => e.get t
  | .const v => some v
  | .global g => some (.pointer (some ⟨g, 0, none⟩))
  | .func f => some (.func (.func f) #[] #[])
def evs (e : Env) : List Operand → Option (List Value)
  | [] => some []
  | x :: r => (ev e x).bind fun v => (evs e r).bind fun vs => some (v :: vs)
def Env.put (e : Env) (d : Option Nat) (v : Value) : Env :=
  match d with
  | some d => (d, v) :: e
  | none => e
def Env.keep (e : Env) : List Nat → Env
  | [] => []
  | t :: r => match e.get t with
    | some v => (t, v) :: Env.keep e r
    | none => Env.keep e r

/-- The environment tells the truth of a frame. -/
def agree (e : Env) (a : Act) : Prop := ∀ t v, e.get t = some v → a.tmps[t]? = some v

/-! ### Lowered operations -/
inductive EqK where
  | bool | ptr | slice | map | func | iface | other
  deriving DecidableEq

inductive L where
  | mv (x : Operand)
  | pick (c a b : Operand)
  | new (E : TypeId) (z : Array Value)
  | box (E : TypeId) (x : Operand)
  | agg (z : Array Value) (parts : List (Nat × Nat × Operand))
  | lit (E : TypeId) (n : Nat) (z : Array Value) (parts : List (Nat × Nat × Operand))
  | ld (a : Operand)
  | ldn (n : Nat) (a : Operand)
  | st (a x : Operand)
  | stn (n : Nat) (a x : Operand)
  | nilck (x : Operand)
  | bin (op : BinOp) (k : EqK) (x y : Operand)
  | un (op : UnOp) (x : Operand)
  | cvi (k : IntKind) (x : Operand)
  | cvss (x : Operand)
  | cvsb (E : TypeId) (x : Operand)
  | cvbs (x : Operand)
  | iface (T : TypeId) (x : Operand)
  | mkfn (fn : Fn) (first cap : List Operand)
  | mkslice (E : TypeId) (size bytes : Nat) (z : Array Value) (l c : Operand)
  | slc (size : Nat) (x : Operand) (lo hi mx : Option Operand)
  | slcs (x : Operand) (lo hi : Option Operand)
  | slca (n size : Nat) (x : Operand) (lo hi mx : Option Operand)
  | lea (k : Nat) (x : Operand)
  | fld (off : Nat) (x : Operand)
  | fldn (off n : Nat) (x : Operand)
  | idx (size : Nat) (x i : Operand)
  | idxp (n size : Nat) (x i : Operand)
  | idxs (x i : Operand)
  | idxv (n : Nat) (x i : Operand)
  | idxvn (n size : Nat) (x i : Operand)
  | lens (x : Operand)
  | lenl (x : Operand)
  | lenc (n : Nat)
  | capl (x : Operand)
  | app (E : TypeId) (size bytes : Nat) (z : Array Value) (s x : Operand)
  | cpy (size : Nat) (d s : Operand)
  | mn (x y : Operand)
  | mx (x y : Operand)
  | ext (x : Operand) (i : Nat)
  | call (f : FuncId) (args : List Operand)
  | callv (x : Operand) (args : List Operand)
  | xc (f : FuncId) (args : List Operand)
  | pnc (x : Operand)
  | raw (o : Oper)
  | bad

structure LO where
  d : Option Nat
  g : Option (Nat × Bool)
  l : L

/-- Draw regions: the operations in one order of their effects; operations that only read come as early as they can. 'al': one of several effects that may come next; 't' has the others. -/
inductive DT where
  | done
  | q (i : Nat) (o : LO) (r : DT)
  | e (i : Nat) (S : List Nat) (o : LO) (r : DT)
  | al (i : Nat) (S : List Nat) (o : LO) (r t : DT)

inductive LC where
  | skip
  | ret
  | ops (l : List LO)
  | draw (t : DT)
  | seq (a : LC) (L : List Nat) (b : LC)
  | cond (c : Operand) (a b : LC)
  | block (id : Nat) (c : LC)
  | loop (S K : List Nat) (c : LC)
  | rf (g : Operand) (ps K Kb : List Nat) (a b : LC)
  | scope (c : LC)
  | exit (id : Nat)
  | goto (l : Nat)
  | bad

/-! ### What they mean -/
/-- A value under a condition that the walk must see to. -/
def chk {α : Type} (c : Prop) [Decidable c] (v : α) : Option α := if c then some v else none
theorem chk_pos {α : Type} {c : Prop} [Decidable c] {v : α} (h : c) : chk c v = some v := if_pos h

def intV (op : BinOp) (k : IntKind) (a b : Int) : Option Value :=
  match op with
  | .add => some (.int k (k.wrap (a + b)))
  | .sub => some (.int k (k.wrap (a - b)))
  | .mul => some (.int k (k.wrap (a * b)))
  | .quo => chk (b ≠ 0) (.int k (k.wrap (a.tdiv b)))
  | .rem => chk (b ≠ 0) (.int k (a.tmod b))
  | .and => some (.int k (k.wrap (BitVec.ofInt k.bits a &&& BitVec.ofInt k.bits b).toNat))
  | .or => some (.int k (k.wrap (BitVec.ofInt k.bits a ||| BitVec.ofInt k.bits b).toNat))
  | .xor => some (.int k (k.wrap (BitVec.ofInt k.bits a ^^^ BitVec.ofInt k.bits b).toNat))
  | .andNot => some (.int k (k.wrap (BitVec.ofInt k.bits a &&& ~~~BitVec.ofInt k.bits b).toNat))
  | .shl => none
  | .shr => none
  | .eql => some (.bool (decide (a = b)))
  | .neq => some (.bool (!decide (a = b)))
  | .lss => some (.bool (decide (a < b)))
  | .leq => some (.bool (decide (a ≤ b)))
  | .gtr => some (.bool (decide (b < a)))
  | .geq => some (.bool (decide (b ≤ a)))

def strV (op : BinOp) (a b : ByteArray) : Option Value :=
  match op with
  | .add => chk (a.size + b.size ≤ 9223372036854775807) (.string (a ++ b))
  | .eql => some (.bool (decide (a.toList = b.toList)))
  | .neq => some (.bool (!decide (a.toList = b.toList)))
  | .lss => some (.bool (Op.bytesLess a.toList b.toList))
  | .leq => some (.bool (Op.bytesLess a.toList b.toList || decide (a.toList = b.toList)))
  | .gtr => some (.bool (!(Op.bytesLess a.toList b.toList || decide (a.toList = b.toList))))
  | .geq => some (.bool (!Op.bytesLess a.toList b.toList))
  | _ => none

/-- '==' of what is no number and no text. -/
def eqV (k : EqK) (a b : Value) : Option Bool :=
  match k, a, b with
  | .bool, .bool a, .bool b => some (a == b)
  | .ptr, .pointer none, .pointer b => some b.isNone
  | .ptr, .pointer (some _), .pointer none => some false
  | .ptr, .pointer (some a), .pointer (some b) => chk (a.block = b.block) (decide (a = b))
  | .slice, .slice none _ _, .slice b _ _ => some b.isNone
  | .slice, .slice (some _) _ _, .slice none _ _ => some false
  | .map, .map none, .map b => some b.isNone
  | .map, .map (some _), .map none => some false
  | .func, .nilFunc, .nilFunc => some true
  | .func, .nilFunc, .func _ _ _ => some false
  | .func, .func _ _ _, .nilFunc => some false
  | .iface, .nilIface, .iface _ _ => some false
  | .iface, .iface _ _, .nilIface => some false
  | _, _, _ => none

def binV (op : BinOp) (k : EqK) (a b : Value) : Option Value :=
  match a, b with
  | .int k a, .int k' b =>
    match op with
    | .shl => chk (0 ≤ b) (.int k (k.wrap (a * 2 ^ min b.toNat k.bits)))
    | .shr => chk (0 ≤ b) (.int k (a.fdiv (2 ^ min b.toNat k.bits)))
    | op => if k = k' then intV op k a b else none
  | .string a, .string b => strV op a b
  | .float k a, .float k' b =>
    match op with
    | .eql => if k = k' then some (.bool (k.format.order a b == some .eq)) else none
    | .neq => if k = k' then some (.bool (k.format.order a b != some .eq)) else none
    | _ => none
  | a, b =>
    match op with
    | .eql => (eqV k a b).map .bool
    | .neq => (eqV k a b).map fun t => .bool (!t)
    | _ => none

def unV (op : UnOp) (x : Value) : Option Value :=
  match op, x with
  | .neg, .int k n => some (.int k (k.wrap (0 - n)))
  | .xor, .int k n => some (.int k (k.wrap (BitVec.ofInt k.bits (if k.signed then -1 else k.max) ^^^ BitVec.ofInt k.bits n).toNat))
  | .not, .bool b => some (.bool !b)
  | _, _ => none

/-- Parts laid into cells. -/
def fillV (c : Array Value) : List (Nat × Nat × Value) → Option (Array Value)
  | [] => some c
  | (off, n, v) :: r => if v.cells.size = n ∧ off + n ≤ c.size then fillV (splice c off v.cells.toList) r else none
def evp (e : Env) : List (Nat × Nat × Operand) → Option (List (Nat × Nat × Value))
  | [] => some []
  | (o, n, x) :: r => (ev e x).bind fun v => (evp e r).bind fun vs => some ((o, n, v) :: vs)

/-- A bound of a slice expression. -/
def bnd (e : Env) (x : Option Operand) (dflt : Nat) : Option Int :=
  match x with
  | none => some dflt
  | some x => (ev e x).bind fun v => match v with
    | .int _ n => some n
    | _ => none
def slcV (size : Nat) (a : Option Addr) (len cap : Nat) (mx3 : Bool) (lo hi mx : Int) : Option Value :=
  chk (0 ≤ lo ∧ lo ≤ hi ∧ hi ≤ mx ∧ mx ≤ cap ∧ (mx3 = true ∨ mx = cap)) (.slice (if mx = lo then a else a.map (·.add (lo.toNat * size))) (hi.toNat - lo.toNat) (mx.toNat - lo.toNat))

/-- What an operation that only reads yields. -/
def qV (l : L) (e : Env) (h : H) : Option Value :=
  match l with
  | .mv x => ev e x
  | .pick c a b => (ev e c).bind fun v => match v with
    | .bool t => if t then ev e a else ev e b
    | _ => none
  | .agg z ps => (evp e ps).bind fun vs => (fillV z vs).map .agg
  | .ld a => (ev e a).bind fun v => match v with
    | .pointer (some p) => cellAt h p
    | _ => none
  | .ldn n a => (ev e a).bind fun v => match v with
    | .pointer (some p) => (cellsAt h p n).map .agg
    | _ => none
  | .nilck x => (ev e x).bind fun v => match v with
    | .pointer (some p) => some (.pointer (some p))
    | .func (.func f) a c => some (.func (.func f) a c)
    | .iface t x => some (.iface t x)
    | _ => none
  | .bin op k x y => (ev e x).bind fun a => (ev e y).bind fun b => binV op k a b
  | .un op x => (ev e x).bind fun v => unV op v
  | .cvi k x => (ev e x).bind fun v => match v with
    | .int _ n => some (.int k (k.wrap n))
    | _ => none
  | .cvss x => (ev e x).bind fun v => match v with
    | .string s => some (.string s)
    | _ => none
  | .iface T x => (ev e x).bind fun v => some (.iface T v)
  | .mkfn fn first cap => (evs e first).bind fun a => (evs e cap).bind fun c => some (.func fn a.toArray c.toArray)
  | .slc size x lo hi mx => (ev e x).bind fun v => match v with
    | .slice a len cap => (bnd e mx cap).bind fun m => (bnd e hi len).bind fun h' => (bnd e lo 0).bind fun l' => slcV size a len cap mx.isSome l' h' m
    | _ => none
  | .slcs x lo hi => (ev e x).bind fun v => match v with
    | .string s => (bnd e hi s.size).bind fun h' => (bnd e lo 0).bind fun l' => chk (0 ≤ l' ∧ l' ≤ h' ∧ h' ≤ s.size) (.string (s.extract l'.toNat h'.toNat))
    | _ => none
  | .slca n size x lo hi mx => (ev e x).bind fun v => match v with
    | .pointer (some a) => (bnd e mx n).bind fun m => (bnd e hi n).bind fun h' => (bnd e lo 0).bind fun l' => slcV size (some a) n n mx.isSome l' h' m
    | _ => none
  | .lea k x => (ev e x).bind fun v => match v with
    | .pointer (some p) => some (.pointer (some (p.add k)))
    | _ => none
  | .fld off x => (ev e x).bind fun v => match v with
    | .agg cs => cs[off]?
    | _ => none
  | .fldn off n x => (ev e x).bind fun v => match v with
    | .agg cs => some (.agg (cs.extract off (off + n)))
    | _ => none
  | .idx size x i => (ev e x).bind fun v => (ev e i).bind fun j => match v, j with
    | .slice (some p) len _, .int _ j => chk (0 ≤ j ∧ j < len) (.pointer (some (p.add (j.toNat * size))))
    | _, _ => none
  | .idxp n size x i => (ev e x).bind fun v => (ev e i).bind fun j => match v, j with
    | .pointer (some p), .int _ j => chk (0 ≤ j ∧ j < n) (.pointer (some (p.add (j.toNat * size))))
    | _, _ => none
  | .idxs x i => (ev e x).bind fun v => (ev e i).bind fun j => match v, j with
    | .string s, .int _ j => (chk (0 ≤ j) ()).bind fun _ => (s[j.toNat]?).map fun b => .int .u8 b.toNat
    | _, _ => none
  | .idxv n x i => (ev e x).bind fun v => (ev e i).bind fun j => match v, j with
    | .agg cs, .int _ j => (chk (0 ≤ j ∧ j < n) ()).bind fun _ => cs[j.toNat]?
    | _, _ => none
  | .idxvn n size x i => (ev e x).bind fun v => (ev e i).bind fun j => match v, j with
    | .agg cs, .int _ j => chk (0 ≤ j ∧ j < n) (.agg (cs.extract (j.toNat * size) (j.toNat * size + size)))
    | _, _ => none
  | .lens x => (ev e x).bind fun v => match v with
    | .string s => some (.int .i64 s.size)
    | _ => none
  | .lenl x => (ev e x).bind fun v => match v with
    | .slice _ n _ => some (.int .i64 n)
    | _ => none
  | .lenc n => some (.int .i64 n)
  | .capl x => (ev e x).bind fun v => match v with
    | .slice _ _ n => some (.int .i64 n)
    | _ => none
  | .mn x y => (ev e x).bind fun a => (ev e y).bind fun b => match a, b with
    | .int k a, .int _ b => some (.int k (if b < a then b else a))
    | _, _ => none
  | .mx x y => (ev e x).bind fun a => (ev e y).bind fun b => match a, b with
    | .int k a, .int _ b => some (.int k (if a < b then b else a))
    | _, _ => none
  | .ext x i => (ev e x).bind fun v => match v with
    | .tuple vs => vs[i]?
    | _ => none
  | _ => none

def isQ : L → Bool
  | .mv _ | .pick .. | .agg .. | .ld _ | .ldn .. | .nilck _ | .bin .. | .un .. | .cvi .. | .cvss _ | .iface .. | .mkfn .. | .slc .. | .slcs .. | .slca .. | .lea .. | .fld .. | .fldn .. | .idx .. | .idxp .. | .idxs .. | .idxv .. | .idxvn ..
  | .lens _ | .lenl _ | .lenc _ | .capl _ | .mn .. | .mx .. | .ext .. => true
  | _ => false
/-- Does it look into memory? -/
def isLd : L → Bool
  | .ld _ | .ldn .. => true
  | _ => false

def opt (o : Option Value) (h : H) (K : Value → H → Prop) : Prop :=
  match o with
  | some v => K v h
  | none => False

/-- A function with a body of its own. -/
def callable (P : Program) (f : FuncId) : Bool :=
  match P.funcs[f]? with
  | some fn => !(fn.name == "runtime.NumGoroutine") && !fn.body.isNone
  | none => false
/-- The cells that 'append' or 'copy' takes from its second argument: n of them. -/
def srcCells (h : H) (size n : Nat) : Value → Option (Array Value)
  | .slice (some a) _ _ => cellsAt h a (n * size)
  | .slice none _ _ => some #[]
  | .string s => some ((s.extract 0 n).data.map fun b => .int .u8 b.toNat)
  | _ => none
def srcLen : Value → Option Nat
  | .slice _ n _ => some n
  | .string s => some s.size
  | _ => none

def appM (E : TypeId) (size bytes : Nat) (z : Array Value) (s x : Value) (h : H) (K : Value → H → Prop) : Prop :=
  match s, srcLen x with
  | .slice base len cap, some n =>
    if len + n ≤ cap then
      match srcCells h size n x, base with
      | some new, some a => storeH h (a.add (len * size)) new.toList fun h' => K (.slice base (len + n) cap) h'
      | some _, none => K (.slice base (len + n) cap) h
      | none, _ => False
    else
      (len + n ≤ 9223372036854775807 ∧ Builtin.nextslicecap (len + n) cap * bytes ≤ 281474976710656) ∧
      match srcCells h size len s, srcCells h size n x with
      | some old, some new => ∀ c, len + n ≤ c → ∀ b, h b = none →
        K (.slice (some ⟨b, 0, none⟩) (len + n) c) (hupd h b (.cells (old ++ new ++ Builtin.zeroCells z (c - (len + n))) E))
      | _, _ => False
  | _, _ => False

def strCells (s : ByteArray) (c : Nat) : Array Value := (s.data.map fun b => Value.int .u8 b.toNat) ++ Array.replicate (c - s.size) (Value.int .u8 0)
def isByte : Value → Bool
  | .int .u8 _ => true
  | _ => false
def pushByte (s : ByteArray) (v : Value) : ByteArray :=
  match v with
  | .int _ n => s.push (UInt8.ofNat n.toNat)
  | _ => s
def ofCells (cs : Array Value) : ByteArray := cs.toList.foldl pushByte ByteArray.empty
/-- What an operation does. -/
def lM {Pg : Program} (P : Cx Pg) (l : L) (e : Env) (h : H) (K : Value → H → Prop) (X : List PanicEntry → H → Prop) : Prop :=
  match l with
  | .new E z => ∀ b, h b = none → K (.pointer (some ⟨b, 0, none⟩)) (hupd h b (.cells z E))
  | .box E x => match ev e x with
    | some v => ∀ b, h b = none → K (.pointer (some ⟨b, 0, none⟩)) (hupd h b (.cells v.cells E))
    | none => False
  | .lit E n z ps => match (evp e ps).bind (fillV z) with
    | some c => ∀ b, h b = none → K (.slice (some ⟨b, 0, none⟩) n n) (hupd h b (.cells c E))
    | none => False
  | .st a x => match ev e a, ev e x with
    | some (.pointer (some p)), some v => storeH h p [v] fun h' => K undef h'
    | _, _ => False
  | .stn n a x => match ev e a, ev e x with
    | some (.pointer (some p)), some v => v.cells.size = n ∧ storeH h p v.cells.toList fun h' => K undef h'
    | _, _ => False
  | .cvsb _ _ => False
  | .mkslice E size bytes z l c => match ev e l, ev e c with
    | some (.int _ n), some (.int _ m) => (0 ≤ n ∧ n ≤ m ∧ m ≤ 9223372036854775807 ∧ bytes * m ≤ 281474976710656) ∧
      ∀ b, h b = none → K (.slice (some ⟨b, 0, none⟩) n.toNat m.toNat) (hupd h b (.cells (Builtin.zeroCells z m.toNat) E))
    | _, _ => False
  | .app E size bytes z s x => match ev e s, ev e x with
    | some s, some x => appM E size bytes z s x h K
    | _, _ => False
  | .cpy size d s => match ev e d, ev e s with
    | some (.slice base dl _), some s => match srcLen s with
      | some n => match srcCells h size (min n dl) s, base with
        | some new, some a => storeH h a new.toList fun h' => K (.int .i64 (min n dl : Nat)) h'
        | some _, none => K (.int .i64 (min n dl : Nat)) h
        | none, _ => False
      | none => False
    | _, _ => False
  | .call f args => match evs e args with
    | some vs => callK P f vs.toArray h K X
    | none => False
  | .xc f args => match evs e args with
    | some vs => Does P (callFunc f vs.toArray) h K
    | none => False
  | .callv x args => match ev e x, evs e args with
    | some (.func (.func f) first cap), some vs => callable P.prog f = true ∧ callK P f (first ++ vs.toArray ++ cap) h K X
    | _, _ => False
  | .cvbs _ => False
  | .pnc x => False
  | .raw o => ∀ a, agree e a → Does P (execOp a.eval o) h K
  | .bad => False
  | l => opt (qV l e h) h K

/-- A guard's answer. -/
def gW (v : Value) (want : Bool) : Bool :=
  match v with
  | .bool b => b == want
  | _ => false
def guardM (e : Env) (g : Option (Nat × Bool)) (A B : Prop) : Prop :=
  match g with
  | none => A
  | some (t, want) => match e.get t with
    | some v => (gW v want = true → A) ∧ (gW v want = false → B)
    | none => False

def vcOps {Pg : Program} (P : Cx Pg) : List LO → (K : Env → H → Prop) → (X : List PanicEntry → H → Prop) → Env → H → Prop
  | [], K, _, e, h => K e h
  | o :: r, K, X, e, h => guardM e o.g (lM P o.l e h (fun v h' => vcOps P r K X (e.put o.d v) h') X) (vcOps P r K X (e.put o.d undef) h)

/-- Facts on memory that must stand while other effects go by: which operation, its reading. -/
def stab (S : List Nat) (l : List (Nat × L × Env × Value)) (h : H) : Prop :=
  match l with
  | [] => True
  | (i, o, e, v) :: r => (if S.contains i then qV o e h = some v ∧ stab S r h else stab S r h)
def vcDT {Pg : Program} (P : Cx Pg) : DT → (K : Env → H → Prop) → (X : List PanicEntry → H → Prop) → List (Nat × L × Env × Value) → Env → H → Prop
  | .done, K, _, _, e, h => K e h
  | .q i o r, K, X, S, e, h => guardM e o.g (opt (qV o.l e h) h fun v h' => vcDT P r K X (if isLd o.l then (i, o.l, e, v) :: S else S) (e.put o.d v) h') (vcDT P r K X S (e.put o.d undef) h)
  | .e _ Z o r, K, X, S, e, h => guardM e o.g (lM P o.l e h (fun v h' => stab Z S h' ∧ vcDT P r K X S (e.put o.d v) h') X) (vcDT P r K X S (e.put o.d undef) h)
  | .al _ Z o r t, K, X, S, e, h =>
    guardM e o.g (lM P o.l e h (fun v h' => stab Z S h' ∧ vcDT P r K X S (e.put o.d v) h') X) (vcDT P r K X S (e.put o.d undef) h) ∧ vcDT P t K X S e h

abbrev Post := Exit → Env → H → Prop

def condM (v : Option Value) (A B : Prop) : Prop :=
  match v with
  | some (.bool b) => (b = true → A) ∧ (b = false → B)
  | _ => False

def loopI (S : List Nat) (K : List Nat) (body : Post → Env → H → Prop) (Q : Post) (e : Env) (h : H) : Prop :=
  ∃ (I : List Value → H → Prop) (μ : List Value → H → Nat),
    (∃ vs, evs e (S.map .tmp) = some vs ∧ I vs h) ∧
    ∀ vs h', vs.length = S.length → I vs h' →
      body (fun x e' h'' => match x with
        | .normal => (∃ vs', evs e' (S.map .tmp) = some vs' ∧ I vs' h'' ∧ μ vs' h'' < μ vs h') ∧ e'.keep K = e.keep K
        | x => Q x e' h'') (S.zip vs ++ e.keep K) h'

def vc {Pg : Program} (P : Cx Pg) : LC → Post → Env → H → Prop
  | .skip, Q, e, h => Q .normal e h
  | .ret, Q, e, h => Q .ret e h
  | .ops l, Q, e, h => vcOps P l (fun e' h' => Q .normal e' h') (fun c h' => Q (.panic c) [] h') e h
  | .draw t, Q, e, h => vcDT P t (fun e' h' => Q .normal e' h') (fun c h' => Q (.panic c) [] h') [] e h
  | .seq a L b, Q, e, h => vc P a (fun x e' h' => match x with
    | .normal => vc P b Q (e'.keep L) h'
    | x => Q x e' h') e h
  | .cond c a b, Q, e, h => condM (ev e c) (vc P a Q e h) (vc P b Q e h)
  | .block id c, Q, e, h => vc P c (fun x e' h' => match x with
    | .exit i => if i = id then Q .normal e' h' else Q (.exit i) e' h'
    | x => Q x e' h') e h
  | .loop S K c, Q, e, h => loopI S K (vc P c) Q e h
  | .rf .., _, _, _ => False
  | .scope _, _, _, _ => False
  | .exit id, Q, e, h => Q (.exit id) e h
  | .goto _, _, _, _ => False
  | .bad, _, _, _ => False

/-- A function's end. -/
def retQ (res : List Nat) (R : Ending → H → Prop) : Post := fun x e h =>
  match x with
  | .ret | .normal => match evs e (res.map .tmp) with
    | some [v] => R (.returned v) h
    | some vs => R (.returned (.tuple vs.toArray)) h
    | none => False
  | .panic c => R (.panicked c) h
  | _ => False
end Go.Proofs.Ytojhnclkhiffkaa

/-
  Lowering of operations: plain operations with all type look-ups done.
-/
namespace Go.Proofs.Ytojhnclkhiffkaa
set_option linter.unusedVariables false

def eqkOf (P : Program) (t : TypeId) : EqK :=
  match P.underlying t with
  | some .bool => .bool
  | some (.pointer e) => (match P.info? e with | some i => if i.size = 0 then .other else .ptr | none => .other)
  | some (.slice _) => .slice
  | some (.map _ _) => .map
  | some (.func _ _ _) => .func
  | some (.interface _) => .iface
  | _ => .other

def partsOf (f : Nat → Option (Nat × Nat)) : List (Nat × Operand) → Option (List (Nat × Nat × Operand))
  | [] => some []
  | (i, x) :: r => match f i, partsOf f r with
    | some (o, n), some l => some ((o, n, x) :: l)
    | _, _ => none

/-- An operation without its place in the text. -/
def bare (o : Oper) : Oper := { o with pos := "", after := #[], guard := none }

def lowBuiltin (P : Program) (o : Oper) (b : Builtin) (args : List Operand) (ts : List TypeId) : L :=
  match b, args, ts with
  | .len, [x], [t] => match P.underlying t with
    | some .string => .lens x
    | some (.slice _) => .lenl x
    | some (.array n _) => .lenc n
    | some (.pointer arr) => (match P.underlying arr with | some (.array n _) => .lenc n | _ => .raw (bare o))
    | _ => .raw (bare o)
  | .cap, [x], [t] => match P.underlying t with
    | some (.slice _) => .capl x
    | _ => .raw (bare o)
  | .append, [s, x], [t, u] => match P.underlying t, P.underlying u with
    | some (.slice _), some (.int _) => .raw (bare o)
    | some (.slice E), some _ => (match P.info? E with
      | some i => (match i.zero with | some z => .app E i.size i.bytes z.cells s x | none => .raw (bare o))
      | none => .raw (bare o))
    | _, _ => .raw (bare o)
  | .copy, [d, s], t :: _ => match P.underlying t with
    | some (.slice E) => (match P.info? E with | some i => .cpy i.size d s | none => .raw (bare o))
    | _ => .raw (bare o)
  | .min, [x, y], _ => .mn x y
  | .max, [x, y], _ => .mx x y
  | _, _, _ => .raw (bare o)

def isAggB (P : Program) (t : TypeId) : Bool :=
  match P.underlying t with
  | some (.struct _) | some (.array _ _) => true
  | _ => false
def lowFunc (P : Program) (o : Oper) (f : FuncId) (args : List Operand) : L :=
  if callable P f = true then .call f args else .xc f args

/-- The literal nil of an interface's type. -/
def isStB (P : Program) (t : TypeId) : Bool := match P.underlying t with
  | some (.struct _) => true
  | _ => false
def isNilC : Operand → Bool
  | .const .nilIface => true
  | _ => false
def lowOp (P : Program) (o : Oper) : L :=
  match o.op with
  | .move x | .assign x => .mv x
  | .pick c a b => .pick c a b
  | .alloc E => match P.info? E with
    | some i => (match i.zero with | some z => .new E z.cells | none => .raw (bare o))
    | none => .raw (bare o)
  | .box E x => .box E x
  | .build t ps => match P.info? t, P.underlying t with
    | some i, some (.struct fs) => (match i.zero, fs.all (fun f => (P.info? f.type).isSome), partsOf (fun j => (fs[j]?).map fun f => (f.offset, P.cellsOf f.type)) ps.toList with
      | some z, true, some l => .agg z.cells l
      | _, _, _ => .raw (bare o))
    | some i, some (.array _ E) => (match i.zero, P.info? E, partsOf (fun j => some (j * P.cellsOf E, P.cellsOf E)) ps.toList with
      | some z, some _, some l => .agg z.cells l
      | _, _, _ => .raw (bare o))
    | _, _ => .raw (bare o)
  | .buildSlice t n ps => match P.underlying t with
    | some (.slice E) => (match P.info? E, partsOf (fun j => some (j * P.cellsOf E, P.cellsOf E)) ps.toList with
      | some i, some l => (match i.zero with
        | some z => if n * i.size ≤ 16777216 ∧ z.cells.size = i.size then .lit E n (Builtin.zeroCells z.cells n) l else .raw (bare o)
        | none => .raw (bare o))
      | _, _ => .raw (bare o))
    | _ => .raw (bare o)
  | .load t a => match P.underlying t, P.info? t with
    | some (.struct _), some i | some (.array _ _), some i => .ldn i.size a
    | some _, some _ => .ld a
    | _, _ => .raw (bare o)
  | .store t a x => match P.info? t with
    | some i => if i.size = 1 ∧ isAggB P t = false then .st a x else .stn i.size a x
    | none => .raw (bare o)
  | .nilCheck x => .nilck x
  | .binOp op t x y _ => if (isNilC y || isStB P t) = true then .raw (bare o) else .bin op (eqkOf P t) x y
  | .unOp op _ x => .un op x
  | .convert s d x => match P.underlying s, P.underlying d with
    | some (.int _), some (.int k) => .cvi k x
    | some .string, some .string => .cvss x
    | some .string, some (.slice E) => (match P.underlying E with | some (.int .u8) => .cvsb E x | _ => .raw (bare o))
    | some (.slice E), some .string => (match P.underlying E with | some (.int .u8) => .cvbs x | _ => .raw (bare o))
    | _, _ => .raw (bare o)
  | .makeInterface t x => match P.underlying t with
    | some (.interface _) => .raw (bare o)
    | some _ => .iface t x
    | none => .raw (bare o)
  | .makeFunc fn first cap => .mkfn fn first.toList cap.toList
  | .makeSlice t l c => match P.underlying t with
    | some (.slice E) => (match P.info? E with
      | some i => (match i.zero with | some z => if z.cells.size = i.size then .mkslice E i.size i.bytes z.cells l c else .raw (bare o) | none => .raw (bare o))
      | none => .raw (bare o))
    | _ => .raw (bare o)
  | .slice t x lo hi mx => match P.underlying t with
    | some .string => (match mx with | none => .slcs x lo hi | some _ => .raw (bare o))
    | some (.slice E) => (match P.info? E with | some i => if mx.isSome = true ∧ hi.isNone = true then .raw (bare o) else .slc i.size x lo hi mx | none => .raw (bare o))
    | some (.array n E) => (match P.info? E with | some i => if mx.isSome = true ∧ hi.isNone = true then .raw (bare o) else .slca n i.size x lo hi mx | none => .raw (bare o))
    | _ => .raw (bare o)
  | .fieldAddr s x f => match P.underlying s with
    | some (.struct fs) => (match fs[f]? with
      | some fd => (match P.info? fd.type with | some i => if i.size = 0 then .raw (bare o) else .lea fd.offset x | none => .raw (bare o))
      | none => .raw (bare o))
    | _ => .raw (bare o)
  | .field s x f => match P.underlying s with
    | some (.struct fs) => (match fs[f]? with
      | some fd => (match P.underlying fd.type, P.info? fd.type with
        | some (.struct _), some i | some (.array _ _), some i => .fldn fd.offset i.size x
        | some _, some _ => .fld fd.offset x
        | _, _ => .raw (bare o))
      | none => .raw (bare o))
    | _ => .raw (bare o)
  | .indexAddr t x ix => match P.underlying t with
    | some (.slice E) => (match P.info? E with | some i => .idx i.size x ix | none => .raw (bare o))
    | some (.array n E) => (match P.info? E with | some i => .idxp n i.size x ix | none => .raw (bare o))
    | _ => .raw (bare o)
  | .index t x ix => match P.underlying t with
    | some .string => .idxs x ix
    | some (.array n E) => (match P.underlying E, P.info? E with
      | some (.struct _), some i | some (.array _ _), some i => .idxvn n i.size x ix
      | some _, some i => if i.size = 1 then .idxv n x ix else .raw (bare o)
      | _, _ => .raw (bare o))
    | _ => .raw (bare o)
  | .extract x i => .ext x i
  | .panic x => .pnc x
  | .call ⟨.value (.func f), args, _⟩ => lowFunc P o f args.toList
  | .call ⟨.value (.tmp t), args, _⟩ => .callv (.tmp t) args.toList
  | .call ⟨.builtin b, args, ts⟩ => lowBuiltin P o b args.toList ts.toList
  | _ => .raw (bare o)

/-! ### The operations that only read -/
theorem ev_sound {e : Env} {a : Act} (ha : agree e a) {x : Operand} {v : Value} (h : ev e x = some v) : a.eval x = v := by
  cases x with
  | tmp t => have := ha t v h; simp [Act.eval, Array.getD_eq_getD_getElem?, this]
  | const c => simpa [ev, Act.eval] using h
  | global g => simpa [ev, Act.eval] using h
  | func f => simpa [ev, Act.eval] using h
theorem evs_sound {e : Env} {a : Act} (ha : agree e a) : ∀ {xs : List Operand} {vs : List Value}, evs e xs = some vs → xs.map a.eval = vs
  | [], vs, h => by simp only [evs, Option.some.injEq] at h; subst h; rfl
  | x :: r, vs, h => by
    simp only [evs, Option.bind_eq_some_iff] at h
    obtain ⟨v, hv, ws, hw, h⟩ := h
    simp only [Option.some.injEq] at h
    rw [← h, List.map_cons, ev_sound ha hv, evs_sound ha hw]
theorem evs_arr {e : Env} {a : Act} (ha : agree e a) {xs : Array Operand} {vs : List Value} (h : evs e xs.toList = some vs) : xs.map a.eval = vs.toArray := by
  rw [← evs_sound ha h, List.map_toArray.symm]

theorem run_info {P : Program} {t : TypeId} {i : TypeInfo} (h : P.info? t = some i) (w : World) : (typeInfo t).run P w = .ok i w := by simp [typeInfo, h]
theorem run_size {P : Program} {t : TypeId} {i : TypeInfo} (h : P.info? t = some i) (w : World) : (sizeOf t).run P w = .ok i.size w := by simp [sizeOf, run_info h]
theorem run_zero {P : Program} {t : TypeId} {i : TypeInfo} {z : Value} (h : P.info? t = some i) (hz : i.zero = some z) (w : World) : (zeroValue t).run P w = .ok z w := by simp [zeroValue, run_info h, hz]
theorem cell_of {w : World} {h : H} (hw : Hol h w) {p : Addr} {v : Value} (hc : cellAt h p = some v) : w.cell? p = some v := by
  unfold cellAt at hc
  unfold World.cell?
  split at hc
  · rename_i c E fr hb
    have := hw _ _ hb
    simp only [HolO, oneOf_cells, noteOf_cells] at this
    split at this
    · obtain ⟨fr', hx, _⟩ := this
      rw [hx]; exact hc
    · rw [this]; exact hc
  · rename_i o _ hb
    split at hc
    · rename_i i u n E ho
      have := hw _ _ hb
      simp only [HolO, ho] at this
      obtain ⟨c, hx, _, hi⟩ := this
      rw [hx]
      split at hc
      · cases hc
      · rename_i hs
        simp only [hs, Bool.false_eq_true, if_false]
        split at hc
        · rename_i he
          rw [he]; rw [hi]; exact hc
        · cases hc
    · cases hc
  · cases hc
theorem add_zero (p : Addr) : p.add 0 = p := by simp [Addr.add]
theorem add_off (p : Addr) (n : Nat) : (p.add n).off = p.off + n := by unfold Addr.add; split <;> simp_all
theorem add_block (p : Addr) (n : Nat) : (p.add n).block = p.block := by unfold Addr.add; split <;> simp_all
theorem add_spot {p : Addr} (h : p.spot = none) (n : Nat) : (p.add n).spot = none := by unfold Addr.add; split <;> simp_all
theorem add_mk (b o n : Nat) : (⟨b, o, none⟩ : Addr).add n = ⟨b, o + n, none⟩ := by unfold Addr.add; split <;> simp_all
theorem cellsAt_spec {h : H} {p : Addr} {n : Nat} {cs : Array Value} (hc : cellsAt h p n = some cs) :
    cs.size = n ∧ ∀ j v, cs[j]? = some v → cellAt h (p.add j) = some v := by
  unfold cellsAt at hc
  split at hc
  · rename_i h0; subst h0
    simp only [Option.some.injEq] at hc; subst hc
    exact ⟨rfl, fun j v hj => by simp at hj⟩
  split at hc
  · rename_i c E fr hb
    split at hc
    · rename_i hx
      simp only [Bool.and_eq_true, decide_eq_true_eq, Option.isNone_iff_eq_none] at hx
      obtain ⟨hs, hl⟩ := hx
      simp only [Option.some.injEq] at hc
      subst hc
      refine ⟨by simp; omega, fun j v hj => ?_⟩
      have hlt : j < n := by
        have := (Array.getElem?_eq_some_iff.1 hj).1
        simp at this; omega
      have : c[p.off + j]? = some v := by
        rw [← hj, Array.getElem?_extract]
        rw [if_pos (by omega)]
      unfold cellAt
      rw [add_block, hb]
      simp [add_spot hs, add_off, this]
    · cases hc
  · cases hc
theorem run_lds {P : Program} {w : World} {h : H} (hw : Hol h w) {p : Addr} {n : Nat} {cs : Array Value} (hc : cellsAt h p n = some cs) : (loadCells p n).run P w = .ok cs w := by
  obtain ⟨h1, h2⟩ := cellsAt_spec hc
  have := run_loadCells_list (P := P) (w := w) p cs.toList (fun j v hj => cell_of hw (h2 j v (by simpa using hj)))
  simpa [h1] using this

/-! ### What loads list -/
theorem EvO_read {h : H} {p : Addr} {v : Value} (hc : cellAt h p = some v) {e : Event} (he : e.loc = .cell p) (hw : e.write = false) : EvO h e := by
  unfold cellAt at hc
  simp only [EvO, he]
  split at hc
  · rename_i c E fr hb
    exact .inl ⟨c, E, fr, hb, fun h => by rw [hw] at h; cases h⟩
  · rename_i o _ hb
    split at hc
    · rename_i i u n E ho
      split at hc
      · cases hc
      · rename_i hs
        split at hc
        · rename_i he
          exact .inr ⟨by simpa using hs, o, u, n, E, hb, by rw [he]; exact ho⟩
        · cases hc
    · cases hc
  · cases hc
theorem ev_ld {P : Program} {w : World} {h : H} (hw : Hol h w) {p : Addr} {v : Value} (hc : cellAt h p = some v) : ∀ e ∈ (load p).events P w #[], EvO h e := by
  intro e he
  rw [events_load, cell_of hw hc] at he
  simp only [List.push_toArray, List.nil_append, List.mem_toArray, List.mem_singleton] at he
  subst he
  exact EvO_read hc rfl rfl
theorem ev_ldsFrom {P : Program} {w : World} {h : H} (hw : Hol h w) {p : Addr} : ∀ (n i : Nat) (acc : Array Value) (es : Array Event), (∀ j, j < n → ∃ v, cellAt h (p.add (i + j)) = some v) →
    ∀ e ∈ (loadCellsFrom p i n acc).events P w es, e ∈ es ∨ EvO h e
  | 0, i, acc, es, _, e, he => .inl (by simpa [loadCellsFrom] using he)
  | n + 1, i, acc, es, hc, e, he => by
    obtain ⟨v, hv⟩ := hc 0 (by omega)
    have hcell := cell_of hw hv
    simp only [Nat.add_zero] at hv hcell
    simp only [loadCellsFrom, Sem.events_bind, run_load, hcell, events_load, Result.evThen_ok] at he
    rcases ev_ldsFrom hw n (i + 1) _ _ (fun j hj => by obtain ⟨v, hv⟩ := hc (j + 1) (by omega); exact ⟨v, by rwa [show i + 1 + j = i + (j + 1) by omega]⟩) e he with h1 | h1
    · rcases Array.mem_push.1 h1 with h1 | rfl
      · exact .inl h1
      · exact .inr (EvO_read hv rfl rfl)
    · exact .inr h1
theorem ev_lds' {P : Program} {w : World} {h : H} (hw : Hol h w) {p : Addr} {n : Nat} {cs : Array Value} (hc : cellsAt h p n = some cs) (es : Array Event) : ∀ e ∈ (loadCells p n).events P w es, e ∈ es ∨ EvO h e := by
  obtain ⟨h1, h2⟩ := cellsAt_spec hc
  exact ev_ldsFrom hw n 0 #[] es fun j hj => ⟨cs[j]'(by omega), by rw [Nat.zero_add]; exact h2 j _ (by simp [h1, hj])⟩
theorem ev_lds {P : Program} {w : World} {h : H} (hw : Hol h w) {p : Addr} {n : Nat} {cs : Array Value} (hc : cellsAt h p n = some cs) : ∀ e ∈ (loadCells p n).events P w #[], EvO h e :=
  fun e he => (ev_lds' hw hc #[] e he).resolve_left (by simp)

theorem foldl_splice (l : List Value) : ∀ (o k : Nat) (c : Array Value), (l.zipIdx k).foldl (fun cs x => cs.setIfInBounds (o + x.2) x.1) c = splice c (o + k) l := by
  induction l with
  | nil => intro o k c; rfl
  | cons v r ih =>
    intro o k c
    simp only [List.zipIdx_cons, List.foldl_cons, splice]
    rw [ih]
    congr 1
theorem size_splice (l : List Value) : ∀ (o : Nat) (c : Array Value), (splice c o l).size = c.size := by
  induction l with
  | nil => intro o c; rfl
  | cons v r ih => intro o c; simp [splice, ih]
theorem fill_sound {e : Env} {a : Act} (ha : agree e a) (f : Nat → Option (Nat × Nat)) : ∀ (ps : List (Nat × Operand)) (l : List (Nat × Nat × Operand)) (vs : List (Nat × Nat × Value)) (c c' : Array Value),
    partsOf f ps = some l → evp e l = some vs → fillV c vs = some c' → Instr.fill f c (ps.map fun x => (x.1, a.eval x.2)) = some c'
  | [], l, vs, c, c', h1, h2, h3 => by
    simp only [partsOf, Option.some.injEq] at h1; subst h1
    simp only [evp, Option.some.injEq] at h2; subst h2
    simpa [Instr.fill, fillV] using h3
  | (i, x) :: r, l, vs, c, c', h1, h2, h3 => by
    simp only [partsOf] at h1
    split at h1
    · rename_i o n l' hf hp
      simp only [Option.some.injEq] at h1; subst h1
      simp only [evp, Option.bind_eq_some_iff] at h2
      obtain ⟨v, hv, ws, hw, h2⟩ := h2
      simp only [Option.some.injEq] at h2; subst h2
      simp only [fillV] at h3
      split at h3
      · rename_i hs
        obtain ⟨hs1, hs2⟩ := hs
        have hev := ev_sound ha hv
        simp only [List.map_cons, Instr.fill, hf, hev]
        rw [if_neg (by simp [hs1]; omega)]
        have : v.cells.zipIdx.foldl (fun cs x => cs.setIfInBounds (o + x.2) x.1) c = splice c o v.cells.toList := by
          rw [← Array.foldl_toList, Array.toList_zipIdx]
          simpa using foldl_splice v.cells.toList o 0 c
        refine Eq.trans ?_ (fill_sound ha f r l' ws _ c' hp hw h3)
        rw [← this]
      · cases h3
    · cases h1


theorem bnd_sound {e : Env} {a : Act} (ha : agree e a) {x : Option Operand} {d : Nat} {n : Int} (h : bnd e x d = some n) :
    (x = none ∧ n = d) ∨ (∃ y k, x = some y ∧ a.eval y = .int k n) := by
  cases x with
  | none => simp only [bnd, Option.some.injEq] at h; exact .inl ⟨rfl, h.symm⟩
  | some y =>
    simp only [bnd, Option.bind_eq_some_iff] at h
    obtain ⟨v, hv, h⟩ := h
    split at h
    · rename_i k m
      simp only [Option.some.injEq] at h; subst h
      exact .inr ⟨y, k, rfl, ev_sound ha hv⟩
    · cases h
theorem run_bound (P : Program) (w : World) (k : IntKind) (i : Int) (y : Nat) (code : BoundsCode) (h0 : 0 ≤ i) (h1 : i ≤ y) : (Instr.sliceBound (.int k i) y code).run P w = .ok i.toNat w := by
  simp [Instr.sliceBound, asIntOf, h0, h1]
theorem run_bounds {P : Program} {w : World} {e : Env} {a : Act} (ha : agree e a) (isS : Bool) (len cap : Nat) (lo hi mx : Option Operand) (l h' m : Int)
    (hm : bnd e mx cap = some m) (hh : bnd e hi len = some h') (hl : bnd e lo 0 = some l) (h1 : 0 ≤ l) (h2 : l ≤ h') (h3 : h' ≤ m) (h4 : m ≤ cap) (h5 : mx.isSome = true → hi.isSome = true) (h6 : mx = none → m = cap) :
    (Instr.sliceBounds isS len cap (lo.map a.eval) (hi.map a.eval) (mx.map a.eval)).run P w = .ok (l.toNat, h'.toNat, m.toNat) w := by
  unfold Instr.sliceBounds
  rcases bnd_sound ha hm with ⟨e1, e2⟩ | ⟨y1, k1, e1, e2⟩ <;> rcases bnd_sound ha hh with ⟨e3, e4⟩ | ⟨y2, k2, e3, e4⟩ <;> rcases bnd_sound ha hl with ⟨e5, e6⟩ | ⟨y3, k3, e5, e6⟩ <;> subst e1 <;> subst e3 <;> subst e5 <;>
    simp only [Option.isSome_some, Option.isSome_none, forall_const, Bool.false_eq_true, false_imp_iff, reduceCtorEq] at h5 h6 <;> (try subst e2) <;> (try subst e4) <;> (try subst e6) <;>
    simp (disch := omega) [run_bound, *]
end Go.Proofs.Ytojhnclkhiffkaa

/-
  Operations that only read: what the lowered form yields is what the operation yields, nothing is touched, nothing is listed.
-/
namespace Go.Proofs.Ytojhnclkhiffkaa
set_option linter.unusedVariables false
variable {P : Program} {e : Env} {h : H} {a : Act} {w : World}

theorem bindo {α β : Type} {o : Option α} {f : α → Option β} {b : β} (h : o.bind f = some b) : ∃ x, o = some x ∧ f x = some b := Option.bind_eq_some_iff.1 h

theorem chk_spec {α : Type} {c : Prop} [Decidable c] {v x : α} (h : chk c v = some x) : c ∧ v = x := by
  unfold chk at h
  split at h
  · exact ⟨‹_›, Option.some.inj h⟩
  · cases h


/-- Which look-up the class of a '==' stands for. -/
theorem eqk_bool {t : TypeId} (h : eqkOf P t = .bool) : P.underlying t = some .bool := by
  unfold eqkOf at h; split at h <;> first | assumption | (cases h; done) | (split at h <;> first | (cases h; done) | (split at h <;> cases h))
theorem eqk_slice {t : TypeId} (h : eqkOf P t = .slice) : ∃ E, P.underlying t = some (.slice E) := by
  unfold eqkOf at h; split at h <;> first | exact ⟨_, by assumption⟩ | (cases h; done) | (split at h <;> first | (cases h; done) | (split at h <;> cases h))
theorem eqk_map {t : TypeId} (h : eqkOf P t = .map) : ∃ k E, P.underlying t = some (.map k E) := by
  unfold eqkOf at h; split at h <;> first | exact ⟨_, _, by assumption⟩ | (cases h; done) | (split at h <;> first | (cases h; done) | (split at h <;> cases h))
theorem eqk_func {t : TypeId} (h : eqkOf P t = .func) : ∃ x y z, P.underlying t = some (.func x y z) := by
  unfold eqkOf at h; split at h <;> first | exact ⟨_, _, _, by assumption⟩ | (cases h; done) | (split at h <;> first | (cases h; done) | (split at h <;> cases h))
theorem eqk_iface {t : TypeId} (h : eqkOf P t = .iface) : ∃ m, P.underlying t = some (.interface m) := by
  unfold eqkOf at h; split at h <;> first | exact ⟨_, by assumption⟩ | (cases h; done) | (split at h <;> first | (cases h; done) | (split at h <;> cases h))
theorem eqk_ptr {t : TypeId} (h : eqkOf P t = .ptr) : ∃ E i, P.underlying t = some (.pointer E) ∧ P.info? E = some i ∧ i.size ≠ 0 := by
  unfold eqkOf at h
  split at h <;> try (cases h; done)
  split at h <;> try (cases h; done)
  split at h <;> try (cases h; done)
  exact ⟨_, _, by assumption, by assumption, by assumption⟩

theorem run_eqV {t : TypeId} {x y : Value} {b : Bool} (d : Nat) (hb : eqV (eqkOf P t) x y = some b) : (Op.equalIn (d + 1) t x y).run P w = .ok b w := by
  generalize hk : eqkOf P t = k at hb
  unfold eqV at hb
  split at hb
  · have hr := run_underlying (eqk_bool hk) w
    simp only [Option.some.injEq] at hb; subst hb
    simp [Op.equalIn, hr]
  · obtain ⟨E, i, hu, hi, hs⟩ := eqk_ptr hk
    have hr := run_underlying hu w
    rename_i b'
    simp only [Option.some.injEq] at hb; subst hb
    cases b' <;> simp [Op.equalIn, hr]
  · obtain ⟨E, i, hu, hi, hs⟩ := eqk_ptr hk
    have hr := run_underlying hu w
    simp only [Option.some.injEq] at hb; subst hb
    simp [Op.equalIn, hr]
  · obtain ⟨E, i, hu, hi, hs⟩ := eqk_ptr hk
    have hr := run_underlying hu w
    obtain ⟨h1, h2⟩ := chk_spec hb
    simp [Op.equalIn, hr, run_size hi, hs, sameAddr, h1, ← h2]
    rw [Bool.eq_iff_iff]; simp
  · obtain ⟨E, hu⟩ := eqk_slice hk
    have hr := run_underlying hu w
    rename_i b' _ _
    simp only [Option.some.injEq] at hb; subst hb
    cases b' <;> simp [Op.equalIn, hr]
  · obtain ⟨E, hu⟩ := eqk_slice hk
    have hr := run_underlying hu w
    simp only [Option.some.injEq] at hb; subst hb
    simp [Op.equalIn, hr]
  · obtain ⟨k, E, hu⟩ := eqk_map hk
    have hr := run_underlying hu w
    rename_i b'
    simp only [Option.some.injEq] at hb; subst hb
    cases b' <;> simp [Op.equalIn, hr]
  · obtain ⟨k, E, hu⟩ := eqk_map hk
    have hr := run_underlying hu w
    simp only [Option.some.injEq] at hb; subst hb
    simp [Op.equalIn, hr]
  · obtain ⟨_, _, _, hu⟩ := eqk_func hk
    have hr := run_underlying hu w
    simp only [Option.some.injEq] at hb; subst hb
    simp [Op.equalIn, hr]
  · obtain ⟨_, _, _, hu⟩ := eqk_func hk
    have hr := run_underlying hu w
    simp only [Option.some.injEq] at hb; subst hb
    simp [Op.equalIn, hr]
  · obtain ⟨_, _, _, hu⟩ := eqk_func hk
    have hr := run_underlying hu w
    simp only [Option.some.injEq] at hb; subst hb
    simp [Op.equalIn, hr]
  · obtain ⟨_, hu⟩ := eqk_iface hk
    have hr := run_underlying hu w
    simp only [Option.some.injEq] at hb; subst hb
    simp [Op.equalIn, hr]
  · obtain ⟨_, hu⟩ := eqk_iface hk
    have hr := run_underlying hu w
    simp only [Option.some.injEq] at hb; subst hb
    simp [Op.equalIn, hr]
  · cases hb
theorem run_equalV {t : TypeId} {x y : Value} {b : Bool} (hb : eqV (eqkOf P t) x y = some b) : (Op.equal t x y).run P w = .ok b w :=
  run_eqV 9999 hb

theorem run_guardV {op : BinOp} {t : TypeId} {x y : Operand} {u v : Value} (h : ∀ c d, ¬ (u = .agg c ∧ v = .agg d)) (h' : ¬ (u = .nilIface ∧ v = .nilIface)) : (eqGuard op t x y u v).run P w = .ok () w := by
  cases op <;> first
    | rfl
    | (cases u <;> cases v <;> first
        | rfl
        | exact absurd ⟨rfl, rfl⟩ h'
        | exact absurd ⟨rfl, rfl⟩ (h _ _))
theorem run_binV {op : BinOp} {t : TypeId} {x y : Value} {v : Value} (hb : binV op (eqkOf P t) x y = some v) : (binOp op t x y).run P w = .ok v w := by
  unfold binV at hb
  split at hb
  · rename_i k m k' n
    split at hb
    · obtain ⟨h1, h2⟩ := chk_spec hb
      subst h2
      simp [binOp, Op.shift, show ¬ n < 0 by omega]
    · obtain ⟨h1, h2⟩ := chk_spec hb
      subst h2
      simp [binOp, Op.shift, show ¬ n < 0 by omega]
    · split at hb
      · rename_i h1 h2 hk
        subst hk
        cases op <;> simp only [intV, Option.some.injEq, reduceCtorEq] at hb <;> try (subst hb)
        all_goals (try (simp [binOp, Op.intArith, Op.intBits, Op.intCmp]; done))
        · obtain ⟨h3, h4⟩ := chk_spec hb
          subst h4
          simp [binOp, Op.intDiv, h3]
        · obtain ⟨h3, h4⟩ := chk_spec hb
          subst h4
          simp [binOp, Op.intDiv, h3]
        · simp [binOp, Op.intCmp]; rfl
        · simp [binOp, Op.intCmp]; rfl
      · cases hb
  · rename_i s u
    cases op <;> simp only [strV, Option.some.injEq, reduceCtorEq] at hb <;> try (subst hb)
    · obtain ⟨h3, h4⟩ := chk_spec hb
      subst h4
      simp [binOp, Op.stringOp, IntKind.max, IntKind.signed, IntKind.bits]
      omega
    all_goals
      have hd : (s.toList == u.toList) = decide (s.toList = u.toList) := by rw [Bool.eq_iff_iff]; simp
      simp [binOp, Op.stringOp, hd]
  · rename_i k m k' n
    split at hb
    · split at hb
      · rename_i hk
        subst hk
        simp only [Option.some.injEq] at hb; subst hb
        simp [binOp, Op.floatCmp]
      · cases hb
    · split at hb
      · rename_i hk
        subst hk
        simp only [Option.some.injEq] at hb; subst hb
        simp [binOp, Op.floatCmp]
      · cases hb
    · cases hb
  · rename_i hn1 hn2 hn3
    split at hb
    · cases hq : eqV (eqkOf P t) x y with
      | none => simp [hq] at hb
      | some b =>
        simp only [hq, Option.map_some, Option.some.injEq] at hb; subst hb
        have := run_equalV (w := w) hq
        unfold eqV at hq
        split at hq <;> try (cases hq; done)
        all_goals simp [binOp, this]
    · cases hq : eqV (eqkOf P t) x y with
      | none => simp [hq] at hb
      | some b =>
        simp only [hq, Option.map_some, Option.some.injEq] at hb; subst hb
        have := run_equalV (w := w) hq
        unfold eqV at hq
        split at hq <;> try (cases hq; done)
        all_goals simp [binOp, this]
    · cases hb
theorem binV_no {op : BinOp} {k : EqK} {u v x : Value} (hb : binV op k u v = some x) : (∀ c d, ¬ (u = .agg c ∧ v = .agg d)) ∧ ¬ (u = .nilIface ∧ v = .nilIface) := by
  refine ⟨?_, ?_⟩
  · rintro c d ⟨rfl, rfl⟩
    cases op <;> simp [binV, eqV] at hb
  · rintro ⟨rfl, rfl⟩
    cases op <;> simp [binV, eqV] at hb

theorem run_unV {op : UnOp} {x v : Value} (hb : unV op x = some v) : (Op.unary op x).run P w = .ok v w := by
  unfold unV at hb
  split at hb <;> try (cases hb; done)
  all_goals
    simp only [Option.some.injEq] at hb; subst hb
  · simp [Op.unary, Op.intArith]
  · simp [Op.unary, Op.intBits]
  · simp [Op.unary]

theorem run_slcV {size : Nat} {base : Option Addr} {len cap : Nat} {m3 : Bool} {lo hi mx : Int} {v : Value} (hv : slcV size base len cap m3 lo hi mx = some v) :
    0 ≤ lo ∧ lo ≤ hi ∧ hi ≤ mx ∧ mx ≤ cap ∧ (m3 = true ∨ mx = cap) ∧ v = .slice (if mx.toNat = lo.toNat then base else base.map (·.add (lo.toNat * size))) (hi.toNat - lo.toNat) (mx.toNat - lo.toNat) := by
  obtain ⟨⟨h1, h2, h3, h4, h5⟩, rfl⟩ := chk_spec hv
  refine ⟨h1, h2, h3, h4, h5, ?_⟩
  have : (mx = lo) = (mx.toNat = lo.toNat) := propext ⟨fun h => by rw [h], fun h => by omega⟩
  simp only [this]

theorem partV {P : Program} {w : World} {t : TypeId} {d : TypeDesc} (hu : P.underlying t = some d) (hd : (match d with | .struct _ | .array _ _ => true | _ => false) = false) {cs : Array Value} {o : Nat} {v : Value} (hc : cs[o]? = some v) :
    (part t cs o).run P w = .ok v w := by
  have hr := run_underlying hu w
  cases d <;> first | (simp at hd; done) | simp [part, isAgg, hr, hc]
theorem partA {P : Program} {w : World} {t : TypeId} {d : TypeDesc} {i : TypeInfo} (hu : P.underlying t = some d) (hi : P.info? t = some i) (hd : (match d with | .struct _ | .array _ _ => true | _ => false) = true) {cs : Array Value} {o : Nat} :
    (part t cs o).run P w = .ok (.agg (cs.extract o (o + i.size))) w := by
  have hr := run_underlying hu w
  cases d <;> first | (simp at hd; done) | simp [part, isAgg, hr, run_size hi]


theorem idx_run (P : Program) {w : World} {t E : TypeId} {i : TypeInfo} (hu : P.underlying t = some (.slice E)) (hi : P.info? E = some i) {p : Addr} {len cap : Nat} {k : IntKind} {j : Int} (h0 : 0 ≤ j) (h1 : j < len) :
    (Instr.indexAt t (.slice (some p) len cap) (.int k j)).run P w = .ok (.pointer (some (p.add (j.toNat * i.size)))) w := by
  simp [Instr.indexAt, asIntOf, run_underlying hu, run_size hi, h0, h1]
theorem idxp_run (P : Program) {w : World} {t E : TypeId} {n : Nat} {i : TypeInfo} (hu : P.underlying t = some (.array n E)) (hi : P.info? E = some i) {p : Addr} {k : IntKind} {j : Int} (h0 : 0 ≤ j) (h1 : j < n) :
    (Instr.indexAt t (.pointer (some p)) (.int k j)).run P w = .ok (.pointer (some (p.add (j.toNat * i.size)))) w := by
  simp [Instr.indexAt, asIntOf, run_underlying hu, run_size hi, h0, h1, Instr.sureAddr]


/-! ### .. and list nothing -/
section
variable {es : Array Event}
theorem ev_eqV {t : TypeId} {x y : Value} {b : Bool} (d : Nat) (hb : eqV (eqkOf P t) x y = some b) : (Op.equalIn (d + 1) t x y).events P w es = es := by
  generalize hk : eqkOf P t = k at hb
  unfold eqV at hb
  split at hb
  · have hr := run_underlying (eqk_bool hk) w
    simp [Op.equalIn, hr]
  · obtain ⟨E, i, hu, hi, hs⟩ := eqk_ptr hk
    have hr := run_underlying hu w
    rename_i b'
    cases b' <;> simp [Op.equalIn, hr]
  · obtain ⟨E, i, hu, hi, hs⟩ := eqk_ptr hk
    have hr := run_underlying hu w
    simp [Op.equalIn, hr]
  · obtain ⟨E, i, hu, hi, hs⟩ := eqk_ptr hk
    have hr := run_underlying hu w
    obtain ⟨h1, h2⟩ := chk_spec hb
    simp [Op.equalIn, hr, run_size hi, hs, sameAddr, h1]
  · obtain ⟨E, hu⟩ := eqk_slice hk
    have hr := run_underlying hu w
    rename_i b' _ _
    cases b' <;> simp [Op.equalIn, hr]
  · obtain ⟨E, hu⟩ := eqk_slice hk
    have hr := run_underlying hu w
    simp [Op.equalIn, hr]
  · obtain ⟨k, E, hu⟩ := eqk_map hk
    have hr := run_underlying hu w
    rename_i b'
    cases b' <;> simp [Op.equalIn, hr]
  · obtain ⟨k, E, hu⟩ := eqk_map hk
    have hr := run_underlying hu w
    simp [Op.equalIn, hr]
  · obtain ⟨_, _, _, hu⟩ := eqk_func hk
    have hr := run_underlying hu w
    simp [Op.equalIn, hr]
  · obtain ⟨_, _, _, hu⟩ := eqk_func hk
    have hr := run_underlying hu w
    simp [Op.equalIn, hr]
  · obtain ⟨_, _, _, hu⟩ := eqk_func hk
    have hr := run_underlying hu w
    simp [Op.equalIn, hr]
  · obtain ⟨_, hu⟩ := eqk_iface hk
    have hr := run_underlying hu w
    simp [Op.equalIn, hr]
  · obtain ⟨_, hu⟩ := eqk_iface hk
    have hr := run_underlying hu w
    simp [Op.equalIn, hr]
  · cases hb
theorem ev_equalV {t : TypeId} {x y : Value} {b : Bool} (hb : eqV (eqkOf P t) x y = some b) : (Op.equal t x y).events P w es = es := ev_eqV 9999 hb
theorem ev_guardV {op : BinOp} {t : TypeId} {x y : Operand} {u v : Value} (h : ∀ c d, ¬ (u = .agg c ∧ v = .agg d)) (h' : ¬ (u = .nilIface ∧ v = .nilIface)) : (eqGuard op t x y u v).events P w es = es := by
  cases op <;> first
    | rfl
    | (cases u <;> cases v <;> first
        | rfl
        | exact absurd ⟨rfl, rfl⟩ h'
        | exact absurd ⟨rfl, rfl⟩ (h _ _))
theorem ev_binV {op : BinOp} {t : TypeId} {x y : Value} {v : Value} (hb : binV op (eqkOf P t) x y = some v) : (binOp op t x y).events P w es = es := by
  unfold binV at hb
  split at hb
  · rename_i k m k' n
    split at hb
    · obtain ⟨h1, h2⟩ := chk_spec hb
      simp [binOp, Op.shift, show ¬ n < 0 by omega]
    · obtain ⟨h1, h2⟩ := chk_spec hb
      simp [binOp, Op.shift, show ¬ n < 0 by omega]
    · split at hb
      · rename_i h1 h2 hk
        subst hk
        cases op <;> simp only [intV, Option.some.injEq, reduceCtorEq] at hb
        all_goals (try (simp [binOp, Op.intArith, Op.intBits, Op.intCmp]; done))
        · obtain ⟨h3, h4⟩ := chk_spec hb
          simp [binOp, Op.intDiv, h3]
        · obtain ⟨h3, h4⟩ := chk_spec hb
          simp [binOp, Op.intDiv, h3]
      · cases hb
  · rename_i s u
    cases op <;> simp only [strV, Option.some.injEq, reduceCtorEq] at hb
    · obtain ⟨h3, h4⟩ := chk_spec hb
      have : ¬ (IntKind.i64.max < (s.size : Int) + (u.size : Int)) := by simp only [IntKind.max, IntKind.signed, IntKind.bits]; simp; omega
      simp [binOp, Op.stringOp, this]
    all_goals
      simp [binOp, Op.stringOp]
  · rename_i k m k' n
    split at hb
    · split at hb
      · rename_i hk
        subst hk
        simp [binOp, Op.floatCmp]
      · cases hb
    · split at hb
      · rename_i hk
        subst hk
        simp [binOp, Op.floatCmp]
      · cases hb
    · cases hb
  · rename_i hn1 hn2 hn3
    split at hb
    · cases hq : eqV (eqkOf P t) x y with
      | none => simp [hq] at hb
      | some b =>
        have h1 := run_equalV (w := w) hq
        have h2 := ev_equalV (w := w) (es := es) hq
        unfold eqV at hq
        split at hq <;> try (cases hq; done)
        all_goals simp [binOp, h1, h2]
    · cases hq : eqV (eqkOf P t) x y with
      | none => simp [hq] at hb
      | some b =>
        have h1 := run_equalV (w := w) hq
        have h2 := ev_equalV (w := w) (es := es) hq
        unfold eqV at hq
        split at hq <;> try (cases hq; done)
        all_goals simp [binOp, h1, h2]
    · cases hb
theorem ev_unV {op : UnOp} {x v : Value} (hb : unV op x = some v) : (Op.unary op x).events P w es = es := by
  unfold unV at hb
  split at hb <;> try (cases hb; done)
  · simp [Op.unary, Op.intArith]
  · simp [Op.unary, Op.intBits]
  · simp [Op.unary]
theorem ev_part {t : TypeId} {cs : Array Value} {o : Nat} : (part t cs o).events P w es = es := by
  simp only [part, Sem.events_bind, events_isAgg]
  cases (isAgg t).run P w with
  | halt _ _ => rfl
  | ok x w' =>
    simp only [Result.evThen_ok]
    split
    · simp only [Sem.events_bind, events_sizeOf]
      cases (sizeOf t).run P w' <;> simp
    · split <;> simp
theorem ev_idx {t E : TypeId} {i : TypeInfo} (hu : P.underlying t = some (.slice E)) (hi : P.info? E = some i) {p : Addr} {len cap : Nat} {k : IntKind} {j : Int} (h0 : 0 ≤ j) (h1 : j < len) :
    (Instr.indexAt t (.slice (some p) len cap) (.int k j)).events P w es = es := by
  simp [Instr.indexAt, asIntOf, run_underlying hu, run_size hi, h0, h1]
theorem ev_idxp {t E : TypeId} {n : Nat} {i : TypeInfo} (hu : P.underlying t = some (.array n E)) (hi : P.info? E = some i) {p : Addr} {k : IntKind} {j : Int} (h0 : 0 ≤ j) (h1 : j < n) :
    (Instr.indexAt t (.pointer (some p)) (.int k j)).events P w es = es := by
  simp [Instr.indexAt, asIntOf, run_underlying hu, run_size hi, h0, h1, Instr.sureAddr]
end

end Go.Proofs.Ytojhnclkhiffkaa

/-
  What an operation that only reads yields.
-/
namespace Go.Proofs.Ytojhnclkhiffkaa
set_option linter.unusedVariables false
variable {P : Program} {e : Env} {h : H} {a : Act} {w : World}

theorem qz {s : Sem Next} {v : Value} (h1 : s.run P w = .ok (.value v) w) (h2 : s.events P w #[] = #[]) : s.run P w = .ok (.value v) w ∧ ∀ e ∈ s.events P w #[], EvO h e := ⟨h1, fun e he => by rw [h2] at he; simp at he⟩
theorem ev_bound (P : Program) (w : World) (es : Array Event) (k : IntKind) (i : Int) (y : Nat) (code : BoundsCode) (h0 : 0 ≤ i) (h1 : i ≤ y) : (Instr.sliceBound (.int k i) y code).events P w es = es := by
  simp [Instr.sliceBound, asIntOf, h0, h1]
theorem ev_bounds {es : Array Event} (ha : agree e a) (isS : Bool) (len cap : Nat) (lo hi mx : Option Operand) (l h' m : Int)
    (hm : bnd e mx cap = some m) (hh : bnd e hi len = some h') (hl : bnd e lo 0 = some l) (h1 : 0 ≤ l) (h2 : l ≤ h') (h3 : h' ≤ m) (h4 : m ≤ cap) (h5 : mx.isSome = true → hi.isSome = true) (h6 : mx = none → m = cap) :
    (Instr.sliceBounds isS len cap (lo.map a.eval) (hi.map a.eval) (mx.map a.eval)).events P w es = es := by
  unfold Instr.sliceBounds
  rcases bnd_sound ha hm with ⟨e1, e2⟩ | ⟨y1, k1, e1, e2⟩ <;> rcases bnd_sound ha hh with ⟨e3, e4⟩ | ⟨y2, k2, e3, e4⟩ <;> rcases bnd_sound ha hl with ⟨e5, e6⟩ | ⟨y3, k3, e5, e6⟩ <;> subst e1 <;> subst e3 <;> subst e5 <;>
    simp only [Option.isSome_some, Option.isSome_none, forall_const, Bool.false_eq_true, false_imp_iff, reduceCtorEq] at h5 h6 <;> (try subst e2) <;> (try subst e4) <;> (try subst e6) <;>
    simp (disch := omega) [run_bound, ev_bound, *]
theorem run_mapM_places (P : Program) (w : World) (fs : List Field) (hf : ∀ f ∈ fs, (P.info? f.type).isSome = true) :
    (List.mapM (fun f : Field => Prod.mk f.offset <$> sizeOf f.type : Field → Sem (Nat × Nat)) fs).run P w = .ok (fs.map fun f => (f.offset, P.cellsOf f.type)) w := by
  induction fs with
  | nil => simp
  | cons f r ih =>
    have h1 := hf f (by simp)
    obtain ⟨i, hi⟩ := Option.isSome_iff_exists.1 h1
    have h2 := ih (fun g hg => hf g (by simp [hg]))
    have h3 : P.cellsOf f.type = i.size := by simp [Program.cellsOf, hi]
    simp [List.mapM_cons, run_size hi, h2, h3]
theorem ev_mapM_places (P : Program) (w : World) (es : Array Event) (fs : List Field) (hf : ∀ f ∈ fs, (P.info? f.type).isSome = true) :
    (List.mapM (fun f : Field => Prod.mk f.offset <$> sizeOf f.type : Field → Sem (Nat × Nat)) fs).events P w es = es := by
  induction fs generalizing es with
  | nil => simp
  | cons f r ih =>
    have h1 := hf f (by simp)
    obtain ⟨i, hi⟩ := Option.isSome_iff_exists.1 h1
    have h2 := fun es => ih es (fun g hg => hf g (by simp [hg]))
    have h4 := run_mapM_places P w r (fun g hg => hf g (by simp [hg]))
    simp [List.mapM_cons, run_size hi, h2, h4]
theorem q_mv {o : Oper} {x : Operand} (ho : o.op = .move x ∨ o.op = .assign x) (ha : agree e a) {v : Value} (hv : ev e x = some v) : (execOp a.eval o).run P w = .ok (.value v) w ∧ ∀ e ∈ (execOp a.eval o).events P w #[], EvO h e := by
  rcases ho with ho | ho <;> exact qz (by simp [execOp, ho, ev_sound ha hv]) (by simp [execOp, ho])

theorem q_sound (ha : agree e a) (hw : Hol h w) (o : Oper) (hq : isQ (lowOp P o) = true) {v : Value} (hv : qV (lowOp P o) e h = some v) : (execOp a.eval o).run P w = .ok (.value v) w ∧ ∀ e ∈ (execOp a.eval o).events P w #[], EvO h e := by
  obtain ⟨dst, op, type, pos, after, guard⟩ := o
  cases op with
  | move x => exact q_mv (.inl rfl) ha hv
  | assign x => exact q_mv (.inr rfl) ha hv
  | pick c x y =>
    obtain ⟨t, h1, h2⟩ := bindo hv
    split at h2
    · rename_i b
      have hc := ev_sound ha h1
      cases b
      · have := ev_sound ha h2; exact qz (by simp [execOp, asBool, hc, this]) (by simp [execOp, asBool, hc, this])
      · have := ev_sound ha h2; exact qz (by simp [execOp, asBool, hc, this]) (by simp [execOp, asBool, hc, this])
    · cases h2
  | nilCheck x =>
    obtain ⟨t, h1, h2⟩ := bindo hv
    have hx := ev_sound ha h1
    split at h2 <;> try (cases h2; done)
    all_goals
      simp only [Option.some.injEq] at h2; subst h2
      exact qz (by simp [execOp, hx]) (by simp [execOp, hx, ev_part])
  | binOp op t x y yt =>
    simp only [lowOp] at hq hv
    split at hq
    · simp [isQ] at hq
    rename_i hc
    rw [if_neg hc] at hv
    obtain ⟨u, h1, h2⟩ := bindo hv
    obtain ⟨u', h3, h4⟩ := bindo h2
    have hx := ev_sound ha h1
    have hy := ev_sound ha h3
    obtain ⟨hn1, hn2⟩ := binV_no h4
    exact qz (by simp [execOp, hx, hy, run_guardV hn1 hn2, run_binV h4]) (by simp [execOp, hx, hy, run_guardV hn1 hn2, run_binV h4, ev_part, ev_guardV hn1 hn2, ev_binV h4])
  | unOp op t x =>
    obtain ⟨u, h1, h2⟩ := bindo hv
    exact qz (by simp [execOp, ev_sound ha h1, run_unV h2]) (by simp [execOp, ev_sound ha h1, run_unV h2, ev_part, ev_unV h2])
  | extract x i =>
    obtain ⟨u, h1, h2⟩ := bindo hv
    split at h2
    · exact qz (by simp [execOp, ev_sound ha h1, Instr.extract, h2]) (by simp [execOp, ev_sound ha h1, Instr.extract, h2, ev_part])
    · cases h2
  | makeFunc fn f c =>
    obtain ⟨u, h1, h2⟩ := bindo hv
    obtain ⟨u', h3, h4⟩ := bindo h2
    simp only [Option.some.injEq] at h4; subst h4
    exact qz (by simp [execOp, Instr.makeFunc, evs_arr ha h1, evs_arr ha h3]) (by simp [execOp, Instr.makeFunc, evs_arr ha h1, evs_arr ha h3, ev_part])
  | load t x =>
    simp only [lowOp] at hq hv
    split at hq
    all_goals (try (simp [isQ] at hq; done))
    · rename_i i hu hi
      simp only [hu, hi, qV] at hv
      obtain ⟨u, h1, h2⟩ := bindo hv
      split at h2 <;> try (cases h2; done)
      simp only [Option.map_eq_some_iff] at h2
      obtain ⟨cs, h3, h4⟩ := h2
      subst h4
      refine ⟨by simp [execOp, ev_sound ha h1, Instr.loadAt, Instr.sureAddr, loadVar, isAgg, run_underlying hu, run_size hi, run_lds hw h3], fun e he => ev_lds (P := P) hw h3 e ?_⟩
      simpa [execOp, ev_sound ha h1, Instr.loadAt, Instr.sureAddr, loadVar, isAgg, run_underlying hu, run_size hi] using he
    · rename_i i hu hi
      simp only [hu, hi, qV] at hv
      obtain ⟨u, h1, h2⟩ := bindo hv
      split at h2 <;> try (cases h2; done)
      simp only [Option.map_eq_some_iff] at h2
      obtain ⟨cs, h3, h4⟩ := h2
      subst h4
      refine ⟨by simp [execOp, ev_sound ha h1, Instr.loadAt, Instr.sureAddr, loadVar, isAgg, run_underlying hu, run_size hi, run_lds hw h3], fun e he => ev_lds (P := P) hw h3 e ?_⟩
      simpa [execOp, ev_sound ha h1, Instr.loadAt, Instr.sureAddr, loadVar, isAgg, run_underlying hu, run_size hi] using he
    · rename_i d i hd1 hd2 hu hi
      have hv' : qV (.ld x) e h = some v := by
        revert hv; simp only [hu, hi]
        cases d <;> first | exact fun h => h | (exact absurd rfl (hd1 _)) | (exact absurd rfl (hd2 _ _))
      obtain ⟨u, h1, h2⟩ := bindo hv'
      split at h2 <;> try (cases h2; done)
      have hr := run_underlying hu w
      cases d <;> first
        | (exact absurd rfl (hd1 _))
        | (exact absurd rfl (hd2 _ _))
        | (refine ⟨by simp [execOp, ev_sound ha h1, Instr.loadAt, Instr.sureAddr, loadVar, isAgg, hr, cell_of hw h2], fun e he => ev_ld (P := P) hw h2 e ?_⟩
           simpa [execOp, ev_sound ha h1, Instr.loadAt, Instr.sureAddr, loadVar, isAgg, hr] using he)
  | makeInterface t x =>
    simp only [lowOp] at hq hv
    split at hq
    · simp [isQ] at hq
    · rename_i d hd hu
      have hv' : qV (.iface t x) e h = some v := by
        revert hv; simp only [hu]
        cases d <;> first | exact fun h => h | (exact absurd rfl (hd _))
      obtain ⟨u, h1, h2⟩ := bindo hv'
      simp only [Option.some.injEq] at h2; subst h2
      have hr := run_underlying hu w
      cases d <;> first
        | (exact absurd rfl (hd _))
        | exact qz (by simp [execOp, ev_sound ha h1, Instr.makeInterface, hr]) (by simp [execOp, ev_sound ha h1, Instr.makeInterface, hr, ev_part])
    · simp [isQ] at hq
  | convert s d x =>
    simp only [lowOp] at hq hv
    split at hq
    · rename_i k k' hs hd
      simp only [hs, hd, qV] at hv
      obtain ⟨u, h1, h2⟩ := bindo hv
      split at h2 <;> try (cases h2; done)
      simp only [Option.some.injEq] at h2; subst h2
      exact qz (by simp [execOp, ev_sound ha h1, convert, run_underlying hs, run_underlying hd, Conv.intToInt]) (by simp [execOp, ev_sound ha h1, convert, run_underlying hs, run_underlying hd, Conv.intToInt, ev_part])
    · rename_i hs hd
      simp only [hs, hd, qV] at hv
      obtain ⟨u, h1, h2⟩ := bindo hv
      split at h2 <;> try (cases h2; done)
      simp only [Option.some.injEq] at h2; subst h2
      exact qz (by simp [execOp, ev_sound ha h1, convert, run_underlying hs, run_underlying hd]) (by simp [execOp, ev_sound ha h1, convert, run_underlying hs, run_underlying hd, ev_part])
    · rename_i E hs hd
      split at hq <;> simp [isQ] at hq
    · rename_i E hs hd
      split at hq <;> simp [isQ] at hq
    · simp [isQ] at hq
  | fieldAddr s x f =>
    simp only [lowOp] at hq hv
    split at hq
    · rename_i fs hs
      split at hq
      · rename_i fd hf
        split at hq
        · rename_i i hi
          split at hq
          · simp [isQ] at hq
          · rename_i hz
            simp only [hs, hf, hi, hz, if_false, qV] at hv
            obtain ⟨u, h1, h2⟩ := bindo hv
            split at h2 <;> try (cases h2; done)
            simp only [Option.some.injEq] at h2; subst h2
            exact qz (by simp [execOp, ev_sound ha h1, Instr.fieldAt, run_underlying hs, hf, Instr.sureAddr, fieldPlace, run_size hi, hz]) (by simp [execOp, ev_sound ha h1, Instr.fieldAt, run_underlying hs, hf, Instr.sureAddr, fieldPlace, run_size hi, hz, ev_part])
        · simp [isQ] at hq
      · simp [isQ] at hq
    · simp [isQ] at hq
  | field s x f =>
    simp only [lowOp] at hq hv
    split at hq
    · rename_i fs hs
      split at hq
      · rename_i fd hf
        split at hq
        · rename_i i hu hi
          simp only [hs, hf, hu, hi, qV] at hv
          obtain ⟨u, h1, h2⟩ := bindo hv
          split at h2 <;> try (cases h2; done)
          simp only [Option.some.injEq] at h2; subst h2
          exact qz (by simp [execOp, ev_sound ha h1, Instr.field, run_underlying hs, hf, asAgg, partA hu hi]) (by simp [execOp, ev_sound ha h1, Instr.field, run_underlying hs, hf, asAgg, partA hu hi, ev_part])
        · rename_i i hu hi
          simp only [hs, hf, hu, hi, qV] at hv
          obtain ⟨u, h1, h2⟩ := bindo hv
          split at h2 <;> try (cases h2; done)
          simp only [Option.some.injEq] at h2; subst h2
          exact qz (by simp [execOp, ev_sound ha h1, Instr.field, run_underlying hs, hf, asAgg, partA hu hi]) (by simp [execOp, ev_sound ha h1, Instr.field, run_underlying hs, hf, asAgg, partA hu hi, ev_part])
        · rename_i d i hd1 hd2 hu hi
          have hv' : qV (.fld fd.offset x) e h = some v := by
            revert hv; simp only [hs, hf, hu, hi]
            cases d <;> first | exact fun h => h | (exact absurd rfl (hd1 _)) | (exact absurd rfl (hd2 _ _))
          obtain ⟨u, h1, h2⟩ := bindo hv'
          split at h2 <;> try (cases h2; done)
          have hp := partV (P := P) (w := w) (o := fd.offset) hu (by cases d <;> first | rfl | (exact absurd rfl (hd1 _)) | (exact absurd rfl (hd2 _ _))) h2
          exact qz (by simp [execOp, ev_sound ha h1, Instr.field, run_underlying hs, hf, asAgg, hp]) (by simp [execOp, ev_sound ha h1, Instr.field, run_underlying hs, hf, asAgg, hp, ev_part])
        · simp [isQ] at hq
      · simp [isQ] at hq
    · simp [isQ] at hq
  | indexAddr t x ix =>
    simp only [lowOp] at hq hv
    split at hq
    · rename_i E hu
      split at hq
      · rename_i i hi
        simp only [hu, hi, qV] at hv
        obtain ⟨u, h1, h2⟩ := bindo hv
        obtain ⟨u', h3, h4⟩ := bindo h2
        split at h4 <;> try (cases h4; done)
        obtain ⟨⟨h5, h6⟩, rfl⟩ := chk_spec h4
        exact qz (by simp [execOp, ev_sound ha h1, ev_sound ha h3, idx_run P hu hi h5 h6]) (by simp [execOp, ev_sound ha h1, ev_sound ha h3, idx_run P hu hi h5 h6, ev_part, ev_idx hu hi h5 h6])
      · simp [isQ] at hq
    · rename_i n E hu
      split at hq
      · rename_i i hi
        simp only [hu, hi, qV] at hv
        obtain ⟨u, h1, h2⟩ := bindo hv
        obtain ⟨u', h3, h4⟩ := bindo h2
        split at h4 <;> try (cases h4; done)
        obtain ⟨⟨h5, h6⟩, rfl⟩ := chk_spec h4
        exact qz (by simp [execOp, ev_sound ha h1, ev_sound ha h3, idxp_run P hu hi h5 h6]) (by simp [execOp, ev_sound ha h1, ev_sound ha h3, idxp_run P hu hi h5 h6, ev_part, ev_idxp hu hi h5 h6])
      · simp [isQ] at hq
    · simp [isQ] at hq
  | index t x ix =>
    simp only [lowOp] at hq hv
    split at hq
    · rename_i hu
      simp only [hu, qV] at hv
      obtain ⟨u, h1, h2⟩ := bindo hv
      obtain ⟨u', h3, h4⟩ := bindo h2
      split at h4 <;> try (cases h4; done)
      obtain ⟨_, h5, h6⟩ := bindo h4
      obtain ⟨h7, _⟩ := chk_spec h5
      simp only [Option.map_eq_some_iff] at h6
      obtain ⟨b, h8, h9⟩ := h6
      subst h9
      exact qz (by simp [execOp, ev_sound ha h1, ev_sound ha h3, Instr.index, asIntOf, run_underlying hu, h7, h8]) (by simp [execOp, ev_sound ha h1, ev_sound ha h3, Instr.index, asIntOf, run_underlying hu, h7, h8, ev_part])
    · rename_i n E hu
      split at hq
      · rename_i i hE hi
        simp only [hu, hE, hi, qV] at hv
        obtain ⟨u, h1, h2⟩ := bindo hv
        obtain ⟨u', h3, h4⟩ := bindo h2
        split at h4 <;> try (cases h4; done)
        obtain ⟨⟨h5, h6⟩, rfl⟩ := chk_spec h4
        exact qz (by simp [execOp, ev_sound ha h1, ev_sound ha h3, Instr.index, asIntOf, run_underlying hu, run_size hi, h5, h6, partA hE hi]) (by simp [execOp, ev_sound ha h1, ev_sound ha h3, Instr.index, asIntOf, run_underlying hu, run_size hi, h5, h6, partA hE hi, ev_part])
      · rename_i i hE hi
        simp only [hu, hE, hi, qV] at hv
        obtain ⟨u, h1, h2⟩ := bindo hv
        obtain ⟨u', h3, h4⟩ := bindo h2
        split at h4 <;> try (cases h4; done)
        obtain ⟨⟨h5, h6⟩, rfl⟩ := chk_spec h4
        exact qz (by simp [execOp, ev_sound ha h1, ev_sound ha h3, Instr.index, asIntOf, run_underlying hu, run_size hi, h5, h6, partA hE hi]) (by simp [execOp, ev_sound ha h1, ev_sound ha h3, Instr.index, asIntOf, run_underlying hu, run_size hi, h5, h6, partA hE hi, ev_part])
      · rename_i d i hd1 hd2 hE hi
        split at hq
        · rename_i hsz
          have hv' : qV (.idxv n x ix) e h = some v := by
            revert hv; simp only [hu, hE, hi]
            cases d <;> first | (simp only [hsz, if_true]; exact fun h => h) | (exact absurd rfl (hd1 _)) | (exact absurd rfl (hd2 _ _))
          obtain ⟨u, h1, h2⟩ := bindo hv'
          obtain ⟨u', h3, h4⟩ := bindo h2
          split at h4 <;> try (cases h4; done)
          obtain ⟨_, h5, h6⟩ := bindo h4
          obtain ⟨⟨h7, h8⟩, _⟩ := chk_spec h5
          have hp := partV (P := P) (w := w) hE (by cases d <;> first | rfl | (exact absurd rfl (hd1 _)) | (exact absurd rfl (hd2 _ _))) h6
          exact qz (by simp [execOp, ev_sound ha h1, ev_sound ha h3, Instr.index, asIntOf, run_underlying hu, run_size hi, h7, h8, hsz, hp]) (by simp [execOp, ev_sound ha h1, ev_sound ha h3, Instr.index, asIntOf, run_underlying hu, run_size hi, h7, h8, hsz, hp, ev_part])
        · simp [isQ] at hq
      · simp [isQ] at hq
    · simp [isQ] at hq
  | slice t x lo hi mx =>
    simp only [lowOp] at hq hv
    split at hq
    · rename_i hu
      split at hq
      · simp only [hu, qV] at hv
        obtain ⟨u, h1, h2⟩ := bindo hv
        split at h2 <;> try (cases h2; done)
        rename_i s
        obtain ⟨hh, h3, h4⟩ := bindo h2
        obtain ⟨ll, h5, h6⟩ := bindo h4
        obtain ⟨⟨h7, h8, h9⟩, rfl⟩ := chk_spec h6
        have := run_bounds (P := P) (w := w) ha false s.size s.size lo hi none ll hh s.size (by simp [bnd]) h3 h5 h7 h8 h9 (Int.le_refl _) (by simp) (by simp)
        have evb := fun es => ev_bounds (P := P) (w := w) (es := es) ha false s.size s.size lo hi none ll hh s.size (by simp [bnd]) h3 h5 h7 h8 h9 (Int.le_refl _) (by simp) (by simp)
        simp only [Option.map_none, Int.toNat_natCast] at this evb
        exact qz (by simp [execOp, ev_sound ha h1, Instr.sliceAt, Instr.slice, run_underlying hu, this]) (by simp [execOp, ev_sound ha h1, Instr.sliceAt, Instr.slice, run_underlying hu, this, ev_part, evb])
      · simp [isQ] at hq
    · rename_i E hu
      split at hq
      · rename_i i hi'
        split at hq
        · simp [isQ] at hq
        · rename_i hmx
          simp only [hu, hi', hmx, if_false, qV] at hv
          obtain ⟨u, h1, h2⟩ := bindo hv
          split at h2 <;> try (cases h2; done)
          rename_i base len cap
          obtain ⟨m, h3, h2⟩ := bindo h2
          obtain ⟨hh, h4, h2⟩ := bindo h2
          obtain ⟨ll, h5, h2⟩ := bindo h2
          obtain ⟨a1, a2, a3, a4, a5, rfl⟩ := run_slcV h2
          have := run_bounds (P := P) (w := w) ha true len cap lo hi mx ll hh m h3 h4 h5 a1 a2 a3 a4 (by intro hm; cases hi <;> simp_all) (by rintro rfl; simpa [bnd] using h3.symm)
          have evb := fun es => ev_bounds (P := P) (w := w) (es := es) ha true len cap lo hi mx ll hh m h3 h4 h5 a1 a2 a3 a4 (by intro hm; cases hi <;> simp_all) (by rintro rfl; simpa [bnd] using h3.symm)
          exact qz (by simp [execOp, ev_sound ha h1, Instr.sliceAt, Instr.slice, run_underlying hu, this, run_size hi']) (by simp [execOp, ev_sound ha h1, Instr.sliceAt, Instr.slice, run_underlying hu, this, run_size hi', ev_part, evb])
      · simp [isQ] at hq
    · rename_i n E hu
      split at hq
      · rename_i i hi'
        split at hq
        · simp [isQ] at hq
        · rename_i hmx
          simp only [hu, hi', hmx, if_false, qV] at hv
          obtain ⟨u, h1, h2⟩ := bindo hv
          split at h2 <;> try (cases h2; done)
          obtain ⟨m, h3, h2⟩ := bindo h2
          obtain ⟨hh, h4, h2⟩ := bindo h2
          obtain ⟨ll, h5, h2⟩ := bindo h2
          obtain ⟨a1, a2, a3, a4, a5, rfl⟩ := run_slcV h2
          have := run_bounds (P := P) (w := w) ha false n n lo hi mx ll hh m h3 h4 h5 a1 a2 a3 a4 (by intro hm; cases hi <;> simp_all) (by rintro rfl; simpa [bnd] using h3.symm)
          have evb := fun es => ev_bounds (P := P) (w := w) (es := es) ha false n n lo hi mx ll hh m h3 h4 h5 a1 a2 a3 a4 (by intro hm; cases hi <;> simp_all) (by rintro rfl; simpa [bnd] using h3.symm)
          exact qz (by simp [execOp, ev_sound ha h1, Instr.sliceAt, Instr.sureAddr, run_underlying hu, this, run_size hi']; split <;> rfl) (by simp [execOp, ev_sound ha h1, Instr.sliceAt, Instr.sureAddr, run_underlying hu, this, run_size hi', evb]; try (split <;> simp))
      · simp [isQ] at hq
    · simp [isQ] at hq
  | build t ps =>
    simp only [lowOp] at hq hv
    split at hq
    · rename_i i fs hi hu
      split at hq
      · rename_i z l hz hall hp
        simp only [hi, hu, hz, hall, hp, qV] at hv
        obtain ⟨vs, h1, h2⟩ := bindo hv
        simp only [Option.map_eq_some_iff] at h2
        obtain ⟨c, h3, h4⟩ := h2
        subst h4
        have hf := fill_sound ha _ ps.toList l vs z.cells c hp h1 h3
        have hm := run_mapM_places P w fs.toList (fun f hf' => Array.all_eq_true_iff_forall_mem.1 hall f (by simpa using hf'))
        have evm := fun es => ev_mapM_places P w es fs.toList (fun f hf' => Array.all_eq_true_iff_forall_mem.1 hall f (by simpa using hf'))
        exact qz (by simp [execOp, Instr.build, run_zero hi hz, run_underlying hu, Array.mapM_eq_mapM_toList, hm, hf]) (by simp [execOp, Instr.build, run_zero hi hz, run_underlying hu, Array.mapM_eq_mapM_toList, hm, hf, ev_part, evm])
      · simp [isQ] at hq
    · rename_i i n E hi hu
      split at hq
      · rename_i z iE l hz hiE hp
        simp only [hi, hu, hz, hiE, hp, qV] at hv
        obtain ⟨vs, h1, h2⟩ := bindo hv
        simp only [Option.map_eq_some_iff] at h2
        obtain ⟨c, h3, h4⟩ := h2
        subst h4
        have hf := fill_sound ha _ ps.toList l vs z.cells c hp h1 h3
        have hc : P.cellsOf E = iE.size := by simp [Program.cellsOf, hiE]
        rw [hc] at hf
        exact qz (by simp [execOp, Instr.build, run_zero hi hz, run_underlying hu, run_size hiE, hf]) (by simp [execOp, Instr.build, run_zero hi hz, run_underlying hu, run_size hiE, hf, ev_part])
      · simp [isQ] at hq
    · simp [isQ] at hq
  | call c =>
    obtain ⟨cal, args, ts⟩ := c
    cases cal with
    | builtin b =>
      simp only [lowOp, lowBuiltin] at hq hv
      split at hq
      · rename_i x t hax htx
        obtain ⟨args⟩ := args; obtain ⟨ts⟩ := ts
        simp only at hax htx; subst hax; subst htx
        split at hq
        · rename_i hu
          simp only [hu, qV] at hv
          obtain ⟨u, h1, h2⟩ := bindo hv
          split at h2 <;> try (cases h2; done)
          simp only [Option.some.injEq] at h2; subst h2
          exact qz (by simp [execOp, resolve, invoke, builtin, ev_sound ha h1, Builtin.len_, run_underlying hu, goInt]) (by simp [execOp, resolve, invoke, builtin, ev_sound ha h1, Builtin.len_, run_underlying hu, goInt, ev_part])
        · rename_i E hu
          simp only [hu, qV] at hv
          obtain ⟨u, h1, h2⟩ := bindo hv
          split at h2 <;> try (cases h2; done)
          simp only [Option.some.injEq] at h2; subst h2
          exact qz (by simp [execOp, resolve, invoke, builtin, ev_sound ha h1, Builtin.len_, run_underlying hu, goInt]) (by simp [execOp, resolve, invoke, builtin, ev_sound ha h1, Builtin.len_, run_underlying hu, goInt, ev_part])
        · rename_i n E hu
          simp only [hu, qV, Option.some.injEq] at hv; subst hv
          exact qz (by simp [execOp, resolve, invoke, builtin, Builtin.len_, run_underlying hu, goInt]) (by simp [execOp, resolve, invoke, builtin, Builtin.len_, run_underlying hu, goInt, ev_part])
        · rename_i E hu
          split at hq
          · rename_i n E' hu'
            simp only [hu, hu', qV, Option.some.injEq] at hv; subst hv
            exact qz (by simp [execOp, resolve, invoke, builtin, Builtin.len_, run_underlying hu, run_underlying hu', goInt]) (by simp [execOp, resolve, invoke, builtin, Builtin.len_, run_underlying hu, run_underlying hu', goInt, ev_part])
          · simp [isQ] at hq
        · simp [isQ] at hq
      · rename_i x t hax htx
        obtain ⟨args⟩ := args; obtain ⟨ts⟩ := ts
        simp only at hax htx; subst hax; subst htx
        split at hq
        · rename_i E hu
          simp only [hu, qV] at hv
          obtain ⟨u, h1, h2⟩ := bindo hv
          split at h2 <;> try (cases h2; done)
          simp only [Option.some.injEq] at h2; subst h2
          exact qz (by simp [execOp, resolve, invoke, builtin, ev_sound ha h1, Builtin.cap_, run_underlying hu, goInt]) (by simp [execOp, resolve, invoke, builtin, ev_sound ha h1, Builtin.cap_, run_underlying hu, goInt, ev_part])
        · simp [isQ] at hq
      · split at hq <;> (try split at hq) <;> (try split at hq) <;> simp [isQ] at hq
      · split at hq <;> (try split at hq) <;> simp [isQ] at hq
      · rename_i x y hax
        obtain ⟨args⟩ := args
        simp only at hax; subst hax
        simp only [qV] at hv
        obtain ⟨u, h1, h2⟩ := bindo hv
        obtain ⟨u', h3, h4⟩ := bindo h2
        split at h4 <;> try (cases h4; done)
        simp only [Option.some.injEq] at h4; subst h4
        exact qz (by simp [execOp, resolve, invoke, builtin, ev_sound ha h1, ev_sound ha h3, Builtin.min_, Builtin.min2]) (by simp [execOp, resolve, invoke, builtin, ev_sound ha h1, ev_sound ha h3, Builtin.min_, Builtin.min2, ev_part])
      · rename_i x y hax
        obtain ⟨args⟩ := args
        simp only at hax; subst hax
        simp only [qV] at hv
        obtain ⟨u, h1, h2⟩ := bindo hv
        obtain ⟨u', h3, h4⟩ := bindo h2
        split at h4 <;> try (cases h4; done)
        simp only [Option.some.injEq] at h4; subst h4
        exact qz (by simp [execOp, resolve, invoke, builtin, ev_sound ha h1, ev_sound ha h3, Builtin.max_, Builtin.max2]) (by simp [execOp, resolve, invoke, builtin, ev_sound ha h1, ev_sound ha h3, Builtin.max_, Builtin.max2, ev_part])
      · simp [isQ] at hq
    | invoke r m => simp [lowOp, isQ] at hq
    | value f =>
      cases f with
      | func f => simp only [lowOp, lowFunc] at hq; split at hq <;> simp [isQ] at hq
      | tmp t => simp [lowOp, isQ] at hq
      | _ => simp [lowOp, isQ] at hq
  | _ => 
    simp only [lowOp] at hq
    revert hq
    repeat' split
    all_goals (intro hq; simp [isQ] at hq)
end Go.Proofs.Ytojhnclkhiffkaa

