/-
  A logic over heaps for lowered code, for a goroutine that is not alone: the definitions. A heap is what this goroutine holds: its own blocks, blocks that nobody writes (their frozen range is the mark 'roF'), single cells of shared blocks, and notes.
-/
import Derived.Calls
import Derived.Tactics
import Derived.Orders
import Derived.Still
import Derived.Laws.Cells
import Derived.Laws.Append
import Derived.Laws.Slices
import Derived.Laws.Rows
import Derived.Laws.CopyRow
import Derived.Laws.Pointers
import Derived.Laws.MakeOwn
import Derived.RangeFuncLeaves
import Derived.RangeFuncSeq
import Derived.RangeFuncCalls
import Derived.OrdersIn
import Derived.TacticsIn
import Derived.Conc.CompanyDraw
import Derived.Conc.Neutral
namespace Go.Proofs.Ytojhnclkhiffkaa
open Go.Conc (G)
set_option linter.unusedVariables false

/-! ### Heaps -/
abbrev H := Nat → Option Obj
def hdel (h : H) (b : Nat) : H := fun x => if x = b then none else h x
def hupd (h : H) (b : Nat) (o : Obj) : H := fun x => if x = b then some o else h x
/-- A single cell of a block that others have too: cell i, of n, its value v. -/
def oneO (i : Nat) (v : Value) (n : Nat) (E : TypeId) : Obj := .deferred (some [⟨.collected i, #[v]⟩, ⟨.collected n, #[]⟩, ⟨.collected E, #[]⟩])
def oneOf : Obj → Option (Nat × Value × Nat × TypeId)
  | .deferred (some [⟨.collected i, ⟨[v]⟩⟩, ⟨.collected n, ⟨[]⟩⟩, ⟨.collected E, ⟨[]⟩⟩]) => some (i, v, n, E)
  | _ => none
theorem oneOf_oneO (i : Nat) (v : Value) (n : Nat) (E : TypeId) : oneOf (oneO i v n E) = some (i, v, n, E) := rfl
theorem oneOf_cells (c : Array Value) (E : TypeId) (fr : Nat × Nat) : oneOf (.cells c E fr) = none := rfl
theorem oneOf_spec {o : Obj} {i : Nat} {v : Value} {n : Nat} {E : TypeId} (h : oneOf o = some (i, v, n, E)) : o = oneO i v n E := by
  unfold oneOf at h
  split at h
  · simp only [Option.some.injEq, Prod.mk.injEq] at h
    obtain ⟨rfl, rfl, rfl, rfl⟩ := h
    rfl
  · cases h
/-- A note on a shared block of n cells: of what sort, a number, a list. Sort 0: the cells from a on are mine, and are L's. From sort 2 on: the block is a group's. -/
def noteO (E : TypeId) (n t a : Nat) (L : Array Value) : Obj := .deferred (some [⟨.collected E, #[]⟩, ⟨.collected n, #[]⟩, ⟨.collected t, L⟩, ⟨.collected a, #[]⟩])
def noteOf : Obj → Option (TypeId × Nat × Nat × Nat × Array Value)
  | .deferred (some [⟨.collected E, ⟨[]⟩⟩, ⟨.collected n, ⟨[]⟩⟩, ⟨.collected t, L⟩, ⟨.collected a, ⟨[]⟩⟩]) => some (E, n, t, a, L)
  | _ => none
theorem noteOf_noteO (E : TypeId) (n t a : Nat) (L : Array Value) : noteOf (noteO E n t a L) = some (E, n, t, a, L) := rfl
theorem oneOf_noteO (E : TypeId) (n t a : Nat) (L : Array Value) : oneOf (noteO E n t a L) = none := rfl
theorem noteOf_cells (c : Array Value) (E : TypeId) (fr : Nat × Nat) : noteOf (.cells c E fr) = none := rfl
theorem noteOf_spec {o : Obj} {E : TypeId} {n t a : Nat} {L : Array Value} (h : noteOf o = some (E, n, t, a, L)) : o = noteO E n t a L := by
  unfold noteOf at h
  split at h
  · simp only [Option.some.injEq, Prod.mk.injEq] at h
    obtain ⟨rfl, rfl, rfl, rfl, rfl⟩ := h
    rfl
  · cases h
/-- The marks of blocks that nobody writes: any; one that lies open. -/
def roF (c : Array Value) : Nat × Nat := (0, c.size + 1)
def roO (c : Array Value) : Nat × Nat := (0, c.size + 2)
def isRo (c : Array Value) (fr : Nat × Nat) : Prop := fr = roF c ∨ fr = roO c
instance (c : Array Value) (fr : Nat × Nat) : Decidable (isRo c fr) := inferInstanceAs (Decidable (_ ∨ _))
/-- What the world's blocks of cells are to one who only reads them. -/
def hp (w : World) : H := fun b => match w.heap[b]? with
  | some (.cells c E _) => some (.cells c E (roF c))
  | _ => none
theorem hp_cells {w : World} {b : Nat} {c : Array Value} {E : TypeId} {fr : Nat × Nat} (hb : w.heap[b]? = some (.cells c E fr)) : hp w b = some (.cells c E (roF c)) := by
  unfold hp; rw [hb]
theorem hp_some {w : World} {b : Nat} {o : Obj} (h : hp w b = some o) : ∃ c E fr, w.heap[b]? = some (.cells c E fr) ∧ o = .cells c E (roF c) := by
  unfold hp at h
  split at h
  · rename_i c E fr hb; cases h; exact ⟨c, E, fr, hb, rfl⟩
  · cases h
theorem isRo_roF (c : Array Value) : isRo c (roF c) := .inl rfl
theorem isRo_roO (c : Array Value) : isRo c (roO c) := .inr rfl
theorem not_isRo0 (c : Array Value) : ¬ isRo c (0, 0) := by simp [isRo, roF, roO]
def cellAt (h : H) (a : Addr) : Option Value :=
  match h a.block with
  | some (.cells c _ _) => if a.spot.isSome then none else c[a.off]?
  | some o => match oneOf o with
    | some (i, v, _, _) => if a.spot.isSome then none else if a.off = i then some v else none
    | none => none
  | none => none
def cellsAt (h : H) (a : Addr) (n : Nat) : Option (Array Value) :=
  if n = 0 then some #[] else
  match h a.block with
  | some (.cells c _ _) => if a.spot.isNone && decide (a.off + n ≤ c.size) then some (c.extract a.off (a.off + n)) else none
  | _ => none
def isCell : Value → Bool
  | .agg _ | .tuple _ => false
  | _ => true
def splice (c : Array Value) (o : Nat) : List Value → Array Value
  | [] => c
  | v :: r => splice (c.setIfInBounds o v) (o + 1) r
def storeH (h : H) (a : Addr) (vs : List Value) (K : H → Prop) : Prop :=
  if vs = [] then K h else
  match h a.block with
  | some (.cells c E fr) => (fr.2 ≤ a.off ∨ a.off + vs.length ≤ fr.1) ∧ a.spot = none ∧ a.off + vs.length ≤ c.size ∧ (vs.all isCell = true) ∧ K (hupd h a.block (.cells (splice c a.off vs) E fr))
  | some o => match oneOf o with
    | some (i, _, n, E) => a.off = i ∧ a.spot = none ∧ i < n ∧ vs.length = 1 ∧ (vs.all isCell = true) ∧ K (hupd h a.block (oneO i (vs.headD undef) n E))
    | none => False
  | none => False

/-! ### What a goroutine holds of a world -/
def HolO (o : Obj) (x : Option Obj) : Prop :=
  match oneOf o with
  | some (i, v, n, E) => ∃ c, x = some (.cells c E (0, 0)) ∧ c.size = n ∧ c[i]? = some v
  | none => match noteOf o with
    | some (E, n, t, a, L) => ∃ c, x = some (.cells c E (0, 0)) ∧ c.size = n ∧ (t = 0 → ∀ i, a ≤ i → c[i]? = L[i]?) ∧ (2 ≤ t → ∃ st sm, c = #[.int .u64 st, .int .u32 sm])
    | none => match o with
      | .cells c E fr => if isRo c fr then ∃ fr', x = some (.cells c E fr') ∧ (fr = roO c → fr' = (0, 0)) else x = some (.cells c E fr)
      | .deferred _ => ∃ o, x = some o
      | o => x = some o
def Hol (h : H) (w : World) : Prop := ∀ b o, h b = some o → HolO o w.heap[b]?

theorem HolO_some {o : Obj} {x : Option Obj} (h : HolO o x) : ∃ y, x = some y := by
  unfold HolO at h
  split at h
  · obtain ⟨c, h, _⟩ := h; exact ⟨_, h⟩
  · split at h
    · obtain ⟨c, h, _⟩ := h; exact ⟨_, h⟩
    · split at h
      · split at h
        · obtain ⟨_, h, _⟩ := h; exact ⟨_, h⟩
        · exact ⟨_, h⟩
      · exact h
      · exact ⟨_, h⟩
theorem Hol.lt {h : H} {w : World} (hh : Hol h w) {b : Nat} {o : Obj} (hb : h b = some o) : b < w.heap.size := by
  obtain ⟨y, hy⟩ := HolO_some (hh _ _ hb)
  exact (Array.getElem?_eq_some_iff.1 hy).1

/-- How one's own step may turn an object. -/
def chO (o o' : Obj) : Prop :=
  match oneOf o with
  | some (i, _, n, E) => ∃ v, o' = oneO i v n E
  | none => match o with
    | .cells c E fr => if isRo c fr then o' = o else ∃ c', o' = .cells c' E fr ∧ c'.size = c.size
    | .map _ _ => ∃ e c, o' = .map e c
    | .mapIter m s _ _ => ∃ seen st, o' = .mapIter m s seen st
    | _ => o' = o
/-- What stays in the world where the heap held has this. -/
def kpO (o : Option Obj) (x x' : Option Obj) : Prop :=
  match o with
  | none => x' = x
  | some o => match oneOf o with
    | some (i, _, _, _) => ∃ c E f v, x = some (.cells c E f) ∧ x' = some (.cells (c.setIfInBounds i v) E f)
    | none => match o with
      | .cells c _ fr => isRo c fr → x' = x
      | .deferred _ => x' = x
      | _ => True
/-- An access that is within what is held. -/
def EvO (h : H) (e : Event) : Prop :=
  match e.loc with
  | .cell a => (∃ c E fr, h a.block = some (.cells c E fr) ∧ (e.write = true → ¬ isRo c fr)) ∨ (a.spot = none ∧ ∃ o v n E, h a.block = some o ∧ oneOf o = some (a.off, v, n, E))
  | .obj r => ∃ o, h r = some o ∧ (match o with | .map .. | .mapIter .. => True | _ => False)
  | .mark m => Go.Conc.Neutral m ∨ ∃ f, m = .extern f
  | _ => False

/-- Neither a single cell nor a note. -/
def plainO (o : Obj) : Prop := oneOf o = none ∧ noteOf o = none
/-- An own step: of the world, of what is held, of what it lists. -/
structure Fra (h : H) (w : World) (h' : H) (w' : World) (es : Array Event) : Prop where
  hol : Hol h' w'
  os : w'.os = w.os
  tape : w'.tape = w.tape
  output : w'.output = w.output
  size : w.heap.size ≤ w'.heap.size
  old : ∀ b o', h' b = some o' → b < w.heap.size → ∃ o, h b = some o ∧ chO o o'
  keep : ∀ b, b < w.heap.size → kpO (h b) w.heap[b]? w'.heap[b]?
  ev : ∀ e ∈ es, EvO h' e
  nw : ∀ b o', h' b = some o' → w.heap.size ≤ b → plainO o'
  nk : ∀ b o, h b = some o → noteOf o ≠ none → h' b = some o

theorem chO.refl (o : Obj) : chO o o := by
  unfold chO
  split
  · rename_i i v n E h
    exact ⟨v, oneOf_spec h⟩
  · split
    · split
      · rfl
      · exact ⟨_, rfl, rfl⟩
    · exact ⟨_, _, rfl⟩
    · exact ⟨_, _, rfl⟩
    · rfl
theorem set_same (c : Array Value) {i : Nat} {v : Value} (h : c[i]? = some v) : c.setIfInBounds i v = c := by
  obtain ⟨hlt, rfl⟩ := Array.getElem?_eq_some_iff.1 h
  apply Array.ext_getElem?
  intro j
  by_cases hj : i = j
  · subst hj; simp [hlt]
  · rw [Array.getElem?_setIfInBounds_ne hj]
/-- Nothing is turned. -/
theorem Fra.still {h : H} {w w' : World} {es : Array Event} (hh : Hol h w) (h1 : w'.heap = w.heap) (h2 : w'.os = w.os) (h3 : w'.tape = w.tape) (h4 : w'.output = w.output) (he : ∀ e ∈ es, EvO h e) : Fra h w h w' es := by
  refine ⟨fun b o hb => by rw [h1]; exact hh b o hb, h2, h3, h4, by rw [h1]; exact Nat.le_refl _, fun b o hb _ => ⟨o, hb, chO.refl o⟩, fun b _ => ?_, he, fun b o hb hl => absurd (hh.lt hb) (by omega), fun b o hb _ => hb⟩
  rw [h1]
  cases hb : h b with
  | none => rfl
  | some o =>
    simp only [kpO]
    split
    · rename_i i v n E ho
      have := hh b o hb
      simp only [HolO, ho] at this
      obtain ⟨c, hc, _, hi⟩ := this
      exact ⟨c, E, (0, 0), v, hc, by rw [set_same c hi, hc]⟩
    · split <;> first | exact fun _ => rfl | exact fun _ => trivial | rfl | trivial
theorem Fra.refl {h : H} {w : World} (hh : Hol h w) : Fra h w h w #[] := Fra.still hh rfl rfl rfl rfl (by simp)
theorem Fra.sub {h h' : H} {w w' : World} {es es' : Array Event} (f : Fra h w h' w' es) (hs : ∀ e ∈ es', e ∈ es) : Fra h w h' w' es' := { f with ev := fun e he => f.ev e (hs e he) }

/-- Who walks: a judgement of a goroutine and what it holds, closed under own steps. -/
structure Cx (Pg : Program) where
  main : Bool
  J : Goroutine → H → Prop
  ord : ∀ g h, g.status = .running → (∀ w, Hol h w → (stepG Pg main g w).goes fun g' w' es => ∃ h', Fra h w h' w' es ∧ J g' h') → J g h
abbrev Cx.prog {Pg : Program} (_ : Cx Pg) : Program := Pg

/-- 's', the operation at hand, does this: whatever stands around it. -/
def Does {Pg : Program} (P : Cx Pg) (s : Sem Next) (h : H) (V : Value → H → Prop) : Prop :=
  ∀ (b : Frame) (a : Act) (k : List Item) (cs : List Frame) (ops : Array Oper) (i : Nat) (rest : List Nat) (o : Oper), ops[i]? = some o → Region.wanted o (yielded ops a.tmps) = true → b.kind ≠ .early →
    (∀ w, (execOp a.eval o).runT Pg w #[] = s.runT Pg w #[]) →
    (∀ v h', V v h' → P.J (G (b.at (a.put o.dst v) (.inRegion ops rest :: k)) cs) h') → P.J (G (b.at a (.inRegion ops (i :: rest) :: k)) cs) h
theorem Does.mono {Pg : Program} {P : Cx Pg} {s : Sem Next} {h : H} {V V' : Value → H → Prop} (hd : Does P s h V) (hv : ∀ v h', V v h' → V' v h') : Does P s h V' :=
  fun b a k cs ops i rest o ho hw hk hs hV => hd b a k cs ops i rest o ho hw hk hs fun v h' hv' => hV v h' (hv v h' hv')
theorem Does.congr {Pg : Program} {P : Cx Pg} {s s' : Sem Next} {h : H} {V : Value → H → Prop} (hd : Does P s h V) (he : ∀ w, s'.runT Pg w #[] = s.runT Pg w #[]) : Does P s' h V :=
  fun b a k cs ops i rest o ho hw hk hs hV => hd b a k cs ops i rest o ho hw hk (fun w => (hs w).trans (he w)) hV

/-- A call, told by heaps alone. -/
def CallsE {Pg : Program} (P : Cx Pg) (f : FuncId) (args : Array Value) (h : H) (R : Ending → H → Prop) : Prop := Does P (callFunc f args) h fun v h' => R (.returned v) h'
def Ok {Pg : Program} (P : Cx Pg) (f : FuncId) (args : Array Value) (h : H) (R : Value → H → Prop) : Prop :=
  CallsE P f args h fun e h' => ∃ v, e = .returned v ∧ R v h'
def callK {Pg : Program} (P : Cx Pg) (f : FuncId) (args : Array Value) (h : H) (K : Value → H → Prop) (X : List PanicEntry → H → Prop) : Prop := Does P (callFunc f args) h K

theorem CallsE.mono {Pg : Program} {P : Cx Pg} {f : FuncId} {args : Array Value} {h : H} {R R' : Ending → H → Prop} (hc : CallsE P f args h R) (hr : ∀ e h', R e h' → R' e h') : CallsE P f args h R' :=
  Does.mono hc fun v h' => hr _ h'
theorem Ok.mono {Pg : Program} {P : Cx Pg} {f : FuncId} {args : Array Value} {h : H} {R R' : Value → H → Prop} (hc : Ok P f args h R) (hr : ∀ v h', R v h' → R' v h') : Ok P f args h R' :=
  CallsE.mono hc fun _ _ ⟨v, he, r⟩ => ⟨v, he, hr v _ r⟩
/-- A contract, used at a call. -/
theorem Ok.k {Pg : Program} {P : Cx Pg} {f : FuncId} {args : Array Value} {h : H} {R : Value → H → Prop} {K : Value → H → Prop} {X : List PanicEntry → H → Prop}
    (hc : Ok P f args h R) (hr : ∀ v h', R v h' → K v h') : callK P f args h K X :=
  Does.mono hc fun v h' ⟨v', he, r⟩ => by cases he; exact hr _ _ r

/-! ### Environments: what is known of the slots -/
abbrev Env := List (Nat × Value)
def Env.get : Env → Nat → Option Value
  | [], _ => none
  | p :: r, t => if p.1 = t then some p.2 else Env.get r t
def ev (e : Env) : Operand → Option Value
  | .tmp t => e.get t
  | .const v => some v
  | .global g => some (.pointer (some ⟨g, 0, none⟩))
  | .func f => some (.func (.func f) #[] #[])
def evs (e : Env) : List Operand → Option (List Value)
  | [] => some []
  | x :: r => (ev e x).bind fun v => (evs e r).bind fun vs => some (v :: vs)
def Env.put (e : Env) (d : Option Nat) (v : Value) : Env :=
  match d with
  | some d => (d, v) :: e
  | none => e
def Env.keep (e : Env) : List Nat → Env
  | [] => []
  | t :: r => match e.get t with
    | some v => (t, v) :: Env.keep e r
    | none => Env.keep e r

/-- The environment tells the truth of a frame. -/
def agree (e : Env) (a : Act) : Prop := ∀ t v, e.get t = some v → a.tmps[t]? = some v

/-! ### Lowered operations -/
inductive EqK where
  | bool | ptr | slice | map | func | iface | other
  deriving DecidableEq

inductive L where
  | mv (x : Operand)
  | pick (c a b : Operand)
  | new (E : TypeId) (z : Array Value)
  | box (E : TypeId) (x : Operand)
  | agg (z : Array Value) (parts : List (Nat × Nat × Operand))
  | lit (E : TypeId) (n : Nat) (z : Array Value) (parts : List (Nat × Nat × Operand))
  | ld (a : Operand)
  | ldn (n : Nat) (a : Operand)
  | st (a x : Operand)
  | stn (n : Nat) (a x : Operand)
  | nilck (x : Operand)
  | bin (op : BinOp) (k : EqK) (x y : Operand)
  | un (op : UnOp) (x : Operand)
  | cvi (k : IntKind) (x : Operand)
  | cvss (x : Operand)
  | cvsb (E : TypeId) (x : Operand)
  | cvbs (x : Operand)
  | iface (T : TypeId) (x : Operand)
  | mkfn (fn : Fn) (first cap : List Operand)
  | mkslice (E : TypeId) (size bytes : Nat) (z : Array Value) (l c : Operand)
  | slc (size : Nat) (x : Operand) (lo hi mx : Option Operand)
  | slcs (x : Operand) (lo hi : Option Operand)
  | slca (n size : Nat) (x : Operand) (lo hi mx : Option Operand)
  | lea (k : Nat) (x : Operand)
  | fld (off : Nat) (x : Operand)
  | fldn (off n : Nat) (x : Operand)
  | idx (size : Nat) (x i : Operand)
  | idxp (n size : Nat) (x i : Operand)
  | idxs (x i : Operand)
  | idxv (n : Nat) (x i : Operand)
  | idxvn (n size : Nat) (x i : Operand)
  | lens (x : Operand)
  | lenl (x : Operand)
  | lenc (n : Nat)
  | capl (x : Operand)
  | app (E : TypeId) (size bytes : Nat) (z : Array Value) (s x : Operand)
  | cpy (size : Nat) (d s : Operand)
  | mn (x y : Operand)
  | mx (x y : Operand)
  | ext (x : Operand) (i : Nat)
  | call (f : FuncId) (args : List Operand)
  | callv (x : Operand) (args : List Operand)
  | xc (f : FuncId) (args : List Operand)
  | pnc (x : Operand)
  | raw (o : Oper)
  | bad

structure LO where
  d : Option Nat
  g : Option (Nat × Bool)
  l : L

/-- Draw regions: the operations in one order of their effects; operations that only read come as early as they can. 'al': one of several effects that may come next; 't' has the others. -/
inductive DT where
  | done
  | q (i : Nat) (o : LO) (r : DT)
  | e (i : Nat) (S : List Nat) (o : LO) (r : DT)
  | al (i : Nat) (S : List Nat) (o : LO) (r t : DT)

inductive LC where
  | skip
  | ret
  | ops (l : List LO)
  | draw (t : DT)
  | seq (a : LC) (L : List Nat) (b : LC)
  | cond (c : Operand) (a b : LC)
  | block (id : Nat) (c : LC)
  | loop (S K : List Nat) (c : LC)
  | rf (g : Operand) (ps K Kb : List Nat) (a b : LC)
  | scope (c : LC)
  | exit (id : Nat)
  | goto (l : Nat)
  | bad

/-! ### What they mean -/
/-- A value under a condition that the walk must see to. -/
def chk {α : Type} (c : Prop) [Decidable c] (v : α) : Option α := if c then some v else none
theorem chk_pos {α : Type} {c : Prop} [Decidable c] {v : α} (h : c) : chk c v = some v := if_pos h

def intV (op : BinOp) (k : IntKind) (a b : Int) : Option Value :=
  match op with
  | .add => some (.int k (k.wrap (a + b)))
  | .sub => some (.int k (k.wrap (a - b)))
  | .mul => some (.int k (k.wrap (a * b)))
  | .quo => chk (b ≠ 0) (.int k (k.wrap (a.tdiv b)))
  | .rem => chk (b ≠ 0) (.int k (a.tmod b))
  | .and => some (.int k (k.wrap (BitVec.ofInt k.bits a &&& BitVec.ofInt k.bits b).toNat))
  | .or => some (.int k (k.wrap (BitVec.ofInt k.bits a ||| BitVec.ofInt k.bits b).toNat))
  | .xor => some (.int k (k.wrap (BitVec.ofInt k.bits a ^^^ BitVec.ofInt k.bits b).toNat))
  | .andNot => some (.int k (k.wrap (BitVec.ofInt k.bits a &&& ~~~BitVec.ofInt k.bits b).toNat))
  | .shl => none
  | .shr => none
  | .eql => some (.bool (decide (a = b)))
  | .neq => some (.bool (!decide (a = b)))
  | .lss => some (.bool (decide (a < b)))
  | .leq => some (.bool (decide (a ≤ b)))
  | .gtr => some (.bool (decide (b < a)))
  | .geq => some (.bool (decide (b ≤ a)))

def strV (op : BinOp) (a b : ByteArray) : Option Value :=
  match op with
  | .add => chk (a.size + b.size ≤ 9223372036854775807) (.string (a ++ b))
  | .eql => some (.bool (decide (a.toList = b.toList)))
  | .neq => some (.bool (!decide (a.toList = b.toList)))
  | .lss => some (.bool (Op.bytesLess a.toList b.toList))
  | .leq => some (.bool (Op.bytesLess a.toList b.toList || decide (a.toList = b.toList)))
  | .gtr => some (.bool (!(Op.bytesLess a.toList b.toList || decide (a.toList = b.toList))))
  | .geq => some (.bool (!Op.bytesLess a.toList b.toList))
  | _ => none

/-- '==' of what is no number and no text. -/
def eqV (k : EqK) (a b : Value) : Option Bool :=
  match k, a, b with
  | .bool, .bool a, .bool b => some (a == b)
  | .ptr, .pointer none, .pointer b => some b.isNone
  | .ptr, .pointer (some _), .pointer none => some false
  | .ptr, .pointer (some a), .pointer (some b) => chk (a.block = b.block) (decide (a = b))
  | .slice, .slice none _ _, .slice b _ _ => some b.isNone
  | .slice, .slice (some _) _ _, .slice none _ _ => some false
  | .map, .map none, .map b => some b.isNone
  | .map, .map (some _), .map none => some false
  | .func, .nilFunc, .nilFunc => some true
  | .func, .nilFunc, .func _ _ _ => some false
  | .func, .func _ _ _, .nilFunc => some false
  | .iface, .nilIface, .iface _ _ => some false
  | .iface, .iface _ _, .nilIface => some false
  | _, _, _ => none

def binV (op : BinOp) (k : EqK) (a b : Value) : Option Value :=
  match a, b with
  | .int k a, .int k' b =>
    match op with
    | .shl => chk (0 ≤ b) (.int k (k.wrap (a * 2 ^ min b.toNat k.bits)))
    | .shr => chk (0 ≤ b) (.int k (a.fdiv (2 ^ min b.toNat k.bits)))
    | op => if k = k' then intV op k a b else none
  | .string a, .string b => strV op a b
  | .float k a, .float k' b =>
    match op with
    | .eql => if k = k' then some (.bool (k.format.order a b == some .eq)) else none
    | .neq => if k = k' then some (.bool (k.format.order a b != some .eq)) else none
    | _ => none
  | a, b =>
    match op with
    | .eql => (eqV k a b).map .bool
    | .neq => (eqV k a b).map fun t => .bool (!t)
    | _ => none

def unV (op : UnOp) (x : Value) : Option Value :=
  match op, x with
  | .neg, .int k n => some (.int k (k.wrap (0 - n)))
  | .xor, .int k n => some (.int k (k.wrap (BitVec.ofInt k.bits (if k.signed then -1 else k.max) ^^^ BitVec.ofInt k.bits n).toNat))
  | .not, .bool b => some (.bool !b)
  | _, _ => none

/-- Parts laid into cells. -/
def fillV (c : Array Value) : List (Nat × Nat × Value) → Option (Array Value)
  | [] => some c
  | (off, n, v) :: r => if v.cells.size = n ∧ off + n ≤ c.size then fillV (splice c off v.cells.toList) r else none
def evp (e : Env) : List (Nat × Nat × Operand) → Option (List (Nat × Nat × Value))
  | [] => some []
  | (o, n, x) :: r => (ev e x).bind fun v => (evp e r).bind fun vs => some ((o, n, v) :: vs)

/-- A bound of a slice expression. -/
def bnd (e : Env) (x : Option Operand) (dflt : Nat) : Option Int :=
  match x with
  | none => some dflt
  | some x => (ev e x).bind fun v => match v with
    | .int _ n => some n
    | _ => none
def slcV (size : Nat) (a : Option Addr) (len cap : Nat) (mx3 : Bool) (lo hi mx : Int) : Option Value :=
  chk (0 ≤ lo ∧ lo ≤ hi ∧ hi ≤ mx ∧ mx ≤ cap ∧ (mx3 = true ∨ mx = cap)) (.slice (if mx = lo then a else a.map (·.add (lo.toNat * size))) (hi.toNat - lo.toNat) (mx.toNat - lo.toNat))

/-- What an operation that only reads yields. -/
def qV (l : L) (e : Env) (h : H) : Option Value :=
  match l with
  | .mv x => ev e x
  | .pick c a b => (ev e c).bind fun v => match v with
    | .bool t => if t then ev e a else ev e b
    | _ => none
  | .agg z ps => (evp e ps).bind fun vs => (fillV z vs).map .agg
  | .ld a => (ev e a).bind fun v => match v with
    | .pointer (some p) => cellAt h p
    | _ => none
  | .ldn n a => (ev e a).bind fun v => match v with
    | .pointer (some p) => (cellsAt h p n).map .agg
    | _ => none
  | .nilck x => (ev e x).bind fun v => match v with
    | .pointer (some p) => some (.pointer (some p))
    | .func (.func f) a c => some (.func (.func f) a c)
    | .iface t x => some (.iface t x)
    | _ => none
  | .bin op k x y => (ev e x).bind fun a => (ev e y).bind fun b => binV op k a b
  | .un op x => (ev e x).bind fun v => unV op v
  | .cvi k x => (ev e x).bind fun v => match v with
    | .int _ n => some (.int k (k.wrap n))
    | _ => none
  | .cvss x => (ev e x).bind fun v => match v with
    | .string s => some (.string s)
    | _ => none
  | .iface T x => (ev e x).bind fun v => some (.iface T v)
  | .mkfn fn first cap => (evs e first).bind fun a => (evs e cap).bind fun c => some (.func fn a.toArray c.toArray)
  | .slc size x lo hi mx => (ev e x).bind fun v => match v with
    | .slice a len cap => (bnd e mx cap).bind fun m => (bnd e hi len).bind fun h' => (bnd e lo 0).bind fun l' => slcV size a len cap mx.isSome l' h' m
    | _ => none
  | .slcs x lo hi => (ev e x).bind fun v => match v with
    | .string s => (bnd e hi s.size).bind fun h' => (bnd e lo 0).bind fun l' => chk (0 ≤ l' ∧ l' ≤ h' ∧ h' ≤ s.size) (.string (s.extract l'.toNat h'.toNat))
    | _ => none
  | .slca n size x lo hi mx => (ev e x).bind fun v => match v with
    | .pointer (some a) => (bnd e mx n).bind fun m => (bnd e hi n).bind fun h' => (bnd e lo 0).bind fun l' => slcV size (some a) n n mx.isSome l' h' m
    | _ => none
  | .lea k x => (ev e x).bind fun v => match v with
    | .pointer (some p) => some (.pointer (some (p.add k)))
    | _ => none
  | .fld off x => (ev e x).bind fun v => match v with
    | .agg cs => cs[off]?
    | _ => none
  | .fldn off n x => (ev e x).bind fun v => match v with
    | .agg cs => some (.agg (cs.extract off (off + n)))
    | _ => none
  | .idx size x i => (ev e x).bind fun v => (ev e i).bind fun j => match v, j with
    | .slice (some p) len _, .int _ j => chk (0 ≤ j ∧ j < len) (.pointer (some (p.add (j.toNat * size))))
    | _, _ => none
  | .idxp n size x i => (ev e x).bind fun v => (ev e i).bind fun j => match v, j with
    | .pointer (some p), .int _ j => chk (0 ≤ j ∧ j < n) (.pointer (some (p.add (j.toNat * size))))
    | _, _ => none
  | .idxs x i => (ev e x).bind fun v => (ev e i).bind fun j => match v, j with
    | .string s, .int _ j => (chk (0 ≤ j) ()).bind fun _ => (s[j.toNat]?).map fun b => .int .u8 b.toNat
    | _, _ => none
  | .idxv n x i => (ev e x).bind fun v => (ev e i).bind fun j => match v, j with
    | .agg cs, .int _ j => (chk (0 ≤ j ∧ j < n) ()).bind fun _ => cs[j.toNat]?
    | _, _ => none
  | .idxvn n size x i => (ev e x).bind fun v => (ev e i).bind fun j => match v, j with
    | .agg cs, .int _ j => chk (0 ≤ j ∧ j < n) (.agg (cs.extract (j.toNat * size) (j.toNat * size + size)))
    | _, _ => none
  | .lens x => (ev e x).bind fun v => match v with
    | .string s => some (.int .i64 s.size)
    | _ => none
  | .lenl x => (ev e x).bind fun v => match v with
    | .slice _ n _ => some (.int .i64 n)
    | _ => none
  | .lenc n => some (.int .i64 n)
  | .capl x => (ev e x).bind fun v => match v with
    | .slice _ _ n => some (.int .i64 n)
    | _ => none
  | .mn x y => (ev e x).bind fun a => (ev e y).bind fun b => match a, b with
    | .int k a, .int _ b => some (.int k (if b < a then b else a))
    | _, _ => none
  | .mx x y => (ev e x).bind fun a => (ev e y).bind fun b => match a, b with
    | .int k a, .int _ b => some (.int k (if a < b then b else a))
    | _, _ => none
  | .ext x i => (ev e x).bind fun v => match v with
    | .tuple vs => vs[i]?
    | _ => none
  | _ => none

def isQ : L → Bool
  | .mv _ | .pick .. | .agg .. | .ld _ | .ldn .. | .nilck _ | .bin .. | .un .. | .cvi .. | .cvss _ | .iface .. | .mkfn .. | .slc .. | .slcs .. | .slca .. | .lea .. | .fld .. | .fldn .. | .idx .. | .idxp .. | .idxs .. | .idxv .. | .idxvn ..
  | .lens _ | .lenl _ | .lenc _ | .capl _ | .mn .. | .mx .. | .ext .. => true
  | _ => false
/-- Does it look into memory? -/
def isLd : L → Bool
  | .ld _ | .ldn .. => true
  | _ => false

def opt (o : Option Value) (h : H) (K : Value → H → Prop) : Prop :=
  match o with
  | some v => K v h
  | none => False

/-- A function with a body of its own. -/
def callable (P : Program) (f : FuncId) : Bool :=
  match P.funcs[f]? with
  | some fn => !(fn.name == "runtime.NumGoroutine") && !fn.body.isNone
  | none => false
/-- The cells that 'append' or 'copy' takes from its second argument: n of them. -/
def srcCells (h : H) (size n : Nat) : Value → Option (Array Value)
  | .slice (some a) _ _ => cellsAt h a (n * size)
  | .slice none _ _ => some #[]
  | .string s => some ((s.extract 0 n).data.map fun b => .int .u8 b.toNat)
  | _ => none
def srcLen : Value → Option Nat
  | .slice _ n _ => some n
  | .string s => some s.size
  | _ => none

def appM (E : TypeId) (size bytes : Nat) (z : Array Value) (s x : Value) (h : H) (K : Value → H → Prop) : Prop :=
  match s, srcLen x with
  | .slice base len cap, some n =>
    if len + n ≤ cap then
      match srcCells h size n x, base with
      | some new, some a => storeH h (a.add (len * size)) new.toList fun h' => K (.slice base (len + n) cap) h'
      | some _, none => K (.slice base (len + n) cap) h
      | none, _ => False
    else
      (len + n ≤ 9223372036854775807 ∧ Builtin.nextslicecap (len + n) cap * bytes ≤ 281474976710656) ∧
      match srcCells h size len s, srcCells h size n x with
      | some old, some new => ∀ c, len + n ≤ c → ∀ b, h b = none →
        K (.slice (some ⟨b, 0, none⟩) (len + n) c) (hupd h b (.cells (old ++ new ++ Builtin.zeroCells z (c - (len + n))) E))
      | _, _ => False
  | _, _ => False

def strCells (s : ByteArray) (c : Nat) : Array Value := (s.data.map fun b => Value.int .u8 b.toNat) ++ Array.replicate (c - s.size) (Value.int .u8 0)
def isByte : Value → Bool
  | .int .u8 _ => true
  | _ => false
def pushByte (s : ByteArray) (v : Value) : ByteArray :=
  match v with
  | .int _ n => s.push (UInt8.ofNat n.toNat)
  | _ => s
def ofCells (cs : Array Value) : ByteArray := cs.toList.foldl pushByte ByteArray.empty
/-- What an operation does. -/
def lM {Pg : Program} (P : Cx Pg) (l : L) (e : Env) (h : H) (K : Value → H → Prop) (X : List PanicEntry → H → Prop) : Prop :=
  match l with
  | .new E z => ∀ b, h b = none → K (.pointer (some ⟨b, 0, none⟩)) (hupd h b (.cells z E))
  | .box E x => match ev e x with
    | some v => ∀ b, h b = none → K (.pointer (some ⟨b, 0, none⟩)) (hupd h b (.cells v.cells E))
    | none => False
  | .lit E n z ps => match (evp e ps).bind (fillV z) with
    | some c => ∀ b, h b = none → K (.slice (some ⟨b, 0, none⟩) n n) (hupd h b (.cells c E))
    | none => False
  | .st a x => match ev e a, ev e x with
    | some (.pointer (some p)), some v => storeH h p [v] fun h' => K undef h'
    | _, _ => False
  | .stn n a x => match ev e a, ev e x with
    | some (.pointer (some p)), some v => v.cells.size = n ∧ storeH h p v.cells.toList fun h' => K undef h'
    | _, _ => False
  | .cvsb _ _ => False
  | .mkslice E size bytes z l c => match ev e l, ev e c with
    | some (.int _ n), some (.int _ m) => (0 ≤ n ∧ n ≤ m ∧ m ≤ 9223372036854775807 ∧ bytes * m ≤ 281474976710656) ∧
      ∀ b, h b = none → K (.slice (some ⟨b, 0, none⟩) n.toNat m.toNat) (hupd h b (.cells (Builtin.zeroCells z m.toNat) E))
    | _, _ => False
  | .app E size bytes z s x => match ev e s, ev e x with
    | some s, some x => appM E size bytes z s x h K
    | _, _ => False
  | .cpy size d s => match ev e d, ev e s with
    | some (.slice base dl _), some s => match srcLen s with
      | some n => match srcCells h size (min n dl) s, base with
        | some new, some a => storeH h a new.toList fun h' => K (.int .i64 (min n dl : Nat)) h'
        | some _, none => K (.int .i64 (min n dl : Nat)) h
        | none, _ => False
      | none => False
    | _, _ => False
  | .call f args => match evs e args with
    | some vs => callK P f vs.toArray h K X
    | none => False
  | .xc f args => match evs e args with
    | some vs => Does P (callFunc f vs.toArray) h K
    | none => False
  | .callv x args => match ev e x, evs e args with
    | some (.func (.func f) first cap), some vs => callable P.prog f = true ∧ callK P f (first ++ vs.toArray ++ cap) h K X
    | _, _ => False
  | .cvbs _ => False
  | .pnc x => False
  | .raw o => ∀ a, agree e a → Does P (execOp a.eval o) h K
  | .bad => False
  | l => opt (qV l e h) h K

/-- A guard's answer. -/
def gW (v : Value) (want : Bool) : Bool :=
  match v with
  | .bool b => b == want
  | _ => false
def guardM (e : Env) (g : Option (Nat × Bool)) (A B : Prop) : Prop :=
  match g with
  | none => A
  | some (t, want) => match e.get t with
    | some v => (gW v want = true → A) ∧ (gW v want = false → B)
    | none => False

def vcOps {Pg : Program} (P : Cx Pg) : List LO → (K : Env → H → Prop) → (X : List PanicEntry → H → Prop) → Env → H → Prop
  | [], K, _, e, h => K e h
  | o :: r, K, X, e, h => guardM e o.g (lM P o.l e h (fun v h' => vcOps P r K X (e.put o.d v) h') X) (vcOps P r K X (e.put o.d undef) h)

/-- Facts on memory that must stand while other effects go by: which operation, its reading. -/
def stab (S : List Nat) (l : List (Nat × L × Env × Value)) (h : H) : Prop :=
  match l with
  | [] => True
  | (i, o, e, v) :: r => (if S.contains i then qV o e h = some v ∧ stab S r h else stab S r h)
def vcDT {Pg : Program} (P : Cx Pg) : DT → (K : Env → H → Prop) → (X : List PanicEntry → H → Prop) → List (Nat × L × Env × Value) → Env → H → Prop
  | .done, K, _, _, e, h => K e h
  | .q i o r, K, X, S, e, h => guardM e o.g (opt (qV o.l e h) h fun v h' => vcDT P r K X (if isLd o.l then (i, o.l, e, v) :: S else S) (e.put o.d v) h') (vcDT P r K X S (e.put o.d undef) h)
  | .e _ Z o r, K, X, S, e, h => guardM e o.g (lM P o.l e h (fun v h' => stab Z S h' ∧ vcDT P r K X S (e.put o.d v) h') X) (vcDT P r K X S (e.put o.d undef) h)
  | .al _ Z o r t, K, X, S, e, h =>
    guardM e o.g (lM P o.l e h (fun v h' => stab Z S h' ∧ vcDT P r K X S (e.put o.d v) h') X) (vcDT P r K X S (e.put o.d undef) h) ∧ vcDT P t K X S e h

abbrev Post := Exit → Env → H → Prop

def condM (v : Option Value) (A B : Prop) : Prop :=
  match v with
  | some (.bool b) => (b = true → A) ∧ (b = false → B)
  | _ => False

def loopI (S : List Nat) (K : List Nat) (body : Post → Env → H → Prop) (Q : Post) (e : Env) (h : H) : Prop :=
  ∃ (I : List Value → H → Prop) (μ : List Value → H → Nat),
    (∃ vs, evs e (S.map .tmp) = some vs ∧ I vs h) ∧
    ∀ vs h', vs.length = S.length → I vs h' →
      body (fun x e' h'' => match x with
        | .normal => (∃ vs', evs e' (S.map .tmp) = some vs' ∧ I vs' h'' ∧ μ vs' h'' < μ vs h') ∧ e'.keep K = e.keep K
        | x => Q x e' h'') (S.zip vs ++ e.keep K) h'

def noGQ (Q : Post) : Post := fun x e h =>
  match x with
  | .goto _ => False
  | x => Q x e h
def vc {Pg : Program} (P : Cx Pg) : LC → Post → Env → H → Prop
  | .skip, Q, e, h => Q .normal e h
  | .ret, Q, e, h => Q .ret e h
  | .ops l, Q, e, h => vcOps P l (fun e' h' => Q .normal e' h') (fun c h' => Q (.panic c) [] h') e h
  | .draw t, Q, e, h => vcDT P t (fun e' h' => Q .normal e' h') (fun c h' => Q (.panic c) [] h') [] e h
  | .seq a L b, Q, e, h => vc P a (fun x e' h' => match x with
    | .normal => vc P b Q (e'.keep L) h'
    | x => Q x e' h') e h
  | .cond c a b, Q, e, h => condM (ev e c) (vc P a Q e h) (vc P b Q e h)
  | .block id c, Q, e, h => vc P c (fun x e' h' => match x with
    | .exit i => if i = id then Q .normal e' h' else Q (.exit i) e' h'
    | x => Q x e' h') e h
  | .loop S K c, Q, e, h => loopI S K (vc P c) Q e h
  | .rf .., _, _, _ => False
  | .scope _, _, _, _ => False
  | .exit id, Q, e, h => Q (.exit id) e h
  | .goto _, _, _, _ => False
  | .bad, _, _, _ => False

/-- A function's end. -/
def retQ (res : List Nat) (R : Ending → H → Prop) : Post := fun x e h =>
  match x with
  | .ret | .normal => match evs e (res.map .tmp) with
    | some [v] => R (.returned v) h
    | some vs => R (.returned (.tuple vs.toArray)) h
    | none => False
  | .panic c => R (.panicked c) h
  | _ => False
end Go.Proofs.Ytojhnclkhiffkaa
