/-
  A logic over heaps for lowered code: the definitions. (Plain text: nothing of any one program stands here.)
-/
import Derived.Calls
import Derived.Tactics
import Derived.Orders
import Derived.Still
import Derived.Laws.Cells
import Derived.Laws.Append
import Derived.Laws.Slices
import Derived.Laws.Rows
import Derived.Laws.CopyRow
import Derived.Laws.Pointers
import Derived.Laws.MakeOwn
import Derived.RangeFuncLeaves
import Derived.RangeFuncSeq
import Derived.RangeFuncCalls
import Derived.OrdersIn
import Derived.TacticsIn
namespace Go.Proofs.YtooimdgoibdhlaaDoor
set_option linter.unusedVariables false

/-! ### Heaps -/
abbrev H := Nat → Option Obj
/-- What of an object is seen: of a range over a function only whether it goes on or has been left; nothing of deferred calls. -/
def hid : Option Obj → Option Obj
  | some (.loop r) => if r.state = .ready ∨ r.state = .done then some (.loop r) else none
  | some (.deferred _) => none
  | o => o
def hp (w : World) : H := fun b => hid w.heap[b]?
theorem hid_cells {o : Option Obj} {c : Array Value} {E : TypeId} {fr : Nat × Nat} : hid o = some (.cells c E fr) ↔ o = some (.cells c E fr) := by
  constructor
  · intro h
    unfold hid at h
    split at h
    · split at h <;> cases h
    · cases h
    · exact h
  · rintro rfl; rfl
theorem hid_none {o : Option Obj} (h : o = none) : hid o = none := by subst h; rfl
theorem hid_some {o : Option Obj} {x : Obj} (h : hid o = some x) : o = some x := by
  unfold hid at h
  split at h
  · split at h
    · exact h
    · cases h
  · cases h
  · exact h
def hdel (h : H) (b : Nat) : H := fun x => if x = b then none else h x
def hupd (h : H) (b : Nat) (o : Obj) : H := fun x => if x = b then some o else h x
def cellAt (h : H) (a : Addr) : Option Value :=
  match h a.block with
  | some (.cells c _ _) => if a.spot.isSome then none else c[a.off]?
  | _ => none
def cellsAt (h : H) (a : Addr) (n : Nat) : Option (Array Value) :=
  if n = 0 then some #[] else
  match h a.block with
  | some (.cells c _ _) => if a.spot.isNone && decide (a.off + n ≤ c.size) then some (c.extract a.off (a.off + n)) else none
  | _ => none
def isCell : Value → Bool
  | .agg _ | .tuple _ => false
  | _ => true
def splice (c : Array Value) (o : Nat) : List Value → Array Value
  | [] => c
  | v :: r => splice (c.setIfInBounds o v) (o + 1) r
def storeH (h : H) (a : Addr) (vs : List Value) (K : H → Prop) : Prop :=
  if vs = [] then K h else
  match h a.block with
  | some (.cells c E fr) => (fr.2 ≤ a.off ∨ a.off + vs.length ≤ fr.1) ∧ a.spot = none ∧ a.off + vs.length ≤ c.size ∧ (vs.all isCell = true) ∧ K (hupd h a.block (.cells (splice c a.off vs) E fr))
  | _ => False

/-- What no operation here touches. -/
structure Kin (w w' : World) : Prop where
  os : w'.os = w.os
  tape : w'.tape = w.tape
  output : w'.output = w.output
  size : w.heap.size ≤ w'.heap.size
  ctl : ∀ (b : Nat) (o : Obj), w.heap[b]? = some o → hid (some o) = none → w'.heap[b]? = some o
theorem Kin.refl (w : World) : Kin w w := ⟨rfl, rfl, rfl, Nat.le_refl _, fun _ _ h _ => h⟩
theorem Kin.trans {a b c : World} (h : Kin a b) (k : Kin b c) : Kin a c :=
  ⟨k.os.trans h.os, k.tape.trans h.tape, k.output.trans h.output, Nat.le_trans h.size k.size, fun x o hx ho => k.ctl x o (h.ctl x o hx ho) ho⟩

/-- A call, told by heaps alone. -/
def CallsE (P : Program) (f : FuncId) (args : Array Value) (h : H) (R : Ending → H → Prop) : Prop :=
  ∀ w, hp w = h → Calls P f args w fun e w' => Kin w w' ∧ R e (hp w')
def Ok (P : Program) (f : FuncId) (args : Array Value) (h : H) (R : Value → H → Prop) : Prop :=
  CallsE P f args h fun e h' => ∃ v, e = .returned v ∧ R v h'
def callK (P : Program) (f : FuncId) (args : Array Value) (h : H) (K : Value → H → Prop) (X : List PanicEntry → H → Prop) : Prop :=
  CallsE P f args h fun e h' => match e with
    | .returned v => K v h'
    | .panicked c => X c h'
    | .outgrown => False

theorem CallsE.mono {P : Program} {f : FuncId} {args : Array Value} {h : H} {R R' : Ending → H → Prop} (hc : CallsE P f args h R) (hr : ∀ e h', R e h' → R' e h') : CallsE P f args h R' :=
  fun w hw => (hc w hw).mono fun e w' ⟨k, r⟩ => ⟨k, hr e _ r⟩
theorem Ok.mono {P : Program} {f : FuncId} {args : Array Value} {h : H} {R R' : Value → H → Prop} (hc : Ok P f args h R) (hr : ∀ v h', R v h' → R' v h') : Ok P f args h R' :=
  CallsE.mono hc fun _ _ ⟨v, he, r⟩ => ⟨v, he, hr v _ r⟩
/-- A contract, used at a call. -/
theorem Ok.k {P : Program} {f : FuncId} {args : Array Value} {h : H} {R : Value → H → Prop} {K : Value → H → Prop} {X : List PanicEntry → H → Prop}
    (hc : Ok P f args h R) (hr : ∀ v h', R v h' → K v h') : callK P f args h K X :=
  CallsE.mono hc fun _ _ ⟨v, he, r⟩ => by subst he; exact hr v _ r

/-- A call of a range's own function, told by heaps alone. -/
def yieldM (P : Program) (l : Nat) (args : List Value) (h : H) (K : Value → H → Prop) (X : List PanicEntry → H → Prop) : Prop :=
  ∀ w, hp w = h → YieldAt Fence.wide 0 P l args.toArray w fun e w' => Kin w w' ∧ match e with
    | .returned v => K v (hp w')
    | .panicked c => X c (hp w')
    | .outgrown => False
theorem YieldAt.mono {F : Fence} {m : Nat} {P : Program} {l : Nat} {args : Array Value} {W : World} {R R' : Ending → World → Prop} (h : YieldAt F m P l args W R) (hr : ∀ e w', R e w' → R' e w') : YieldAt F m P l args W R' := by
  obtain ⟨fn, t, a, b, h1, h2⟩ := h
  exact ⟨fn, t, a, b, h1, h2.mono hr⟩
/-- .. that answers a bool. -/
def yieldE (P : Program) (l : Nat) (args : List Value) (h : H) (Y : Bool → H → Prop) : Prop := ∀ X, yieldM P l args h (fun v h' => ∃ b, v = .bool b ∧ Y b h') X
theorem yieldE.k {P : Program} {l : Nat} {args : List Value} {h : H} {Y : Bool → H → Prop} {K : Value → H → Prop} {X : List PanicEntry → H → Prop} (hy : yieldE P l args h Y) (hk : ∀ b h', Y b h' → K (.bool b) h') : yieldM P l args h K X := fun w hw => by
  refine YieldAt.mono (hy X w hw) ?_
  rintro e w' ⟨hk', he⟩
  refine ⟨hk', ?_⟩
  cases e with
  | returned v => obtain ⟨b, rfl, h⟩ := he; exact hk b _ h
  | panicked c => exact he
  | outgrown => exact he

/-! ### Environments: what is known of the slots -/
abbrev Env := List (Nat × Value)
def Env.get : Env → Nat → Option Value
  | [], _ => none
  | p :: r, t => if p.1 = t then some p.2 else Env.get r t
def ev (e : Env) : Operand → Option Value
  | .tmp t => e.get t
  | .const v => some v
  | .global g => some (.pointer (some ⟨g, 0, none⟩))
  | .func f => some (.func (.func f) #[] #[])
def evs (e : Env) : List Operand → Option (List Value)
  | [] => some []
  | x :: r => (ev e x).bind fun v => (evs e r).bind fun vs => some (v :: vs)
def Env.put (e : Env) (d : Option Nat) (v : Value) : Env :=
  match d with
  | some d => (d, v) :: e
  | none => e
def Env.keep (e : Env) : List Nat → Env
  | [] => []
  | t :: r => match e.get t with
    | some v => (t, v) :: Env.keep e r
    | none => Env.keep e r

/-- The environment tells the truth of a frame. -/
def agree (e : Env) (a : Act) : Prop := ∀ t v, e.get t = some v → a.tmps[t]? = some v

/-! ### Lowered operations -/
inductive EqK where
  | bool | ptr | slice | map | func | iface | other
  deriving DecidableEq

inductive L where
  | mv (x : Operand)
  | pick (c a b : Operand)
  | new (E : TypeId) (z : Array Value)
  | box (E : TypeId) (x : Operand)
  | agg (z : Array Value) (parts : List (Nat × Nat × Operand))
  | lit (E : TypeId) (n : Nat) (z : Array Value) (parts : List (Nat × Nat × Operand))
  | ld (a : Operand)
  | ldn (n : Nat) (a : Operand)
  | st (a x : Operand)
  | stn (n : Nat) (a x : Operand)
  | nilck (x : Operand)
  | bin (op : BinOp) (k : EqK) (x y : Operand)
  | un (op : UnOp) (x : Operand)
  | cvi (k : IntKind) (x : Operand)
  | cvss (x : Operand)
  | cvsb (E : TypeId) (x : Operand)
  | cvbs (x : Operand)
  | iface (T : TypeId) (x : Operand)
  | mkfn (fn : Fn) (first cap : List Operand)
  | mkslice (E : TypeId) (size bytes : Nat) (z : Array Value) (l c : Operand)
  | slc (size : Nat) (x : Operand) (lo hi mx : Option Operand)
  | slcs (x : Operand) (lo hi : Option Operand)
  | slca (n size : Nat) (x : Operand) (lo hi mx : Option Operand)
  | lea (k : Nat) (x : Operand)
  | fld (off : Nat) (x : Operand)
  | fldn (off n : Nat) (x : Operand)
  | idx (size : Nat) (x i : Operand)
  | idxp (n size : Nat) (x i : Operand)
  | idxs (x i : Operand)
  | idxv (n : Nat) (x i : Operand)
  | idxvn (n size : Nat) (x i : Operand)
  | lens (x : Operand)
  | lenl (x : Operand)
  | lenc (n : Nat)
  | capl (x : Operand)
  | app (E : TypeId) (size bytes : Nat) (z : Array Value) (s x : Operand)
  | cpy (size : Nat) (d s : Operand)
  | mn (x y : Operand)
  | mx (x y : Operand)
  | ext (x : Operand) (i : Nat)
  | call (f : FuncId) (args : List Operand)
  | callv (x : Operand) (args : List Operand)
  | xc (f : FuncId) (args : List Operand)
  | pnc (x : Operand)
  | raw (o : Oper)
  | bad

structure LO where
  d : Option Nat
  g : Option (Nat × Bool)
  l : L

/-- Draw regions: the operations in one order of their effects; operations that only read come as early as they can. 'al': one of several effects that may come next; 't' has the others. -/
inductive DT where
  | done
  | q (i : Nat) (o : LO) (r : DT)
  | e (i : Nat) (S : List Nat) (o : LO) (r : DT)
  | al (i : Nat) (S : List Nat) (o : LO) (r t : DT)

inductive LC where
  | skip
  | ret
  | ops (l : List LO)
  | draw (t : DT)
  | seq (a : LC) (L : List Nat) (b : LC)
  | cond (c : Operand) (a b : LC)
  | block (id : Nat) (c : LC)
  | loop (S K : List Nat) (c : LC)
  | rf (g : Operand) (ps K Kb : List Nat) (a b : LC)
  | scope (c : LC)
  | exit (id : Nat)
  | goto (l : Nat)
  | bad

/-! ### What they mean -/
/-- A value under a condition that the walk must see to. -/
def chk {α : Type} (c : Prop) [Decidable c] (v : α) : Option α := if c then some v else none
theorem chk_pos {α : Type} {c : Prop} [Decidable c] {v : α} (h : c) : chk c v = some v := if_pos h

def intV (op : BinOp) (k : IntKind) (a b : Int) : Option Value :=
  match op with
  | .add => some (.int k (k.wrap (a + b)))
  | .sub => some (.int k (k.wrap (a - b)))
  | .mul => some (.int k (k.wrap (a * b)))
  | .quo => chk (b ≠ 0) (.int k (k.wrap (a.tdiv b)))
  | .rem => chk (b ≠ 0) (.int k (a.tmod b))
  | .and => some (.int k (k.wrap (BitVec.ofInt k.bits a &&& BitVec.ofInt k.bits b).toNat))
  | .or => some (.int k (k.wrap (BitVec.ofInt k.bits a ||| BitVec.ofInt k.bits b).toNat))
  | .xor => some (.int k (k.wrap (BitVec.ofInt k.bits a ^^^ BitVec.ofInt k.bits b).toNat))
  | .andNot => some (.int k (k.wrap (BitVec.ofInt k.bits a &&& ~~~BitVec.ofInt k.bits b).toNat))
  | .shl => none
  | .shr => none
  | .eql => some (.bool (decide (a = b)))
  | .neq => some (.bool (!decide (a = b)))
  | .lss => some (.bool (decide (a < b)))
  | .leq => some (.bool (decide (a ≤ b)))
  | .gtr => some (.bool (decide (b < a)))
  | .geq => some (.bool (decide (b ≤ a)))

def strV (op : BinOp) (a b : ByteArray) : Option Value :=
  match op with
  | .add => chk (a.size + b.size ≤ 9223372036854775807) (.string (a ++ b))
  | .eql => some (.bool (decide (a.toList = b.toList)))
  | .neq => some (.bool (!decide (a.toList = b.toList)))
  | .lss => some (.bool (Op.bytesLess a.toList b.toList))
  | .leq => some (.bool (Op.bytesLess a.toList b.toList || decide (a.toList = b.toList)))
  | .gtr => some (.bool (!(Op.bytesLess a.toList b.toList || decide (a.toList = b.toList))))
  | .geq => some (.bool (!Op.bytesLess a.toList b.toList))
  | _ => none

/-- '==' of what is no number and no text. -/
def eqV (k : EqK) (a b : Value) : Option Bool :=
  match k, a, b with
  | .bool, .bool a, .bool b => some (a == b)
  | .ptr, .pointer none, .pointer b => some b.isNone
  | .ptr, .pointer (some _), .pointer none => some false
  | .ptr, .pointer (some a), .pointer (some b) => chk (a.block = b.block) (decide (a = b))
  | .slice, .slice none _ _, .slice b _ _ => some b.isNone
  | .slice, .slice (some _) _ _, .slice none _ _ => some false
  | .map, .map none, .map b => some b.isNone
  | .map, .map (some _), .map none => some false
  | .func, .nilFunc, .nilFunc => some true
  | .func, .nilFunc, .func _ _ _ => some false
  | .func, .func _ _ _, .nilFunc => some false
  | .iface, .nilIface, .iface _ _ => some false
  | .iface, .iface _ _, .nilIface => some false
  | _, _, _ => none

def binV (op : BinOp) (k : EqK) (a b : Value) : Option Value :=
  match a, b with
  | .int k a, .int k' b =>
    match op with
    | .shl => chk (0 ≤ b) (.int k (k.wrap (a * 2 ^ min b.toNat k.bits)))
    | .shr => chk (0 ≤ b) (.int k (a.fdiv (2 ^ min b.toNat k.bits)))
    | op => if k = k' then intV op k a b else none
  | .string a, .string b => strV op a b
  | .float k a, .float k' b =>
    match op with
    | .eql => if k = k' then some (.bool (k.format.order a b == some .eq)) else none
    | .neq => if k = k' then some (.bool (k.format.order a b != some .eq)) else none
    | _ => none
  | a, b =>
    match op with
    | .eql => (eqV k a b).map .bool
    | .neq => (eqV k a b).map fun t => .bool (!t)
    | _ => none

def unV (op : UnOp) (x : Value) : Option Value :=
  match op, x with
  | .neg, .int k n => some (.int k (k.wrap (0 - n)))
  | .xor, .int k n => some (.int k (k.wrap (BitVec.ofInt k.bits (if k.signed then -1 else k.max) ^^^ BitVec.ofInt k.bits n).toNat))
  | .not, .bool b => some (.bool !b)
  | _, _ => none

/-- Parts laid into cells. -/
def fillV (c : Array Value) : List (Nat × Nat × Value) → Option (Array Value)
  | [] => some c
  | (off, n, v) :: r => if v.cells.size = n ∧ off + n ≤ c.size then fillV (splice c off v.cells.toList) r else none
def evp (e : Env) : List (Nat × Nat × Operand) → Option (List (Nat × Nat × Value))
  | [] => some []
  | (o, n, x) :: r => (ev e x).bind fun v => (evp e r).bind fun vs => some ((o, n, v) :: vs)

/-- A bound of a slice expression. -/
def bnd (e : Env) (x : Option Operand) (dflt : Nat) : Option Int :=
  match x with
  | none => some dflt
  | some x => (ev e x).bind fun v => match v with
    | .int _ n => some n
    | _ => none
def slcV (size : Nat) (a : Option Addr) (len cap : Nat) (mx3 : Bool) (lo hi mx : Int) : Option Value :=
  chk (0 ≤ lo ∧ lo ≤ hi ∧ hi ≤ mx ∧ mx ≤ cap ∧ (mx3 = true ∨ mx = cap)) (.slice (if mx = lo then a else a.map (·.add (lo.toNat * size))) (hi.toNat - lo.toNat) (mx.toNat - lo.toNat))

/-- What an operation that only reads yields. -/
def qV (l : L) (e : Env) (h : H) : Option Value :=
  match l with
  | .mv x => ev e x
  | .pick c a b => (ev e c).bind fun v => match v with
    | .bool t => if t then ev e a else ev e b
    | _ => none
  | .agg z ps => (evp e ps).bind fun vs => (fillV z vs).map .agg
  | .ld a => (ev e a).bind fun v => match v with
    | .pointer (some p) => cellAt h p
    | _ => none
  | .ldn n a => (ev e a).bind fun v => match v with
    | .pointer (some p) => (cellsAt h p n).map .agg
    | _ => none
  | .nilck x => (ev e x).bind fun v => match v with
    | .pointer (some p) => some (.pointer (some p))
    | .func (.func f) a c => some (.func (.func f) a c)
    | .iface t x => some (.iface t x)
    | _ => none
  | .bin op k x y => (ev e x).bind fun a => (ev e y).bind fun b => binV op k a b
  | .un op x => (ev e x).bind fun v => unV op v
  | .cvi k x => (ev e x).bind fun v => match v with
    | .int _ n => some (.int k (k.wrap n))
    | _ => none
  | .cvss x => (ev e x).bind fun v => match v with
    | .string s => some (.string s)
    | _ => none
  | .iface T x => (ev e x).bind fun v => some (.iface T v)
  | .mkfn fn first cap => (evs e first).bind fun a => (evs e cap).bind fun c => some (.func fn a.toArray c.toArray)
  | .slc size x lo hi mx => (ev e x).bind fun v => match v with
    | .slice a len cap => (bnd e mx cap).bind fun m => (bnd e hi len).bind fun h' => (bnd e lo 0).bind fun l' => slcV size a len cap mx.isSome l' h' m
    | _ => none
  | .slcs x lo hi => (ev e x).bind fun v => match v with
    | .string s => (bnd e hi s.size).bind fun h' => (bnd e lo 0).bind fun l' => chk (0 ≤ l' ∧ l' ≤ h' ∧ h' ≤ s.size) (.string (s.extract l'.toNat h'.toNat))
    | _ => none
  | .slca n size x lo hi mx => (ev e x).bind fun v => match v with
    | .pointer (some a) => (bnd e mx n).bind fun m => (bnd e hi n).bind fun h' => (bnd e lo 0).bind fun l' => slcV size (some a) n n mx.isSome l' h' m
    | _ => none
  | .lea k x => (ev e x).bind fun v => match v with
    | .pointer (some p) => some (.pointer (some (p.add k)))
    | _ => none
  | .fld off x => (ev e x).bind fun v => match v with
    | .agg cs => cs[off]?
    | _ => none
  | .fldn off n x => (ev e x).bind fun v => match v with
    | .agg cs => some (.agg (cs.extract off (off + n)))
    | _ => none
  | .idx size x i => (ev e x).bind fun v => (ev e i).bind fun j => match v, j with
    | .slice (some p) len _, .int _ j => chk (0 ≤ j ∧ j < len) (.pointer (some (p.add (j.toNat * size))))
    | _, _ => none
  | .idxp n size x i => (ev e x).bind fun v => (ev e i).bind fun j => match v, j with
    | .pointer (some p), .int _ j => chk (0 ≤ j ∧ j < n) (.pointer (some (p.add (j.toNat * size))))
    | _, _ => none
  | .idxs x i => (ev e x).bind fun v => (ev e i).bind fun j => match v, j with
    | .string s, .int _ j => (chk (0 ≤ j) ()).bind fun _ => (s[j.toNat]?).map fun b => .int .u8 b.toNat
    | _, _ => none
  | .idxv n x i => (ev e x).bind fun v => (ev e i).bind fun j => match v, j with
    | .agg cs, .int _ j => (chk (0 ≤ j ∧ j < n) ()).bind fun _ => cs[j.toNat]?
    | _, _ => none
  | .idxvn n size x i => (ev e x).bind fun v => (ev e i).bind fun j => match v, j with
    | .agg cs, .int _ j => chk (0 ≤ j ∧ j < n) (.agg (cs.extract (j.toNat * size) (j.toNat * size + size)))
    | _, _ => none
  | .lens x => (ev e x).bind fun v => match v with
    | .string s => some (.int .i64 s.size)
    | _ => none
  | .lenl x => (ev e x).bind fun v => match v with
    | .slice _ n _ => some (.int .i64 n)
    | _ => none
  | .lenc n => some (.int .i64 n)
  | .capl x => (ev e x).bind fun v => match v with
    | .slice _ _ n => some (.int .i64 n)
    | _ => none
  | .mn x y => (ev e x).bind fun a => (ev e y).bind fun b => match a, b with
    | .int k a, .int _ b => some (.int k (if b < a then b else a))
    | _, _ => none
  | .mx x y => (ev e x).bind fun a => (ev e y).bind fun b => match a, b with
    | .int k a, .int _ b => some (.int k (if a < b then b else a))
    | _, _ => none
  | .ext x i => (ev e x).bind fun v => match v with
    | .tuple vs => vs[i]?
    | _ => none
  | _ => none

def isQ : L → Bool
  | .mv _ | .pick .. | .agg .. | .ld _ | .ldn .. | .nilck _ | .bin .. | .un .. | .cvi .. | .cvss _ | .iface .. | .mkfn .. | .slc .. | .slcs .. | .slca .. | .lea .. | .fld .. | .fldn .. | .idx .. | .idxp .. | .idxs .. | .idxv .. | .idxvn ..
  | .lens _ | .lenl _ | .lenc _ | .capl _ | .mn .. | .mx .. | .ext .. => true
  | _ => false
/-- Does it look into memory? -/
def isLd : L → Bool
  | .ld _ | .ldn .. => true
  | _ => false

def opt (o : Option Value) (h : H) (K : Value → H → Prop) : Prop :=
  match o with
  | some v => K v h
  | none => False

/-- A function with a body of its own. -/
def callable (P : Program) (f : FuncId) : Bool :=
  match P.funcs[f]? with
  | some fn => !(fn.name == "runtime.NumGoroutine") && !fn.body.isNone
  | none => false
/-- The cells that 'append' or 'copy' takes from its second argument: n of them. -/
def srcCells (h : H) (size n : Nat) : Value → Option (Array Value)
  | .slice (some a) _ _ => cellsAt h a (n * size)
  | .slice none _ _ => some #[]
  | .string s => some ((s.extract 0 n).data.map fun b => .int .u8 b.toNat)
  | _ => none
def srcLen : Value → Option Nat
  | .slice _ n _ => some n
  | .string s => some s.size
  | _ => none

def appM (E : TypeId) (size bytes : Nat) (z : Array Value) (s x : Value) (h : H) (K : Value → H → Prop) : Prop :=
  match s, srcLen x with
  | .slice base len cap, some n =>
    if len + n ≤ cap then
      match srcCells h size n x, base with
      | some new, some a => storeH h (a.add (len * size)) new.toList fun h' => K (.slice base (len + n) cap) h'
      | some _, none => K (.slice base (len + n) cap) h
      | none, _ => False
    else
      (len + n ≤ 9223372036854775807 ∧ Builtin.nextslicecap (len + n) cap * bytes ≤ 281474976710656) ∧
      match srcCells h size len s, srcCells h size n x with
      | some old, some new => ∀ c, len + n ≤ c → ∀ b, h b = none →
        K (.slice (some ⟨b, 0, none⟩) (len + n) c) (hupd h b (.cells (old ++ new ++ Builtin.zeroCells z (c - (len + n))) E))
      | _, _ => False
  | _, _ => False

def strCells (s : ByteArray) (c : Nat) : Array Value := (s.data.map fun b => Value.int .u8 b.toNat) ++ Array.replicate (c - s.size) (Value.int .u8 0)
def isByte : Value → Bool
  | .int .u8 _ => true
  | _ => false
def pushByte (s : ByteArray) (v : Value) : ByteArray :=
  match v with
  | .int _ n => s.push (UInt8.ofNat n.toNat)
  | _ => s
def ofCells (cs : Array Value) : ByteArray := cs.toList.foldl pushByte ByteArray.empty
/-- What an operation does. -/
def lM (P : Program) (l : L) (e : Env) (h : H) (K : Value → H → Prop) (X : List PanicEntry → H → Prop) : Prop :=
  match l with
  | .new E z => ∀ b, h b = none → K (.pointer (some ⟨b, 0, none⟩)) (hupd h b (.cells z E))
  | .box E x => match ev e x with
    | some v => ∀ b, h b = none → K (.pointer (some ⟨b, 0, none⟩)) (hupd h b (.cells v.cells E))
    | none => False
  | .lit E n z ps => match (evp e ps).bind (fillV z) with
    | some c => ∀ b, h b = none → K (.slice (some ⟨b, 0, none⟩) n n) (hupd h b (.cells c E))
    | none => False
  | .st a x => match ev e a, ev e x with
    | some (.pointer (some p)), some v => storeH h p [v] fun h' => K undef h'
    | _, _ => False
  | .stn n a x => match ev e a, ev e x with
    | some (.pointer (some p)), some v => v.cells.size = n ∧ storeH h p v.cells.toList fun h' => K undef h'
    | _, _ => False
  | .cvsb E x => match ev e x with
    | some (.string s) => ∀ c, s.size ≤ c → ∀ b, h b = none →
      K (.slice (some ⟨b, 0, none⟩) s.size c) (hupd h b (.cells (strCells s c) E (c, c + 1)))
    | _ => False
  | .mkslice E size bytes z l c => match ev e l, ev e c with
    | some (.int _ n), some (.int _ m) => (0 ≤ n ∧ n ≤ m ∧ m ≤ 9223372036854775807 ∧ bytes * m ≤ 281474976710656) ∧
      ∀ b, h b = none → K (.slice (some ⟨b, 0, none⟩) n.toNat m.toNat) (hupd h b (.cells (Builtin.zeroCells z m.toNat) E))
    | _, _ => False
  | .app E size bytes z s x => match ev e s, ev e x with
    | some s, some x => appM E size bytes z s x h K
    | _, _ => False
  | .cpy size d s => match ev e d, ev e s with
    | some (.slice base dl _), some s => match srcLen s with
      | some n => match srcCells h size (min n dl) s, base with
        | some new, some a => storeH h a new.toList fun h' => K (.int .i64 (min n dl : Nat)) h'
        | some _, none => K (.int .i64 (min n dl : Nat)) h
        | none, _ => False
      | none => False
    | _, _ => False
  | .call f args => match evs e args with
    | some vs => callK P f vs.toArray h K X
    | none => False
  | .xc f args => match evs e args with
    | some vs => ∀ w, hp w = h → ∃ v w', (callFunc f vs.toArray).run P w = .ok (.value v) w' ∧ Kin w w' ∧ K v (hp w')
    | none => False
  | .callv x args => match ev e x, evs e args with
    | some (.func (.func f) first cap), some vs => callable P f = true ∧ callK P f (first ++ vs.toArray ++ cap) h K X
    | some (.func (.yield l) ⟨[]⟩ ⟨[]⟩), some vs => yieldM P l vs h K X
    | _, _ => False
  | .cvbs x => match ev e x with
    | some (.slice none _ _) => K (.string .empty) h
    | some (.slice (some p) n _) => match cellsAt h p n with
      | some cs => (cs.toList.all isByte = true) ∧ K (.string (ofCells cs)) h
      | none => False
    | _ => False
  | .pnc x => match ev e x with
    | some (.iface t v) => X [{ v := .iface t v, recovered := false }] h
    | _ => False
  | .raw o => ∀ (a : Act) (w : World), agree e a → hp w = h → ∃ v w', ((execOp a.eval o).run P w = .ok (.value v) w' ∨ ((execOp a.eval o).run P w = .ok .skip w' ∧ v = undef)) ∧ Kin w w' ∧ K v (hp w')
  | .bad => False
  | l => opt (qV l e h) h K

/-- A guard's answer. -/
def gW (v : Value) (want : Bool) : Bool :=
  match v with
  | .bool b => b == want
  | _ => false
def guardM (e : Env) (g : Option (Nat × Bool)) (A B : Prop) : Prop :=
  match g with
  | none => A
  | some (t, want) => match e.get t with
    | some v => (gW v want = true → A) ∧ (gW v want = false → B)
    | none => False

def vcOps (P : Program) : List LO → (K : Env → H → Prop) → (X : List PanicEntry → H → Prop) → Env → H → Prop
  | [], K, _, e, h => K e h
  | o :: r, K, X, e, h => guardM e o.g (lM P o.l e h (fun v h' => vcOps P r K X (e.put o.d v) h') X) (vcOps P r K X (e.put o.d undef) h)

/-- Facts on memory that must stand while other effects go by: which operation, its reading. -/
def stab (S : List Nat) (l : List (Nat × L × Env × Value)) (h : H) : Prop :=
  match l with
  | [] => True
  | (i, o, e, v) :: r => (if S.contains i then qV o e h = some v ∧ stab S r h else stab S r h)
def vcDT (P : Program) : DT → (K : Env → H → Prop) → (X : List PanicEntry → H → Prop) → List (Nat × L × Env × Value) → Env → H → Prop
  | .done, K, _, _, e, h => K e h
  | .q i o r, K, X, S, e, h => guardM e o.g (opt (qV o.l e h) h fun v h' => vcDT P r K X (if isLd o.l then (i, o.l, e, v) :: S else S) (e.put o.d v) h') (vcDT P r K X S (e.put o.d undef) h)
  | .e _ Z o r, K, X, S, e, h => guardM e o.g (lM P o.l e h (fun v h' => stab Z S h' ∧ vcDT P r K X S (e.put o.d v) h') X) (vcDT P r K X S (e.put o.d undef) h)
  | .al _ Z o r t, K, X, S, e, h =>
    guardM e o.g (lM P o.l e h (fun v h' => stab Z S h' ∧ vcDT P r K X S (e.put o.d v) h') X) (vcDT P r K X S (e.put o.d undef) h) ∧ vcDT P t K X S e h

abbrev Post := Exit → Env → H → Prop

def condM (v : Option Value) (A B : Prop) : Prop :=
  match v with
  | some (.bool b) => (b = true → A) ∧ (b = false → B)
  | _ => False

def loopI (S : List Nat) (K : List Nat) (body : Post → Env → H → Prop) (Q : Post) (e : Env) (h : H) : Prop :=
  ∃ (I : List Value → H → Prop) (μ : List Value → H → Nat),
    (∃ vs, evs e (S.map .tmp) = some vs ∧ I vs h) ∧
    ∀ vs h', vs.length = S.length → I vs h' →
      body (fun x e' h'' => match x with
        | .normal => (∃ vs', evs e' (S.map .tmp) = some vs' ∧ I vs' h'' ∧ μ vs' h'' < μ vs h') ∧ e'.keep K = e.keep K
        | x => Q x e' h'') (S.zip vs ++ e.keep K) h'

def lft (r : Loop) (c : Code) : Loop := { r with state := .done, pending := some c }
/-- A range over a function: what a round does, what follows. -/
def rfI (P : Program) (g : Operand) (ps K Kb : List Nat) (a b : Post → Env → H → Prop) (Q : Post) (e : Env) (h : H) : Prop :=
  match ev e g with
  | some (.func (.func gf) ⟨[]⟩ lb) => callable P gf = true ∧
    ∀ (L : Nat) (r : Loop), h L = none → r.state = .ready → r.pending = none →
      (∀ (args : List Value) (h1 : H) (Y : Bool → H → Prop), args.length = ps.length → h1 L = some (.loop r) →
        a (fun x e1 h2 => x = .normal ∧ h2 L = some (.loop r) ∧ b (fun x e2 h3 => h3 L = none → match x with
            | .normal => Y true (hupd h3 L (.loop r))
            | .ret => Y false (hupd h3 L (.loop (lft r .ret)))
            | .exit i => Y false (hupd h3 L (.loop (lft r (.exit i))))
            | _ => False) (e1.keep Kb) (hdel h2 L)) (ps.zip args ++ e.keep K) h1 → yieldE P L args h1 Y) →
      callK P gf (#[.func (.yield L) #[] #[]] ++ lb) (hupd h L (.loop r))
        (fun _ h2 => (h2 L = some (.loop r) ∧ Q .normal (e.keep K) (hdel h2 L)) ∨ (h2 L = some (.loop (lft r .ret)) ∧ Q .ret (e.keep K) (hdel h2 L)) ∨ ∃ i, h2 L = some (.loop (lft r (.exit i))) ∧ Q (.exit i) (e.keep K) (hdel h2 L))
        (fun c h2 => Q (.panic c) [] h2)
  | _ => False

def noGQ (Q : Post) : Post := fun x e h =>
  match x with
  | .goto _ => False
  | x => Q x e h
def vc (P : Program) : LC → Post → Env → H → Prop
  | .skip, Q, e, h => Q .normal e h
  | .ret, Q, e, h => Q .ret e h
  | .ops l, Q, e, h => vcOps P l (fun e' h' => Q .normal e' h') (fun c h' => Q (.panic c) [] h') e h
  | .draw t, Q, e, h => vcDT P t (fun e' h' => Q .normal e' h') (fun c h' => Q (.panic c) [] h') [] e h
  | .seq a L b, Q, e, h => vc P a (fun x e' h' => match x with
    | .normal => vc P b Q (e'.keep L) h'
    | x => Q x e' h') e h
  | .cond c a b, Q, e, h => condM (ev e c) (vc P a Q e h) (vc P b Q e h)
  | .block id c, Q, e, h => vc P c (fun x e' h' => match x with
    | .exit i => if i = id then Q .normal e' h' else Q (.exit i) e' h'
    | x => Q x e' h') e h
  | .loop S K c, Q, e, h => loopI S K (vc P c) Q e h
  | .rf g ps K Kb a b, Q, e, h => rfI P g ps K Kb (vc P a) (vc P b) Q e h
  | .scope c, Q, e, h => vc P c (noGQ Q) e h
  | .exit id, Q, e, h => Q (.exit id) e h
  | .goto l, Q, e, h => Q (.goto l) e h
  | .bad, _, _, _ => False

/-- A function's end. -/
def retQ (res : List Nat) (R : Ending → H → Prop) : Post := fun x e h =>
  match x with
  | .ret | .normal => match evs e (res.map .tmp) with
    | some [v] => R (.returned v) h
    | some vs => R (.returned (.tuple vs.toArray)) h
    | none => False
  | .panic c => R (.panicked c) h
  | _ => False
end Go.Proofs.YtooimdgoibdhlaaDoor
