/-
  Lowering of operations: plain operations with all type look-ups done.
-/
import Derived.Test.YtojhnclkhiffkaaK1
import Derived.Conc.AppendEvents3
import Derived.Conc.EventLaws2
namespace Go.Proofs.Ytojhnclkhiffkaa
set_option linter.unusedVariables false

def eqkOf (P : Program) (t : TypeId) : EqK :=
  match P.underlying t with
  | some .bool => .bool
  | some (.pointer e) => (match P.info? e with | some i => if i.size = 0 then .other else .ptr | none => .other)
  | some (.slice _) => .slice
  | some (.map _ _) => .map
  | some (.func _ _ _) => .func
  | some (.interface _) => .iface
  | _ => .other

def partsOf (f : Nat → Option (Nat × Nat)) : List (Nat × Operand) → Option (List (Nat × Nat × Operand))
  | [] => some []
  | (i, x) :: r => match f i, partsOf f r with
    | some (o, n), some l => some ((o, n, x) :: l)
    | _, _ => none

/-- An operation without its place in the text. -/
def bare (o : Oper) : Oper := { o with pos := "", after := #[], guard := none }

def lowBuiltin (P : Program) (o : Oper) (b : Builtin) (args : List Operand) (ts : List TypeId) : L :=
  match b, args, ts with
  | .len, [x], [t] => match P.underlying t with
    | some .string => .lens x
    | some (.slice _) => .lenl x
    | some (.array n _) => .lenc n
    | some (.pointer arr) => (match P.underlying arr with | some (.array n _) => .lenc n | _ => .raw (bare o))
    | _ => .raw (bare o)
  | .cap, [x], [t] => match P.underlying t with
    | some (.slice _) => .capl x
    | _ => .raw (bare o)
  | .append, [s, x], [t, u] => match P.underlying t, P.underlying u with
    | some (.slice _), some (.int _) => .raw (bare o)
    | some (.slice E), some _ => (match P.info? E with
      | some i => (match i.zero with | some z => .app E i.size i.bytes z.cells s x | none => .raw (bare o))
      | none => .raw (bare o))
    | _, _ => .raw (bare o)
  | .copy, [d, s], t :: _ => match P.underlying t with
    | some (.slice E) => (match P.info? E with | some i => .cpy i.size d s | none => .raw (bare o))
    | _ => .raw (bare o)
  | .min, [x, y], _ => .mn x y
  | .max, [x, y], _ => .mx x y
  | _, _, _ => .raw (bare o)

def isAggB (P : Program) (t : TypeId) : Bool :=
  match P.underlying t with
  | some (.struct _) | some (.array _ _) => true
  | _ => false
def lowFunc (P : Program) (o : Oper) (f : FuncId) (args : List Operand) : L :=
  if callable P f = true then .call f args else .xc f args

/-- The literal nil of an interface's type. -/
def isStB (P : Program) (t : TypeId) : Bool := match P.underlying t with
  | some (.struct _) => true
  | _ => false
def isNilC : Operand → Bool
  | .const .nilIface => true
  | _ => false
def lowOp (P : Program) (o : Oper) : L :=
  match o.op with
  | .move x | .assign x => .mv x
  | .pick c a b => .pick c a b
  | .alloc E => match P.info? E with
    | some i => (match i.zero with | some z => .new E z.cells | none => .raw (bare o))
    | none => .raw (bare o)
  | .box E x => .box E x
  | .build t ps => match P.info? t, P.underlying t with
    | some i, some (.struct fs) => (match i.zero, fs.all (fun f => (P.info? f.type).isSome), partsOf (fun j => (fs[j]?).map fun f => (f.offset, P.cellsOf f.type)) ps.toList with
      | some z, true, some l => .agg z.cells l
      | _, _, _ => .raw (bare o))
    | some i, some (.array _ E) => (match i.zero, P.info? E, partsOf (fun j => some (j * P.cellsOf E, P.cellsOf E)) ps.toList with
      | some z, some _, some l => .agg z.cells l
      | _, _, _ => .raw (bare o))
    | _, _ => .raw (bare o)
  | .buildSlice t n ps => match P.underlying t with
    | some (.slice E) => (match P.info? E, partsOf (fun j => some (j * P.cellsOf E, P.cellsOf E)) ps.toList with
      | some i, some l => (match i.zero with
        | some z => if n * i.size ≤ 16777216 ∧ z.cells.size = i.size then .lit E n (Builtin.zeroCells z.cells n) l else .raw (bare o)
        | none => .raw (bare o))
      | _, _ => .raw (bare o))
    | _ => .raw (bare o)
  | .load t a => match P.underlying t, P.info? t with
    | some (.struct _), some i | some (.array _ _), some i => .ldn i.size a
    | some _, some _ => .ld a
    | _, _ => .raw (bare o)
  | .store t a x => match P.info? t with
    | some i => if i.size = 1 ∧ isAggB P t = false then .st a x else .stn i.size a x
    | none => .raw (bare o)
  | .nilCheck x => .nilck x
  | .binOp op t x y _ => if (isNilC y || isStB P t) = true then .raw (bare o) else .bin op (eqkOf P t) x y
  | .unOp op _ x => .un op x
  | .convert s d x => match P.underlying s, P.underlying d with
    | some (.int _), some (.int k) => .cvi k x
    | some .string, some .string => .cvss x
    | some .string, some (.slice E) => (match P.underlying E with | some (.int .u8) => .cvsb E x | _ => .raw (bare o))
    | some (.slice E), some .string => (match P.underlying E with | some (.int .u8) => .cvbs x | _ => .raw (bare o))
    | _, _ => .raw (bare o)
  | .makeInterface t x => match P.underlying t with
    | some (.interface _) => .raw (bare o)
    | some _ => .iface t x
    | none => .raw (bare o)
  | .makeFunc fn first cap => .mkfn fn first.toList cap.toList
  | .makeSlice t l c => match P.underlying t with
    | some (.slice E) => (match P.info? E with
      | some i => (match i.zero with | some z => if z.cells.size = i.size then .mkslice E i.size i.bytes z.cells l c else .raw (bare o) | none => .raw (bare o))
      | none => .raw (bare o))
    | _ => .raw (bare o)
  | .slice t x lo hi mx => match P.underlying t with
    | some .string => (match mx with | none => .slcs x lo hi | some _ => .raw (bare o))
    | some (.slice E) => (match P.info? E with | some i => if mx.isSome = true ∧ hi.isNone = true then .raw (bare o) else .slc i.size x lo hi mx | none => .raw (bare o))
    | some (.array n E) => (match P.info? E with | some i => if mx.isSome = true ∧ hi.isNone = true then .raw (bare o) else .slca n i.size x lo hi mx | none => .raw (bare o))
    | _ => .raw (bare o)
  | .fieldAddr s x f => match P.underlying s with
    | some (.struct fs) => (match fs[f]? with
      | some fd => (match P.info? fd.type with | some i => if i.size = 0 then .raw (bare o) else .lea fd.offset x | none => .raw (bare o))
      | none => .raw (bare o))
    | _ => .raw (bare o)
  | .field s x f => match P.underlying s with
    | some (.struct fs) => (match fs[f]? with
      | some fd => (match P.underlying fd.type, P.info? fd.type with
        | some (.struct _), some i | some (.array _ _), some i => .fldn fd.offset i.size x
        | some _, some _ => .fld fd.offset x
        | _, _ => .raw (bare o))
      | none => .raw (bare o))
    | _ => .raw (bare o)
  | .indexAddr t x ix => match P.underlying t with
    | some (.slice E) => (match P.info? E with | some i => .idx i.size x ix | none => .raw (bare o))
    | some (.array n E) => (match P.info? E with | some i => .idxp n i.size x ix | none => .raw (bare o))
    | _ => .raw (bare o)
  | .index t x ix => match P.underlying t with
    | some .string => .idxs x ix
    | some (.array n E) => (match P.underlying E, P.info? E with
      | some (.struct _), some i | some (.array _ _), some i => .idxvn n i.size x ix
      | some _, some i => if i.size = 1 then .idxv n x ix else .raw (bare o)
      | _, _ => .raw (bare o))
    | _ => .raw (bare o)
  | .extract x i => .ext x i
  | .panic x => .pnc x
  | .call ⟨.value (.func f), args, _⟩ => lowFunc P o f args.toList
  | .call ⟨.value (.tmp t), args, _⟩ => .callv (.tmp t) args.toList
  | .call ⟨.builtin b, args, ts⟩ => lowBuiltin P o b args.toList ts.toList
  | _ => .raw (bare o)

/-! ### The operations that only read -/
theorem ev_sound {e : Env} {a : Act} (ha : agree e a) {x : Operand} {v : Value} (h : ev e x = some v) : a.eval x = v := by
  cases x with
  | tmp t => have := ha t v h; simp [Act.eval, Array.getD_eq_getD_getElem?, this]
  | const c => simpa [ev, Act.eval] using h
  | global g => simpa [ev, Act.eval] using h
  | func f => simpa [ev, Act.eval] using h
theorem evs_sound {e : Env} {a : Act} (ha : agree e a) : ∀ {xs : List Operand} {vs : List Value}, evs e xs = some vs → xs.map a.eval = vs
  | [], vs, h => by simp only [evs, Option.some.injEq] at h; subst h; rfl
  | x :: r, vs, h => by
    simp only [evs, Option.bind_eq_some_iff] at h
    obtain ⟨v, hv, ws, hw, h⟩ := h
    simp only [Option.some.injEq] at h
    rw [← h, List.map_cons, ev_sound ha hv, evs_sound ha hw]
theorem evs_arr {e : Env} {a : Act} (ha : agree e a) {xs : Array Operand} {vs : List Value} (h : evs e xs.toList = some vs) : xs.map a.eval = vs.toArray := by
  rw [← evs_sound ha h, List.map_toArray.symm]

theorem run_info {P : Program} {t : TypeId} {i : TypeInfo} (h : P.info? t = some i) (w : World) : (typeInfo t).run P w = .ok i w := by simp [typeInfo, h]
theorem run_size {P : Program} {t : TypeId} {i : TypeInfo} (h : P.info? t = some i) (w : World) : (sizeOf t).run P w = .ok i.size w := by simp [sizeOf, run_info h]
theorem run_zero {P : Program} {t : TypeId} {i : TypeInfo} {z : Value} (h : P.info? t = some i) (hz : i.zero = some z) (w : World) : (zeroValue t).run P w = .ok z w := by simp [zeroValue, run_info h, hz]
theorem und_info {P : Program} {t : TypeId} {d : TypeDesc} (h : P.underlying t = some d) : ∃ i, P.info? t = some i := by
  cases hi : P.info? t with
  | none => unfold Program.underlying at h; rw [hi] at h; cases h
  | some i => exact ⟨i, rfl⟩
theorem cell_of {w : World} {h : H} (hw : Hol h w) {p : Addr} {v : Value} (hc : cellAt h p = some v) : w.cell? p = some v := by
  unfold cellAt at hc
  unfold World.cell?
  split at hc
  · rename_i c E fr hb
    have := hw _ _ hb
    simp only [HolO, oneOf_cells, noteOf_cells] at this
    split at this
    · obtain ⟨fr', hx, _⟩ := this
      rw [hx]; exact hc
    · rw [this]; exact hc
  · rename_i o _ hb
    split at hc
    · rename_i i u n E ho
      have := hw _ _ hb
      simp only [HolO, ho] at this
      obtain ⟨c, hx, _, hi⟩ := this
      rw [hx]
      split at hc
      · cases hc
      · rename_i hs
        simp only [hs, Bool.false_eq_true, if_false]
        split at hc
        · rename_i he
          rw [he]; rw [hi]; exact hc
        · cases hc
    · cases hc
  · cases hc
theorem run_ld {P : Program} {w : World} {h : H} (hw : Hol h w) {p : Addr} {v : Value} (hc : cellAt h p = some v) : (load p).run P w = .ok v w := by
  simp [run_load, cell_of hw hc]
theorem add_zero (p : Addr) : p.add 0 = p := by simp [Addr.add]
theorem add_off (p : Addr) (n : Nat) : (p.add n).off = p.off + n := by unfold Addr.add; split <;> simp_all
theorem add_block (p : Addr) (n : Nat) : (p.add n).block = p.block := by unfold Addr.add; split <;> simp_all
theorem add_spot {p : Addr} (h : p.spot = none) (n : Nat) : (p.add n).spot = none := by unfold Addr.add; split <;> simp_all
theorem add_mk (b o n : Nat) : (⟨b, o, none⟩ : Addr).add n = ⟨b, o + n, none⟩ := by unfold Addr.add; split <;> simp_all
theorem add_add {p : Addr} (h : p.spot = none) (m n : Nat) : (p.add m).add n = p.add (m + n) := by
  obtain ⟨b, o, s⟩ := p
  simp only at h; subst h
  simp [add_mk, Nat.add_assoc]
theorem cellsAt_spec {h : H} {p : Addr} {n : Nat} {cs : Array Value} (hc : cellsAt h p n = some cs) :
    cs.size = n ∧ ∀ j v, cs[j]? = some v → cellAt h (p.add j) = some v := by
  unfold cellsAt at hc
  split at hc
  · rename_i h0; subst h0
    simp only [Option.some.injEq] at hc; subst hc
    exact ⟨rfl, fun j v hj => by simp at hj⟩
  split at hc
  · rename_i c E fr hb
    split at hc
    · rename_i hx
      simp only [Bool.and_eq_true, decide_eq_true_eq, Option.isNone_iff_eq_none] at hx
      obtain ⟨hs, hl⟩ := hx
      simp only [Option.some.injEq] at hc
      subst hc
      refine ⟨by simp; omega, fun j v hj => ?_⟩
      have hlt : j < n := by
        have := (Array.getElem?_eq_some_iff.1 hj).1
        simp at this; omega
      have : c[p.off + j]? = some v := by
        rw [← hj, Array.getElem?_extract]
        rw [if_pos (by omega)]
      unfold cellAt
      rw [add_block, hb]
      simp [add_spot hs, add_off, this]
    · cases hc
  · cases hc
theorem run_lds {P : Program} {w : World} {h : H} (hw : Hol h w) {p : Addr} {n : Nat} {cs : Array Value} (hc : cellsAt h p n = some cs) : (loadCells p n).run P w = .ok cs w := by
  obtain ⟨h1, h2⟩ := cellsAt_spec hc
  have := run_loadCells_list (P := P) (w := w) p cs.toList (fun j v hj => cell_of hw (h2 j v (by simpa using hj)))
  simpa [h1] using this

/-! ### What loads list -/
theorem EvO_read {h : H} {p : Addr} {v : Value} (hc : cellAt h p = some v) {e : Event} (he : e.loc = .cell p) (hw : e.write = false) : EvO h e := by
  unfold cellAt at hc
  simp only [EvO, he]
  split at hc
  · rename_i c E fr hb
    exact .inl ⟨c, E, fr, hb, fun h => by rw [hw] at h; cases h⟩
  · rename_i o _ hb
    split at hc
    · rename_i i u n E ho
      split at hc
      · cases hc
      · rename_i hs
        split at hc
        · rename_i he
          exact .inr ⟨by simpa using hs, o, u, n, E, hb, by rw [he]; exact ho⟩
        · cases hc
    · cases hc
  · cases hc
theorem ev_ld {P : Program} {w : World} {h : H} (hw : Hol h w) {p : Addr} {v : Value} (hc : cellAt h p = some v) : ∀ e ∈ (load p).events P w #[], EvO h e := by
  intro e he
  rw [events_load, cell_of hw hc] at he
  simp only [List.push_toArray, List.nil_append, List.mem_toArray, List.mem_singleton] at he
  subst he
  exact EvO_read hc rfl rfl
theorem ev_ldsFrom {P : Program} {w : World} {h : H} (hw : Hol h w) {p : Addr} : ∀ (n i : Nat) (acc : Array Value) (es : Array Event), (∀ j, j < n → ∃ v, cellAt h (p.add (i + j)) = some v) →
    ∀ e ∈ (loadCellsFrom p i n acc).events P w es, e ∈ es ∨ EvO h e
  | 0, i, acc, es, _, e, he => .inl (by simpa [loadCellsFrom] using he)
  | n + 1, i, acc, es, hc, e, he => by
    obtain ⟨v, hv⟩ := hc 0 (by omega)
    have hcell := cell_of hw hv
    simp only [Nat.add_zero] at hv hcell
    simp only [loadCellsFrom, Sem.events_bind, run_load, hcell, events_load, Result.evThen_ok] at he
    rcases ev_ldsFrom hw n (i + 1) _ _ (fun j hj => by obtain ⟨v, hv⟩ := hc (j + 1) (by omega); exact ⟨v, by rwa [show i + 1 + j = i + (j + 1) by omega]⟩) e he with h1 | h1
    · rcases Array.mem_push.1 h1 with h1 | rfl
      · exact .inl h1
      · exact .inr (EvO_read hv rfl rfl)
    · exact .inr h1
theorem ev_lds' {P : Program} {w : World} {h : H} (hw : Hol h w) {p : Addr} {n : Nat} {cs : Array Value} (hc : cellsAt h p n = some cs) (es : Array Event) : ∀ e ∈ (loadCells p n).events P w es, e ∈ es ∨ EvO h e := by
  obtain ⟨h1, h2⟩ := cellsAt_spec hc
  exact ev_ldsFrom hw n 0 #[] es fun j hj => ⟨cs[j]'(by omega), by rw [Nat.zero_add]; exact h2 j _ (by simp [h1, hj])⟩
theorem ev_lds {P : Program} {w : World} {h : H} (hw : Hol h w) {p : Addr} {n : Nat} {cs : Array Value} (hc : cellsAt h p n = some cs) : ∀ e ∈ (loadCells p n).events P w #[], EvO h e :=
  fun e he => (ev_lds' hw hc #[] e he).resolve_left (by simp)

theorem foldl_splice (l : List Value) : ∀ (o k : Nat) (c : Array Value), (l.zipIdx k).foldl (fun cs x => cs.setIfInBounds (o + x.2) x.1) c = splice c (o + k) l := by
  induction l with
  | nil => intro o k c; rfl
  | cons v r ih =>
    intro o k c
    simp only [List.zipIdx_cons, List.foldl_cons, splice]
    rw [ih]
    congr 1
theorem size_splice (l : List Value) : ∀ (o : Nat) (c : Array Value), (splice c o l).size = c.size := by
  induction l with
  | nil => intro o c; rfl
  | cons v r ih => intro o c; simp [splice, ih]
theorem fill_sound {e : Env} {a : Act} (ha : agree e a) (f : Nat → Option (Nat × Nat)) : ∀ (ps : List (Nat × Operand)) (l : List (Nat × Nat × Operand)) (vs : List (Nat × Nat × Value)) (c c' : Array Value),
    partsOf f ps = some l → evp e l = some vs → fillV c vs = some c' → Instr.fill f c (ps.map fun x => (x.1, a.eval x.2)) = some c'
  | [], l, vs, c, c', h1, h2, h3 => by
    simp only [partsOf, Option.some.injEq] at h1; subst h1
    simp only [evp, Option.some.injEq] at h2; subst h2
    simpa [Instr.fill, fillV] using h3
  | (i, x) :: r, l, vs, c, c', h1, h2, h3 => by
    simp only [partsOf] at h1
    split at h1
    · rename_i o n l' hf hp
      simp only [Option.some.injEq] at h1; subst h1
      simp only [evp, Option.bind_eq_some_iff] at h2
      obtain ⟨v, hv, ws, hw, h2⟩ := h2
      simp only [Option.some.injEq] at h2; subst h2
      simp only [fillV] at h3
      split at h3
      · rename_i hs
        obtain ⟨hs1, hs2⟩ := hs
        have hev := ev_sound ha hv
        simp only [List.map_cons, Instr.fill, hf, hev]
        rw [if_neg (by simp [hs1]; omega)]
        have : v.cells.zipIdx.foldl (fun cs x => cs.setIfInBounds (o + x.2) x.1) c = splice c o v.cells.toList := by
          rw [← Array.foldl_toList, Array.toList_zipIdx]
          simpa using foldl_splice v.cells.toList o 0 c
        refine Eq.trans ?_ (fill_sound ha f r l' ws _ c' hp hw h3)
        rw [← this]
      · cases h3
    · cases h1


theorem bnd_sound {e : Env} {a : Act} (ha : agree e a) {x : Option Operand} {d : Nat} {n : Int} (h : bnd e x d = some n) :
    (x = none ∧ n = d) ∨ (∃ y k, x = some y ∧ a.eval y = .int k n) := by
  cases x with
  | none => simp only [bnd, Option.some.injEq] at h; exact .inl ⟨rfl, h.symm⟩
  | some y =>
    simp only [bnd, Option.bind_eq_some_iff] at h
    obtain ⟨v, hv, h⟩ := h
    split at h
    · rename_i k m
      simp only [Option.some.injEq] at h; subst h
      exact .inr ⟨y, k, rfl, ev_sound ha hv⟩
    · cases h
theorem run_bound (P : Program) (w : World) (k : IntKind) (i : Int) (y : Nat) (code : BoundsCode) (h0 : 0 ≤ i) (h1 : i ≤ y) : (Instr.sliceBound (.int k i) y code).run P w = .ok i.toNat w := by
  simp [Instr.sliceBound, asIntOf, h0, h1]
theorem run_bounds {P : Program} {w : World} {e : Env} {a : Act} (ha : agree e a) (isS : Bool) (len cap : Nat) (lo hi mx : Option Operand) (l h' m : Int)
    (hm : bnd e mx cap = some m) (hh : bnd e hi len = some h') (hl : bnd e lo 0 = some l) (h1 : 0 ≤ l) (h2 : l ≤ h') (h3 : h' ≤ m) (h4 : m ≤ cap) (h5 : mx.isSome = true → hi.isSome = true) (h6 : mx = none → m = cap) :
    (Instr.sliceBounds isS len cap (lo.map a.eval) (hi.map a.eval) (mx.map a.eval)).run P w = .ok (l.toNat, h'.toNat, m.toNat) w := by
  unfold Instr.sliceBounds
  rcases bnd_sound ha hm with ⟨e1, e2⟩ | ⟨y1, k1, e1, e2⟩ <;> rcases bnd_sound ha hh with ⟨e3, e4⟩ | ⟨y2, k2, e3, e4⟩ <;> rcases bnd_sound ha hl with ⟨e5, e6⟩ | ⟨y3, k3, e5, e6⟩ <;> subst e1 <;> subst e3 <;> subst e5 <;>
    simp only [Option.isSome_some, Option.isSome_none, forall_const, Bool.false_eq_true, false_imp_iff, reduceCtorEq] at h5 h6 <;> (try subst e2) <;> (try subst e4) <;> (try subst e6) <;>
    simp (disch := omega) [run_bound, *]
end Go.Proofs.Ytojhnclkhiffkaa
