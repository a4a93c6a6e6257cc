/-
  A worker's goroutine: its birth, its work, its deferred Done.
-/
import Derived.Test.YtojhnclkhiffkaaM2
import Derived.Conc.WgGenN2

namespace Go.Proofs.Ytojhnclkhiffkaa
open Go.Conc Go.ConcN Go.RowKit Go.Conc.Lib Go.ConcR.Gen Go.ConcN.Gen
open Go.ConcR (KK wgBlock WgAt stA smA rd wr mk Payload Aside2 DC0)
set_option linter.unusedVariables false
set_option linter.unusedSimpArgs false

noncomputable def botG : Frame := { (default : Frame) with fn := Try.prog.funcs.size, defers := [], mode := .panicking [goexitEntry] }
/-- The call that the go statement of 'all' holds. -/
def call44 (Wg wb ib : Nat) : Deferred := { target := .fn (.func 44) #[.pointer (some ⟨Wg, 0, none⟩), .pointer (some ⟨wb, 0, none⟩), .pointer (some ⟨ib, 0, none⟩)], args := #[] }
def t44 (Wg wb ib : Nat) : Array Value := #[.pointer (some ⟨Wg, 0, none⟩), .pointer (some ⟨wb, 0, none⟩), .pointer (some ⟨ib, 0, none⟩), undef, undef, undef]
theorem born44 (Wg wb ib : Nat) (w : World) : stepG Try.prog false (born Try.prog (call44 Wg wb ib)) w =
    .go (G ((baseD 44).at ⟨t44 Wg wb ib, []⟩ [.code (Try.f44.body.getD .skip)]) [botG]) w #[] := by
  simp [born, call44, t44, stepG, unwind, callDeferred, invoke, callFunc, Try.func44, Try.f44, seen, GStep.after, G, Frame.enter, Frame.at, baseD, botG]
/-- Its own way out, once Done has left: it only leaves. -/
theorem quits44 (T : Array Value) (todo : List Item) : QuitsD Try.prog 2 0 (G { (baseD 44).at ⟨T, []⟩ todo with mode := .returning } [botG]) := by
  refine QuitsD.ctl (g' := G botG []) rfl (fun w => ?_) ?_
  · simp [G, stepG, unwind, doReturn, results, Frame.at, baseD, botG, Try.func44, Try.f44, seen, GStep.after, goexitEntry]
  refine QuitsD.ctl (g' := { G botG [] with status := .finished }) rfl (fun w => ?_) ⟨rfl, rfl⟩
  simp [G, stepG, unwind, botG, goexitEntry, Frame.catches]
  rfl

section
variable {pr : Pro} {h : H} {Wg wb ib : Nat} {i : Int} {d : Value} {f : FuncId} {first cap : Array Value}
theorem leaf44 (T : Array Value) (todo : List Item) (htg : pr.tg = lnk.tWg) (hW : h Wg = some (nW pr d)) {E : TypeId} {v : Value} (hi : h ib = some (.cells #[v] E)) (hp : pr.post d (hdel h ib)) :
    JW pr Try.prog (G { (baseD 44).at ⟨T, [dcall 45 #[.pointer (some ⟨Wg, 0, none⟩)]]⟩ todo with mode := .returning } [botG]) h := by
  refine Cx.idle (P := CW pr Try.prog) rfl (fun w => stepG_unwind_enter rfl Try.func45 (nm_done lnk) rfl) ?_
  refine JW.of (.leaf rfl Wg ib E v d hW hi hp fun w hh => ⟨23, ?_⟩)
  have hl : WgLive lnk.tWg Wg w := by
    obtain ⟨c, h1, _, _, h4⟩ := HolO_note.1 (hh _ _ hW)
    obtain ⟨st, sm, rfl⟩ := h4 (Nat.le_refl _)
    exact ⟨st, sm, by rw [← htg]; exact h1⟩
  have hv : w.cell? ⟨ib, 0, none⟩ = some v := by
    have this : w.heap[ib]? = some (.cells #[v] E) := hh.blk hi
    simp [World.cell?, this]
  have hA := @doneN ⟨E⟩ lnk Try.prog wgLib noL noL Wg ib 1 0 1 v _ [botG] 2 rfl (quits44 T todo) w ⟨hl, hv⟩
  rw [htg]
  exact hA
/-- A worker, from its birth. -/
theorem child44 (htg : pr.tg = lnk.tWg) (hw : cellAt h ⟨wb, 0, none⟩ = some (.func (.func f) first cap)) (hiv : cellAt h ⟨ib, 0, none⟩ = some (.int .i64 i)) (hc : callable Try.prog f = true)
    (hwork : Does (CW pr Try.prog) (callFunc f (first ++ #[.int .i64 i] ++ cap)) h fun _ h' => h' Wg = some (nW pr d) ∧ (∃ E v, h' ib = some (.cells #[v] E)) ∧ pr.post d (hdel h' ib)) :
    JW pr Try.prog (born Try.prog (call44 Wg wb ib)) h := by
  refine Cx.idle (P := CW pr Try.prog) rfl (born44 Wg wb ib) ?_
  show JW pr Try.prog (G ((baseD 44).at ⟨t44 Wg wb ib, []⟩ [.code (.seq _ c44_rest)]) [botG]) h
  refine Cx.idle (P := CW pr Try.prog) rfl (fun w => stepG_seq) ?_
  refine Cx.idle (P := CW pr Try.prog) rfl (fun w => stepG_region) ?_
  refine Cx.idle (P := CW pr Try.prog) rfl (fun w => stepG_defer rfl rfl (by simp [baseD]) rfl) ?_
  refine Cx.idle (P := CW pr Try.prog) rfl (fun w => stepG_region_end) ?_
  refine vc_sound (P := CW pr Try.prog) c44_rest (n := ⟨0, 6⟩) (ds := [dcall 45 #[.pointer (some ⟨Wg, 0, none⟩)]]) .leaf (fun x _ h' => x = .normal ∧ h' Wg = some (nW pr d) ∧ (∃ E v, h' ib = some (.cells #[v] E)) ∧ pr.post d (hdel h' ib))
    (argEnv [.pointer (some ⟨Wg, 0, none⟩), .pointer (some ⟨wb, 0, none⟩), .pointer (some ⟨ib, 0, none⟩)] 0) h _ ⟨by simp [Act.put, dcall]; rfl, rfl, ?_⟩ ?_ (baseD 44) [] [botG] (by simp [baseD]) ?_
  · intro t v hg
    obtain ⟨_, h2⟩ := argEnv_get _ 0 t v hg
    simp only [Nat.sub_zero] at h2
    have hlt := (List.getElem?_eq_some_iff.1 h2).1
    simp only [List.length_cons, List.length_nil] at hlt
    match t, hlt with
    | 0, _ => exact h2
    | 1, _ => exact h2
    | 2, _ => exact h2
  · rw [c44_low]
    simp only [c44]
    simp (disch := omega) only [dm_t, wS, simprocAttr, IntKind.bits, hw, hiv]
    refine ⟨hc, Does.mono hwork fun _ h' hq => ?_⟩
    simp (disch := omega) only [dm_t, wS, simprocAttr, IntKind.bits]
    exact hq
  · rintro x e' h' a' hx hat ⟨rfl, q1, ⟨E, v, q2⟩, q3⟩
    refine Cx.idle (P := CW pr Try.prog) rfl (fun _ => stepG_end) ?_
    obtain ⟨T, ds⟩ := a'
    obtain rfl : ds = _ := hat.defers
    exact leaf44 T [] htg q1 q2 q3
end
end Go.Proofs.Ytojhnclkhiffkaa
namespace Go.Proofs.Ytojhnclkhiffkaa
open Go.Conc Go.ConcN Go.RowKit Go.Conc.Lib Go.ConcR.Gen Go.ConcN.Gen
open Go.ConcR (KK wgBlock WgAt stA smA rd wr mk Payload Aside2 DC0)
set_option linter.unusedVariables false
set_option linter.unusedSimpArgs false
/-- The call that its second go statement holds. -/
def call46 (Wg wb ib : Nat) : Deferred := { target := .fn (.func 46) #[.pointer (some ⟨Wg, 0, none⟩), .pointer (some ⟨wb, 0, none⟩), .pointer (some ⟨ib, 0, none⟩)], args := #[] }
def t46 (Wg wb ib : Nat) : Array Value := #[.pointer (some ⟨Wg, 0, none⟩), .pointer (some ⟨wb, 0, none⟩), .pointer (some ⟨ib, 0, none⟩), undef, undef, undef]
theorem born46 (Wg wb ib : Nat) (w : World) : stepG Try.prog false (born Try.prog (call46 Wg wb ib)) w =
    .go (G ((baseD 46).at ⟨t46 Wg wb ib, []⟩ [.code (Try.f46.body.getD .skip)]) [botG]) w #[] := by
  simp [born, call46, t46, stepG, unwind, callDeferred, invoke, callFunc, Try.func46, Try.f46, seen, GStep.after, G, Frame.enter, Frame.at, baseD, botG]
/-- Its own way out, once Done has left: it only leaves. -/
theorem quits46 (T : Array Value) (todo : List Item) : QuitsD Try.prog 2 0 (G { (baseD 46).at ⟨T, []⟩ todo with mode := .returning } [botG]) := by
  refine QuitsD.ctl (g' := G botG []) rfl (fun w => ?_) ?_
  · simp [G, stepG, unwind, doReturn, results, Frame.at, baseD, botG, Try.func46, Try.f46, seen, GStep.after, goexitEntry]
  refine QuitsD.ctl (g' := { G botG [] with status := .finished }) rfl (fun w => ?_) ⟨rfl, rfl⟩
  simp [G, stepG, unwind, botG, goexitEntry, Frame.catches]
  rfl

section
variable {pr : Pro} {h : H} {Wg wb ib : Nat} {i : Int} {d : Value} {f : FuncId} {first cap : Array Value}
theorem leaf46 (T : Array Value) (todo : List Item) (htg : pr.tg = lnk.tWg) (hW : h Wg = some (nW pr d)) {E : TypeId} {v : Value} (hi : h ib = some (.cells #[v] E)) (hp : pr.post d (hdel h ib)) :
    JW pr Try.prog (G { (baseD 46).at ⟨T, [dcall 45 #[.pointer (some ⟨Wg, 0, none⟩)]]⟩ todo with mode := .returning } [botG]) h := by
  refine Cx.idle (P := CW pr Try.prog) rfl (fun w => stepG_unwind_enter rfl Try.func45 (nm_done lnk) rfl) ?_
  refine JW.of (.leaf rfl Wg ib E v d hW hi hp fun w hh => ⟨23, ?_⟩)
  have hl : WgLive lnk.tWg Wg w := by
    obtain ⟨c, h1, _, _, h4⟩ := HolO_note.1 (hh _ _ hW)
    obtain ⟨st, sm, rfl⟩ := h4 (Nat.le_refl _)
    exact ⟨st, sm, by rw [← htg]; exact h1⟩
  have hv : w.cell? ⟨ib, 0, none⟩ = some v := by
    have this : w.heap[ib]? = some (.cells #[v] E) := hh.blk hi
    simp [World.cell?, this]
  have hA := @doneN ⟨E⟩ lnk Try.prog wgLib noL noL Wg ib 1 0 1 v _ [botG] 2 rfl (quits46 T todo) w ⟨hl, hv⟩
  rw [htg]
  exact hA
/-- A worker, from its birth. -/
theorem child46 (htg : pr.tg = lnk.tWg) (hw : cellAt h ⟨wb, 0, none⟩ = some (.func (.func f) first cap)) (hiv : cellAt h ⟨ib, 0, none⟩ = some (.int .i64 i)) (hc : callable Try.prog f = true)
    (hwork : Does (CW pr Try.prog) (callFunc f (first ++ #[.int .i64 i] ++ cap)) h fun _ h' => h' Wg = some (nW pr d) ∧ (∃ E v, h' ib = some (.cells #[v] E)) ∧ pr.post d (hdel h' ib)) :
    JW pr Try.prog (born Try.prog (call46 Wg wb ib)) h := by
  refine Cx.idle (P := CW pr Try.prog) rfl (born46 Wg wb ib) ?_
  show JW pr Try.prog (G ((baseD 46).at ⟨t46 Wg wb ib, []⟩ [.code (.seq _ c46_rest)]) [botG]) h
  refine Cx.idle (P := CW pr Try.prog) rfl (fun w => stepG_seq) ?_
  refine Cx.idle (P := CW pr Try.prog) rfl (fun w => stepG_region) ?_
  refine Cx.idle (P := CW pr Try.prog) rfl (fun w => stepG_defer rfl rfl (by simp [baseD]) rfl) ?_
  refine Cx.idle (P := CW pr Try.prog) rfl (fun w => stepG_region_end) ?_
  refine vc_sound (P := CW pr Try.prog) c46_rest (n := ⟨0, 6⟩) (ds := [dcall 45 #[.pointer (some ⟨Wg, 0, none⟩)]]) .leaf (fun x _ h' => x = .normal ∧ h' Wg = some (nW pr d) ∧ (∃ E v, h' ib = some (.cells #[v] E)) ∧ pr.post d (hdel h' ib))
    (argEnv [.pointer (some ⟨Wg, 0, none⟩), .pointer (some ⟨wb, 0, none⟩), .pointer (some ⟨ib, 0, none⟩)] 0) h _ ⟨by simp [Act.put, dcall]; rfl, rfl, ?_⟩ ?_ (baseD 46) [] [botG] (by simp [baseD]) ?_
  · intro t v hg
    obtain ⟨_, h2⟩ := argEnv_get _ 0 t v hg
    simp only [Nat.sub_zero] at h2
    have hlt := (List.getElem?_eq_some_iff.1 h2).1
    simp only [List.length_cons, List.length_nil] at hlt
    match t, hlt with
    | 0, _ => exact h2
    | 1, _ => exact h2
    | 2, _ => exact h2
  · rw [c46_low]
    simp only [c46]
    simp (disch := omega) only [dm_t, wS, simprocAttr, IntKind.bits, hw, hiv]
    refine ⟨hc, Does.mono hwork fun _ h' hq => ?_⟩
    simp (disch := omega) only [dm_t, wS, simprocAttr, IntKind.bits]
    exact hq
  · rintro x e' h' a' hx hat ⟨rfl, q1, ⟨E, v, q2⟩, q3⟩
    refine Cx.idle (P := CW pr Try.prog) rfl (fun _ => stepG_end) ?_
    obtain ⟨T, ds⟩ := a'
    obtain rfl : ds = _ := hat.defers
    exact leaf46 T [] htg q1 q2 q3
end
end Go.Proofs.Ytojhnclkhiffkaa
namespace Go.Proofs.Ytojhnclkhiffkaa
open Go.Conc Go.Conc.Lib
open Go.ConcR (stA smA KK)
set_option linter.unusedVariables false
set_option linter.unusedSimpArgs false
section
variable {Pg : Program} {P : Cx Pg} {s t u : TypeId} {h : H} {V : Value → H → Prop}
/-- A pointer to a group's cell, as an unsafe.Pointer. -/
theorem cv_note (hs : P.prog.underlying s = some (.pointer u)) (ht : P.prog.underlying t = some .unsafePointer) (hu : (P.prog.info? u).map (fun i => decide (i.size = 0)) = some false)
    {b o : Nat} {E : TypeId} {k a : Nat} {L : Array Value} (hb : h b = some (noteO E 2 k a L)) (hk : 2 ≤ k) (ho : o < 2) (hV : V (.pointer (some ⟨b, o, none⟩)) h) : cvM P s t (some (.pointer (some ⟨b, o, none⟩))) h V := by
  intro w hw
  have hs' : Pg.underlying s = _ := hs
  have ht' : Pg.underlying t = _ := ht
  obtain ⟨v, hcell⟩ : ∃ v, w.cell? ⟨b, o, none⟩ = some v := by
    obtain ⟨c, h1, h2, _, _⟩ := HolO_note.1 (hw _ _ hb)
    exact ⟨c[o]'(by omega), by simp [World.cell?, h1]⟩
  refine ⟨_, run_convert_to_unsafe hs ht hu hcell, ?_, hV⟩
  obtain ⟨e, n, hsh, hlt, hsp⟩ := World.shape?_of_cell? hcell
  obtain ⟨i, hi, hz0⟩ := Option.map_eq_some_iff.1 hu
  have hi' : Pg.info? u = some i := hi
  have hz : i.size ≠ 0 := by simpa using hz0
  have hge : ¬ (n ≤ o) := by simp only at hlt; omega
  simp only at hsh
  simp [convert, Conv.unsafePointer, Conv.seenAt, viewAt, cellsIn, sizeOf, typeInfo, run_underlying hs', run_underlying ht', hi', hz, hsh, hge, Result.andThen]
end
section
variable {pr : Pro} {h : H} {Wg V : Nat} {ds : List Value}
theorem bub_ok {K : Value → H → Prop} (hK : K (.bool false) h) : xcM (CM pr Try.prog) 55 #[] h K :=
  xc_of (e := fun _ => pure (.bool false)) Try.func55 (by kernel_rfl) (by kernel_rfl) (by kernel_rfl) (by kernel_rfl) fun w hh => ⟨.bool false, w, h, #[], by simp, by simp, fun es hs => Fra.still hh rfl rfl rfl rfl fun e he => (hs e he).elim (fun x => by simp at x) (fun ⟨g, hg⟩ => by unfold EvO; rw [hg]; exact .inr ⟨g, rfl⟩), hK⟩
theorem uload_ok (hW : h Wg = some (nG pr 1 V ds)) {R : Value → H → Prop} (hR : ∀ v : Nat, v ≤ V → R (.int .u64 (v * KK)) (hupd h Wg (if v = 0 then nG pr 6 0 ds else nG pr 4 v ds))) : Ok (CM pr Try.prog) 61 #[.pointer (some ⟨Wg, 0, none⟩)] h R := by
  refine c61_ok (args := [_]) (by simp) ?_
  simp (disch := omega) only [dm_t, wS, simprocAttr, IntKind.bits]
  refine wg_ld Try.func82 (by kernel_rfl) (by kernel_rfl) (by kernel_rfl) (by kernel_rfl) hW fun v hv => ?_
  simp (disch := omega) only [dm_t, wS, simprocAttr, IntKind.bits]
  exact hR v hv
theorem uload2_ok (hW : h Wg = some (nG pr 6 V ds)) {R : Value → H → Prop} (hR : R (.int .u64 0) h) : Ok (CM pr Try.prog) 61 #[.pointer (some ⟨Wg, 0, none⟩)] h R := by
  refine c61_ok (args := [_]) (by simp) ?_
  simp (disch := omega) only [dm_t, wS, simprocAttr, IntKind.bits]
  refine wg_ld2 Try.func82 (by kernel_rfl) (by kernel_rfl) (by kernel_rfl) (by kernel_rfl) hW ?_
  simp (disch := omega) only [dm_t, wS, simprocAttr, IntKind.bits]
  exact hR
theorem ucas_ok {u : Nat} (hW : h Wg = some (nG pr 4 u ds)) {R : Value → H → Prop} (hit : R (.bool true) (hupd h Wg (nG pr 5 0 ds))) (miss : ∀ v : Nat, v < u → R (.bool false) (hupd h Wg (nG pr 1 v ds))) :
    Ok (CM pr Try.prog) 67 #[.pointer (some ⟨Wg, 0, none⟩), .int .u64 (u * KK), .int .u64 (u * KK + 1)] h R := by
  refine c67_ok (args := [_, _, _]) (by simp) ?_
  simp (disch := omega) only [dm_t, wS, simprocAttr, IntKind.bits]
  refine wg_cas Try.func84 (by kernel_rfl) (by kernel_rfl) (by kernel_rfl) (by kernel_rfl) rfl rfl hW ?_ fun v hv => ?_
  · simp (disch := omega) only [dm_t, wS, simprocAttr, IntKind.bits]
    exact hit
  · simp (disch := omega) only [dm_t, wS, simprocAttr, IntKind.bits]
    exact miss v hv
theorem uadd_ok (hl : ds.length < 2147483646) (hV : V < 2147483646) (hW : h Wg = some (nG pr 1 V ds)) {R : Value → H → Prop} (hR : ∀ v : Nat, v ≤ V → R (.int .u64 ((v + 1) * KK)) (hupd h Wg (nG pr 2 V ds))) : Ok (CM pr Try.prog) 59 #[.pointer (some ⟨Wg, 0, none⟩), .int .u64 KK] h R := by
  refine c59_ok (args := [_, _]) (by simp) ?_
  simp (disch := omega) only [dm_t, wS, simprocAttr, IntKind.bits]
  refine wg_add Try.func81 (by kernel_rfl) (by kernel_rfl) (by kernel_rfl) (by kernel_rfl) rfl hl hW hV fun v hv => ?_
  simp (disch := omega) only [dm_t, wS, simprocAttr, IntKind.bits]
  exact hR v hv
end
end Go.Proofs.Ytojhnclkhiffkaa
namespace Go.Proofs.Ytojhnclkhiffkaa
open Go.Conc Go.Conc.Lib
open Go.ConcR (stA smA KK)
set_option linter.unusedVariables false
set_option linter.unusedSimpArgs false
section
variable {pr : Pro} {h : H} {Wg V : Nat} {ds : List Value}
def vOf (h : H) (Wg : Nat) : Nat := match h Wg with
  | some o => match noteOf o with
    | some (_, _, _, a, _) => a
    | none => 0
  | none => 0
theorem vOf_upd (ph V : Nat) : vOf (hupd h Wg (nG pr ph V ds)) Wg = V := by
  unfold vOf; rw [hupd_same]; rfl
theorem ofInt_cnt (v : Nat) : BitVec.ofInt 64 ((v : Int) * KK) = BitVec.ofNat 64 (v * 4294967296) := by
  have : ((v : Int) * KK) = ((v * 4294967296 : Nat) : Int) := by simp [KK]
  rw [this, BitVec.ofInt_natCast]
theorem cnt_low {v : Nat} (hv : v < 2147483648) : (BitVec.ofInt 64 ((v : Int) * KK) &&& 2147483647#64).toNat = 0 := by
  rw [ofInt_cnt, BitVec.toNat_and, BitVec.toNat_ofNat, BitVec.toNat_ofNat, Nat.mod_eq_of_lt (by omega), Nat.mod_eq_of_lt (by omega)]
  have := Nat.and_two_pow_sub_one_eq_mod (v * 4294967296) 31
  rw [show (2147483647 : Nat) = 2 ^ 31 - 1 by rfl, this]
  omega
theorem cnt_flag {v : Nat} (hv : v < 2147483648) : (BitVec.ofInt 64 ((v : Int) * KK) &&& 2147483648#64).toNat = 0 := by
  rw [ofInt_cnt, BitVec.toNat_and, BitVec.toNat_ofNat, BitVec.toNat_ofNat, Nat.mod_eq_of_lt (by omega), Nat.mod_eq_of_lt (by omega)]
  refine Nat.eq_of_testBit_eq fun i => ?_
  rw [Nat.testBit_and, Nat.zero_testBit, show (2147483648 : Nat) = 2 ^ 31 by rfl, Nat.testBit_two_pow]
  by_cases e : 31 = i
  · subst e
    rw [show v * 4294967296 = 2 ^ 32 * v by omega, Nat.testBit_two_pow_mul]
    simp
  · simp [e]
theorem cnt_hi {v : Nat} (hv : v < 2147483648) : IntKind.i32.wrap ((v : Int) * KK / 4294967296) = v := by
  have : (v : Int) * KK / 4294967296 = v := by simp only [KK]; omega
  rw [this]
  simp [IntKind.wrap, IntKind.bits, IntKind.signed]
  omega
theorem cnt_up {v : Nat} (hv : v < 2147483648) : IntKind.u64.wrap ((v : Int) * KK + 1) = v * KK + 1 := by
  rw [IntKind.wrap_u64]; simp only [KK]; omega
theorem wait_ok {R : Value → H → Prop} (hW : h Wg = some (nG pr 0 V ds)) (hd : ds.length < 2147483648)
    (hR : ∀ w, Hol (hupd h Wg (nG pr 7 0 ds)) w → ∀ hs, Joined pr (hupd h Wg (nG pr 7 0 ds)) ds hs w → ∃ h', Hol h' w ∧ Taken pr Wg (hupd h Wg (nG pr 7 0 ds)) hs h' ∧ R (.tuple #[]) h') : Ok (CM pr Try.prog) 47 #[.pointer (some ⟨Wg, 0, none⟩)] h R := by
  refine c47_ok (args := [_]) (by simp) ?_
  simp (disch := omega) only [dm_t, wS, simprocAttr, IntKind.bits]
  refine wg_dis Try.func53 (by kernel_rfl) (by kernel_rfl) (by kernel_rfl) (by kernel_rfl) hW ?_
  simp (disch := omega) only [dm_t, wS, simprocAttr, IntKind.bits]
  refine vc_loop0 (fun h' => ∃ V, V < 2147483648 ∧ h' = hupd h Wg (nG pr 1 V ds)) (fun h' => vOf h' Wg) ⟨ds.length, hd, rfl⟩ ?_
  rintro _ ⟨V1, hV1, rfl⟩
  simp (disch := omega) only [dm_t, wS, simprocAttr, IntKind.bits]
  have lo := uload_ok (pr := pr) (R := fun x h' => ∃ v : Nat, v ≤ V1 ∧ x = .int .u64 (v * KK) ∧ h' = hupd h Wg (if v = 0 then nG pr 6 0 ds else nG pr 4 v ds)) (hupd_same h Wg (nG pr 1 V1 ds)) (fun v hv => ⟨v, hv, rfl, by rw [hupd_hupd]⟩)
  refine lo.k ?_
  rintro _ _ ⟨v, hv, rfl, rfl⟩
  have hv2 : v < 2147483648 := by omega
  have f0 : ∀ q, binV .and q (.int .u64 ((v : Int) * KK)) (.int .u64 2147483648) = some (.int .u64 0) := fun q => by
    rw [bin_and]; exact congrArg (fun n : Nat => some (Value.int .u64 (IntKind.u64.wrap (n : Int)))) (cnt_flag hv2)
  have f1 : ∀ q, binV .and q (.int .u64 ((v : Int) * KK)) (.int .u64 2147483647) = some (.int .u64 0) := fun q => by
    rw [bin_and]; exact congrArg (fun n : Nat => some (Value.int .u64 (IntKind.u64.wrap (n : Int)))) (cnt_low hv2)
  have f2 := cnt_hi hv2
  have f3 := cnt_up hv2
  by_cases h0 : v = 0
  · subst h0
    simp only [if_true, ↓reduceIte, Int.natCast_zero, Int.zero_mul] at f0 f1 ⊢
    simp (disch := omega) only [dm_t, wS, simprocAttr, IntKind.bits, f0, f1]
    refine wg_ena Try.func54 (by kernel_rfl) (by kernel_rfl) (by kernel_rfl) (by kernel_rfl) (.inr rfl) (hupd_same _ _ _) ?_
    rw [hupd_hupd]
    simp (disch := omega) only [dm_t, wS, simprocAttr, IntKind.bits, f0, f1]
    refine raw_cv ?_
    refine cv_note Try.underlying105 (by kernel_rfl) (by kernel_rfl) (hupd_same _ _ _) (by omega) (by omega) ?_
    simp (disch := omega) only [dm_t, wS, simprocAttr, IntKind.bits, f0, f1]
    refine wg_acq Try.func65 (by kernel_rfl) (by kernel_rfl) (by kernel_rfl) (by kernel_rfl) (hupd_same _ _ _) fun w hw hs hj => ?_
    obtain ⟨h', k1, k2, k3⟩ := hR w hw hs hj
    refine ⟨h', k1, k2, ?_⟩
    simp (disch := omega) only [dm_t, wS, simprocAttr, IntKind.bits, f0, f1]
    exact k3
  · rw [if_neg h0]
    have h0' : ¬ ((v : Int) = 0) := by omega
    simp (disch := omega) only [dm_t, wS, simprocAttr, IntKind.bits, f0, f1, f2, f3, h0']
    have co := ucas_ok (pr := pr) (u := v) (R := fun x h' => (x = .bool true ∧ h' = hupd h Wg (nG pr 5 0 ds)) ∨ (∃ v' : Nat, v' < v ∧ x = .bool false ∧ h' = hupd h Wg (nG pr 1 v' ds))) (hupd_same h Wg (nG pr 4 v ds)) (.inl ⟨rfl, by rw [hupd_hupd]⟩) (fun v' hv' => .inr ⟨v', hv', rfl, by rw [hupd_hupd]⟩)
    refine co.k ?_
    rintro _ _ (⟨rfl, rfl⟩ | ⟨v', hv', rfl, rfl⟩)
    · simp (disch := omega) only [dm_t, wS, simprocAttr, IntKind.bits, f0, f1, f2, f3, h0']
      refine raw_cv ?_
      refine cv_note Try.underlying111 (by kernel_rfl) (by kernel_rfl) (hupd_same _ _ _) (by omega) (by omega) ?_
      simp (disch := omega) only [dm_t, wS, simprocAttr, IntKind.bits, f0, f1, f2, f3, h0']
      refine wg_write Try.func68 (by kernel_rfl) (by kernel_rfl) (by kernel_rfl) (by kernel_rfl) (by omega) (hupd_same _ _ _) ?_
      simp (disch := omega) only [dm_t, wS, simprocAttr, IntKind.bits, f0, f1, f2, f3, h0']
      refine wg_sem (args := #[.pointer (some (smA Wg)), .bool false]) Try.func69 (by kernel_rfl) (by kernel_rfl) (by kernel_rfl) (by kernel_rfl) rfl (hupd_same _ _ _) ?_
      rw [hupd_hupd]
      simp (disch := omega) only [dm_t, wS, simprocAttr, IntKind.bits, f0, f1, f2, f3, h0']
      have l2 := uload2_ok (pr := pr) (R := fun x h' => x = .int .u64 0 ∧ h' = hupd h Wg (nG pr 6 0 ds)) (hupd_same h Wg (nG pr 6 0 ds)) ⟨rfl, rfl⟩
      refine l2.k ?_
      rintro _ _ ⟨rfl, rfl⟩
      simp (disch := omega) only [dm_t, wS, simprocAttr, IntKind.bits, f0, f1, f2, f3, h0']
      refine wg_ena Try.func54 (by kernel_rfl) (by kernel_rfl) (by kernel_rfl) (by kernel_rfl) (.inr rfl) (hupd_same _ _ _) ?_
      rw [hupd_hupd]
      simp (disch := omega) only [dm_t, wS, simprocAttr, IntKind.bits]
      refine raw_cv ?_
      refine cv_note Try.underlying105 (by kernel_rfl) (by kernel_rfl) (hupd_same _ _ _) (by omega) (by omega) ?_
      simp (disch := omega) only [dm_t, wS, simprocAttr, IntKind.bits]
      refine wg_acq Try.func65 (by kernel_rfl) (by kernel_rfl) (by kernel_rfl) (by kernel_rfl) (hupd_same _ _ _) fun w hw hs hj => ?_
      obtain ⟨h', k1, k2, k3⟩ := hR w hw hs hj
      refine ⟨h', k1, k2, ?_⟩
      simp (disch := omega) only [dm_t, wS, simprocAttr, IntKind.bits]
      exact k3
    · simp (disch := omega) only [dm_t, wS, simprocAttr, IntKind.bits, f0, f1, f2, f3, h0']
      refine ⟨⟨v', by omega, rfl⟩, ?_⟩
      rw [vOf_upd, vOf_upd]
      omega
end
end Go.Proofs.Ytojhnclkhiffkaa
