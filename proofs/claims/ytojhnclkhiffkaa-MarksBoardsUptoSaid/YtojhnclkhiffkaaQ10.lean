/-
  A worker's goroutine: its birth, its work, its deferred Done.
-/
import Derived.Test.YtojhnclkhiffkaaQ9
import Derived.Conc.WgGenN2
import Derived.Conc.LeavingOf
/-
  A worker's goroutine: its birth, its work, its deferred Done.
-/

namespace Go.Proofs.Ytojhnclkhiffkaa
open Go.Conc Go.ConcN Go.RowKit Go.Conc.Lib Go.ConcR.Gen Go.ConcN.Gen
open Go.ConcR (KK wgBlock WgAt stA smA rd wr mk Payload Aside2 DC0)
set_option linter.unusedVariables false
set_option linter.unusedSimpArgs false

noncomputable def botG : Frame := { (default : Frame) with fn := Try.prog.funcs.size, defers := [], mode := .panicking [goexitEntry] }
/-- The call that the go statement of 'all' holds. -/
def call44 (Wg wb ib : Nat) : Deferred := { target := .fn (.func 44) #[.pointer (some ⟨Wg, 0, none⟩), .pointer (some ⟨wb, 0, none⟩), .pointer (some ⟨ib, 0, none⟩)], args := #[] }
def t44 (Wg wb ib : Nat) : Array Value := #[.pointer (some ⟨Wg, 0, none⟩), .pointer (some ⟨wb, 0, none⟩), .pointer (some ⟨ib, 0, none⟩), undef, undef, undef]
theorem born44 (Wg wb ib : Nat) (w : World) : stepG Try.prog false (born Try.prog (call44 Wg wb ib)) w =
    .go (G ((baseD 44).at ⟨t44 Wg wb ib, []⟩ [.code (Try.f44.body.getD .skip)]) [botG]) w #[] := by
  simp [born, call44, t44, stepG, unwind, callDeferred, invoke, callFunc, Try.func44, Try.f44, seen, GStep.after, G, Frame.enter, Frame.at, baseD, botG]
/-- Its own way out, once Done has left: it only leaves. -/
theorem quits44 (T : Array Value) (todo : List Item) : QuitsD Try.prog 2 0 (G { (baseD 44).at ⟨T, []⟩ todo with mode := .returning } [botG]) := by
  refine QuitsD.ctl (g' := G botG []) rfl (fun w => ?_) ?_
  · simp [G, stepG, unwind, doReturn, results, Frame.at, baseD, botG, Try.func44, Try.f44, seen, GStep.after, goexitEntry]
  refine QuitsD.ctl (g' := { G botG [] with status := .finished }) rfl (fun w => ?_) ⟨rfl, rfl⟩
  simp [G, stepG, unwind, botG, goexitEntry, Frame.catches]
  rfl

section
variable {pr : Pro} {h : H} {Wg wb ib : Nat} {i : Int} {d : Value} {f : FuncId} {first cap : Array Value}
theorem leaf44 (T : Array Value) (todo : List Item) (htg : pr.tg = lnk.tWg) (hW : h Wg = some (nW pr d)) {E : TypeId} {v : Value} (hi : h ib = some (.cells #[v] E)) (hp : pr.post d (hdel h ib)) :
    JW pr Try.prog (G { (baseD 44).at ⟨T, [dcall 45 #[.pointer (some ⟨Wg, 0, none⟩)]]⟩ todo with mode := .returning } [botG]) h := by
  refine Cx.idle (P := CW pr Try.prog) rfl (fun w => stepG_unwind_enter rfl Try.func45 (nm_done lnk) rfl) ?_
  refine JW.of (.leaf rfl Wg ib E v d hW hi hp fun w hh => ⟨23, ?_⟩)
  have hl : WgLive lnk.tWg Wg w := by
    obtain ⟨c, h1, _, _, h4⟩ := HolO_note.1 (hh _ _ hW)
    obtain ⟨st, sm, rfl⟩ := h4 (Nat.le_refl _)
    exact ⟨st, sm, by rw [← htg]; exact h1⟩
  have hv : w.cell? ⟨ib, 0, none⟩ = some v := by
    have this : w.heap[ib]? = some (.cells #[v] E) := hh.blk hi
    simp [World.cell?, this]
  have hA := @doneN ⟨E⟩ lnk Try.prog wgLib noL noL Wg ib 1 0 1 v _ [botG] 2 rfl (quits44 T todo) w ⟨hl, hv⟩
  rw [htg]
  exact hA
/-- A worker, from its birth. -/
theorem child44 (htg : pr.tg = lnk.tWg) (hw : cellAt h ⟨wb, 0, none⟩ = some (.func (.func f) first cap)) (hiv : cellAt h ⟨ib, 0, none⟩ = some (.int .i64 i)) (hc : callable Try.prog f = true)
    (hwork : Does (CW pr Try.prog) (callFunc f (first ++ #[.int .i64 i] ++ cap)) h fun _ h' => h' Wg = some (nW pr d) ∧ (∃ E v, h' ib = some (.cells #[v] E)) ∧ pr.post d (hdel h' ib)) :
    JW pr Try.prog (born Try.prog (call44 Wg wb ib)) h := by
  refine Cx.idle (P := CW pr Try.prog) rfl (born44 Wg wb ib) ?_
  show JW pr Try.prog (G ((baseD 44).at ⟨t44 Wg wb ib, []⟩ [.code (.seq _ c44_rest)]) [botG]) h
  refine Cx.idle (P := CW pr Try.prog) rfl (fun w => stepG_seq) ?_
  refine Cx.idle (P := CW pr Try.prog) rfl (fun w => stepG_region) ?_
  refine Cx.idle (P := CW pr Try.prog) rfl (fun w => stepG_defer rfl rfl (by simp [baseD]) rfl) ?_
  refine Cx.idle (P := CW pr Try.prog) rfl (fun w => stepG_region_end) ?_
  refine vc_sound (P := CW pr Try.prog) c44_rest (n := ⟨0, 6⟩) (ds := [dcall 45 #[.pointer (some ⟨Wg, 0, none⟩)]]) .leaf (fun x _ h' => x = .normal ∧ h' Wg = some (nW pr d) ∧ (∃ E v, h' ib = some (.cells #[v] E)) ∧ pr.post d (hdel h' ib))
    (argEnv [.pointer (some ⟨Wg, 0, none⟩), .pointer (some ⟨wb, 0, none⟩), .pointer (some ⟨ib, 0, none⟩)] 0) h _ ⟨by simp [Act.put, dcall]; rfl, rfl, ?_⟩ ?_ (baseD 44) [] [botG] (by simp [baseD]) ?_
  · intro t v hg
    obtain ⟨_, h2⟩ := argEnv_get _ 0 t v hg
    simp only [Nat.sub_zero] at h2
    have hlt := (List.getElem?_eq_some_iff.1 h2).1
    simp only [List.length_cons, List.length_nil] at hlt
    match t, hlt with
    | 0, _ => exact h2
    | 1, _ => exact h2
    | 2, _ => exact h2
  · rw [c44_low]
    simp only [c44]
    simp (disch := omega) only [dm_t, wS, simprocAttr, IntKind.bits, hw, hiv]
    refine ⟨hc, Does.mono hwork fun _ h' hq => ?_⟩
    simp (disch := omega) only [dm_t, wS, simprocAttr, IntKind.bits]
    exact hq
  · rintro x e' h' a' hx hat ⟨rfl, q1, ⟨E, v, q2⟩, q3⟩
    refine Cx.idle (P := CW pr Try.prog) rfl (fun _ => stepG_end) ?_
    obtain ⟨T, ds⟩ := a'
    obtain rfl : ds = _ := hat.defers
    exact leaf44 T [] htg q1 q2 q3
end
end Go.Proofs.Ytojhnclkhiffkaa
namespace Go.Proofs.Ytojhnclkhiffkaa
open Go.Conc Go.ConcN Go.RowKit Go.Conc.Lib Go.ConcR.Gen Go.ConcN.Gen
open Go.ConcR (KK wgBlock WgAt stA smA rd wr mk Payload Aside2 DC0)
set_option linter.unusedVariables false
set_option linter.unusedSimpArgs false
/-- The call that its second go statement holds. -/
def call46 (Wg wb ib : Nat) : Deferred := { target := .fn (.func 46) #[.pointer (some ⟨Wg, 0, none⟩), .pointer (some ⟨wb, 0, none⟩), .pointer (some ⟨ib, 0, none⟩)], args := #[] }
def t46 (Wg wb ib : Nat) : Array Value := #[.pointer (some ⟨Wg, 0, none⟩), .pointer (some ⟨wb, 0, none⟩), .pointer (some ⟨ib, 0, none⟩), undef, undef, undef]
theorem born46 (Wg wb ib : Nat) (w : World) : stepG Try.prog false (born Try.prog (call46 Wg wb ib)) w =
    .go (G ((baseD 46).at ⟨t46 Wg wb ib, []⟩ [.code (Try.f46.body.getD .skip)]) [botG]) w #[] := by
  simp [born, call46, t46, stepG, unwind, callDeferred, invoke, callFunc, Try.func46, Try.f46, seen, GStep.after, G, Frame.enter, Frame.at, baseD, botG]
/-- Its own way out, once Done has left: it only leaves. -/
theorem quits46 (T : Array Value) (todo : List Item) : QuitsD Try.prog 2 0 (G { (baseD 46).at ⟨T, []⟩ todo with mode := .returning } [botG]) := by
  refine QuitsD.ctl (g' := G botG []) rfl (fun w => ?_) ?_
  · simp [G, stepG, unwind, doReturn, results, Frame.at, baseD, botG, Try.func46, Try.f46, seen, GStep.after, goexitEntry]
  refine QuitsD.ctl (g' := { G botG [] with status := .finished }) rfl (fun w => ?_) ⟨rfl, rfl⟩
  simp [G, stepG, unwind, botG, goexitEntry, Frame.catches]
  rfl

section
variable {pr : Pro} {h : H} {Wg wb ib : Nat} {i : Int} {d : Value} {f : FuncId} {first cap : Array Value}
theorem leaf46 (T : Array Value) (todo : List Item) (htg : pr.tg = lnk.tWg) (hW : h Wg = some (nW pr d)) {E : TypeId} {v : Value} (hi : h ib = some (.cells #[v] E)) (hp : pr.post d (hdel h ib)) :
    JW pr Try.prog (G { (baseD 46).at ⟨T, [dcall 45 #[.pointer (some ⟨Wg, 0, none⟩)]]⟩ todo with mode := .returning } [botG]) h := by
  refine Cx.idle (P := CW pr Try.prog) rfl (fun w => stepG_unwind_enter rfl Try.func45 (nm_done lnk) rfl) ?_
  refine JW.of (.leaf rfl Wg ib E v d hW hi hp fun w hh => ⟨23, ?_⟩)
  have hl : WgLive lnk.tWg Wg w := by
    obtain ⟨c, h1, _, _, h4⟩ := HolO_note.1 (hh _ _ hW)
    obtain ⟨st, sm, rfl⟩ := h4 (Nat.le_refl _)
    exact ⟨st, sm, by rw [← htg]; exact h1⟩
  have hv : w.cell? ⟨ib, 0, none⟩ = some v := by
    have this : w.heap[ib]? = some (.cells #[v] E) := hh.blk hi
    simp [World.cell?, this]
  have hA := @doneN ⟨E⟩ lnk Try.prog wgLib noL noL Wg ib 1 0 1 v _ [botG] 2 rfl (quits46 T todo) w ⟨hl, hv⟩
  rw [htg]
  exact hA
/-- A worker, from its birth. -/
theorem child46 (htg : pr.tg = lnk.tWg) (hw : cellAt h ⟨wb, 0, none⟩ = some (.func (.func f) first cap)) (hiv : cellAt h ⟨ib, 0, none⟩ = some (.int .i64 i)) (hc : callable Try.prog f = true)
    (hwork : Does (CW pr Try.prog) (callFunc f (first ++ #[.int .i64 i] ++ cap)) h fun _ h' => h' Wg = some (nW pr d) ∧ (∃ E v, h' ib = some (.cells #[v] E)) ∧ pr.post d (hdel h' ib)) :
    JW pr Try.prog (born Try.prog (call46 Wg wb ib)) h := by
  refine Cx.idle (P := CW pr Try.prog) rfl (born46 Wg wb ib) ?_
  show JW pr Try.prog (G ((baseD 46).at ⟨t46 Wg wb ib, []⟩ [.code (.seq _ c46_rest)]) [botG]) h
  refine Cx.idle (P := CW pr Try.prog) rfl (fun w => stepG_seq) ?_
  refine Cx.idle (P := CW pr Try.prog) rfl (fun w => stepG_region) ?_
  refine Cx.idle (P := CW pr Try.prog) rfl (fun w => stepG_defer rfl rfl (by simp [baseD]) rfl) ?_
  refine Cx.idle (P := CW pr Try.prog) rfl (fun w => stepG_region_end) ?_
  refine vc_sound (P := CW pr Try.prog) c46_rest (n := ⟨0, 6⟩) (ds := [dcall 45 #[.pointer (some ⟨Wg, 0, none⟩)]]) .leaf (fun x _ h' => x = .normal ∧ h' Wg = some (nW pr d) ∧ (∃ E v, h' ib = some (.cells #[v] E)) ∧ pr.post d (hdel h' ib))
    (argEnv [.pointer (some ⟨Wg, 0, none⟩), .pointer (some ⟨wb, 0, none⟩), .pointer (some ⟨ib, 0, none⟩)] 0) h _ ⟨by simp [Act.put, dcall]; rfl, rfl, ?_⟩ ?_ (baseD 46) [] [botG] (by simp [baseD]) ?_
  · intro t v hg
    obtain ⟨_, h2⟩ := argEnv_get _ 0 t v hg
    simp only [Nat.sub_zero] at h2
    have hlt := (List.getElem?_eq_some_iff.1 h2).1
    simp only [List.length_cons, List.length_nil] at hlt
    match t, hlt with
    | 0, _ => exact h2
    | 1, _ => exact h2
    | 2, _ => exact h2
  · rw [c46_low]
    simp only [c46]
    simp (disch := omega) only [dm_t, wS, simprocAttr, IntKind.bits, hw, hiv]
    refine ⟨hc, Does.mono hwork fun _ h' hq => ?_⟩
    simp (disch := omega) only [dm_t, wS, simprocAttr, IntKind.bits]
    exact hq
  · rintro x e' h' a' hx hat ⟨rfl, q1, ⟨E, v, q2⟩, q3⟩
    refine Cx.idle (P := CW pr Try.prog) rfl (fun _ => stepG_end) ?_
    obtain ⟨T, ds⟩ := a'
    obtain rfl : ds = _ := hat.defers
    exact leaf46 T [] htg q1 q2 q3
end
end Go.Proofs.Ytojhnclkhiffkaa
namespace Go.Proofs.Ytojhnclkhiffkaa
open Go.Conc Go.Conc.Lib
open Go.ConcR (stA smA KK)
set_option linter.unusedVariables false
set_option linter.unusedSimpArgs false
section
variable {Pg : Program} {P : Cx Pg} {s t u : TypeId} {h : H} {V : Value → H → Prop}
/-- A pointer to a group's cell, as an unsafe.Pointer. -/
theorem cv_note (hs : P.prog.underlying s = some (.pointer u)) (ht : P.prog.underlying t = some .unsafePointer) (hu : (P.prog.info? u).map (fun i => decide (i.size = 0)) = some false)
    {b o : Nat} {E : TypeId} {k a : Nat} {L : Array Value} (hb : h b = some (noteO E 2 k a L)) (hk : 2 ≤ k) (ho : o < 2) (hV : V (.pointer (some ⟨b, o, none⟩)) h) : cvM P s t (some (.pointer (some ⟨b, o, none⟩))) h V := by
  intro w hw
  have hs' : Pg.underlying s = _ := hs
  have ht' : Pg.underlying t = _ := ht
  obtain ⟨v, hcell⟩ : ∃ v, w.cell? ⟨b, o, none⟩ = some v := by
    obtain ⟨c, h1, h2, _, _⟩ := HolO_note.1 (hw _ _ hb)
    exact ⟨c[o]'(by omega), by simp [World.cell?, h1]⟩
  refine ⟨_, run_convert_to_unsafe hs ht hu hcell, ?_, hV⟩
  obtain ⟨e, n, hsh, hlt, hsp⟩ := World.shape?_of_cell? hcell
  obtain ⟨i, hi, hz0⟩ := Option.map_eq_some_iff.1 hu
  have hi' : Pg.info? u = some i := hi
  have hz : i.size ≠ 0 := by simpa using hz0
  have hge : ¬ (n ≤ o) := by simp only at hlt; omega
  simp only at hsh
  simp [convert, Conv.unsafePointer, Conv.seenAt, viewAt, cellsIn, sizeOf, typeInfo, run_underlying hs', run_underlying ht', hi', hz, hsh, hge, Result.andThen]
end
section
variable {pr : Pro} {h : H} {Wg V : Nat} {ds : List Value}
theorem bub_ok {K : Value → H → Prop} (hK : K (.bool false) h) : xcM (CM pr Try.prog) 55 #[] h K :=
  xc_of (e := fun _ => pure (.bool false)) Try.func55 (by kernel_rfl) (by kernel_rfl) (by kernel_rfl) (by kernel_rfl) fun w hh => ⟨.bool false, w, h, #[], by simp, by simp, fun es hs => Fra.still hh rfl rfl rfl rfl fun e he => (hs e he).elim (fun x => by simp at x) (fun ⟨g, hg⟩ => by unfold EvO; rw [hg]; exact .inr ⟨g, rfl⟩), hK⟩
theorem uload_ok (hW : h Wg = some (nG pr 1 V ds)) {R : Value → H → Prop} (hR : ∀ v : Nat, v ≤ V → R (.int .u64 (v * KK)) (hupd h Wg (if v = 0 then nG pr 6 0 ds else nG pr 4 v ds))) : Ok (CM pr Try.prog) 61 #[.pointer (some ⟨Wg, 0, none⟩)] h R := by
  refine c61_ok (args := [_]) (by simp) ?_
  simp (disch := omega) only [dm_t, wS, simprocAttr, IntKind.bits]
  refine wg_ld Try.func82 (by kernel_rfl) (by kernel_rfl) (by kernel_rfl) (by kernel_rfl) hW fun v hv => ?_
  simp (disch := omega) only [dm_t, wS, simprocAttr, IntKind.bits]
  exact hR v hv
theorem uload2_ok (hW : h Wg = some (nG pr 6 V ds)) {R : Value → H → Prop} (hR : R (.int .u64 0) h) : Ok (CM pr Try.prog) 61 #[.pointer (some ⟨Wg, 0, none⟩)] h R := by
  refine c61_ok (args := [_]) (by simp) ?_
  simp (disch := omega) only [dm_t, wS, simprocAttr, IntKind.bits]
  refine wg_ld2 Try.func82 (by kernel_rfl) (by kernel_rfl) (by kernel_rfl) (by kernel_rfl) hW ?_
  simp (disch := omega) only [dm_t, wS, simprocAttr, IntKind.bits]
  exact hR
theorem ucas_ok {u : Nat} (hW : h Wg = some (nG pr 4 u ds)) {R : Value → H → Prop} (hit : R (.bool true) (hupd h Wg (nG pr 5 0 ds))) (miss : ∀ v : Nat, v < u → R (.bool false) (hupd h Wg (nG pr 1 v ds))) :
    Ok (CM pr Try.prog) 67 #[.pointer (some ⟨Wg, 0, none⟩), .int .u64 (u * KK), .int .u64 (u * KK + 1)] h R := by
  refine c67_ok (args := [_, _, _]) (by simp) ?_
  simp (disch := omega) only [dm_t, wS, simprocAttr, IntKind.bits]
  refine wg_cas Try.func84 (by kernel_rfl) (by kernel_rfl) (by kernel_rfl) (by kernel_rfl) rfl rfl hW ?_ fun v hv => ?_
  · simp (disch := omega) only [dm_t, wS, simprocAttr, IntKind.bits]
    exact hit
  · simp (disch := omega) only [dm_t, wS, simprocAttr, IntKind.bits]
    exact miss v hv
theorem uadd_ok (hl : ds.length < 2147483646) (hV : V < 2147483646) (hW : h Wg = some (nG pr 1 V ds)) {R : Value → H → Prop} (hR : ∀ v : Nat, v ≤ V → R (.int .u64 ((v + 1) * KK)) (hupd h Wg (nG pr 2 V ds))) : Ok (CM pr Try.prog) 59 #[.pointer (some ⟨Wg, 0, none⟩), .int .u64 KK] h R := by
  refine c59_ok (args := [_, _]) (by simp) ?_
  simp (disch := omega) only [dm_t, wS, simprocAttr, IntKind.bits]
  refine wg_add Try.func81 (by kernel_rfl) (by kernel_rfl) (by kernel_rfl) (by kernel_rfl) rfl hl hW hV fun v hv => ?_
  simp (disch := omega) only [dm_t, wS, simprocAttr, IntKind.bits]
  exact hR v hv
end
end Go.Proofs.Ytojhnclkhiffkaa
namespace Go.Proofs.Ytojhnclkhiffkaa
open Go.Conc Go.Conc.Lib
open Go.ConcR (stA smA KK)
set_option linter.unusedVariables false
set_option linter.unusedSimpArgs false
section
variable {pr : Pro} {h : H} {Wg V : Nat} {ds : List Value}
def vOf (h : H) (Wg : Nat) : Nat := match h Wg with
  | some o => match noteOf o with
    | some (_, _, _, a, _) => a
    | none => 0
  | none => 0
theorem vOf_upd (ph V : Nat) : vOf (hupd h Wg (nG pr ph V ds)) Wg = V := by
  unfold vOf; rw [hupd_same]; rfl
theorem ofInt_cnt (v : Nat) : BitVec.ofInt 64 ((v : Int) * KK) = BitVec.ofNat 64 (v * 4294967296) := by
  have : ((v : Int) * KK) = ((v * 4294967296 : Nat) : Int) := by simp [KK]
  rw [this, BitVec.ofInt_natCast]
theorem cnt_low {v : Nat} (hv : v < 2147483648) : (BitVec.ofInt 64 ((v : Int) * KK) &&& 2147483647#64).toNat = 0 := by
  rw [ofInt_cnt, BitVec.toNat_and, BitVec.toNat_ofNat, BitVec.toNat_ofNat, Nat.mod_eq_of_lt (by omega), Nat.mod_eq_of_lt (by omega)]
  have := Nat.and_two_pow_sub_one_eq_mod (v * 4294967296) 31
  rw [show (2147483647 : Nat) = 2 ^ 31 - 1 by rfl, this]
  omega
theorem cnt_flag {v : Nat} (hv : v < 2147483648) : (BitVec.ofInt 64 ((v : Int) * KK) &&& 2147483648#64).toNat = 0 := by
  rw [ofInt_cnt, BitVec.toNat_and, BitVec.toNat_ofNat, BitVec.toNat_ofNat, Nat.mod_eq_of_lt (by omega), Nat.mod_eq_of_lt (by omega)]
  refine Nat.eq_of_testBit_eq fun i => ?_
  rw [Nat.testBit_and, Nat.zero_testBit, show (2147483648 : Nat) = 2 ^ 31 by rfl, Nat.testBit_two_pow]
  by_cases e : 31 = i
  · subst e
    rw [show v * 4294967296 = 2 ^ 32 * v by omega, Nat.testBit_two_pow_mul]
    simp
  · simp [e]
theorem cnt_hi {v : Nat} (hv : v < 2147483648) : IntKind.i32.wrap ((v : Int) * KK / 4294967296) = v := by
  have : (v : Int) * KK / 4294967296 = v := by simp only [KK]; omega
  rw [this]
  simp [IntKind.wrap, IntKind.bits, IntKind.signed]
  omega
theorem cnt_up {v : Nat} (hv : v < 2147483648) : IntKind.u64.wrap ((v : Int) * KK + 1) = v * KK + 1 := by
  rw [IntKind.wrap_u64]; simp only [KK]; omega
theorem wait_ok {R : Value → H → Prop} (hW : h Wg = some (nG pr 0 V ds)) (hd : ds.length < 2147483648)
    (hR : ∀ w, Hol (hupd h Wg (nG pr 7 0 ds)) w → ∀ hs, Joined pr (hupd h Wg (nG pr 7 0 ds)) ds hs w → ∃ h', Hol h' w ∧ Taken pr Wg (hupd h Wg (nG pr 7 0 ds)) hs h' ∧ R (.tuple #[]) h') : Ok (CM pr Try.prog) 47 #[.pointer (some ⟨Wg, 0, none⟩)] h R := by
  refine c47_ok (args := [_]) (by simp) ?_
  simp (disch := omega) only [dm_t, wS, simprocAttr, IntKind.bits]
  refine wg_dis Try.func53 (by kernel_rfl) (by kernel_rfl) (by kernel_rfl) (by kernel_rfl) hW ?_
  simp (disch := omega) only [dm_t, wS, simprocAttr, IntKind.bits]
  refine vc_loop0 (fun h' => ∃ V, V < 2147483648 ∧ h' = hupd h Wg (nG pr 1 V ds)) (fun h' => vOf h' Wg) ⟨ds.length, hd, rfl⟩ ?_
  rintro _ ⟨V1, hV1, rfl⟩
  simp (disch := omega) only [dm_t, wS, simprocAttr, IntKind.bits]
  have lo := uload_ok (pr := pr) (R := fun x h' => ∃ v : Nat, v ≤ V1 ∧ x = .int .u64 (v * KK) ∧ h' = hupd h Wg (if v = 0 then nG pr 6 0 ds else nG pr 4 v ds)) (hupd_same h Wg (nG pr 1 V1 ds)) (fun v hv => ⟨v, hv, rfl, by rw [hupd_hupd]⟩)
  refine lo.k ?_
  rintro _ _ ⟨v, hv, rfl, rfl⟩
  have hv2 : v < 2147483648 := by omega
  have f0 : ∀ q, binV .and q (.int .u64 ((v : Int) * KK)) (.int .u64 2147483648) = some (.int .u64 0) := fun q => by
    rw [bin_and]; exact congrArg (fun n : Nat => some (Value.int .u64 (IntKind.u64.wrap (n : Int)))) (cnt_flag hv2)
  have f1 : ∀ q, binV .and q (.int .u64 ((v : Int) * KK)) (.int .u64 2147483647) = some (.int .u64 0) := fun q => by
    rw [bin_and]; exact congrArg (fun n : Nat => some (Value.int .u64 (IntKind.u64.wrap (n : Int)))) (cnt_low hv2)
  have f2 := cnt_hi hv2
  have f3 := cnt_up hv2
  by_cases h0 : v = 0
  · subst h0
    simp only [if_true, ↓reduceIte, Int.natCast_zero, Int.zero_mul] at f0 f1 ⊢
    simp (disch := omega) only [dm_t, wS, simprocAttr, IntKind.bits, f0, f1]
    refine wg_ena Try.func54 (by kernel_rfl) (by kernel_rfl) (by kernel_rfl) (by kernel_rfl) (.inr rfl) (hupd_same _ _ _) ?_
    rw [hupd_hupd]
    simp (disch := omega) only [dm_t, wS, simprocAttr, IntKind.bits, f0, f1]
    refine raw_cv ?_
    refine cv_note Try.underlying105 (by kernel_rfl) (by kernel_rfl) (hupd_same _ _ _) (by omega) (by omega) ?_
    simp (disch := omega) only [dm_t, wS, simprocAttr, IntKind.bits, f0, f1]
    refine wg_acq Try.func65 (by kernel_rfl) (by kernel_rfl) (by kernel_rfl) (by kernel_rfl) (hupd_same _ _ _) fun w hw hs hj => ?_
    obtain ⟨h', k1, k2, k3⟩ := hR w hw hs hj
    refine ⟨h', k1, k2, ?_⟩
    simp (disch := omega) only [dm_t, wS, simprocAttr, IntKind.bits, f0, f1]
    exact k3
  · rw [if_neg h0]
    have h0' : ¬ ((v : Int) = 0) := by omega
    simp (disch := omega) only [dm_t, wS, simprocAttr, IntKind.bits, f0, f1, f2, f3, h0']
    have co := ucas_ok (pr := pr) (u := v) (R := fun x h' => (x = .bool true ∧ h' = hupd h Wg (nG pr 5 0 ds)) ∨ (∃ v' : Nat, v' < v ∧ x = .bool false ∧ h' = hupd h Wg (nG pr 1 v' ds))) (hupd_same h Wg (nG pr 4 v ds)) (.inl ⟨rfl, by rw [hupd_hupd]⟩) (fun v' hv' => .inr ⟨v', hv', rfl, by rw [hupd_hupd]⟩)
    refine co.k ?_
    rintro _ _ (⟨rfl, rfl⟩ | ⟨v', hv', rfl, rfl⟩)
    · simp (disch := omega) only [dm_t, wS, simprocAttr, IntKind.bits, f0, f1, f2, f3, h0']
      refine raw_cv ?_
      refine cv_note Try.underlying111 (by kernel_rfl) (by kernel_rfl) (hupd_same _ _ _) (by omega) (by omega) ?_
      simp (disch := omega) only [dm_t, wS, simprocAttr, IntKind.bits, f0, f1, f2, f3, h0']
      refine wg_write Try.func68 (by kernel_rfl) (by kernel_rfl) (by kernel_rfl) (by kernel_rfl) (by omega) (hupd_same _ _ _) ?_
      simp (disch := omega) only [dm_t, wS, simprocAttr, IntKind.bits, f0, f1, f2, f3, h0']
      refine wg_sem (args := #[.pointer (some (smA Wg)), .bool false]) Try.func69 (by kernel_rfl) (by kernel_rfl) (by kernel_rfl) (by kernel_rfl) rfl (hupd_same _ _ _) ?_
      rw [hupd_hupd]
      simp (disch := omega) only [dm_t, wS, simprocAttr, IntKind.bits, f0, f1, f2, f3, h0']
      have l2 := uload2_ok (pr := pr) (R := fun x h' => x = .int .u64 0 ∧ h' = hupd h Wg (nG pr 6 0 ds)) (hupd_same h Wg (nG pr 6 0 ds)) ⟨rfl, rfl⟩
      refine l2.k ?_
      rintro _ _ ⟨rfl, rfl⟩
      simp (disch := omega) only [dm_t, wS, simprocAttr, IntKind.bits, f0, f1, f2, f3, h0']
      refine wg_ena Try.func54 (by kernel_rfl) (by kernel_rfl) (by kernel_rfl) (by kernel_rfl) (.inr rfl) (hupd_same _ _ _) ?_
      rw [hupd_hupd]
      simp (disch := omega) only [dm_t, wS, simprocAttr, IntKind.bits]
      refine raw_cv ?_
      refine cv_note Try.underlying105 (by kernel_rfl) (by kernel_rfl) (hupd_same _ _ _) (by omega) (by omega) ?_
      simp (disch := omega) only [dm_t, wS, simprocAttr, IntKind.bits]
      refine wg_acq Try.func65 (by kernel_rfl) (by kernel_rfl) (by kernel_rfl) (by kernel_rfl) (hupd_same _ _ _) fun w hw hs hj => ?_
      obtain ⟨h', k1, k2, k3⟩ := hR w hw hs hj
      refine ⟨h', k1, k2, ?_⟩
      simp (disch := omega) only [dm_t, wS, simprocAttr, IntKind.bits]
      exact k3
    · simp (disch := omega) only [dm_t, wS, simprocAttr, IntKind.bits, f0, f1, f2, f3, h0']
      refine ⟨⟨v', by omega, rfl⟩, ?_⟩
      rw [vOf_upd, vOf_upd]
      omega
end
end Go.Proofs.Ytojhnclkhiffkaa

/-
  The starter adds one to the group.
-/

namespace Go.Proofs.Ytojhnclkhiffkaa
open Go.Conc Go.Conc.Lib
open Go.ConcR (stA smA KK)
set_option linter.unusedVariables false
set_option linter.unusedSimpArgs false
set_option maxRecDepth 100000
noncomputable def c43_a : Code := match Try.f43.body with | some (.seq (.cond _ (.seq x _) _) _) => x | _ => .skip
noncomputable def c43_b : Code := match Try.f43.body with | some (.seq (.cond _ (.seq _ (.seq y _)) _) _) => y | _ => .skip
noncomputable def o43_c : Array Oper := match Try.f43.body with | some (.seq (.cond _ (.seq _ (.seq _ (.region _ o _))) _) _) => o | _ => #[]
theorem body43 : Try.f43.body = some (.seq (.cond (.const (.bool true)) (.seq c43_a (.seq c43_b (.region 3 o43_c false))) .skip) c43_rest) := by kernel_rfl
theorem op43 : o43_c = #[{ dst := none, op := Op.defer { callee := Callee.value (Operand.func 54), args := #[], argTypes := #[] }, type := 0, pos := "waitgroup.go:84", after := #[], guard := none }] := by kernel_rfl
@[reducible] def l43_a : LC := .seq (.ops [⟨some 9, none, .mv (.tmp 1)⟩, ⟨some 10, none, .bin .lss .other (.tmp 9) (.const (.int .i64 0))⟩]) [0, 1, 10] (.cond (.tmp 10) (.ops [⟨some 11, none, .mv (.tmp 0)⟩, ⟨some 12, none, .raw ⟨Option.some 12, Op.convert 105 49 (Operand.tmp 11), 49, "", #[], none⟩⟩, ⟨some 13, none, .xc 52 [.tmp 12]⟩]) .skip)
theorem low43_a : lowC Try.prog ⟨0, 117⟩ (.seq .leaf [0, 1, 10] (.cond .leaf .leaf)) c43_a = l43_a := by kernel_rfl
theorem low43_b : lowC Try.prog ⟨0, 117⟩ .leaf c43_b = .ops [⟨some 14, none, .xc 53 []⟩] := by kernel_rfl
theorem ntm43 : Try.f43.ntmps = 117 := by kernel_rfl
theorem res43 : Try.f43.results = (([] : List Nat).map ResultVar.tmp).toArray := by kernel_rfl
theorem he54 : Extern.find Try.f54 = some (fun _ => do mark .enable; pure Extern.Race.none_) := by kernel_rfl
section
variable {pr : Pro} {h : H} {Wg V : Nat} {ds : List Value}
theorem At.two {n : NN} {dd : List Deferred} {e : Env} {a : Act} (x : At n dd e a) {u v : Value} (h0 : e.get 0 = some u) (h1 : e.get 1 = some v) : At n dd [(0, u), (1, v)] a := by
  refine ⟨x.defers, x.size, fun t w hg => ?_⟩
  simp only [Env.get] at hg
  split at hg
  · rename_i e0; subst e0; cases hg; exact x.agree _ _ h0
  · split at hg
    · rename_i e0; subst e0; cases hg; exact x.agree _ _ h1
    · cases hg
/-- What follows the beginning. -/
theorem add_rest (hW : h Wg = some (nG pr 1 ds.length ds)) (hd : ds.length < 2147483646) :
    vc (CM pr Try.prog) c43 (fun x e' h' => (x = .normal ∨ x = .ret) ∧ h' = hupd h Wg (nG pr 2 ds.length ds)) [(0, .pointer (some ⟨Wg, 0, none⟩)), (1, .int .i64 1)] h := by
  simp only [c43]
  simp (disch := omega) only [dm_t, wS, simprocAttr, IntKind.bits]
  refine bub_ok ?_
  simp (disch := omega) only [dm_t, wS, simprocAttr, IntKind.bits]
  have ao := uadd_ok (pr := pr) (R := fun x h' => ∃ n : Nat, 1 ≤ n ∧ n ≤ ds.length + 1 ∧ x = .int .u64 (n * KK) ∧ h' = hupd h Wg (nG pr 2 ds.length ds)) hd hd hW (fun v hv => ⟨v + 1, by omega, by omega, by simp, rfl⟩)
  refine ao.k ?_
  rintro _ _ ⟨n, hn1, hn2, rfl, rfl⟩
  have hv2 : n < 2147483648 := by omega
  have f0 : ∀ q, binV .and q (.int .u64 ((n : Int) * KK)) (.int .u64 2147483648) = some (.int .u64 0) := fun q => by
    rw [bin_and]; exact congrArg (fun n : Nat => some (Value.int .u64 (IntKind.u64.wrap (n : Int)))) (cnt_flag hv2)
  have f1 : ∀ q, binV .and q (.int .u64 ((n : Int) * KK)) (.int .u64 2147483647) = some (.int .u64 0) := fun q => by
    rw [bin_and]; exact congrArg (fun n : Nat => some (Value.int .u64 (IntKind.u64.wrap (n : Int)))) (cnt_low hv2)
  have f2 := cnt_hi hv2
  simp (disch := omega) only [dm_t, wS, simprocAttr, IntKind.bits, f0, f1, f2]
  have g0 : ¬ ((n : Int) < 0) := by omega
  have g1 : (0 : Int) < n := by omega
  refine br_intro (fun hc => ?_) fun hc => ?_
  · simp (disch := omega) only [dm_t, wS, simprocAttr, IntKind.bits]
    refine raw_cv ?_
    refine cv_note Try.underlying111 (by kernel_rfl) (by kernel_rfl) (hupd_same _ _ _) (by omega) (by omega) ?_
    simp (disch := omega) only [dm_t, wS, simprocAttr, IntKind.bits]
    refine wg_read Try.func60 (by kernel_rfl) (by kernel_rfl) (by kernel_rfl) (by kernel_rfl) (by omega) (hupd_same _ _ _) ?_
    simp (disch := omega) only [dm_t, wS, simprocAttr, IntKind.bits, g0, g1]
    exact .inr trivial
  · simp (disch := omega) only [dm_t, wS, simprocAttr, IntKind.bits, g0, g1]
    exact .inr trivial
section
variable {ca cb cr : Code} {ht : Hint} {a : Act} {cs : List Frame} {b : Frame}
theorem add_walk (la : lowC Try.prog ⟨0, 117⟩ (.seq .leaf [0, 1, 10] (.cond .leaf .leaf)) ca = l43_a) (lb : lowC Try.prog ⟨0, 117⟩ .leaf cb = .ops [⟨some 14, none, .xc 53 []⟩]) (lr : lowC Try.prog ⟨0, 117⟩ ht cr = c43)
    (hW : h Wg = some (nG pr 0 V ds)) (hd : ds.length < 2147483646) (hb : b.kind ≠ .early) {op : Oper} (hop : op = { dst := none, op := Op.defer { callee := Callee.value (Operand.func 54), args := #[], argTypes := #[] }, type := 0, pos := "waitgroup.go:84", after := #[], guard := none })
    (hat : At ⟨0, 117⟩ [] [(0, .pointer (some ⟨Wg, 0, none⟩)), (1, .int .i64 1)] a)
    (leave : ∀ (a' : Act) (todo : List Item), a'.defers = [dcall 54 #[]] → JM pr Try.prog (G { b.at a' todo with mode := .returning } cs) (hupd h Wg (nG pr 2 ds.length ds))) :
    JM pr Try.prog (G (b.at a [.code (.seq (.cond (.const (.bool true)) (.seq ca (.seq cb (.region 3 #[op] false))) .skip) cr)]) cs) h := by
  refine Cx.idle (P := (CM pr Try.prog)) rfl (fun w => stepG_seq) ?_
  refine Cx.idle (P := (CM pr Try.prog)) rfl (fun w => stepG_cond (t := true) rfl) ?_
  refine Cx.idle (P := (CM pr Try.prog)) rfl (fun w => stepG_seq) ?_
  refine vc_sound (P := (CM pr Try.prog)) ca (n := ⟨0, 117⟩) (ds := []) (.seq .leaf [0, 1, 10] (.cond .leaf .leaf)) (fun x e' h' => x = .normal ∧ h' = h ∧ e'.get 0 = some (.pointer (some ⟨Wg, 0, none⟩)) ∧ e'.get 1 = some (.int .i64 1)) _ h _ hat ?_ b _ _ hb ?_
  · rw [la]
    simp only [l43_a]
    simp (disch := omega) only [dm_t, wS, simprocAttr, IntKind.bits]
  rintro x e' h' a' hx hat ⟨rfl, rfl, g0, g1⟩
  refine Cx.idle (P := (CM pr Try.prog)) rfl (fun w => stepG_seq) ?_
  refine vc_sound (P := (CM pr Try.prog)) cb (n := ⟨0, 117⟩) (ds := []) .leaf (fun x e' h2 => x = .normal ∧ h2 = hupd h' Wg (nG pr 1 ds.length ds) ∧ e'.get 0 = some (.pointer (some ⟨Wg, 0, none⟩)) ∧ e'.get 1 = some (.int .i64 1)) _ h' _ (hat.two g0 g1) ?_ b _ _ hb ?_
  · rw [lb]
    simp (disch := omega) only [dm_t, wS, simprocAttr, IntKind.bits]
    refine wg_dis Try.func53 (by kernel_rfl) (by kernel_rfl) (by kernel_rfl) (by kernel_rfl) hW ?_
    simp (disch := omega) only [dm_t, wS, simprocAttr, IntKind.bits]
  rintro x e2 h2 a2 hx hat2 ⟨rfl, rfl, g0, g1⟩
  subst hop
  refine Cx.idle (P := (CM pr Try.prog)) rfl (fun w => stepG_region) ?_
  refine Cx.idle (P := (CM pr Try.prog)) rfl (fun w => stepG_defer rfl rfl hb rfl) ?_
  refine Cx.idle (P := (CM pr Try.prog)) rfl (fun w => stepG_region_end) ?_
  have hat3 := hat2.two g0 g1
  obtain ⟨T2, D2⟩ := a2
  obtain rfl : D2 = [] := hat2.defers
  suffices key : Cx.J (CM pr Try.prog) (G (b.at ⟨T2, [dcall 54 #[]]⟩ [.code cr]) cs) (hupd h' Wg (nG pr 1 ds.length ds)) by
    simpa [Act.put] using key
  refine vc_sound (P := (CM pr Try.prog)) cr (n := ⟨0, 117⟩) (ds := [dcall 54 #[]]) ht (fun x e' h2 => (x = .normal ∨ x = .ret) ∧ h2 = hupd h' Wg (nG pr 2 ds.length ds)) [(0, .pointer (some ⟨Wg, 0, none⟩)), (1, .int .i64 1)] _ ⟨T2, [dcall 54 #[]]⟩ ⟨?_, hat3.size, hat3.agree⟩ ?_ b _ _ hb ?_
  · rfl
  · rw [lr]
    have := add_rest (pr := pr) (hupd_same h' Wg (nG pr 1 ds.length ds)) hd
    rw [hupd_hupd] at this
    exact this
  rintro x e4 h4 a4 hx hat4 ⟨hxx, rfl⟩
  rcases hxx with rfl | rfl
  · exact Cx.idle (P := (CM pr Try.prog)) rfl (fun w => stepG_end) (leave _ _ hat4.defers)
  · exact fun todo => leave _ _ hat4.defers
end
theorem add_ok {R : Value → H → Prop} (hW : h Wg = some (nG pr 0 V ds)) (hd : ds.length < 2147483646) (hR : R (.tuple #[]) (hupd h Wg (nG pr 3 ds.length ds))) :
    Ok (CM pr Try.prog) 43 #[.pointer (some ⟨Wg, 0, none⟩), .int .i64 1] h R := by
  intro b a k cs ops i rest o ho hw hk hs hV
  have e1 : ∀ w, (execOp a.eval o).run Try.prog w = .ok (.enter 43 #[.pointer (some ⟨Wg, 0, none⟩), .int .i64 1]) w := fun w => by
    have := congrArg Prod.fst (hs w)
    rw [Sem.runT_fst, Sem.runT_fst] at this
    exact this.trans (callFunc_name (P := (CM pr Try.prog)) Try.func43 body43 (by kernel_rfl) _ w).1
  have e2 : ∀ w, listed Try.prog b.fn a o w = #[] := fun w => by
    refine Array.eq_empty_iff_forall_not_mem.2 fun e he => ?_
    have h1 := mem_listed he
    have : (execOp a.eval o).events Try.prog w #[] = (callFunc 43 #[.pointer (some ⟨Wg, 0, none⟩), .int .i64 1]).events Try.prog w #[] := congrArg Prod.snd (hs w)
    rw [this, (callFunc_name (P := (CM pr Try.prog)) Try.func43 body43 (by kernel_rfl) _ w).2] at h1
    simp at h1
  refine Cx.idle (P := (CM pr Try.prog)) rfl (fun w => (stepG_enter ho hw hk (e1 w)).trans (by rw [e2 w])) ?_
  rw [enter_at (P := Try.prog) _ Try.func43 body43, op43, ntm43]
  refine add_walk (pr := pr) (b := base 43) low43_a low43_b c43_low hW hd (by simp [base]) rfl ⟨rfl, by simp, ?_⟩ ?_
  · intro t v hg
    simp only [Env.get] at hg
    split at hg
    · rename_i e0; subst e0; cases hg; simp
    · split at hg
      · rename_i e0; subst e0; cases hg; simp
      · cases hg
  · rintro ⟨T, D⟩ todo hD
    obtain rfl : D = _ := hD
    refine JM.of (.ena rfl Wg 2 ds.length ds (.inl rfl) (hupd_same _ _ _) fun w hh => ⟨_, stepG_unwind_entry (a := ⟨T, [dcall 54 #[]]⟩) (b := base 43) (v := .tuple #[]) rfl Try.func54 (by kernel_rfl) (by kernel_rfl) (by kernel_rfl) (he54) (by simp [Extern.Race.none_]) (by simp [Go.ConcR.mk]) (sy_mk (by simp)), ?_⟩)
    rw [hupd_hupd]
    refine Cx.idle (P := (CM pr Try.prog)) rfl (fun w => stepG_leave (b := base 43) rfl rfl Try.func43 (results_runV Try.prog w (res := []) res43 T (vs := []) rfl) (results_ev Try.prog w _ res43 _)) ?_
    rw [Frame.finish_at, ho]
    exact hV _ _ ⟨_, rfl, hR⟩
end
end Go.Proofs.Ytojhnclkhiffkaa
namespace Go.Proofs.Ytojhnclkhiffkaa
open Go.Conc Go.Conc.Lib
open Go.ConcR (stA smA KK)
set_option linter.unusedVariables false
set_option linter.unusedSimpArgs false
section
variable {pr : Pro} {h : H} {Wg V : Nat} {ds : List Value}
theorem raw_go {e : Env} {x : Operand} {f : FuncId} {cap : Array Value} {d : Value} {hc h' : H} {K : Value → H → Prop} {X : List PanicEntry → H → Prop} (hx : ev e x = some (.func (.func f) #[] cap)) (hW : h Wg = some (nG pr 3 V ds))
    (sp : ∀ b, b ≠ Wg → SpO pr (ds.length + 1) (h b) (hc b) (h' b)) (hcW : hc Wg = some (nW pr d)) (hW' : h' Wg = some (nG pr 0 0 (ds ++ [d])))
    (hj : JW pr Try.prog (born Try.prog { target := .fn (.func f) cap, args := #[] }) hc) (hK : K undef h') : lM (CM pr Try.prog) (.raw ⟨Option.none, Op.go ⟨Callee.value x, #[], #[]⟩, 0, "", #[], none⟩) e h K X := by
  intro a0 ha b a k cs ops i rest o ho hw hk hs hV
  have r1 : ∀ w, (execOp a0.eval ⟨Option.none, Op.go ⟨Callee.value x, #[], #[]⟩, 0, "", #[], none⟩).run Try.prog w = .ok (.spawn { target := .fn (.func f) cap, args := #[] }) w := fun w => by
    simp [execOp, resolve, Deferred.ofValue, ev_sound ha hx]
  have r2 : ∀ w, (execOp a0.eval ⟨Option.none, Op.go ⟨Callee.value x, #[], #[]⟩, 0, "", #[], none⟩).events Try.prog w #[] = #[] := fun w => by
    simp [execOp, resolve, Deferred.ofValue, ev_sound ha hx]
  have e1 : ∀ w, (execOp a.eval o).run Try.prog w = .ok (.spawn { target := .fn (.func f) cap, args := #[] }) w := fun w => by
    have := congrArg Prod.fst (hs w)
    rw [Sem.runT_fst, Sem.runT_fst] at this
    exact this.trans (r1 w)
  have e2 : ∀ w, listed Try.prog b.fn a o w = #[] := fun w => by
    refine Array.eq_empty_iff_forall_not_mem.2 fun y hy => ?_
    have h1 := mem_listed hy
    have h2 : (execOp a.eval o).events Try.prog w #[] = #[] := (congrArg Prod.snd (hs w)).trans (r2 w)
    rw [h2] at h1
    simp at h1
  refine JM.of (.go rfl Wg V ds hW fun w hh => ⟨_, _, d, hc, h', (stepG_spawn ho hw hk (e1 w) rfl).trans (by rw [e2 w]), sp, hcW, hW', hj, hV _ _ hK⟩)
end
end Go.Proofs.Ytojhnclkhiffkaa
namespace Go.Proofs.Ytojhnclkhiffkaa
open Go.Conc Go.Conc.Lib
set_option linter.unusedVariables false
set_option linter.unusedSimpArgs false
section
variable {pr : Pro} {Pg : Program}
/-- The starter opens the group; lays blocks open for reading; cuts a block into cells. -/
inductive Gh (pr : Pro) : H → H → Prop
  | refl (h : H) : Gh pr h h
  | opn {h h' : H} (M Wg : Nat) (e0 : Value) (hn : ∀ b o, h b = some o → plainO o) (hM : h M = some (.cells #[pr.val [e0]] pr.E)) (hW : h Wg = some (.cells #[.int .u64 0, .int .u32 0] pr.tg)) (hp : ∀ b, pr.pub [e0] b = none) (hb : pr.by_ e0 = 0) (hne : M ≠ Wg)
      (st : Gh pr (hupd (hupd h M (nM pr 0 [e0])) Wg (nG pr 0 0 [])) h') : Gh pr h h'
  | ro {h h' : H} (b : Nat) (c : Array Value) (E : TypeId) (hb : h b = some (.cells c E)) (st : Gh pr (hupd h b (.cells c E (roO c))) h') : Gh pr h h'
  | part {h h' : H} (b : Nat) (c : Array Value) (E : TypeId) (hb : h b = some (.cells c E)) (hg : ∃ Wg ph V ds, ph < 8 ∧ h Wg = some (nG pr ph V ds)) (st : Gh pr (hupd h b (noteO E c.size 0 0 c)) h') : Gh pr h h'
theorem Gh.J {h h' : H} (x : Gh pr h h') {g : Goroutine} (hj : JM pr Pg g h') : JM pr Pg g h := by
  induction x with
  | refl => exact hj
  | opn M Wg e0 hn hM hW hp hb hne st ih => exact JM.of (.opn M Wg e0 hn hM hW hp hb hne (ih hj))
  | ro b c E hb st ih => exact JM.of (.ro b c E hb (ih hj))
  | part b c E hb hg st ih => exact JM.of (.part b c E hb hg (ih hj))
/-- A function of two pieces and a rest: between the second and the rest, hand over. -/
theorem ok_gh {f : FuncId} {fn : Func} {c1 c2 cr : Code} {n : Nat} {res : List Nat} {ht1 ht2 ht : Hint} {l1 l2 lc : LC} (hf : Pg.funcs[f]? = some fn) (hb : fn.body = some (.seq c1 (.seq c2 cr))) (hn : fn.ntmps = n) (hr : fn.results = (res.map ResultVar.tmp).toArray)
    (e1 : lowC Pg ⟨0, n⟩ ht1 c1 = l1) (e2 : lowC Pg ⟨0, n⟩ ht2 c2 = l2) (e3 : lowC Pg ⟨0, n⟩ ht cr = lc) {args : List Value} (ha : args.length ≤ n) {h : H} {R : Value → H → Prop}
    (hv : vc (CM pr Pg) l1 (fun x e' h1 => x = .normal ∧ vc (CM pr Pg) l2 (fun x e2 h2 => x = .normal ∧ ∃ h3, Gh pr h2 h3 ∧ vc (CM pr Pg) lc (retQ res (okR R)) e2 h3) e' h1) (argEnv args 0) h) (hc : (fn.name == "runtime.NumGoroutine") = false) : Ok (CM pr Pg) f args.toArray h R := by
  intro b a k cs ops i rest o ho hw hk hs hV
  have q1 : ∀ w, (execOp a.eval o).run Pg w = .ok (.enter f args.toArray) w := fun w => by
    have := congrArg Prod.fst (hs w)
    rw [Sem.runT_fst, Sem.runT_fst] at this
    exact this.trans (callFunc_name (P := (CM pr Pg)) hf hb hc _ w).1
  have q2 : ∀ w, listed Pg b.fn a o w = #[] := fun w => by
    refine Array.eq_empty_iff_forall_not_mem.2 fun e he => ?_
    have h1 := mem_listed he
    have : (execOp a.eval o).events Pg w #[] = (callFunc f args.toArray).events Pg w #[] := congrArg Prod.snd (hs w)
    rw [this, (callFunc_name (P := (CM pr Pg)) hf hb hc _ w).2] at h1
    simp at h1
  refine Cx.idle (P := (CM pr Pg)) rfl (fun w => (stepG_enter ho hw hk (q1 w)).trans (by rw [q2 w])) ?_
  rw [enter_at (P := Pg) args.toArray hf hb]
  subst e1 e2 e3
  have hat : At ⟨0, n⟩ [] (argEnv args 0) { tmps := args.toArray ++ Array.replicate (fn.ntmps - args.toArray.size) undef, defers := [] } := by
    refine ⟨rfl, ?_, ?_⟩
    · simp [hn]; omega
    · intro t v hg
      obtain ⟨_, h2⟩ := argEnv_get args 0 t v hg
      simp only [Nat.sub_zero] at h2
      have hlt : t < args.length := (List.getElem?_eq_some_iff.1 h2).1
      show (args.toArray ++ Array.replicate (fn.ntmps - args.toArray.size) undef)[t]? = some v
      rw [Array.getElem?_append_left (by simpa using hlt)]
      simpa using h2
  have leave : ∀ (e' : Env) (h' : H) (a' : Act) (todo : List Item), At ⟨0, n⟩ [] e' a' → (match evs e' (res.map .tmp) with | some [v] => okR R (.returned v) h' | some vs => okR R (.returned (.tuple vs.toArray)) h' | none => False) →
      JM pr Pg (G { (base f).at a' todo with mode := .returning } (b.at a (.inRegion ops (i :: rest) :: k) :: cs)) h' := by
    intro e' h' a' todo hat' hq
    cases hvs : evs e' (res.map .tmp) with
    | none => rw [hvs] at hq; exact hq.elim
    | some vs =>
      rw [hvs] at hq
      have hvs' : res.map (fun t => a'.tmps.getD t undef) = vs := by
        rw [← evs_sound hat'.agree hvs, List.map_map]; rfl
      have hrun : ∀ w, (results fn a'.tmps).run Pg w = .ok (resV vs) w := fun w => results_runV Pg w hr a'.tmps hvs'
      refine Cx.idle (P := (CM pr Pg)) rfl (fun w => stepG_leave (b := base f) rfl hat'.defers hf (hrun w) (results_ev Pg w _ hr _)) ?_
      rw [Frame.finish_at, ho]
      refine hV _ _ ?_
      cases vs with
      | nil => exact hq
      | cons v r => cases r <;> exact hq
  refine Cx.idle (P := (CM pr Pg)) rfl (fun w => stepG_seq) ?_
  refine vc_sound (P := (CM pr Pg)) c1 ht1 _ _ _ _ hat hv (base f) _ _ (by simp [base]) ?_
  rintro x e' h1 a1 hx hat1 ⟨rfl, hv1⟩
  refine Cx.idle (P := (CM pr Pg)) rfl (fun w => stepG_seq) ?_
  refine vc_sound (P := (CM pr Pg)) c2 ht2 _ _ _ _ hat1 hv1 (base f) _ _ (by simp [base]) ?_
  rintro x e2 h2 a2 hx hat2 ⟨rfl, h3, hgh, hv2⟩
  refine hgh.J ?_
  refine vc_sound (P := (CM pr Pg)) cr ht _ _ _ _ hat2 hv2 (base f) [] _ (by simp [base]) ?_
  intro x e' h' a' hx hat' hq
  cases x with
  | normal => exact Cx.idle (P := (CM pr Pg)) rfl (fun _ => stepG_end) (leave e' h' a' [] hat' hq)
  | ret => exact fun todo => leave e' h' a' todo hat' hq
  | exit id => exact hq.elim
  | _ => exact hx.elim
end
end Go.Proofs.Ytojhnclkhiffkaa
namespace Go.Proofs.Ytojhnclkhiffkaa
open Go.Conc Go.Conc.Lib
set_option linter.unusedVariables false
set_option linter.unusedSimpArgs false
section
variable {pr : Pro} {h : H} {Wg sb w1 w2 n m : Nat} {R : Value → H → Prop}
/-- What the starter knows between two workers: i of one kind, j of the other. -/
structure Givs (pr : Pro) (Wg sb w1 w2 n m : Nat) (R : Value → H → Prop) (St : Nat → Nat → List Value → H → Prop) : Prop where
  fld : ∀ i j ds h, St i j ds h → (∃ p k, cellAt h ⟨sb, 0, none⟩ = some (.slice p n k)) ∧ cellAt h ⟨sb, 1, none⟩ = some (.int .i64 m) ∧ (∃ V, h Wg = some (nG pr 0 V ds)) ∧ ds.length = i + j
  g1 : ∀ i ds h ib, i < n → St i 0 ds h → h ib = none → ∃ d hc h', (∀ b, b ≠ Wg → SpO pr (ds.length + 1) (hupd (hupd h ib (.cells #[.int .i64 i] 3)) Wg (nG pr 3 ds.length ds) b) (hc b) (h' b)) ∧ hc Wg = some (nW pr d) ∧ h' Wg = some (nG pr 0 0 (ds ++ [d])) ∧
    JW pr Try.prog (born Try.prog (call44 Wg w1 ib)) hc ∧ St (i + 1) 0 (ds ++ [d]) h'
  g2 : ∀ j ds h ib, j < m → St n j ds h → h ib = none → ∃ d hc h', (∀ b, b ≠ Wg → SpO pr (ds.length + 1) (hupd (hupd h ib (.cells #[.int .i64 j] 3)) Wg (nG pr 3 ds.length ds) b) (hc b) (h' b)) ∧ hc Wg = some (nW pr d) ∧ h' Wg = some (nG pr 0 0 (ds ++ [d])) ∧
    JW pr Try.prog (born Try.prog (call46 Wg w2 ib)) hc ∧ St n (j + 1) (ds ++ [d]) h'
  fin : ∀ ds h, St n m ds h → ∀ w, Hol (hupd h Wg (nG pr 7 0 ds)) w → ∀ hs, Joined pr (hupd h Wg (nG pr 7 0 ds)) ds hs w → ∃ h', Hol h' w ∧ Taken pr Wg (hupd h Wg (nG pr 7 0 ds)) hs h' ∧ R (.tuple #[]) h'
  le : n + m < 2147483646
theorem all_loops {x0 x1 x2 : Value} {St : Nat → Nat → List Value → H → Prop} (Gv : Givs pr Wg sb w1 w2 n m R St) (h0 : St 0 0 [] h) :
    vc (CM pr Try.prog) c30_s1 (retQ [] (okR R)) [(6, .pointer (some ⟨Wg, 0, none⟩)), (5, .pointer (some ⟨w2, 0, none⟩)), (4, .pointer (some ⟨w1, 0, none⟩)), (3, .pointer (some ⟨sb, 0, none⟩)), (0, x0), (1, x1), (2, x2)] h := by
  obtain ⟨⟨p, k, c0⟩, c1, _, _⟩ := Gv.fld _ _ _ _ h0
  simp only [c30_s1]
  simp (disch := omega) only [dm_t, wS, simprocAttr, IntKind.bits, c0]
  refine vc_loop1 (fun v h' => ∃ (i : Nat) (ds : List Value), v = .int .i64 i ∧ i ≤ n ∧ St i 0 ds h') (fun v _ => match v with | .int _ x => n - x.toNat | _ => 0) ?_ ?_
  · simp (disch := omega) only [dm_t, wS, simprocAttr, IntKind.bits]
    exact ⟨0, [], rfl, by omega, h0⟩
  rintro _ h' ⟨i, ds, rfl, hin, hSt⟩
  obtain ⟨⟨p', k', q0⟩, q1, ⟨V, qW⟩, ql⟩ := Gv.fld _ _ _ _ hSt
  have hle := Gv.le
  by_cases hlt : i < n
  · have hlt' : (i : Int) < n := by omega
    simp (disch := omega) only [dm_t, wS, simprocAttr, IntKind.bits, hlt']
    intro ib hib
    simp (disch := omega) only [dm_t, wS, simprocAttr, IntKind.bits, storeH_same]
    have neI : Wg ≠ ib := by rintro rfl; rw [hib] at qW; cases qW
    have gW : hupd h' ib (.cells #[.int .i64 i] 3) Wg = some (nG pr 0 V ds) := by rw [hupd_ne _ _ neI]; exact qW
    have ad := add_ok (pr := pr) (R := fun _ h2 => h2 = hupd (hupd h' ib (.cells #[.int .i64 i] 3)) Wg (nG pr 3 ds.length ds)) gW (by omega) rfl
    obtain ⟨d, hc, h2, sp, r1, r2, r3, r4⟩ := Gv.g1 i ds h' ib hlt hSt hib
    refine ad.k ?_
    rintro _ _ rfl
    simp (disch := omega) only [dm_t, wS, simprocAttr, IntKind.bits]
    refine raw_go rfl (hupd_same _ _ _) sp r1 r2 r3 ?_
    simp (disch := omega) only [dm_t, wS, simprocAttr, IntKind.bits]
    exact ⟨⟨i + 1, ds ++ [d], by simp, by omega, r4⟩, by omega⟩
  · have hlt' : ¬ ((i : Int) < n) := by omega
    obtain rfl : i = n := by omega
    simp (disch := omega) only [dm_t, wS, simprocAttr, IntKind.bits, hlt', q1]
    refine vc_loop1 (fun v h' => ∃ (j : Nat) (ds : List Value), v = .int .i64 j ∧ j ≤ m ∧ St i j ds h') (fun v _ => match v with | .int _ x => m - x.toNat | _ => 0) ?_ ?_
    · simp (disch := omega) only [dm_t, wS, simprocAttr, IntKind.bits]
      exact ⟨0, ds, rfl, by omega, hSt⟩
    rintro _ h'' ⟨j, es, rfl, hjm, hSt2⟩
    obtain ⟨_, _, ⟨V2, qW2⟩, ql2⟩ := Gv.fld _ _ _ _ hSt2
    by_cases hltj : j < m
    · have hltj' : (j : Int) < m := by omega
      simp (disch := omega) only [dm_t, wS, simprocAttr, IntKind.bits, hltj']
      intro ib hib
      simp (disch := omega) only [dm_t, wS, simprocAttr, IntKind.bits, storeH_same]
      have neI : Wg ≠ ib := by rintro rfl; rw [hib] at qW2; cases qW2
      have gW : hupd h'' ib (.cells #[.int .i64 j] 3) Wg = some (nG pr 0 V2 es) := by rw [hupd_ne _ _ neI]; exact qW2
      have ad := add_ok (pr := pr) (R := fun _ h2 => h2 = hupd (hupd h'' ib (.cells #[.int .i64 j] 3)) Wg (nG pr 3 es.length es)) gW (by omega) rfl
      obtain ⟨d, hc, h2, sp, r1, r2, r3, r4⟩ := Gv.g2 j es h'' ib hltj hSt2 hib
      refine ad.k ?_
      rintro _ _ rfl
      simp (disch := omega) only [dm_t, wS, simprocAttr, IntKind.bits]
      refine raw_go rfl (hupd_same _ _ _) sp r1 r2 r3 ?_
      simp (disch := omega) only [dm_t, wS, simprocAttr, IntKind.bits]
      exact ⟨⟨j + 1, es ++ [d], by simp, by omega, r4⟩, by omega⟩
    · have hltj' : ¬ ((j : Int) < m) := by omega
      obtain rfl : j = m := by omega
      simp (disch := omega) only [dm_t, wS, simprocAttr, IntKind.bits, hltj']
      refine (wait_ok (pr := pr) (R := fun _ h3 => R (.tuple #[]) h3) qW2 (by omega) fun w hw hs hj => Gv.fin es h'' hSt2 w hw hs hj).k ?_
      intro v h3 hR
      simp (disch := omega) only [dm_t, wS, simprocAttr, IntKind.bits]
      exact hR
end
end Go.Proofs.Ytojhnclkhiffkaa
namespace Go.Proofs.Ytojhnclkhiffkaa
open Go.Conc Go.Conc.Lib
set_option linter.unusedVariables false
set_option linter.unusedSimpArgs false
set_option maxRecDepth 100000
noncomputable def d30_1 : Code := match Try.f30.body with | some (.seq x _) => x | _ => .skip
noncomputable def d30_2 : Code := match Try.f30.body with | some (.seq _ (.seq x _)) => x | _ => .skip
noncomputable def d30_3 : Code := match Try.f30.body with | some (.seq _ (.seq _ x)) => x | _ => .skip
theorem body30 : Try.f30.body = some (.seq d30_1 (.seq d30_2 d30_3)) := by kernel_rfl
theorem low30_1 : lowC Try.prog ⟨0, 27⟩ .leaf d30_1 = .ops [⟨some 3, none, .box 56 (.tmp 0)⟩, ⟨some 4, none, .box 80 (.tmp 1)⟩, ⟨some 5, none, .box 80 (.tmp 2)⟩] := by kernel_rfl
theorem low30_2 : lowC Try.prog ⟨0, 27⟩ .leaf d30_2 = .ops [⟨some 6, none, .new 99 #[.int .u64 0, .int .u32 0]⟩] := by kernel_rfl
theorem low30_3 : lowC Try.prog ⟨0, 27⟩ (.seq (.seq .leaf [3, 4, 5, 6, 11, 12] (.block (.loop [12] [3, 4, 5, 6, 11] (.seq .leaf [3, 4, 5, 6, 11, 12, 13] (.seq (.cond .leaf .leaf) [3, 4, 5, 6, 11, 12] (.seq (.block (.seq .leaf [3, 4, 5, 6, 7, 11, 12] (.seq .leaf [3, 4, 5, 6, 7, 11, 12] .leaf))) [3, 4, 5, 6, 11, 12] .leaf)))))) [3, 5, 6] (.seq (.seq .leaf [5, 6, 19, 20] (.block (.loop [20] [5, 6, 19] (.seq .leaf [5, 6, 19, 20, 21] (.seq (.cond .leaf .leaf) [5, 6, 19, 20] (.seq (.block (.seq .leaf [5, 6, 8, 19, 20] (.seq .leaf [5, 6, 8, 19, 20] .leaf))) [5, 6, 19, 20] .leaf)))))) [6] .leaf)) d30_3 = c30_s1 := by kernel_rfl
theorem ntm30 : Try.f30.ntmps = 27 := by kernel_rfl
theorem res30 : Try.f30.results = (([] : List Nat).map ResultVar.tmp).toArray := by kernel_rfl
section
variable {pr : Pro} {h : H} {R : Value → H → Prop}
theorem all_ok {sf : List Value} {u1 u2 : Value} (c1 : isCell u1 = true) (c2 : isCell u2 = true) 
    (hv : ∀ sb w1 w2 Wg, h sb = none → h w1 = none → h w2 = none → h Wg = none → w1 ≠ sb → w2 ≠ sb → w2 ≠ w1 → Wg ≠ sb → Wg ≠ w1 → Wg ≠ w2 →
      ∃ n m St h3, Gh pr (hupd (hupd (hupd (hupd h sb (.cells sf.toArray 56)) w1 (.cells #[u1] 80)) w2 (.cells #[u2] 80)) Wg (.cells #[.int .u64 0, .int .u32 0] 99)) h3 ∧ Givs pr Wg sb w1 w2 n m R St ∧ St 0 0 [] h3) :
    Ok (CM pr Try.prog) 30 #[.agg sf.toArray, u1, u2] h R := by
  refine ok_gh (args := [_, _, _]) Try.func30 body30 ntm30 res30 low30_1 low30_2 low30_3 (by simp) ?_ (by kernel_rfl)
  have k1 : u1.cells = #[u1] := by cases u1 <;> first | rfl | cases c1
  have k2 : u2.cells = #[u2] := by cases u2 <;> first | rfl | cases c2
  simp (disch := omega) only [dm_t, wS, simprocAttr, IntKind.bits]
  rw [k1, k2]
  intro sb n1 w1 n2 w2 n3 Wg n4
  have q1 : w1 ≠ sb := by rintro rfl; rw [hupd_same] at n2; cases n2
  rw [hupd_ne _ _ q1] at n2
  have q2 : w2 ≠ w1 := by rintro rfl; rw [hupd_same] at n3; cases n3
  rw [hupd_ne _ _ q2] at n3
  have q3 : w2 ≠ sb := by rintro rfl; rw [hupd_same] at n3; cases n3
  rw [hupd_ne _ _ q3] at n3
  have q4 : Wg ≠ w2 := by rintro rfl; rw [hupd_same] at n4; cases n4
  rw [hupd_ne _ _ q4] at n4
  have q5 : Wg ≠ w1 := by rintro rfl; rw [hupd_same] at n4; cases n4
  rw [hupd_ne _ _ q5] at n4
  have q6 : Wg ≠ sb := by rintro rfl; rw [hupd_same] at n4; cases n4
  rw [hupd_ne _ _ q6] at n4
  obtain ⟨n, m, St, h3, gh, gv, st⟩ := hv sb w1 w2 Wg n1 n2 n3 n4 q1 q3 q2 q6 q5 q4
  refine ⟨h3, gh, ?_⟩
  have key := all_loops (x0 := .agg sf.toArray) (x1 := u1) (x2 := u2) gv st
  simp only [c30_s1] at key
  simp (disch := omega) only [dm_t, wS, simprocAttr, IntKind.bits] at key
  exact key
end
end Go.Proofs.Ytojhnclkhiffkaa

/-
  The starter's own beginning and its return.
-/
namespace Go.Proofs.Ytojhnclkhiffkaa
open Go.Conc Go.Conc.Lib
set_option linter.unusedVariables false
set_option linter.unusedSimpArgs false
section
variable {pr : Pro} {Pg : Program}
/-- A law's function, from its entry to its return. -/
theorem top_ok {f : FuncId} {fn : Func} {c : Code} {n : Nat} {res : List Nat} {ht : Hint} {lc : LC} (hf : Pg.funcs[f]? = some fn) (hb : fn.body = some c) (hn : fn.ntmps = n) (hr : fn.results = (res.map ResultVar.tmp).toArray)
    (hi : Pg.inits.idxOf? f = none) (hl : lowC Pg ⟨0, n⟩ ht c = lc) {args : List Value} (ha : args.length ≤ n) {h : H} {R : Value → H → Prop} (hv : vc (CM pr Pg) lc (retQ res (okR R)) (argEnv args 0) h)
    (hR : ∀ v h', R v h' → ((∀ b o, h' b = some o → plainO o ∨ o = nG pr 9 0 []) ∨ ∃ Wg, h' Wg = some (nG pr 9 0 [])) ∧ pr.fin v h') : JM pr Pg (G (Frame.enter Pg f args.toArray .normal) []) h := by
  rw [enter_at (P := Pg) args.toArray hf hb]
  subst hl
  have hat : At ⟨0, n⟩ [] (argEnv args 0) { tmps := args.toArray ++ Array.replicate (fn.ntmps - args.toArray.size) undef, defers := [] } := by
    refine ⟨rfl, ?_, ?_⟩
    · simp [hn]; omega
    · intro t v hg
      obtain ⟨_, h2⟩ := argEnv_get args 0 t v hg
      simp only [Nat.sub_zero] at h2
      have hlt : t < args.length := (List.getElem?_eq_some_iff.1 h2).1
      show (args.toArray ++ Array.replicate (fn.ntmps - args.toArray.size) undef)[t]? = some v
      rw [Array.getElem?_append_left (by simpa using hlt)]
      simpa using h2
  have leave : ∀ (e' : Env) (h' : H) (a' : Act) (todo : List Item), At ⟨0, n⟩ [] e' a' → (match evs e' (res.map .tmp) with | some [v] => okR R (.returned v) h' | some vs => okR R (.returned (.tuple vs.toArray)) h' | none => False) →
      JM pr Pg (G { (base f).at a' todo with mode := .returning } []) h' := by
    intro e' h' a' todo hat' hq
    cases hvs : evs e' (res.map .tmp) with
    | none => rw [hvs] at hq; exact hq.elim
    | some vs =>
      rw [hvs] at hq
      have hvs' : res.map (fun t => a'.tmps.getD t undef) = vs := by
        rw [← evs_sound hat'.agree hvs, List.map_map]; rfl
      have hrun : ∀ w, (results fn a'.tmps).run Pg w = .ok (resV vs) w := fun w => results_runV Pg w hr a'.tmps hvs'
      have hq' : R (resV vs) h' := by
        cases vs with
        | nil => rw [← okR_ret R]; exact hq
        | cons v r => cases r <;> (rw [← okR_ret R]; exact hq)
      obtain ⟨q1, q2⟩ := hR _ _ hq'
      refine JM.of (.ret rfl q1 fun w hh => ⟨resV vs, #[], ?_, by simp, q2⟩)
      have hd := hat'.defers
      have hrw := hrun w
      have hev := results_ev Pg w #[] hr a'.tmps
      simp [G, stepG, unwind, doReturn, Frame.at, base, hd, hf, hrw, hev, seen, GStep.after, hi]
  refine vc_sound (P := (CM pr Pg)) c ht _ _ _ _ hat hv (base f) [] _ (by simp [base]) ?_
  intro x e' h' a' hx hat' hq
  cases x with
  | normal => exact Cx.idle (P := (CM pr Pg)) rfl (fun _ => stepG_end) (leave e' h' a' [] hat' hq)
  | ret => exact fun todo => leave e' h' a' todo hat' hq
  | exit id => exact hq.elim
  | _ => exact hx.elim
end
end Go.Proofs.Ytojhnclkhiffkaa
namespace Go.Proofs.Ytojhnclkhiffkaa
open Go.Conc Go.Conc.Lib Go.RowKit
set_option linter.unusedVariables false
theorem hol_hp (W : World) : Hol (hp W) W := by
  intro b o hb
  obtain ⟨c, E, fr, h1, rfl⟩ := hp_some hb
  simp only [HolO, oneOf_cells, noteOf_cells, if_pos (isRo_roF c)]
  exact ⟨fr, h1, fun h => absurd (congrArg Prod.snd h) (by simp [roF, roO])⟩
section
variable {pr : Pro} {Pg : Program}
theorem law_runs {f : FuncId} {fn : Func} {c : Code} {n : Nat} {res : List Nat} {ht : Hint} {lc : LC} (hf : Pg.funcs[f]? = some fn) (hb : fn.body = some c) (hn : fn.ntmps = n) (hr : fn.results = (res.map ResultVar.tmp).toArray)
    (hi : Pg.inits.idxOf? f = none) (hl : lowC Pg ⟨0, n⟩ ht c = lc) {args : List Value} (ha : args.length ≤ n) {W : World} {R : Value → H → Prop} (hv : vc (CM pr Pg) lc (retQ res (okR R)) (argEnv args 0) (hp W))
    (hR : ∀ v h', R v h' → ((∀ b o, h' b = some o → plainO o ∨ o = nG pr 9 0 []) ∨ ∃ Wg, h' Wg = some (nG pr 9 0 [])) ∧ pr.fin v h') {Post : Value → World → Prop} (hP : ∀ v h' w', pr.fin v h' → Hol h' w' → Below W.heap.size W w' → Post v w') :
    ∃ M last o w' t', runNT Pg (M + 1) (solo (G (Frame.enter Pg f args.toArray .normal) []) W) #[] = (.ended o w', t') ∧ runN Pg M (solo (G (Frame.enter Pg f args.toArray .normal) []) W) = .next last ∧
        step Pg last = .ended o w' ∧ Go.Conc.Good Pg Post last o w' t' := by
  obtain ⟨M, last, o, w', t', h1, h2, h3, h4⟩ := company_runs (pr := pr) (P := Pg) (top_ok hf hb hn hr hi hl ha hv hR) (hol_hp W) (fun b o hb => by
    obtain ⟨c, E, fr, _, rfl⟩ := hp_some hb
    exact ⟨c, E, rfl⟩)
  refine ⟨M, last, o, w', t', h1, h2, h3, h4.mono fun v ⟨h', k1, k2, k3⟩ => hP v h' _ k1 k2 k3⟩
end
end Go.Proofs.Ytojhnclkhiffkaa
namespace Go.Proofs.Ytojhnclkhiffkaa.mk
open Go.Proofs.Ytojhnclkhiffkaa Go.Conc
set_option linter.unusedVariables false
set_option linter.unusedSimpArgs false
def num (n : Nat) : Value := .int .i64 n
/-- What a writer is to leave: its number, its goroutine, the array of answers, how many, the mark, its numbers. -/
def encW (i k A n M : Nat) (xs : List Int) : Value := .tuple #[num 0, num i, num k, num A, num n, num M, .tuple (xs.map (Value.int .i64)).toArray]
def encR (i k A n M looks : Nat) (e0 : Value) : Value := .tuple #[num 1, num i, num k, num A, num n, num M, num looks, e0]
structure LeftW (i k A n M : Nat) (xs : List Int) (h : H) (γ : List Value) (bs : List Bool) (u : Value) : Prop where
  m : h M = some (noteO 34 1 1 k γ.toArray)
  a : h A = some (oneO i u n 64)
  o : O1 (fun _ => True) h 4 u (bs.map .bool)
  len : bs.length = xs.length
  own : own k γ = yes xs bs
  le : ∀ x ∈ xs, x ≤ lastV γ
  ne : γ ≠ []
structure LeftR (i k A n M looks : Nat) (e0 : Value) (h : H) (γ : List Value) (ss : List Int) (u : Value) : Prop where
  m : h M = some (noteO 34 1 1 k γ.toArray)
  a : h A = some (oneO i u n 22)
  o : O1 (fun _ => True) h 2 u (ss.map (.int .i64))
  len : ss.length = looks
  own : own k γ = []
  mem : ∀ x ∈ ss, x ∈ γ.map entV
  ch : chain (entV e0) ss
def kpost (d : Value) (h : H) : Prop :=
  (∃ i k A n M xs γ bs u, d = encW i k A n M xs ∧ LeftW i k A n M xs h γ bs u) ∨ (∃ i k A n M looks e0 γ ss u, d = encR i k A n M looks e0 ∧ LeftR i k A n M looks e0 h γ ss u)
theorem num_inj {a b : Nat} (h : num a = num b) : a = b := by unfold num at h; injection h with _ h; omega
theorem htg {fin : Value → H → Prop} : (mpr kpost fin).tg = lnk.tWg := rfl
end Go.Proofs.Ytojhnclkhiffkaa.mk

/-
  Behind the join: what the starter holds then; a contract used where all that is held is plain.
-/

namespace Go.Proofs.Ytojhnclkhiffkaa
open Go.Conc Go.Conc.Lib
set_option linter.unusedVariables false
set_option linter.unusedSimpArgs false
/-! ### A contract, and all that is held is plain still -/
def allP (h : H) : Prop := ∀ b o, h b = some o → plainO o
theorem allP_hp (w : World) : allP (hp w) := fun b o hb => by
  obtain ⟨c, E, fr, _, rfl⟩ := hp_some hb
  exact ⟨rfl, rfl⟩
theorem allP_fra {h h1 : H} {w w' : World} {es : Array Event} (hp : allP h) (F : Fra h w h1 w' es) : allP h1 := by
  intro b o hb
  cases hno : noteOf o with
  | some z => exact absurd (hp b o (F.noteOld hb (by rw [hno]; simp))).2 (by rw [hno]; simp)
  | none =>
    cases hone : oneOf o with
    | none => exact ⟨hone, hno⟩
    | some z =>
      exfalso
      obtain ⟨i, v, n, E⟩ := z
      have e1 := oneOf_spec hone
      by_cases hlt : b < w.heap.size
      · obtain ⟨o0, h0, hc⟩ := F.old _ _ hb hlt
        have hpl := hp b o0 h0
        rw [e1] at hc
        cases o0 with
        | deferred l =>
          have := chO_def hc hpl.1
          rw [← this] at hpl
          exact absurd hpl.1 (by rw [oneOf_oneO]; simp)
        | cells c0 E0 fr0 =>
          simp only [chO, oneOf_cells] at hc
          split at hc
          · cases hc
          · obtain ⟨_, hc, _⟩ := hc; cases hc
        | _ => simp [chO, oneOf, oneO] at hc
      · have := (F.nw _ _ hb (by omega)).1
        rw [hone] at this; cases this
section
variable {pr : Pro} {Pg : Program}
/-- A walk that may use that all is plain. -/
def CQ (pr : Pro) (Pg : Program) : Cx Pg := ⟨true, fun g h => allP h → JM pr Pg g h, fun g h hs st hp => JM.of (.ord hs fun w hw => by
  refine goes_mono (st w hw) ?_
  rintro g' w' es ⟨h', F, hJ⟩
  exact ⟨h', F, hJ (allP_fra hp F)⟩)⟩
theorem ok_q {f : FuncId} {args : Array Value} {h : H} {R : Value → H → Prop} (hk : Ok (CQ pr Pg) f args h R) (hp : allP h) : Ok (CM pr Pg) f args h fun v h' => R v h' ∧ allP h' := by
  intro b a k cs ops i rest o ho hw hkd hs hV
  refine hk b a k cs ops i rest o ho hw hkd hs ?_ hp
  intro e h' hR hp'
  obtain ⟨v, he, hR⟩ := hR
  injection he with he
  subst he
  exact hV _ _ ⟨_, rfl, hR, hp'⟩
end
/-! ### What is held behind the join -/
def heldO (o : Obj) : Prop := ¬ ∃ c E, o = .cells c E (roF c)
open Classical in
noncomputable def endH (pr : Pro) (Wg : Nat) (h : H) (hs : List H) (w : World) : H := fun b =>
  if b = Wg then some (nG pr 9 0 [])
  else if ∃ x, (x = h ∨ x ∈ hs) ∧ ∃ y, x b = some y ∧ heldO y then
    match w.heap[b]? with
    | some (.cells c E fr) => some (.cells c E (if isRo c fr then roF c else fr))
    | _ => none
  else if ∃ x, (x = h ∨ x ∈ hs) ∧ ∃ c E, x b = some (.cells c E (roF c)) then hp w b
  else none
section
variable {pr : Pro} {Wg b : Nat} {h x : H} {hs : List H} {w : World} {c : Array Value} {E : TypeId}
theorem endH_wg : endH pr Wg h hs w Wg = some (nG pr 9 0 []) := by unfold endH; rw [if_pos rfl]
theorem endH_at {y : Obj} (hb : b ≠ Wg) (hx : x = h ∨ x ∈ hs) (hy : x b = some y) (hn : heldO y) (hw : w.heap[b]? = some (.cells c E)) : endH pr Wg h hs w b = some (.cells c E) := by
  unfold endH
  rw [if_neg hb, if_pos ⟨x, hx, y, hy, hn⟩, hw]
  simp only [if_neg (not_isRo0 c)]
theorem held_own (c : Array Value) (E : TypeId) : heldO (.cells c E) := by
  rintro ⟨c', E', e⟩
  cases e
theorem endH_own (hb : b ≠ Wg) (hx : x = h ∨ x ∈ hs) (hy : x b = some (.cells c E)) (hh : Hol x w) : endH pr Wg h hs w b = some (.cells c E) :=
  endH_at hb hx hy (held_own c E) ((HolO_own (not_isRo0 c)).1 (hh _ _ hy))
theorem endH_open (hb : b ≠ Wg) (hx : x = h ∨ x ∈ hs) (hy : x b = some (.cells c E (roO c))) (hh : Hol x w) : endH pr Wg h hs w b = some (.cells c E) := by
  refine endH_at hb hx hy ?_ ?_
  · rintro ⟨c', E', e⟩
    injection e with e1 e2 e3
    subst e1
    exact absurd (congrArg Prod.snd e3) (by simp [roF, roO])
  · obtain ⟨fr, h1, h2⟩ := (HolO_ro (isRo_roO c)).1 (hh _ _ hy)
    rw [h1, h2 rfl]
theorem endH_ro (hb : b ≠ Wg) (hx : x = h ∨ x ∈ hs) (hy : x b = some (.cells c E (roF c))) (hh : Hol x w) : ∃ fr, endH pr Wg h hs w b = some (.cells c E fr) := by
  obtain ⟨fr, h1, _⟩ := (HolO_ro (isRo_roF c)).1 (hh _ _ hy)
  unfold endH
  rw [if_neg hb]
  by_cases hq : ∃ x, (x = h ∨ x ∈ hs) ∧ ∃ y, x b = some y ∧ heldO y
  · rw [if_pos hq, h1]
    exact ⟨_, rfl⟩
  · rw [if_neg hq, if_pos ⟨x, hx, c, E, hy⟩]
    exact ⟨_, hp_cells h1⟩
theorem HolO_any {fr : Nat × Nat} {o : Option Obj} (h : HolO (.cells c E fr) o) : ∃ fr', o = some (.cells c E fr') := by
  by_cases hr : isRo c fr
  · obtain ⟨fr', h1, _⟩ := (HolO_ro hr).1 h
    exact ⟨fr', h1⟩
  · exact ⟨fr, (HolO_own hr).1 h⟩
theorem endH_cells {fr : Nat × Nat} (hb : b ≠ Wg) (hx : x = h ∨ x ∈ hs) (hy : x b = some (.cells c E fr)) (hh : Hol x w) : ∃ fr, endH pr Wg h hs w b = some (.cells c E fr) := by
  obtain ⟨fr', h1⟩ := HolO_any (hh _ _ hy)
  unfold endH
  rw [if_neg hb]
  by_cases hq : ∃ x, (x = h ∨ x ∈ hs) ∧ ∃ y, x b = some y ∧ heldO y
  · rw [if_pos hq, h1]
    exact ⟨_, rfl⟩
  · rw [if_neg hq]
    have : ∃ x, (x = h ∨ x ∈ hs) ∧ ∃ c E, x b = some (.cells c E (roF c)) := by
      refine ⟨x, hx, ?_⟩
      by_cases hn : heldO (.cells c E fr)
      · exact absurd ⟨x, hx, _, hy, hn⟩ hq
      · obtain ⟨c', E', e⟩ := Classical.not_not.1 hn
        exact ⟨c', E', by rw [hy, e]⟩
    rw [if_pos this]
    exact ⟨_, hp_cells h1⟩
theorem held_one (i n : Nat) (v : Value) (E : TypeId) : heldO (oneO i v n E) := by rintro ⟨c', E', e⟩; cases e
theorem held_note (E : TypeId) (n t a : Nat) (L : Array Value) : heldO (noteO E n t a L) := by rintro ⟨c', E', e⟩; cases e
theorem endH_one {i n : Nat} {v : Value} (hb : b ≠ Wg) (hx : x = h ∨ x ∈ hs) (hy : x b = some (oneO i v n E)) (hh : Hol x w) : ∃ c, w.heap[b]? = some (.cells c E) ∧ endH pr Wg h hs w b = some (.cells c E) ∧ c.size = n ∧ c[i]? = some v := by
  obtain ⟨c, h1, h2, h3⟩ := HolO_one.1 (hh _ _ hy)
  exact ⟨c, h1, endH_at hb hx hy (held_one _ _ _ _) h1, h2, h3⟩
theorem endH_note {n t a : Nat} {L : Array Value} (hb : b ≠ Wg) (hx : x = h ∨ x ∈ hs) (hy : x b = some (noteO E n t a L)) (hh : Hol x w) : ∃ c, w.heap[b]? = some (.cells c E) ∧ endH pr Wg h hs w b = some (.cells c E) ∧ c.size = n := by
  obtain ⟨c, h1, h2, _⟩ := HolO_note.1 (hh _ _ hy)
  exact ⟨c, h1, endH_at hb hx hy (held_note _ _ _ _ _) h1, h2⟩
theorem endH_hol {V : Nat} {ds : List Value} {ph : Nat} (hh : Hol h w) (hW : h Wg = some (nG pr ph V ds)) : Hol (endH pr Wg h hs w) w := by
  intro b o hb
  unfold endH at hb
  split at hb
  · rename_i e
    subst e
    cases hb
    obtain ⟨c, h1, h2, _, h4⟩ := HolO_note.1 (hh _ _ hW)
    exact HolO_note.2 ⟨c, h1, h2, fun h => by omega, fun _ => h4 (by omega)⟩
  · split at hb
    · split at hb
      · rename_i c E fr hw
        cases hb
        rw [hw]
        by_cases hr : isRo c fr
        · rw [if_pos hr]
          exact (HolO_ro (isRo_roF c)).2 ⟨fr, rfl, fun e => absurd (congrArg Prod.snd e) (by simp [roF, roO])⟩
        · rw [if_neg hr]
          exact HolO_cells hr E
      · cases hb
    · split at hb
      · exact hol_hp w b o hb
      · cases hb
theorem endH_taken : Taken pr Wg h hs (endH pr Wg h hs w) := by
  refine ⟨endH_wg, fun b o hb hne => ?_⟩
  unfold endH at hb
  rw [if_neg hne] at hb
  split at hb
  · rename_i hx
    obtain ⟨x, hx, y, hy, hn⟩ := hx
    split at hb
    · cases hb
      exact ⟨⟨rfl, rfl⟩, x, hx, y, hy, .inr hn⟩
    · cases hb
  · split at hb
    · rename_i hx
      obtain ⟨x, hx, c, E, hy⟩ := hx
      obtain ⟨c', E', fr, _, rfl⟩ := hp_some hb
      exact ⟨⟨rfl, rfl⟩, x, hx, _, hy, .inl ⟨c', E', rfl⟩⟩
    · cases hb
end
end Go.Proofs.Ytojhnclkhiffkaa
namespace Go.Proofs.Ytojhnclkhiffkaa
open Go.Conc Go.Conc.Lib
set_option linter.unusedVariables false
set_option linter.unusedSimpArgs false
/-- What the workers are to leave, as far as they are started. -/
def dsOf (e1 e2 : Nat → Nat → Value) (n i j : Nat) : List Value := (List.range i).map (fun i => e1 i (i + 1)) ++ (List.range j).map (fun j => e2 j (n + j + 1))
theorem dsOf_len (e1 e2 : Nat → Nat → Value) (n i j : Nat) : (dsOf e1 e2 n i j).length = i + j := by simp [dsOf]
theorem dsOf_i (e1 e2 : Nat → Nat → Value) (n i : Nat) : dsOf e1 e2 n i 0 ++ [e1 i (i + 1)] = dsOf e1 e2 n (i + 1) 0 := by simp [dsOf, List.range_succ]
theorem dsOf_j (e1 e2 : Nat → Nat → Value) (n j : Nat) : dsOf e1 e2 n n j ++ [e2 j (n + j + 1)] = dsOf e1 e2 n n (j + 1) := by simp [dsOf, List.range_succ]
theorem dsOf_1 (e1 e2 : Nat → Nat → Value) {n m i : Nat} (h : i < n) : (dsOf e1 e2 n n m)[i]? = some (e1 i (i + 1)) := by
  unfold dsOf
  rw [List.getElem?_append_left (by simpa using h)]
  simp [h]
theorem dsOf_2 (e1 e2 : Nat → Nat → Value) {n m j : Nat} (h : j < m) : (dsOf e1 e2 n n m)[n + j]? = some (e2 j (n + j + 1)) := by
  unfold dsOf
  rw [List.getElem?_append_right (by simp)]
  simp [h]
section
variable {pr : Pro}
def stH (pr : Pro) (h3 : H) (A B Wg : Nat) (EA EB : TypeId) (n m : Nat) (LA LB : Array Value) (i j : Nat) (ds : List Value) : H :=
  hupd (hupd (hupd h3 A (noteO EA n 0 i LA)) B (noteO EB m 0 j LB)) Wg (nG pr 0 0 ds)
def roX (o : Option Obj) : Option Obj := match o with
  | some (.cells c E fr) => if isRo c fr then some (.cells c E fr) else none
  | _ => none
theorem roX_ro {c : Array Value} {E : TypeId} {fr : Nat × Nat} (h : isRo c fr) : roX (some (.cells c E fr)) = some (.cells c E fr) := by simp [roX, h]
theorem spO_ro (k : Nat) (o : Option Obj) : SpO pr k o (roX o) o := by
  unfold roX
  split
  · split
    · rename_i h; exact .copy _ _ _ h
    · exact .mine _
  · exact .mine _
/-- What a worker is born with. -/
def kidH (pr : Pro) (h3 : H) (A B Wg M ib : Nat) (E : TypeId) (n : Nat) (z : Value) (e0 : Value) (i k : Nat) (d : Value) : H := fun b =>
  if b = Wg then some (nW pr d) else if b = ib then some (.cells #[.int .i64 (i : Int)] 3) else if b = A then some (oneO i z n E) else if b = B then none else if b = M then some (nM pr k [e0]) else roX (h3 b)
/-- What is known of what is held behind the join. -/
structure Behind (pr : Pro) (h3 : H) (A B Wg M : Nat) (EA EB : TypeId) (n m : Nat) (e0 : Value) (e1 e2 : Nat → Nat → Value) (hs : List H) (h' : H) : Prop where
  len : hs.length = n + m
  wg : h' Wg = some (nG pr 9 0 [])
  ro : ∀ b c E fr, h3 b = some (.cells c E fr) → isRo c fr → b ≠ Wg → b ≠ A → b ≠ B → ∃ fr', h' b = some (.cells c E fr')
  opn : ∀ b c E, h3 b = some (.cells c E (roO c)) → b ≠ Wg → b ≠ A → b ≠ B → h' b = some (.cells c E)
  own : ∀ b c E, h3 b = some (.cells c E) → b ≠ Wg → b ≠ A → b ≠ B → h' b = some (.cells c E)
  fa : ∃ us : Array Value, h' A = some (.cells us EA) ∧ us.size = n ∧ ∀ x i u, x ∈ hs → x A = some (oneO i u n EA) → us[i]? = some u
  fb : ∃ us : Array Value, h' B = some (.cells us EB) ∧ us.size = m ∧ ∀ x i u, x ∈ hs → x B = some (oneO i u m EB) → us[i]? = some u
  fm : ∃ γ, h' M = some (.cells #[pr.val γ] pr.E) ∧ pr.Hst e0 γ ∧ pr.Ext 0 [e0] γ ∧ (∀ v ∈ γ, pr.by_ v ≤ n + m) ∧ ∀ (i : Nat) (x : H), hs[i]? = some x → ∀ L, x M = some (nM pr (i + 1) L) → pr.Ext (i + 1) L γ
  kid : ∀ x b c E fr, x ∈ hs → x b = some (.cells c E fr) → E ≠ pr.tg → ∃ fr', h' b = some (.cells c E fr')
  kid0 : ∀ x b c E, x ∈ hs → x b = some (.cells c E) → E ≠ pr.tg → h' b = some (.cells c E)
  p1 : ∀ i x, i < n → hs[i]? = some x → pr.post (e1 i (i + 1)) x
  p2 : ∀ j x, j < m → hs[n + j]? = some x → pr.post (e2 j (n + j + 1)) x
theorem nM_inj {k k' : Nat} {L L' : List Value} (h : nM pr k L = nM pr k' L') : k = k' ∧ L = L' := by
  obtain ⟨_, _, _, h1, h2⟩ := note_inj h
  exact ⟨h1, by simpa using congrArg Array.toList h2⟩
theorem givs_of {h3 : H} {A B Wg M sb w1 w2 n m : Nat} {EA EB : TypeId} {LA LB : Array Value} {zA zB e0 : Value} {e1 e2 : Nat → Nat → Value} {R : Value → H → Prop} {p : Option Addr} {pc : Nat} {fs : Nat × Nat} {lk : Value} {Es : TypeId}
    (hS : h3 sb = some (.cells #[.slice p n pc, .int .i64 m, lk] Es fs)) (hA : h3 A = some (noteO EA n 0 0 LA)) (hB : h3 B = some (noteO EB m 0 0 LB)) (hM : h3 M = some (nM pr 0 [e0])) (hW : h3 Wg = some (nG pr 0 0 [])) (hAB : A ≠ B)
    (zA_ : ∀ i, i < n → LA[i]? = some zA) (zB_ : ∀ j, j < m → LB[j]? = some zB) (hle : n + m < 2147483646)
    (J1 : ∀ i ib, i < n → h3 ib = none → JW pr Try.prog (born Try.prog (call44 Wg w1 ib)) (kidH pr h3 A B Wg M ib EA n zA e0 i (i + 1) (e1 i (i + 1))))
    (J2 : ∀ j ib, j < m → h3 ib = none → JW pr Try.prog (born Try.prog (call46 Wg w2 ib)) (kidH pr h3 B A Wg M ib EB m zB e0 j (n + j + 1) (e2 j (n + j + 1))))
    (F : ∀ hs h', Behind pr h3 A B Wg M EA EB n m e0 e1 e2 hs h' → R (.tuple #[]) h') :
    Givs pr Wg sb w1 w2 n m R fun i j ds h => h = stH pr h3 A B Wg EA EB n m LA LB i j ds ∧ ds = dsOf e1 e2 n i j ∧ (j ≠ 0 → i = n) := by
  have AM : A ≠ M := by rintro rfl; rw [hA] at hM; have := (note_inj (Option.some.inj hM)).2.2.1; omega
  have BM : B ≠ M := by rintro rfl; rw [hB] at hM; have := (note_inj (Option.some.inj hM)).2.2.1; omega
  have AW : A ≠ Wg := by rintro rfl; rw [hA] at hW; have := (note_inj (Option.some.inj hW)).2.2.1; omega
  have BW : B ≠ Wg := by rintro rfl; rw [hB] at hW; have := (note_inj (Option.some.inj hW)).2.2.1; omega
  have MW : M ≠ Wg := by rintro rfl; rw [hM] at hW; have := (note_inj (Option.some.inj hW)).2.2.1; omega
  have SA : sb ≠ A := by rintro rfl; rw [hS] at hA; cases hA
  have SB : sb ≠ B := by rintro rfl; rw [hS] at hB; cases hB
  have SW : sb ≠ Wg := by rintro rfl; rw [hS] at hW; cases hW
  have qW : ∀ i j ds, stH pr h3 A B Wg EA EB n m LA LB i j ds Wg = some (nG pr 0 0 ds) := fun i j ds => hupd_same _ _ _
  have qB : ∀ i j ds, stH pr h3 A B Wg EA EB n m LA LB i j ds B = some (noteO EB m 0 j LB) := fun i j ds => by unfold stH; rw [hupd_ne _ _ BW, hupd_same]
  have qA : ∀ i j ds, stH pr h3 A B Wg EA EB n m LA LB i j ds A = some (noteO EA n 0 i LA) := fun i j ds => by unfold stH; rw [hupd_ne _ _ AW, hupd_ne _ _ hAB, hupd_same]
  have qx : ∀ i j ds b, b ≠ A → b ≠ B → b ≠ Wg → stH pr h3 A B Wg EA EB n m LA LB i j ds b = h3 b := fun i j ds b h1 h2 h3' => by unfold stH; rw [hupd_ne _ _ h3', hupd_ne _ _ h2, hupd_ne _ _ h1]
  refine ⟨?_, ?_, ?_, ?_, hle⟩
  · rintro i j ds h ⟨rfl, rfl, _⟩
    refine ⟨⟨p, pc, ?_⟩, ?_, ⟨0, qW _ _ _⟩, dsOf_len _ _ _ _ _⟩
    · rw [cellAt_look, qx _ _ _ _ SA SB SW, hS]; rfl
    · rw [cellAt_look, qx _ _ _ _ SA SB SW, hS]; rfl
  · rintro i ds h ib hi ⟨rfl, rfl, _⟩ hib
    have iW : ib ≠ Wg := by rintro rfl; rw [qW] at hib; cases hib
    have iA : ib ≠ A := by rintro rfl; rw [qA] at hib; cases hib
    have iB : ib ≠ B := by rintro rfl; rw [qB] at hib; cases hib
    rw [qx _ _ _ _ iA iB iW] at hib
    have iM : ib ≠ M := by rintro rfl; rw [hM] at hib; cases hib
    refine ⟨e1 i (i + 1), kidH pr h3 A B Wg M ib EA n zA e0 i (i + 1) (e1 i (i + 1)), stH pr h3 A B Wg EA EB n m LA LB (i + 1) 0 (dsOf e1 e2 n (i + 1) 0), ?_, ?_, ?_, J1 i ib hi hib, by rw [dsOf_i], dsOf_i _ _ _ _, fun h => absurd rfl h⟩
    · intro b hb
      rw [hupd_ne _ _ hb, dsOf_len, Nat.add_zero]
      unfold kidH
      rw [if_neg hb]
      by_cases b1 : b = ib
      · subst b1
        rw [hupd_same, if_pos rfl, qx _ _ _ _ iA iB iW, hib]
        exact .give _ _
      rw [hupd_ne _ _ b1, if_neg b1]
      by_cases b2 : b = A
      · subst b2
        rw [if_pos rfl, qA, qA]
        exact .part _ _ _ _ _ (zA_ i hi) hi
      rw [if_neg b2]
      by_cases b3 : b = B
      · subst b3
        rw [if_pos rfl, qB, qB]
        exact .mine _
      rw [if_neg b3, qx _ _ _ _ b2 b3 hb, qx _ _ _ _ b2 b3 hb]
      by_cases b4 : b = M
      · subst b4
        rw [if_pos rfl, hM]
        exact .note _
      rw [if_neg b4]
      exact spO_ro _ _
    · unfold kidH; rw [if_pos rfl]
    · rw [qW, dsOf_i]
  · rintro j ds h ib hj ⟨rfl, rfl, _⟩ hib
    have iW : ib ≠ Wg := by rintro rfl; rw [qW] at hib; cases hib
    have iA : ib ≠ A := by rintro rfl; rw [qA] at hib; cases hib
    have iB : ib ≠ B := by rintro rfl; rw [qB] at hib; cases hib
    rw [qx _ _ _ _ iA iB iW] at hib
    have iM : ib ≠ M := by rintro rfl; rw [hM] at hib; cases hib
    refine ⟨e2 j (n + j + 1), kidH pr h3 B A Wg M ib EB m zB e0 j (n + j + 1) (e2 j (n + j + 1)), stH pr h3 A B Wg EA EB n m LA LB n (j + 1) (dsOf e1 e2 n n (j + 1)), ?_, ?_, ?_, J2 j ib hj hib, by rw [dsOf_j], dsOf_j _ _ _ _, fun _ => rfl⟩
    · intro b hb
      rw [hupd_ne _ _ hb, dsOf_len]
      unfold kidH
      rw [if_neg hb]
      by_cases b1 : b = ib
      · subst b1
        rw [hupd_same, if_pos rfl, qx _ _ _ _ iA iB iW, hib]
        exact .give _ _
      rw [hupd_ne _ _ b1, if_neg b1]
      by_cases b3 : b = B
      · subst b3
        rw [if_pos rfl, qB, qB]
        exact .part _ _ _ _ _ (zB_ j hj) hj
      rw [if_neg b3]
      by_cases b2 : b = A
      · subst b2
        rw [if_pos rfl, qA, qA]
        exact .mine _
      rw [if_neg b2, qx _ _ _ _ b2 b3 hb, qx _ _ _ _ b2 b3 hb]
      by_cases b4 : b = M
      · subst b4
        rw [if_pos rfl, hM]
        exact .note _
      rw [if_neg b4]
      exact spO_ro _ _
    · unfold kidH; rw [if_pos rfl]
    · rw [qW, dsOf_j]
  · rintro ds h ⟨rfl, rfl, _⟩ w hw hs hj
    have eH : hupd (stH pr h3 A B Wg EA EB n m LA LB n m (dsOf e1 e2 n n m)) Wg (nG pr 7 0 (dsOf e1 e2 n n m)) = hupd (hupd (hupd h3 A (noteO EA n 0 n LA)) B (noteO EB m 0 m LB)) Wg (nG pr 7 0 (dsOf e1 e2 n n m)) := by unfold stH; rw [hupd_hupd]
    rw [eH] at hw hj ⊢
    generalize hh7 : hupd (hupd (hupd h3 A (noteO EA n 0 n LA)) B (noteO EB m 0 m LB)) Wg (nG pr 7 0 (dsOf e1 e2 n n m)) = h7 at hw hj
    have kW : h7 Wg = some (nG pr 7 0 (dsOf e1 e2 n n m)) := by rw [← hh7, hupd_same]
    have kB : h7 B = some (noteO EB m 0 m LB) := by rw [← hh7, hupd_ne _ _ BW, hupd_same]
    have kA : h7 A = some (noteO EA n 0 n LA) := by rw [← hh7, hupd_ne _ _ AW, hupd_ne _ _ hAB, hupd_same]
    have kx : ∀ b, b ≠ A → b ≠ B → b ≠ Wg → h7 b = h3 b := fun b h1 h2 h3' => by rw [← hh7, hupd_ne _ _ h3', hupd_ne _ _ h2, hupd_ne _ _ h1]
    have kM : h7 M = some (nM pr 0 [e0]) := by rw [kx _ (Ne.symm AM) (Ne.symm BM) MW, hM]
    refine ⟨endH pr Wg h7 hs w, endH_hol hw kW, endH_taken, F hs _ ?_⟩
    obtain ⟨M', γ, e0', j1, j2, j3, j4, j5, j6, j7⟩ := hj.hist
    obtain rfl : M = M' := j2 _ _ _ kM
    rw [kM] at j1
    have je : e0 = e0' := by have := (nM_inj (Option.some.inj j1)).2; simpa using this
    subst je
    have hlen : hs.length = n + m := by rw [hj.len, dsOf_len]
    refine ⟨hlen, endH_wg, ?_, ?_, ?_, ?_, ?_, ?_, ?_, ?_, ?_, ?_⟩
    · rintro b c E fr hb (rfl | rfl) b1 b2 b3
      · exact endH_ro b1 (.inl rfl) (by rw [kx _ b2 b3 b1, hb]) hw
      · exact ⟨_, endH_open b1 (.inl rfl) (by rw [kx _ b2 b3 b1, hb]) hw⟩
    · intro b c E hb b1 b2 b3
      exact endH_open b1 (.inl rfl) (by rw [kx _ b2 b3 b1, hb]) hw
    · intro b c E hb b1 b2 b3
      exact endH_own b1 (.inl rfl) (by rw [kx _ b2 b3 b1, hb]) hw
    · obtain ⟨c, c1, c2, c3⟩ := endH_note (pr := pr) (hs := hs) AW (.inl rfl) kA hw
      refine ⟨c, c2, c3, fun x i u hx hu => ?_⟩
      obtain ⟨c', d1, _, _, d4⟩ := endH_one (pr := pr) (h := h7) AW (.inr hx) hu (hj.hol x hx)
      rw [c1] at d1
      cases d1
      exact d4
    · obtain ⟨c, c1, c2, c3⟩ := endH_note (pr := pr) (hs := hs) BW (.inl rfl) kB hw
      refine ⟨c, c2, c3, fun x i u hx hu => ?_⟩
      obtain ⟨c', d1, _, _, d4⟩ := endH_one (pr := pr) (h := h7) BW (.inr hx) hu (hj.hol x hx)
      rw [c1] at d1
      cases d1
      exact d4
    · refine ⟨γ, endH_at MW (.inl rfl) kM (held_note _ _ _ _ _) j3.1, j4, j5, fun v hv => by have := j6 v hv; rw [dsOf_len] at this; exact this, fun i x hx L hL => ?_⟩
      rcases j7 i x hx with h | ⟨L', h1, h2⟩
      · rw [hL] at h; cases h
      · rw [hL] at h1
        obtain ⟨_, rfl⟩ := nM_inj (Option.some.inj h1)
        exact h2
    · intro x b c E fr hx hb hE
      refine endH_cells ?_ (.inr hx) hb (hj.hol x hx)
      rintro rfl
      obtain ⟨fr', h1⟩ := HolO_any (hj.hol x hx _ _ hb)
      obtain ⟨c', h2, _⟩ := HolO_note.1 (hw _ _ kW)
      rw [h1] at h2
      cases h2
      exact hE rfl
    · intro x b c E hx hb hE
      refine endH_own ?_ (.inr hx) hb (hj.hol x hx)
      rintro rfl
      have h1 := (HolO_own (not_isRo0 c)).1 (hj.hol x hx _ _ hb)
      obtain ⟨c', h2, _⟩ := HolO_note.1 (hw _ _ kW)
      rw [h1] at h2
      cases h2
      exact hE rfl
    · intro i x hi hx
      exact hj.post i _ x (dsOf_1 _ _ hi) hx
    · intro j x hj' hx
      exact hj.post (n + j) _ x (dsOf_2 _ _ hj') hx
end
end Go.Proofs.Ytojhnclkhiffkaa

/-
  A worker at a shared cell that holds a pointer; what is published.
-/
namespace Go.Proofs.Ytojhnclkhiffkaa
open Go.Conc
open Go.ConcR (rd wr)
set_option linter.unusedVariables false
section
variable {pr : Pro}
/-- One looks: what is published is seen. -/
def seeH (pr : Pro) (M k : Nat) (γ : List Value) (h : H) : H := fun b =>
  if b = M then some (nM pr k γ) else match pr.pub γ b, h b with
    | some (c, E), none => some (.cells c E (roO c))
    | _, o => o
theorem see_turn (M k : Nat) (γ : List Value) (h : H) : pr.Turn M k γ γ h (seeH pr M k γ h) := by
  refine ⟨by unfold seeH; rw [if_pos rfl], fun b hb => ?_, fun _ _ h => h, fun b c E h1 h2 => absurd h1 (by rw [h2]; simp)⟩
  unfold seeH
  rw [if_neg hb]
  cases hp : pr.pub γ b with
  | none => exact .inl rfl
  | some x =>
    obtain ⟨c, E⟩ := x
    cases ho : h b with
    | none => exact .inr ⟨c, E, rfl, rfl, .inl ⟨rfl, rfl⟩⟩
    | some o => exact .inl rfl
theorem seeH_old {M k b : Nat} {γ : List Value} {h : H} {o : Obj} (hb : h b = some o) (hn : b ≠ M) : seeH pr M k γ h b = some o := by
  unfold seeH
  rw [if_neg hn, hb]
  split <;> first | rfl | (rename_i h1 _; cases h1) | (rename_i h1; cases h1)
theorem seeH_M {M k : Nat} {γ : List Value} {h : H} : seeH pr M k γ h M = some (nM pr k γ) := by unfold seeH; rw [if_pos rfl]
theorem seeH_new {M k b : Nat} {γ : List Value} {h : H} {c : Array Value} {E : TypeId} (hb : h b = none) (hn : b ≠ M) (hp : pr.pub γ b = some (c, E)) : seeH pr M k γ h b = some (.cells c E (roO c)) := by
  unfold seeH
  rw [if_neg hn, hb, hp]
open Classical in
/-- One publishes. -/
noncomputable def pubH (pr : Pro) (M k : Nat) (γ γ' : List Value) (h : H) : H := fun b =>
  if b = M then some (nM pr k γ') else if pr.pub γ b = none then match pr.pub γ' b with
    | some (c, E) => some (.cells c E (roO c))
    | none => h b
  else h b
theorem pub_turn {M k : Nat} {γ γ' : List Value} {h : H} (hg : ∀ b x, pr.pub γ b = some x → pr.pub γ' b = some x) (hn : ∀ b c E, pr.pub γ' b = some (c, E) → pr.pub γ b = none → h b = some (.cells c E) ∧ b ≠ M) : pr.Turn M k γ γ' h (pubH pr M k γ γ' h) := by
  refine ⟨by unfold pubH; rw [if_pos rfl], fun b hb => ?_, hg, fun b c E h1 h2 => ?_⟩
  · unfold pubH
    rw [if_neg hb]
    cases hp : pr.pub γ b with
    | some x => exact .inl rfl
    | none =>
      cases hp' : pr.pub γ' b with
      | none => exact .inl rfl
      | some x =>
        obtain ⟨c, E⟩ := x
        exact .inr ⟨c, E, rfl, rfl, .inr ⟨rfl, (hn b c E hp' hp).1⟩⟩
  · obtain ⟨h3, h4⟩ := hn b c E h1 h2
    refine ⟨h3, ?_, h4⟩
    unfold pubH
    rw [if_neg h4, if_pos h2, h1]
theorem pubH_M {M k : Nat} {γ γ' : List Value} {h : H} : pubH pr M k γ γ' h M = some (nM pr k γ') := by unfold pubH; rw [if_pos rfl]
theorem pubH_old {M k b : Nat} {γ γ' : List Value} {h : H} (hn : b ≠ M) (hp : pr.pub γ' b = none ∨ pr.pub γ b ≠ none) : pubH pr M k γ γ' h b = h b := by
  unfold pubH
  rw [if_neg hn]
  rcases hp with hp | hp
  · by_cases h1 : pr.pub γ b = none
    · rw [if_pos h1, hp]
    · rw [if_neg h1]
  · rw [if_neg hp]
theorem pubH_new {M k b : Nat} {γ γ' : List Value} {h : H} {c : Array Value} {E : TypeId} (hn : b ≠ M) (h1 : pr.pub γ b = none) (h2 : pr.pub γ' b = some (c, E)) : pubH pr M k γ γ' h b = some (.cells c E (roO c)) := by
  unfold pubH
  rw [if_neg hn, if_pos h1, h2]
end
section
variable {pr : Pro} {Pg : Program} {f : FuncId} {fn : Func} {h : H} {K : Value → H → Prop} {M k : Nat} {L : List Value}
/-- What a worker knows of what is published: it holds it to read, or not at all. -/
def PubRo (pr : Pro) (γ : List Value) (h : H) : Prop := ∀ b c E, pr.pub γ b = some (c, E) → ∀ o, h b = some o → ∃ fr, o = .cells c E fr ∧ isRo c fr
/-- A load of a pointer. -/
theorem sh_loadp (hf : Pg.funcs[f]? = some fn) (hname : (fn.name == "runtime.NumGoroutine") = false) (hb : fn.body.isNone = true) (hn : Extern.findNext fn = none) (he : Extern.find fn = some (Extern.Atomic.loadT .ptr))
    (hM : h M = some (nM pr k L)) (hint : ∀ γ, pr.Ext k L γ → ∃ p, pr.val γ = .pointer p)
    (hK : ∀ γ, pr.Ext k L γ → (∃ e0, pr.Hst e0 γ) → PubRo pr γ h → K (pr.val γ) (seeH pr M k γ h)) : Does (CW pr Pg) (callFunc f #[.pointer (some ⟨M, 0, none⟩)]) h K := by
  intro b a k' cs ops i rest o ho hw hk hs hV
  refine JW.of (.sh rfl M k L hM fun w γ hh ha hx hH hp => ?_)
  obtain ⟨p, hv⟩ := hint γ hx
  obtain ⟨r1, r2⟩ := run_aloadp (P := Pg) (o := 0) (p := p) ha.blk (by rw [← hv]; rfl)
  refine ⟨_, w, _, _, γ, step_ext ho hw hk (hs w) hf hname hb hn he r1 r2 (sy_rd _), .inl ⟨rfl, rfl, rfl⟩, see_turn M k γ h, ?_⟩
  rw [← hv]
  exact hV _ _ (hK γ hx hH hp)
/-- CompareAndSwap of pointers. -/
theorem sh_casp (hf : Pg.funcs[f]? = some fn) (hname : (fn.name == "runtime.NumGoroutine") = false) (hb : fn.body.isNone = true) (hn : Extern.findNext fn = none) (he : Extern.find fn = some (Extern.Atomic.casT .ptr))
    (hM : h M = some (nM pr k L)) (hint : ∀ γ, pr.Ext k L γ → ∃ p, pr.val γ = .pointer p) {q y : Option Addr}
    (cmp : ∀ w γ p, Hol h w → pr.At M γ w → pr.Ext k L γ → (∃ e0, pr.Hst e0 γ) → PubRo pr γ h → pr.val γ = .pointer p → p ≠ q → (samePointer p q).run Pg w = .ok false w ∧ ∀ es, (samePointer p q).events Pg w es = es)
    (hit : ∀ w γ, Hol h w → pr.At M γ w → pr.Ext k L γ → (∃ e0, pr.Hst e0 γ) → PubRo pr γ h → pr.val γ = .pointer q → ∃ v, pr.by_ v = k ∧ pr.ok γ v ∧ pr.val (γ ++ [v]) = .pointer y ∧ (∀ b x, pr.pub γ b = some x → pr.pub (γ ++ [v]) b = some x) ∧
      (∀ b c E, pr.pub (γ ++ [v]) b = some (c, E) → pr.pub γ b = none → h b = some (.cells c E) ∧ b ≠ M) ∧ K (.bool true) (pubH pr M k γ (γ ++ [v]) h))
    (miss : ∀ γ, pr.Ext k L γ → (∃ e0, pr.Hst e0 γ) → PubRo pr γ h → pr.val γ ≠ .pointer q → K (.bool false) (seeH pr M k γ h)) : Does (CW pr Pg) (callFunc f #[.pointer (some ⟨M, 0, none⟩), .pointer q, .pointer y]) h K := by
  intro b a k' cs ops i rest o ho hw hk hs hV
  refine JW.of (.sh rfl M k L hM fun w γ hh ha hx hH hp => ?_)
  obtain ⟨p, hv⟩ := hint γ hx
  have hc : (#[pr.val γ] : Array Value)[0]? = some (.pointer p) := by rw [← hv]; rfl
  by_cases e : p = q
  · subst e
    obtain ⟨v, k1, k2, k3, k4, k5, k6⟩ := hit w γ hh ha hx hH hp hv
    obtain ⟨s1, s2⟩ := run_samep (P := Pg) (w := w) p
    obtain ⟨r1, r2⟩ := run_acasp (P := Pg) (o := 0) (y := y) ha.blk hc s1 s2
    refine ⟨_, _, _, _, γ ++ [v], step_ext ho hw hk (hs w) hf hname hb hn he r1 r2 (sy_rw _), .inr ⟨v, k1, k2, rfl, by rw [k3]; rfl, rfl⟩, pub_turn k4 k5, hV _ _ k6⟩
  · obtain ⟨s1, s2⟩ := cmp w γ p hh ha hx hH hp hv e
    obtain ⟨r1, r2⟩ := run_acasp (P := Pg) (o := 0) (y := y) ha.blk hc s1 s2
    exact ⟨_, w, _, _, γ, step_ext ho hw hk (hs w) hf hname hb hn he r1 r2 (sy_rd _), .inl ⟨rfl, rfl, rfl⟩, see_turn M k γ h, hV _ _ (miss γ hx hH hp (by rw [hv]; simpa using e))⟩
end
end Go.Proofs.Ytojhnclkhiffkaa

/-
  The board in company: its history, what has been published.
-/
namespace Go.Proofs.Ytojhnclkhiffkaa.mk
open Go.Proofs.Ytojhnclkhiffkaa
set_option linter.unusedVariables false
set_option linter.unusedSimpArgs false
/-- What was published: its version, by whom; the page, the list's block, its room, its length, its cells. -/
structure Ent where
  ver : Nat
  k : Nat
  pg : Nat
  lb : Nat
  cp : Nat
  len : Nat
  c : Array Value
def encE (e : Ent) : Value := .tuple #[num e.ver, num e.k, num e.pg, num e.lb, num e.cp, num e.len, .tuple e.c]
def decE : Value → Option Ent
  | .tuple ⟨[.int .i64 a, .int .i64 b, .int .i64 p, .int .i64 l, .int .i64 q, .int .i64 n, .tuple c]⟩ => some ⟨a.toNat, b.toNat, p.toNat, l.toNat, q.toNat, n.toNat, c⟩
  | _ => none
theorem dec_enc (e : Ent) : decE (encE e) = some e := by
  obtain ⟨a, b, p, l, q, n, c⟩ := e
  simp [encE, decE, num]
def intV : Value → Int
  | .int _ x => x
  | _ => 0
/-- The list. -/
def Ent.xs (e : Ent) : List Int := (e.c.toList.take e.len).map intV
def Ent.l (e : Ent) : Value := .slice (some ⟨e.lb, 0, none⟩) e.len e.cp
def Ent.pc (e : Ent) : Array Value := #[.int .i64 (e.ver : Int), e.l]
def byE (v : Value) : Nat := match decE v with
  | some e => e.k
  | none => 0
def lastE (γ : List Value) : Option Ent := γ.getLast?.bind decE
def verOf (γ : List Value) : Nat := match lastE γ with
  | some e => e.ver
  | none => 0
def valE (γ : List Value) : Value := match lastE γ with
  | some e => .pointer (some ⟨e.pg, 0, none⟩)
  | none => .pointer none
def pub1 (b : Nat) (v : Value) : Option (Array Value × TypeId) := match decE v with
  | some e => if b = e.pg then some (e.pc, 78) else if b = e.lb then some (e.c, 2) else none
  | none => none
def pubE (γ : List Value) (b : Nat) : Option (Array Value × TypeId) := γ.findSome? (pub1 b)
def cntB (k : Nat) (γ : List Value) : Nat := γ.countP fun v => decide (byE v = k)
/-- Which may come next: the next version; one of the writers' (each in its order), its list in blocks of its own. -/
structure NextE (n : Nat) (xss : Nat → List Int) (γ : List Value) (e : Ent) : Prop where
  ver : e.ver = verOf γ + 1
  k1 : 1 ≤ e.k
  kn : e.k ≤ n
  cnt : cntB e.k γ < (xss (e.k - 1)).length
  len : e.len = cntB e.k γ + 1
  cp : e.len ≤ e.cp ∧ e.cp = e.c.size
  at_ : ∀ i (hi : i < e.len), e.c[i]? = some (.int .i64 (((xss (e.k - 1))[i]?).getD 0))
  ne : e.pg ≠ e.lb
  new : pubE γ e.pg = none ∧ pubE γ e.lb = none
def okE' (n : Nat) (xss : Nat → List Int) (γ : List Value) (v : Value) : Prop := ∃ e, v = encE e ∧ NextE n xss γ e
def bpr (n : Nat) (xss : Nat → List Int) (post : Value → H → Prop) (fin : Value → H → Prop) : Pro := ⟨53, 99, valE, byE, okE' n xss, pubE, post, fin⟩
theorem lastE_snoc (γ : List Value) (e : Ent) : lastE (γ ++ [encE e]) = some e := by simp [lastE, dec_enc]
theorem verOf_snoc (γ : List Value) (e : Ent) : verOf (γ ++ [encE e]) = e.ver := by unfold verOf; rw [lastE_snoc]
theorem valE_snoc (γ : List Value) (e : Ent) : valE (γ ++ [encE e]) = .pointer (some ⟨e.pg, 0, none⟩) := by unfold valE; rw [lastE_snoc]
theorem byE_enc (e : Ent) : byE (encE e) = e.k := by unfold byE; rw [dec_enc]
theorem pub1_enc (b : Nat) (e : Ent) : pub1 b (encE e) = if b = e.pg then some (e.pc, 78) else if b = e.lb then some (e.c, 2) else none := by unfold pub1; rw [dec_enc]
theorem pubE_snoc (γ : List Value) (e : Ent) (b : Nat) : pubE (γ ++ [encE e]) b = match pubE γ b with
    | some x => some x
    | none => pub1 b (encE e) := by
  unfold pubE
  rw [List.findSome?_append]
  cases h : γ.findSome? (pub1 b) <;> simp [List.findSome?]
  cases pub1 b (encE e) <;> rfl
theorem cntB_snoc (k : Nat) (γ : List Value) (e : Ent) : cntB k (γ ++ [encE e]) = cntB k γ + if e.k = k then 1 else 0 := by
  unfold cntB
  rw [List.countP_append, List.countP_singleton, byE_enc]
  by_cases h : e.k = k <;> simp [h]
def e00 : Value := .tuple #[]
section
variable {n : Nat} {xss : Nat → List Int} {post : Value → H → Prop} {fin : Value → H → Prop}
theorem bh_len {γ : List Value} (h : (bpr n xss post fin).Hst e00 γ) : γ.length = verOf γ + 1 := by
  induction h with
  | one => rfl
  | snoc hg hok ih =>
    obtain ⟨e, rfl, N⟩ := hok
    rw [verOf_snoc, N.ver, List.length_append, ih]; rfl
def sumB (γ : List Value) : Nat → Nat
  | 0 => 0
  | i + 1 => sumB γ i + cntB (i + 1) γ
def sumL (xss : Nat → List Int) : Nat → Nat
  | 0 => 0
  | i + 1 => sumL xss i + (xss i).length
theorem sumB_snoc (γ : List Value) (e : Ent) (h1 : 1 ≤ e.k) : ∀ i, sumB (γ ++ [encE e]) i = sumB γ i + if e.k ≤ i then 1 else 0
  | 0 => by simp [sumB]; omega
  | i + 1 => by
    simp only [sumB, sumB_snoc γ e h1 i, cntB_snoc]
    split <;> split <;> split <;> omega
theorem cnt0 {k : Nat} (hk : 1 ≤ k) : cntB k [e00] = 0 := by
  have : byE e00 = 0 := rfl
  unfold cntB
  rw [List.countP_cons, List.countP_nil, this]
  simp
  omega
theorem bh_sum {γ : List Value} (h : (bpr n xss post fin).Hst e00 γ) : verOf γ = sumB γ n ∧ ∀ k, 1 ≤ k → k ≤ n → cntB k γ ≤ (xss (k - 1)).length := by
  induction h with
  | one =>
    have : ∀ i, sumB [e00] i = 0 := by
      intro i
      induction i with
      | zero => rfl
      | succ i ih => rw [sumB, ih, cnt0 (by omega)]
    exact ⟨by rw [this]; rfl, fun k h1 h2 => by rw [cnt0 h1]; exact Nat.zero_le _⟩
  | snoc hg hok ih =>
    obtain ⟨e, rfl, N⟩ := hok
    obtain ⟨h1, h2⟩ := ih
    refine ⟨?_, fun k k1 kn => ?_⟩
    · rw [verOf_snoc, N.ver, sumB_snoc _ _ N.k1, if_pos N.kn, h1]
    · rw [cntB_snoc]
      by_cases hk : e.k = k
      · subst hk; rw [if_pos rfl]; exact N.cnt
      · rw [if_neg hk]; exact h2 k k1 kn
theorem sumB_le {γ : List Value} (h : ∀ k, 1 ≤ k → k ≤ n → cntB k γ ≤ (xss (k - 1)).length) : ∀ i, i ≤ n → sumB γ i ≤ sumL xss i
  | 0, _ => Nat.le_refl _
  | i + 1, hi => by
    have := sumB_le h i (by omega)
    have := h (i + 1) (by omega) hi
    simp only [sumB, sumL, Nat.add_sub_cancel] at *
    omega
theorem bh_bound {γ : List Value} (h : (bpr n xss post fin).Hst e00 γ) : γ.length ≤ sumL xss n + 1 := by
  rw [bh_len h, (bh_sum h).1]
  have := sumB_le (bh_sum h).2 n (Nat.le_refl _)
  omega
/-- Each entry is published, and a whole one. -/
structure Ent.Is (e : Ent) (γ : List Value) : Prop where
  pg : pubE γ e.pg = some (e.pc, 78)
  lb : pubE γ e.lb = some (e.c, 2)
  cp : e.len ≤ e.cp ∧ e.cp = e.c.size
  ne : e.pg ≠ e.lb
  len : 1 ≤ e.len
  ints : ∀ i, i < e.len → ∃ x, e.c[i]? = some (.int .i64 x)
theorem NextE.is {γ : List Value} {e : Ent} (N : NextE n xss γ e) : e.Is (γ ++ [encE e]) := by
  refine ⟨?_, ?_, N.cp, N.ne, by rw [N.len]; omega, fun i hi => ⟨_, N.at_ i hi⟩⟩
  · rw [pubE_snoc, N.new.1, pub1_enc, if_pos rfl]
  · rw [pubE_snoc, N.new.2, pub1_enc, if_neg (Ne.symm N.ne), if_pos rfl]
theorem pubE_grow {γ : List Value} (e : Ent) {b : Nat} {x : Array Value × TypeId} (h : pubE γ b = some x) : pubE (γ ++ [encE e]) b = some x := by rw [pubE_snoc, h]
theorem Ent.Is.grow {γ : List Value} {e : Ent} (I : e.Is γ) (e' : Ent) : e.Is (γ ++ [encE e']) := ⟨pubE_grow e' I.pg, pubE_grow e' I.lb, I.cp, I.ne, I.len, I.ints⟩
theorem bh_is {γ : List Value} (h : (bpr n xss post fin).Hst e00 γ) : ∀ v ∈ γ, ∀ e, decE v = some e → v = encE e ∧ e.Is γ := by
  induction h with
  | one => intro v hv e he; simp at hv; subst hv; cases he
  | snoc hg hok ih =>
    obtain ⟨e', rfl, N⟩ := hok
    intro v hv e he
    rcases List.mem_append.1 hv with hv | hv
    · obtain ⟨h1, h2⟩ := ih v hv e he
      exact ⟨h1, h2.grow e'⟩
    · simp at hv; subst hv
      rw [dec_enc] at he; cases he
      exact ⟨rfl, N.is⟩
theorem lastE_mem {γ : List Value} {e : Ent} (h : lastE γ = some e) : ∃ v ∈ γ, decE v = some e := by
  unfold lastE at h
  obtain ⟨v, h1, h2⟩ := Option.bind_eq_some_iff.1 h
  exact ⟨v, List.mem_of_getLast? h1, h2⟩
theorem valE_of {γ : List Value} : (valE γ = .pointer none ∧ lastE γ = none ∧ verOf γ = 0) ∨ ∃ e, lastE γ = some e ∧ valE γ = .pointer (some ⟨e.pg, 0, none⟩) ∧ verOf γ = e.ver := by
  unfold valE verOf
  cases h : lastE γ with
  | none => exact .inl ⟨rfl, rfl, rfl⟩
  | some e => exact .inr ⟨e, rfl, rfl, rfl⟩
end
end Go.Proofs.Ytojhnclkhiffkaa.mk

