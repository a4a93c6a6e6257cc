/-
  proto: a frame taken apart: open.
-/
import Derived.Test.YtfeaaliocdkonaaPo
namespace Go.Proofs.Ytfeaaliocdkonaa.pr
open Go.Proofs.Ytfeaaliocdkonaa rr wi
set_option linter.unusedVariables false
set_option linter.unusedSimpArgs false
theorem op_idle {h : H} {x : Nat} : DCall Try.prog 81 #[.pointer (some ⟨x, 0, none⟩)] .returning h fun e u' h' => e = .returned (.tuple #[]) ∧ u' = .returning ∧ h' = h := by
  refine c81_ok (args := [_]) (by simp) ?_
  rw [recM_ret]
  simp (disch := omega) only [dm_t, wS, simprocAttr, IntKind.bits, wD]
  refine raw_nenil Try.underlying20 rfl (.inl rfl) ?_
  simp (disch := omega) only [dm_t, wS, simprocAttr, IntKind.bits, wD, isNilI, Bool.not_true]
theorem op_caught {h : H} {x : Nat} {n : Int} (q : h x = some (.cells #[.int .i64 n] 33)) :
    DCall Try.prog 81 #[.pointer (some ⟨x, 0, none⟩)] (.panicking [boom]) h fun en u' h' => en = .returned (.tuple #[]) ∧ settle u' = .returning ∧ h' = hupd h x (.cells #[.int .i64 301] 33) := by
  refine c81_ok (args := [_]) (by simp) ?_
  rw [boom, recM_pan]
  simp (disch := omega) only [dm_t, wS, simprocAttr, IntKind.bits, wD]
  refine raw_nenil Try.underlying20 rfl (.inr ⟨_, _, rfl⟩) ?_
  simp (disch := omega) only [dm_t, wS, simprocAttr, IntKind.bits, wD, isNilI, Bool.not_false]
  refine raw_ta1 Try.underlying33 (by intro m; simp) rfl ?_
  simp (disch := omega) only [dm_t, wS, simprocAttr, IntKind.bits, wD, storeH_0 q]
abbrev opR : List Rv := [.c 4 33]
abbrev opT (x : Nat) : Env := [(4, .pointer (some ⟨x, 0, none⟩))]
theorem op_ret {g : H} {x : Nat} {m : Int} {P : Value → H → Prop} {e : Env} (q : g x = some (.cells #[.int .i64 m] 33)) (hP : P (.int .i64 m) g) : dQ Try.prog 81 #[.pointer (some ⟨x, 0, none⟩)] opR (opT x) (okR P) .ret e g := by
  rw [dQ_ret]
  refine op_idle.mono ?_
  rintro en u' h' ⟨rfl, rfl, rfl⟩
  rw [aftD_ret, settle_ret, endD_ret]
  simp (disch := omega) only [dm_t, wS, simprocAttr, IntKind.bits, cellAt_of q]
  exact hP
theorem op_nrm {g : H} {x : Nat} {m : Int} {P : Value → H → Prop} {e : Env} (q : g x = some (.cells #[.int .i64 m] 33)) (hP : P (.int .i64 m) g) : dQ Try.prog 81 #[.pointer (some ⟨x, 0, none⟩)] opR (opT x) (okR P) .normal e g := by
  rw [dQ_normal]
  refine op_idle.mono ?_
  rintro en u' h' ⟨rfl, rfl, rfl⟩
  rw [aftD_ret, settle_ret, endD_ret]
  simp (disch := omega) only [dm_t, wS, simprocAttr, IntKind.bits, cellAt_of q]
  exact hP
theorem op_pan {g : H} {x : Nat} {m : Int} {P : Value → H → Prop} {e : Env} (q : g x = some (.cells #[.int .i64 m] 33)) (hP : P (.int .i64 301) (hupd g x (.cells #[.int .i64 301] 33))) : dQ Try.prog 81 #[.pointer (some ⟨x, 0, none⟩)] opR (opT x) (okR P) (.panic [boom]) e g := by
  rw [dQ_panic]
  refine (op_caught q).mono ?_
  rintro en u' h' ⟨rfl, hu, rfl⟩
  rw [aftD_ret, hu, endD_ret]
  simp (disch := omega) only [dm_t, wS, simprocAttr, IntKind.bits, cellAt_same]
  exact hP
def readE {α : Type} (rd : List UInt8 → Option (α × Nat)) (l : List UInt8) : Int :=
  match rd l with
  | none => 301
  | some p => if p.2 = l.length then 0 else 301
theorem readE_none {α : Type} {rd : List UInt8 → Option (α × Nat)} {l : List UInt8} (h : rd l = none) : readE rd l = 301 := by rw [readE, h]
theorem readE_some {α : Type} {rd : List UInt8 → Option (α × Nat)} {l : List UInt8} {d : α} {k : Nat} (h : rd l = some (d, k)) : readE rd l = if k = l.length then 0 else 301 := by rw [readE, h]
def openE {α : Type} (rd : List UInt8 → Option (α × Nat)) (f : List UInt8) : Int :=
  if ¬ splitE f = 0 then splitE f else if ¬ splitN f = f.length then 300 else readE rd (splitB f)
def OpR (ty : Ty) (T : TypeId) (rd : List UInt8 → Option (ty.D × Nat)) (xb : Nat) (f : List UInt8) (h : H) (v : Value) (h' : H) : Prop :=
  v = .int .i64 (openE rd f) ∧ Fr (fun y => y = xb) h h' ∧ h' xb ≠ none ∧ (openE rd f = 0 → ∃ cs d k, rd (splitB f) = some (d, k) ∧ h' xb = some (.cells cs.toArray T) ∧ Rep (fun y => h y ≠ none) ty h' cs d)
theorem open_ok {S : Nat → Prop} {h : H} {v : Value} {f : List UInt8} {ty : Ty} {T : TypeId} {rd : List UInt8 → Option (ty.D × Nat)} {xb : Nat} {c0 : Array Value} {cf : FuncId} (hb : By S h v f) (hl : f.length ≤ 140737488355328)
    (hcf : callable Try.prog cf = true) (qx : h xb = some (.cells c0 T)) (hcl : ∀ (g : H) (b : Nat) (s : Value) (l : List UInt8), RdX g b xb s l 0 → g xb = some (.cells c0 T) → l = splitB f → CallsE Try.prog cf #[.agg #[.pointer (some ⟨b, 0, none⟩)], .pointer (some ⟨xb, 0, none⟩)] g (ClR ty T rd xb b s l g)) :
    Ok Try.prog 59 #[v, .func (.func cf) #[] #[.pointer (some ⟨xb, 0, none⟩)]] h (OpR ty T rd xb f h) := by
  obtain ⟨sa, sc, rfl⟩ := hb.len
  refine c59_ok (args := [_, _]) (by simp) ?_
  simp (disch := omega) only [dm_t, wS, simprocAttr, IntKind.bits, wD]
  intro eb heb
  simp (disch := omega) only [dm_t, wS, simprocAttr, IntKind.bits, wD]
  generalize hG : hupd h eb _ = G
  obtain ⟨e1, qe⟩ := new_ext hG heb
  clear hG
  have hxe : xb ≠ eb := ne_of qx heb
  refine (Split_ok (SlK.ext hb e1) hl).k ?_
  rintro _ g1 ⟨hsp, e2⟩
  have qe0 := qe
  replace qe := e2.at qe
  have E2 := e1.trans e2
  have hfix : ∀ (g : H) (m : Int), Ext h g → Fr (fun y => y = xb) h (hupd g eb (.cells #[.int .i64 m] 33)) := fun g m e => (Ext.upd e heb).mono fun _ h => h.elim
  have hxn : ∀ (g : H) (m : Int), Ext h g → hupd g eb (.cells #[.int .i64 m] 33) xb ≠ none := fun g m e => by rw [hupd_ne _ _ hxe, e.at qx]; simp
  rcases hsp with ⟨he, w, rfl, ow⟩ | ⟨he, rfl⟩
  case inr =>
    simp (disch := omega) only [dm_t, wS, simprocAttr, IntKind.bits, wD, storeH_0 qe]
    simp (disch := omega) only [dm_t, wS, simprocAttr, IntKind.bits, wD, cellAt_same, storeH_same, hupd_hupd]
    refine ⟨by rw [openE, if_pos he], hfix _ _ E2, hxn _ _ E2, fun h0 => absurd (by rw [openE, if_pos he] at h0; exact h0) he⟩
  by_cases hn : splitN f = f.length
  case neg =>
    simp (disch := omega) only [dm_t, wS, simprocAttr, IntKind.bits, wD, storeH_0 qe]
    simp (disch := omega) only [dm_t, wS, simprocAttr, IntKind.bits, wD, cellAt_same, storeH_same, hupd_hupd]
    have ho : openE rd f = 300 := by rw [openE, if_neg (fun h => h he), if_pos hn]
    refine ⟨by rw [ho], hfix _ _ E2, hxn _ _ E2, fun h0 => by rw [ho] at h0; cases h0⟩
  have ho : openE rd f = readE rd (splitB f) := by rw [openE, if_neg (fun h => h he), if_neg (fun h => h hn)]
  simp (disch := omega) only [dm_t, wS, simprocAttr, IntKind.bits, wD, storeH_0 qe]
  simp (disch := omega) only [dm_t, wS, simprocAttr, IntKind.bits, wD, cellAt_same, storeH_same, hupd_hupd]
  refine ⟨by rfl, ?_⟩
  generalize hQ0 : dQ Try.prog 81 _ _ _ _ = Q0
  have hbl := splitB_len he
  have hw2 : By nos (hupd g1 eb (.cells #[.int .i64 0] 33)) w (splitB f) := SlK.nos (OwK.sl (S := nos) (OwK.fr ow (Fr.upd (h := g1) (b := eb) (S := fun y => y = eb) rfl (.cells #[.int .i64 0] 33)) fun y hy hn => by rw [hy] at hn; rw [hn] at qe0; cases qe0) fun _ _ h => h)
  have E3 : Ext h (hupd g1 eb (.cells #[.int .i64 0] 33)) := Ext.upd E2 heb
  have qe3 : hupd g1 eb (.cells #[.int .i64 0] 33) eb = some (.cells #[.int .i64 0] 33) := hupd_same _ _ _
  generalize hupd g1 eb (.cells #[.int .i64 0] 33) = g2 at hw2 E3 qe3 ⊢
  refine (New_x hw2 (by omega)).k ?_
  rintro _ g3 ⟨b, s, rfl, hb3, r3, x3, e3⟩
  simp (disch := omega) only [dm_t, wS, simprocAttr, IntKind.bits, wD]
  intro qb hqb
  simp (disch := omega) only [dm_t, wS, simprocAttr, IntKind.bits, wD, storeH_same, hupd_hupd]
  generalize hG : hupd g3 qb _ = g4
  obtain ⟨e4, q4⟩ := new_ext hG hqb
  clear hG
  have l4 : cellsAt g4 ⟨qb, 0, none⟩ 1 = _ := cellsAt_all q4 1 rfl
  have hx2 : g2 xb = some (.cells c0 T) := E3.at qx
  have hbx : b ≠ xb := fun hh => by rw [hh, hx2] at hb3; cases hb3
  have hbe : b ≠ eb := fun hh => by rw [hh, qe3] at hb3; cases hb3
  have rX : RdX g4 b xb s (splitB f) 0 := RdX.ext ⟨r3, x3.mono fun y o _ hy => hy.elim .inl fun hy => .inr (by rw [hy, hx2]; simp), hbx⟩ e4
  have E4 : Ext h g4 := (E3.trans e3).trans e4
  have qe4 := (e3.trans e4).at qe3
  have qx4 := (e3.trans e4).at hx2
  have hqb2 : qb ≠ b := fun hh => ne_of r3.obj hqb hh.symm
  have hqx : qb ≠ xb := fun hh => ne_of (e3.at hx2) hqb hh.symm
  have hqe : qb ≠ eb := fun hh => ne_of (e3.at qe3) hqb hh.symm
  simp (disch := omega) only [dm_t, wS, simprocAttr, IntKind.bits, wD, l4]
  refine ⟨hcf, CallsE.mono (hcl g4 b s (splitB f) rX qx4 rfl) ?_⟩
  have hbn : h b = none := E3.bk hb3
  have toF : ∀ g, Fr (fun y => y = b ∨ y = xb) g4 g → Fr (fun y => y = xb) h g := fun g F y o hy hn => F _ _ (E4.at hy) fun hh => hh.elim (fun hh => by rw [hh] at hy; rw [hbn] at hy; cases hy) hn
  have toFe : ∀ g m, Fr (fun y => y = b ∨ y = xb) g4 g → Fr (fun y => y = xb) h (hupd g eb (.cells #[.int .i64 m] 33)) := fun g m F y o hy hn => by
    rw [hupd_ne _ _ (fun hh => by rw [hh] at hy; rw [heb] at hy; cases hy)]
    exact toF g F y o hy hn
  rintro en g5 (⟨cs, d, k, rfl, h1, h2, h3, h4, h5⟩ | ⟨rfl, h1, h2, h3⟩)
  case inr =>
    have qe5 : g5 eb = some (.cells #[.int .i64 0] 33) := h2 _ _ qe4 fun hh => hh.elim (fun hh => hbe hh.symm) fun hh => hxe hh.symm
    show Q0 (.panic [boom]) _ g5
    rw [← hQ0]
    refine op_pan qe5 ⟨by rw [ho, readE_none h1], toFe _ _ h2, by rw [hupd_ne _ _ hxe]; exact h3, fun h0 => by rw [ho, readE_none h1] at h0; cases h0⟩
  have qe5 : g5 eb = some (.cells #[.int .i64 0] 33) := h5 _ _ qe4 fun hh => hh.elim (fun hh => hbe hh.symm) fun hh => hxe hh.symm
  have c5 : cellAt g5 ⟨qb, 0, none⟩ = some (.pointer (some ⟨b, 0, none⟩)) := by rw [cellAt_of (h5 _ _ q4 fun hh => hh.elim hqb2 hqx)]; rfl
  have hrep : ∀ m, Rep (fun y => h y ≠ none) ty (hupd g5 eb (.cells #[.int .i64 m] 33)) cs d := fun m => by
    refine Rep.mono (Rep.fr h3 (Fr.upd (h := g5) (b := eb) (S := fun y => y = eb) rfl (.cells #[.int .i64 m] 33)) fun y hy => by rw [hy, qe4]; simp) fun y o _ hy => ?_
    obtain ⟨o, ho⟩ := Option.ne_none_iff_exists'.1 hy
    rw [E4.at ho]; simp
  have hxx : ∀ m, hupd g5 eb (.cells #[.int .i64 m] 33) xb = some (.cells cs.toArray T) := fun m => by rw [hupd_ne _ _ hxe]; exact h2
  have ho2 := ho.trans (readE_some h1)
  show vc Try.prog _ _ _ _
  simp (disch := omega) only [dm_t, wS, simprocAttr, IntKind.bits, wD, c5]
  refine (End_ok h4).k ?_
  rintro _ _ ⟨rfl, rfl⟩
  by_cases hk : k = (splitB f).length
  · rw [if_pos hk] at ho2 ⊢
    simp (disch := omega) only [dm_t, wS, simprocAttr, IntKind.bits, wD, storeH_0 qe5]
    rw [← hQ0]
    exact op_nrm (e := []) (hupd_same _ _ _) ⟨by rw [ho2], toFe _ _ h5, by rw [hxx]; simp, fun _ => ⟨cs, d, k, h1, hxx _, hrep _⟩⟩
  · rw [if_neg hk] at ho2 ⊢
    simp (disch := omega) only [dm_t, wS, simprocAttr, IntKind.bits, wD, storeH_0 qe5]
    rw [← hQ0]
    exact op_ret (e := []) (hupd_same _ _ _) ⟨by rw [ho2], toFe _ _ h5, by rw [hxx]; simp, fun h0 => by rw [ho2] at h0; cases h0⟩
end Go.Proofs.Ytfeaaliocdkonaa.pr
