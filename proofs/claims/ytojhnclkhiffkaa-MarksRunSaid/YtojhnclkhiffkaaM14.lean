/-
  The starter's own beginning and its return.
-/
import Derived.Test.YtojhnclkhiffkaaM8
import Derived.Conc.LeavingOf
import Derived.Test.YtojhnclkhiffkaaM2
namespace Go.Proofs.Ytojhnclkhiffkaa
open Go.Conc Go.Conc.Lib
set_option linter.unusedVariables false
set_option linter.unusedSimpArgs false
section
variable {pr : Pro} {Pg : Program}
/-- A law's function, from its entry to its return. -/
theorem top_ok {f : FuncId} {fn : Func} {c : Code} {n : Nat} {res : List Nat} {ht : Hint} {lc : LC} (hf : Pg.funcs[f]? = some fn) (hb : fn.body = some c) (hn : fn.ntmps = n) (hr : fn.results = (res.map ResultVar.tmp).toArray)
    (hi : Pg.inits.idxOf? f = none) (hl : lowC Pg ⟨0, n⟩ ht c = lc) {args : List Value} (ha : args.length ≤ n) {h : H} {R : Value → H → Prop} (hv : vc (CM pr Pg) lc (retQ res (okR R)) (argEnv args 0) h)
    (hR : ∀ v h', R v h' → ((∀ b o, h' b = some o → plainO o ∨ o = nG pr 9 0 []) ∨ ∃ Wg, h' Wg = some (nG pr 9 0 [])) ∧ pr.fin v h') : JM pr Pg (G (Frame.enter Pg f args.toArray .normal) []) h := by
  rw [enter_at (P := Pg) args.toArray hf hb]
  subst hl
  have hat : At ⟨0, n⟩ [] (argEnv args 0) { tmps := args.toArray ++ Array.replicate (fn.ntmps - args.toArray.size) undef, defers := [] } := by
    refine ⟨rfl, ?_, ?_⟩
    · simp [hn]; omega
    · intro t v hg
      obtain ⟨_, h2⟩ := argEnv_get args 0 t v hg
      simp only [Nat.sub_zero] at h2
      have hlt : t < args.length := (List.getElem?_eq_some_iff.1 h2).1
      show (args.toArray ++ Array.replicate (fn.ntmps - args.toArray.size) undef)[t]? = some v
      rw [Array.getElem?_append_left (by simpa using hlt)]
      simpa using h2
  have leave : ∀ (e' : Env) (h' : H) (a' : Act) (todo : List Item), At ⟨0, n⟩ [] e' a' → (match evs e' (res.map .tmp) with | some [v] => okR R (.returned v) h' | some vs => okR R (.returned (.tuple vs.toArray)) h' | none => False) →
      JM pr Pg (G { (base f).at a' todo with mode := .returning } []) h' := by
    intro e' h' a' todo hat' hq
    cases hvs : evs e' (res.map .tmp) with
    | none => rw [hvs] at hq; exact hq.elim
    | some vs =>
      rw [hvs] at hq
      have hvs' : res.map (fun t => a'.tmps.getD t undef) = vs := by
        rw [← evs_sound hat'.agree hvs, List.map_map]; rfl
      have hrun : ∀ w, (results fn a'.tmps).run Pg w = .ok (resV vs) w := fun w => results_runV Pg w hr a'.tmps hvs'
      have hq' : R (resV vs) h' := by
        cases vs with
        | nil => rw [← okR_ret R]; exact hq
        | cons v r => cases r <;> (rw [← okR_ret R]; exact hq)
      obtain ⟨q1, q2⟩ := hR _ _ hq'
      refine JM.of (.ret rfl q1 fun w hh => ⟨resV vs, #[], ?_, by simp, q2⟩)
      have hd := hat'.defers
      have hrw := hrun w
      have hev := results_ev Pg w #[] hr a'.tmps
      simp [G, stepG, unwind, doReturn, Frame.at, base, hd, hf, hrw, hev, seen, GStep.after, hi]
  refine vc_sound (P := (CM pr Pg)) c ht _ _ _ _ hat hv (base f) [] _ (by simp [base]) ?_
  intro x e' h' a' hx hat' hq
  cases x with
  | normal => exact Cx.idle (P := (CM pr Pg)) rfl (fun _ => stepG_end) (leave e' h' a' [] hat' hq)
  | ret => exact fun todo => leave e' h' a' todo hat' hq
  | exit id => exact hq.elim
  | _ => exact hx.elim
end
end Go.Proofs.Ytojhnclkhiffkaa
namespace Go.Proofs.Ytojhnclkhiffkaa
open Go.Conc Go.Conc.Lib Go.RowKit
set_option linter.unusedVariables false
theorem hol_hp (W : World) : Hol (hp W) W := by
  intro b o hb
  obtain ⟨c, E, fr, h1, rfl⟩ := hp_some hb
  simp only [HolO, oneOf_cells, noteOf_cells, if_pos (isRo_roF c)]
  exact ⟨fr, h1, fun h => absurd (congrArg Prod.snd h) (by simp [roF, roO])⟩
section
variable {pr : Pro} {Pg : Program}
theorem law_runs {f : FuncId} {fn : Func} {c : Code} {n : Nat} {res : List Nat} {ht : Hint} {lc : LC} (hf : Pg.funcs[f]? = some fn) (hb : fn.body = some c) (hn : fn.ntmps = n) (hr : fn.results = (res.map ResultVar.tmp).toArray)
    (hi : Pg.inits.idxOf? f = none) (hl : lowC Pg ⟨0, n⟩ ht c = lc) {args : List Value} (ha : args.length ≤ n) {W : World} {R : Value → H → Prop} (hv : vc (CM pr Pg) lc (retQ res (okR R)) (argEnv args 0) (hp W))
    (hR : ∀ v h', R v h' → ((∀ b o, h' b = some o → plainO o ∨ o = nG pr 9 0 []) ∨ ∃ Wg, h' Wg = some (nG pr 9 0 [])) ∧ pr.fin v h') {Post : Value → World → Prop} (hP : ∀ v h' w', pr.fin v h' → Hol h' w' → Below W.heap.size W w' → Post v w') :
    ∃ M last o w' t', runNT Pg (M + 1) (solo (G (Frame.enter Pg f args.toArray .normal) []) W) #[] = (.ended o w', t') ∧ runN Pg M (solo (G (Frame.enter Pg f args.toArray .normal) []) W) = .next last ∧
        step Pg last = .ended o w' ∧ Go.Conc.Good Pg Post last o w' t' := by
  obtain ⟨M, last, o, w', t', h1, h2, h3, h4⟩ := company_runs (pr := pr) (P := Pg) (top_ok hf hb hn hr hi hl ha hv hR) (hol_hp W) (fun b o hb => by
    obtain ⟨c, E, fr, _, rfl⟩ := hp_some hb
    exact ⟨c, E, rfl⟩)
  refine ⟨M, last, o, w', t', h1, h2, h3, h4.mono fun v ⟨h', k1, k2, k3⟩ => hP v h' _ k1 k2 k3⟩
end
end Go.Proofs.Ytojhnclkhiffkaa
namespace Go.Proofs.Ytojhnclkhiffkaa.mk
open Go.Proofs.Ytojhnclkhiffkaa Go.Conc
set_option linter.unusedVariables false
set_option linter.unusedSimpArgs false
def num (n : Nat) : Value := .int .i64 n
/-- What a writer is to leave: its number, its goroutine, the array of answers, how many, the mark, its numbers. -/
def encW (i k A n M : Nat) (xs : List Int) : Value := .tuple #[num 0, num i, num k, num A, num n, num M, .tuple (xs.map (Value.int .i64)).toArray]
def encR (i k A n M looks : Nat) (e0 : Value) : Value := .tuple #[num 1, num i, num k, num A, num n, num M, num looks, e0]
structure LeftW (i k A n M : Nat) (xs : List Int) (h : H) (γ : List Value) (bs : List Bool) (u : Value) : Prop where
  m : h M = some (noteO 34 1 1 k γ.toArray)
  a : h A = some (oneO i u n 64)
  o : O1 (fun _ => True) h 4 u (bs.map .bool)
  len : bs.length = xs.length
  own : own k γ = yes xs bs
  le : ∀ x ∈ xs, x ≤ lastV γ
  ne : γ ≠ []
structure LeftR (i k A n M looks : Nat) (e0 : Value) (h : H) (γ : List Value) (ss : List Int) (u : Value) : Prop where
  m : h M = some (noteO 34 1 1 k γ.toArray)
  a : h A = some (oneO i u n 22)
  o : O1 (fun _ => True) h 2 u (ss.map (.int .i64))
  len : ss.length = looks
  own : own k γ = []
  mem : ∀ x ∈ ss, x ∈ γ.map entV
  ch : chain (entV e0) ss
def kpost (d : Value) (h : H) : Prop :=
  (∃ i k A n M xs γ bs u, d = encW i k A n M xs ∧ LeftW i k A n M xs h γ bs u) ∨ (∃ i k A n M looks e0 γ ss u, d = encR i k A n M looks e0 ∧ LeftR i k A n M looks e0 h γ ss u)
theorem num_inj {a b : Nat} (h : num a = num b) : a = b := by unfold num at h; injection h with _ h; omega
theorem kpost_W {i k A n M : Nat} {xs : List Int} {h : H} (hp : kpost (encW i k A n M xs) h) : ∃ γ bs u, LeftW i k A n M xs h γ bs u := by
  rcases hp with ⟨i', k', A', n', M', xs', γ, bs, u, e, H⟩ | ⟨i', k', A', n', M', l, _, γ, ss, u, e, H⟩
  · simp only [encW, Value.tuple.injEq, Array.mk.injEq, List.cons.injEq, and_true] at e
    obtain ⟨_, e1, e2, e3, e4, e5, e6⟩ := e
    have e6' : xs = xs' := (List.map_inj_right (fun a b h => by injection h)).1 e6
    rw [num_inj e1, num_inj e2, num_inj e3, num_inj e4, num_inj e5, e6']
    exact ⟨γ, bs, u, H⟩
  · simp [encW, encR, num] at e
theorem htg {fin : Value → H → Prop} : (mpr kpost fin).tg = lnk.tWg := rfl
/-- A writer's goroutine. -/
theorem wchild {fin : Value → H → Prop} (htg : (mpr kpost fin).tg = lnk.tWg) {h : H} {Wg wb ib R S Mv A M i n k : Nat} {e0 wv rdv lk sv en : Value} {ws : List Value} {xs : List Int} {fR fS fV : Nat × Nat}
    (hWg : h Wg = some (nW (mpr kpost fin) (encW i k A n M xs))) (hwb : cellAt h ⟨wb, 0, none⟩ = some (.func (.func 31) #[] #[.pointer (some ⟨R, 0, none⟩), .pointer (some ⟨S, 0, none⟩), .pointer (some ⟨Mv, 0, none⟩)]))
    (hib : h ib = some (.cells #[.int .i64 (i : Int)] 3)) (hR : h R = some (.cells #[wv, rdv, lk] 56 fR)) (hS : h S = some (.cells #[.slice (some ⟨A, 0, none⟩) n n, sv, en] 59 fS)) (hV : h Mv = some (.cells #[.pointer (some ⟨M, 0, none⟩)] 24 fV))
    (hA : h A = some (oneO i (.slice none 0 0) n 64)) (hM : h M = some (nM (mpr kpost fin) k [e0])) (hk : entB e0 ≠ k) (hin : i < n) (hW : Sl h wv ws) (hi : i < ws.length) (hrow : Sl h ws[i] (xs.map (.int .i64))) (hlen : xs.length ≤ 17592186044416)
    (hne : Wg ≠ A ∧ Wg ≠ M ∧ ib ≠ A ∧ ib ≠ M) :
    JW (mpr kpost fin) Try.prog (born Try.prog (call44 Wg wb ib)) h := by
  have hib0 : cellAt h ⟨ib, 0, none⟩ = some (.int .i64 (i : Int)) := by rw [cellAt_of hib]; rfl
  refine child44 (d := encW i k A n M xs) htg hwb hib0 (by kernel_rfl) (Ok.k (X := fun _ _ => True) (wr_ok (rv := undef) hR hS hV hA hM (by simp) hin hW hi hrow hlen) ?_)
  rintro _ h' ⟨rfl, γ, bs, u, I⟩
  refine ⟨I.fr _ _ hWg (by rintro (e | e); exact hne.1 e; exact hne.2.1 e), ⟨3, _, I.fr _ _ hib (by rintro (e | e); exact hne.2.2.1 e; exact hne.2.2.2 e)⟩, .inl ⟨i, k, A, n, M, xs, γ, bs, u, rfl, ?_⟩⟩
  have d : ∀ y, y ≠ ib → hdel h' ib y = h' y := fun y hy => by unfold hdel; rw [if_neg hy]
  refine ⟨by rw [d _ (Ne.symm hne.2.2.2)]; exact I.m, by rw [d _ (Ne.symm hne.2.2.1)]; exact I.a, ?_, I.len, ?_, I.le, I.ne⟩
  · have o2 := I.o.fr (h' := hdel h' ib) (T := fun y => y = ib) (fun y o hy hs => by rw [d y hs]; exact hy) (by
      rintro x rfl h0 _
      rw [hib] at h0; cases h0)
    exact o2.mono fun _ _ _ _ => trivial
  · rw [I.own]; simp [own, hk]
theorem kpost_R {i k A n M looks : Nat} {e0 : Value} {h : H} (hp : kpost (encR i k A n M looks e0) h) : ∃ γ ss u, LeftR i k A n M looks e0 h γ ss u := by
  rcases hp with ⟨i', k', A', n', M', xs', γ, bs, u, e, H⟩ | ⟨i', k', A', n', M', l, e0', γ, ss, u, e, H⟩
  · simp [encW, encR, num] at e
  · simp only [encR, Value.tuple.injEq, Array.mk.injEq, List.cons.injEq, and_true] at e
    obtain ⟨_, e1, e2, e3, e4, e5, e6, e7⟩ := e
    rw [num_inj e1, num_inj e2, num_inj e3, num_inj e4, num_inj e5, num_inj e6, e7]
    exact ⟨γ, ss, u, H⟩
/-- A reader's goroutine. -/
theorem rchild {fin : Value → H → Prop} (htg : (mpr kpost fin).tg = lnk.tWg) {h : H} {Wg wb ib R S Mv A M i n k looks : Nat} {e0 wv rdv sv en : Value} {fR fS fV : Nat × Nat}
    (hWg : h Wg = some (nW (mpr kpost fin) (encR i k A n M looks e0))) (hwb : cellAt h ⟨wb, 0, none⟩ = some (.func (.func 32) #[] #[.pointer (some ⟨R, 0, none⟩), .pointer (some ⟨S, 0, none⟩), .pointer (some ⟨Mv, 0, none⟩)]))
    (hib : h ib = some (.cells #[.int .i64 (i : Int)] 3)) (hR : h R = some (.cells #[wv, rdv, .int .i64 (looks : Int)] 56 fR)) (hS : h S = some (.cells #[sv, .slice (some ⟨A, 0, none⟩) n n, en] 59 fS)) (hV : h Mv = some (.cells #[.pointer (some ⟨M, 0, none⟩)] 24 fV))
    (hA : h A = some (oneO i (.slice none 0 0) n 22)) (hM : h M = some (nM (mpr kpost fin) k [e0])) (hk : entB e0 ≠ k) (hin : i < n) (hlen : looks ≤ 1000000)
    (hne : Wg ≠ A ∧ Wg ≠ M ∧ ib ≠ A ∧ ib ≠ M) :
    JW (mpr kpost fin) Try.prog (born Try.prog (call46 Wg wb ib)) h := by
  have hib0 : cellAt h ⟨ib, 0, none⟩ = some (.int .i64 (i : Int)) := by rw [cellAt_of hib]; rfl
  refine child46 (d := encR i k A n M looks e0) htg hwb hib0 (by kernel_rfl) (Ok.k (X := fun _ _ => True) (rd_ok hR hS hV hA hM (by simp) hin hlen) ?_)
  rintro _ h' ⟨rfl, γ, ss, u, I⟩
  refine ⟨I.fr _ _ hWg (by rintro (e | e); exact hne.1 e; exact hne.2.1 e), ⟨3, _, I.fr _ _ hib (by rintro (e | e); exact hne.2.2.1 e; exact hne.2.2.2 e)⟩, .inr ⟨i, k, A, n, M, looks, e0, γ, ss, u, rfl, ?_⟩⟩
  have d : ∀ y, y ≠ ib → hdel h' ib y = h' y := fun y hy => by unfold hdel; rw [if_neg hy]
  refine ⟨by rw [d _ (Ne.symm hne.2.2.2)]; exact I.m, by rw [d _ (Ne.symm hne.2.2.1)]; exact I.a, ?_, I.len, ?_, I.mem, ?_⟩
  · have o2 := I.o.fr (h' := hdel h' ib) (T := fun y => y = ib) (fun y o hy hs => by rw [d y hs]; exact hy) (by
      rintro x rfl h0 _
      rw [hib] at h0; cases h0)
    exact o2.mono fun _ _ _ _ => trivial
  · rw [I.own]; simp [own, hk]
  · exact I.ch
end Go.Proofs.Ytojhnclkhiffkaa.mk
