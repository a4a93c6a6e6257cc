/-
  Marks and boards: what each of their calls does.
-/
import Derived.Test.YtojhnclkhiffkaaKE
import Derived.Test.YtojhnclkhiffkaaC1
namespace Go.Proofs.Ytojhnclkhiffkaa.mk
open Go.Proofs.Ytojhnclkhiffkaa
set_option linter.unusedVariables false
set_option linter.unusedSimpArgs false

variable {PX : Cx Try.prog}
section
variable {h : H} {V : Value → H → Prop} {b o : Nat} {c : Array Value} {E : TypeId}
theorem x23_ok (v : Value) (hb : h b = some (.cells c E)) (ho : o < c.size) (hv : isCell v = true) (hV : V (.tuple #[]) (hupd h b (.cells (c.setIfInBounds o v) E))) : xcM PX 38 #[.pointer (some ⟨b, o, none⟩), v] h V :=
  xc_of (e := Extern.Atomic.storeT) Try.func38 (by kernel_rfl) (by kernel_rfl) (by kernel_rfl) (by kernel_rfl) fun w hh => by
    obtain ⟨r1, r2⟩ := run_astore (P := Try.prog) (hh.blk hb) ho hv
    exact ⟨_, _, _, _, r1, r2, own_set hh hb (by simp), hV⟩
theorem x24_ok {n : Int} (hb : h b = some (.cells c E)) (hc : c[o]? = some (.int .i64 n)) (hV : V (.int .i64 n) h) : xcM PX 39 #[.pointer (some ⟨b, o, none⟩)] h V :=
  xc_of (e := Extern.Atomic.loadT (.int .i64)) Try.func39 (by kernel_rfl) (by kernel_rfl) (by kernel_rfl) (by kernel_rfl) fun w hh => by
    obtain ⟨r1, r2⟩ := run_aload (P := Try.prog) (hh.blk hb) hc
    exact ⟨_, w, h, _, r1, r2, own_still (o := o) hh hb (by simp), hV⟩
theorem x25_ok {n x y : Int} (hb : h b = some (.cells c E)) (hc : c[o]? = some (.int .i64 n)) (hV : V (.bool (n == x)) (if n = x then hupd h b (.cells (c.setIfInBounds o (.int .i64 y)) E) else h)) : xcM PX 40 #[.pointer (some ⟨b, o, none⟩), .int .i64 x, .int .i64 y] h V :=
  xc_of (e := Extern.Atomic.casT (.int .i64)) Try.func40 (by kernel_rfl) (by kernel_rfl) (by kernel_rfl) (by kernel_rfl) fun w hh => by
    by_cases e : n = x
    · subst e
      obtain ⟨r1, r2⟩ := run_acas_hit (P := Try.prog) (y := y) (hh.blk hb) hc
      rw [if_pos rfl, beq_self_eq_true] at hV
      exact ⟨_, _, _, _, r1, r2, own_set hh hb (by simp), hV⟩
    · obtain ⟨r1, r2⟩ := run_acas_miss (P := Try.prog) (y := y) (hh.blk hb) hc e
      rw [if_neg e, beq_false_of_ne e] at hV
      exact ⟨_, w, h, _, r1, r2, own_still (o := o) hh hb (by simp), hV⟩
theorem x27_ok {p : Option Addr} (hb : h b = some (.cells c E)) (hc : c[o]? = some (.pointer p)) (hV : V (.pointer p) h) : xcM PX 42 #[.pointer (some ⟨b, o, none⟩)] h V :=
  xc_of (e := Extern.Atomic.loadT .ptr) Try.func42 (by kernel_rfl) (by kernel_rfl) (by kernel_rfl) (by kernel_rfl) fun w hh => by
    obtain ⟨r1, r2⟩ := run_aloadp (P := Try.prog) (hh.blk hb) hc
    exact ⟨_, w, h, _, r1, r2, own_still (o := o) hh hb (by simp), hV⟩
theorem x28_ok {p y : Option Addr} (hb : h b = some (.cells c E)) (hc : c[o]? = some (.pointer p)) (hV : V (.bool true) (hupd h b (.cells (c.setIfInBounds o (.pointer y)) E))) : xcM PX 51 #[.pointer (some ⟨b, o, none⟩), .pointer p, .pointer y] h V :=
  xc_of (e := Extern.Atomic.casT .ptr) Try.func51 (by kernel_rfl) (by kernel_rfl) (by kernel_rfl) (by kernel_rfl) fun w hh => by
    obtain ⟨s1, s2⟩ := run_samep (P := Try.prog) (w := w) p
    obtain ⟨r1, r2⟩ := run_acasp (P := Try.prog) (y := y) (hh.blk hb) hc s1 s2
    exact ⟨_, _, _, _, r1, r2, own_set hh hb (by simp), hV⟩
end

abbrev markO (n : Int) : Obj := .cells #[.int .i64 n] 34
theorem load_ok {h : H} {b : Nat} {n : Int} (hb : h b = some (markO n)) : Ok PX 23 #[.pointer (some ⟨b, 0, none⟩)] h fun v h' => v = .int .i64 n ∧ h = h' := by
  refine c23_ok (args := [_]) (by simp) ?_
  simp (disch := omega) only [dm_t, wS, simprocAttr, IntKind.bits]
  refine x24_ok hb rfl ?_
  simp (disch := omega) only [dm_t, wS, simprocAttr, IntKind.bits]
theorem store_ok {h : H} {b : Nat} {n : Int} (hb : h b = some (markO n)) (x : Int) : Ok PX 22 #[.pointer (some ⟨b, 0, none⟩), .int .i64 x] h fun v h' => h' = hupd h b (markO x) := by
  refine c22_ok (args := [_, _]) (by simp) ?_
  simp (disch := omega) only [dm_t, wS, simprocAttr, IntKind.bits]
  refine x23_ok _ hb (by simp) rfl ?_
  simp (disch := omega) only [dm_t, wS, simprocAttr, IntKind.bits]
theorem cas_ok {h : H} {b : Nat} {n : Int} (hb : h b = some (markO n)) (x : Int) : Ok PX 24 #[.pointer (some ⟨b, 0, none⟩), .int .i64 n, .int .i64 x] h fun v h' => v = .bool true ∧ h' = hupd h b (markO x) := by
  refine c24_ok (args := [_, _, _]) (by simp) ?_
  simp (disch := omega) only [dm_t, wS, simprocAttr, IntKind.bits]
  refine x25_ok hb rfl ?_
  simp (disch := omega) only [dm_t, wS, simprocAttr, IntKind.bits, beq_self_eq_true]
theorem get_ok {h : H} {b : Nat} {n : Int} (hb : h b = some (markO n)) : Ok PX 11 #[.pointer (some ⟨b, 0, none⟩)] h fun v h' => v = .int .i64 n ∧ h = h' := by
  refine c11_ok (args := [_]) (by simp) ?_
  simp (disch := omega) only [dm_t, wS, simprocAttr, IntKind.bits]
  refine (load_ok hb).k ?_
  rintro _ _ ⟨rfl, rfl⟩
  simp (disch := omega) only [dm_t, wS, simprocAttr, IntKind.bits]
theorem get_no (h : H) : Ok PX 11 #[.pointer none] h fun v h' => v = .int .i64 0 ∧ h = h' := by
  refine c11_ok (args := [_]) (by simp) ?_
  simp (disch := omega) only [dm_t, wS, simprocAttr, IntKind.bits]
theorem new_ok (h : H) (x : Int) : Ok PX 9 #[.int .i64 x] h fun v h' => ∃ b, v = .pointer (some ⟨b, 0, none⟩) ∧ h b = none ∧ h' = hupd h b (markO x) := by
  refine c9_ok (args := [_]) (by simp) ?_
  simp (disch := omega) only [dm_t, wS, simprocAttr, IntKind.bits]
  rintro b hb
  refine (store_ok (hupd_same _ _ _) x).k ?_
  rintro _ _ rfl
  simp (disch := omega) only [dm_t, wS, simprocAttr, IntKind.bits, hupd_hupd]
  exact ⟨b, rfl, hb, rfl⟩
theorem raise_ok {h : H} {b : Nat} {n : Int} (hb : h b = some (markO n)) (x : Int) : Ok PX 10 #[.pointer (some ⟨b, 0, none⟩), .int .i64 x] h fun v h' => v = .bool (decide (n < x)) ∧ h' = if n < x then hupd h b (markO x) else h := by
  refine c10_ok (args := [_, _]) (by simp) ?_
  simp (disch := omega) only [dm_t, wS, simprocAttr, IntKind.bits]
  refine vc_loop0 (fun h' => h = h') (fun _ => 0) rfl ?_
  rintro _ rfl
  simp (disch := omega) only [dm_t, wS, simprocAttr, IntKind.bits]
  refine (load_ok hb).k ?_
  rintro _ _ ⟨rfl, rfl⟩
  by_cases hx : n < x
  · simp (disch := omega) only [dm_t, wS, simprocAttr, IntKind.bits]
    refine (cas_ok hb x).k ?_
    rintro _ _ ⟨rfl, rfl⟩
    simp (disch := omega) only [dm_t, wS, simprocAttr, IntKind.bits]
    rw [if_pos hx]
  · simp (disch := omega) only [dm_t, wS, simprocAttr, IntKind.bits]
    rw [if_neg hx]
theorem raise_up {h : H} {b : Nat} {n : Int} (hb : h b = some (markO n)) {x : Int} (hx : n < x) : Ok PX 10 #[.pointer (some ⟨b, 0, none⟩), .int .i64 x] h fun v h' => v = .bool true ∧ h' = hupd h b (markO x) :=
  (raise_ok hb x).mono fun v h' ⟨h1, h2⟩ => ⟨by rw [h1, decT hx], by rw [h2, if_pos hx]⟩
theorem raise_dn {h : H} {b : Nat} {n : Int} (hb : h b = some (markO n)) {x : Int} (hx : ¬ n < x) : Ok PX 10 #[.pointer (some ⟨b, 0, none⟩), .int .i64 x] h fun v h' => v = .bool false ∧ h = h' :=
  (raise_ok hb x).mono fun v h' ⟨h1, h2⟩ => ⟨by rw [h1, decF hx], by rw [h2, if_neg hx]⟩
theorem raise_no (h : H) (x : Int) : Ok PX 10 #[.pointer none, .int .i64 x] h fun v h' => v = .bool false ∧ h = h' := by
  refine c10_ok (args := [_, _]) (by simp) ?_
  simp (disch := omega) only [dm_t, wS, simprocAttr, IntKind.bits]

/-! ### Boards -/
abbrev boardO (p : Option Addr) : Obj := .cells #[.pointer p] 53
abbrev pageO (ver : Int) (l : Value) : Obj := .cells #[.int .i64 ver, l] 78
/-- A board's list (none published yet: nil). -/
def Board (h : H) (b : Nat) (ver : Nat) (xs : List Value) : Prop :=
  (ver = 0 ∧ xs = [] ∧ h b = some (boardO none)) ∨
  ∃ pg l, h b = some (boardO (some ⟨pg, 0, none⟩)) ∧ h pg = some (pageO ver l) ∧ b ≠ pg ∧ Sl h l xs
theorem Board.ext {h h' : H} {b ver : Nat} {xs : List Value} (hB : Board h b ver xs) (e : Ext h h') : Board h' b ver xs := by
  rcases hB with ⟨h1, h2, h3⟩ | ⟨pg, l, h1, h2, h3, h4⟩
  · exact .inl ⟨h1, h2, e.at h3⟩
  · exact .inr ⟨pg, l, e.at h1, e.at h2, h3, h4.ext e⟩
/-- .. whose blocks are none of T. -/
def BoardS (T : Nat → Prop) (h : H) (b : Nat) (ver : Nat) (xs : List Value) : Prop :=
  (ver = 0 ∧ xs = [] ∧ h b = some (boardO none) ∧ ¬ T b) ∨
  ∃ pg l, h b = some (boardO (some ⟨pg, 0, none⟩)) ∧ h pg = some (pageO ver l) ∧ b ≠ pg ∧ SlF T h l xs ∧ ¬ T b ∧ ¬ T pg
theorem BoardS.b {T : Nat → Prop} {h : H} {b ver : Nat} {xs : List Value} (hB : BoardS T h b ver xs) : Board h b ver xs := by
  rcases hB with ⟨h1, h2, h3, _⟩ | ⟨pg, l, h1, h2, h3, h4, _⟩
  · exact .inl ⟨h1, h2, h3⟩
  · exact .inr ⟨pg, l, h1, h2, h3, h4.sl⟩
theorem BoardS.fr {T S : Nat → Prop} {h h' : H} {b ver : Nat} {xs : List Value} (hB : BoardS T h b ver xs) (f : Fr S h h') (hs : ∀ x, S x → T x) : BoardS T h' b ver xs := by
  rcases hB with ⟨h1, h2, h3, h4⟩ | ⟨pg, l, h1, h2, h3, h4, h5, h6⟩
  · exact .inl ⟨h1, h2, f _ _ h3 fun h => h4 (hs _ h), h4⟩
  · exact .inr ⟨pg, l, f _ _ h1 fun h => h5 (hs _ h), f _ _ h2 fun h => h6 (hs _ h), h3, h4.fr (f.mono hs), h5, h6⟩
theorem BoardS.sub {T S : Nat → Prop} {h : H} {b ver : Nat} {xs : List Value} (hB : BoardS T h b ver xs) (hs : ∀ x, S x → T x) : BoardS S h b ver xs := by
  rcases hB with ⟨h1, h2, h3, h4⟩ | ⟨pg, l, h1, h2, h3, h4, h5, h6⟩
  · exact .inl ⟨h1, h2, h3, fun h => h4 (hs _ h)⟩
  · exact .inr ⟨pg, l, h1, h2, h3, h4.sub fun x hx _ => hs x hx, fun h => h5 (hs _ h), fun h => h6 (hs _ h)⟩
theorem ploadn_ok {h : H} {b : Nat} (hb : h b = some (boardO none)) : Ok PX 27 #[.pointer (some ⟨b, 0, none⟩)] h fun v h' => v = .pointer none ∧ h = h' := by
  refine c27_ok (args := [_]) (by simp) ?_
  simp (disch := omega) only [dm_t, wS, simprocAttr, IntKind.bits]
  refine x27_ok hb rfl ?_
  simp (disch := omega) only [dm_t, wS, simprocAttr, IntKind.bits]
  refine raw_cv ?_
  simp (disch := omega) only [dm_t, wS, simprocAttr, IntKind.bits]
  refine cv_nil_from (by kernel_rfl) Try.underlying47 ?_
  simp (disch := omega) only [dm_t, wS, simprocAttr, IntKind.bits]
theorem pload_ok {h : H} {b pg : Nat} {ver : Int} {l : Value} (hb : h b = some (boardO (some ⟨pg, 0, none⟩))) (hp : h pg = some (pageO ver l)) : Ok PX 27 #[.pointer (some ⟨b, 0, none⟩)] h fun v h' => v = .pointer (some ⟨pg, 0, none⟩) ∧ h = h' := by
  refine c27_ok (args := [_]) (by simp) ?_
  simp (disch := omega) only [dm_t, wS, simprocAttr, IntKind.bits]
  refine x27_ok hb rfl ?_
  simp (disch := omega) only [dm_t, wS, simprocAttr, IntKind.bits]
  refine raw_cv ?_
  simp (disch := omega) only [dm_t, wS, simprocAttr, IntKind.bits]
  refine cv_from (by kernel_rfl) Try.underlying47 (i := (Try.prog.info? 78).getD default) (by kernel_rfl) (by decide +kernel) hp (by kernel_rfl) ?_
  simp (disch := omega) only [dm_t, wS, simprocAttr, IntKind.bits]
theorem pcasn_ok {h : H} {b nw : Nat} {ver : Int} {l : Value} (hb : h b = some (boardO none)) (hp : h nw = some (pageO ver l)) : Ok PX 41 #[.pointer (some ⟨b, 0, none⟩), .pointer none, .pointer (some ⟨nw, 0, none⟩)] h fun v h' => v = .bool true ∧ h' = hupd h b (boardO (some ⟨nw, 0, none⟩)) := by
  refine c41_ok (args := [_, _, _]) (by simp) ?_
  simp (disch := omega) only [dm_t, wS, simprocAttr, IntKind.bits]
  refine raw_cv ?_
  simp (disch := omega) only [dm_t, wS, simprocAttr, IntKind.bits]
  refine cv_nil_to Try.underlying47 (by kernel_rfl) ?_
  simp (disch := omega) only [dm_t, wS, simprocAttr, IntKind.bits]
  refine raw_cv ?_
  simp (disch := omega) only [dm_t, wS, simprocAttr, IntKind.bits]
  refine cv_to Try.underlying47 (by kernel_rfl) (by kernel_rfl) (by rw [cellAt_of hp]; rfl) ?_
  simp (disch := omega) only [dm_t, wS, simprocAttr, IntKind.bits]
  refine x28_ok hb rfl ?_
  simp (disch := omega) only [dm_t, wS, simprocAttr, IntKind.bits]
theorem pcas_ok {h : H} {b pg nw : Nat} {ver ver' : Int} {l l' : Value} (hb : h b = some (boardO (some ⟨pg, 0, none⟩))) (hp : h pg = some (pageO ver' l')) (hn : h nw = some (pageO ver l)) : Ok PX 41 #[.pointer (some ⟨b, 0, none⟩), .pointer (some ⟨pg, 0, none⟩), .pointer (some ⟨nw, 0, none⟩)] h fun v h' => v = .bool true ∧ h' = hupd h b (boardO (some ⟨nw, 0, none⟩)) := by
  refine c41_ok (args := [_, _, _]) (by simp) ?_
  simp (disch := omega) only [dm_t, wS, simprocAttr, IntKind.bits]
  refine raw_cv ?_
  simp (disch := omega) only [dm_t, wS, simprocAttr, IntKind.bits]
  refine cv_to Try.underlying47 (by kernel_rfl) (by kernel_rfl) (by rw [cellAt_of hp]; rfl) ?_
  simp (disch := omega) only [dm_t, wS, simprocAttr, IntKind.bits]
  refine raw_cv ?_
  simp (disch := omega) only [dm_t, wS, simprocAttr, IntKind.bits]
  refine cv_to Try.underlying47 (by kernel_rfl) (by kernel_rfl) (by rw [cellAt_of hn]; rfl) ?_
  simp (disch := omega) only [dm_t, wS, simprocAttr, IntKind.bits]
  refine x28_ok hb rfl ?_
  simp (disch := omega) only [dm_t, wS, simprocAttr, IntKind.bits]
theorem clone_ok {h : H} {v : Value} {xs : List Value} (hs : Sl h v xs) (hc : xs.all isCell = true) (hl : xs.length ≤ 1000000) : Ok PX 28 #[v] h fun v h' => Own h h' 2 v xs ∧ Ext h h' := by
  refine c28_ok (args := [_]) (by simp) ?_
  obtain ⟨a, c, rfl⟩ := hs.len
  cases a with
  | none =>
    simp (disch := omega) only [dm_t, wS, simprocAttr, IntKind.bits]
    have : xs = [] := by
      rcases hs with ⟨_, h1, h2⟩ | ⟨b, o, cp, c, E, fr, h1, _⟩
      · exact h2
      · simp at h1
    subst this
    exact ⟨.inl ⟨rfl, rfl⟩, Fr.refl _ _⟩
  | some a =>
    simp (disch := omega) only [dm_t, wS, simprocAttr, IntKind.bits]
    rintro la hla
    have hs2 := srcCells_sl (hs.ext (Ext.new hla (.cells #[] 2)))
    refine app_own (new := xs) (xs := []) (h0 := h) (.inr ⟨la, 0, #[], rfl, hupd_same _ _ _, rfl, by simp, fun i hi => by simp at hi, hla⟩) (fun y hy => (Ext.new hla _).back hy (fun _ h => h.elim)) hs2.1 hs2.2 hc rfl (by simp; omega) (by simp; omega) ?_
    intro v' h' ho h1 h2
    simp (disch := omega) only [dm_t, wS, simprocAttr, IntKind.bits]
    exact ⟨ho, fun y o hy _ => h2 y o hy (Ext.new hla _ |>.at hy)⟩
theorem turn_ok {h : H} {b ver : Nat} {xs : List Value} (hB : Board h b ver xs) (hx : xs.all isCell = true) (hxl : xs.length ≤ 1000000) {F : FuncId} {first cap : Array Value} {S : Nat → Prop} {R : H → List Value → H → Prop}
    (hF : callable Try.prog F = true) (hS : ∀ y, S y → h y ≠ none) (hSb : ¬ S b) (hSp : ∀ pg, h b = some (boardO (some ⟨pg, 0, none⟩)) → ¬ S pg) (hver : ver ≤ 1000000)
    (hdoes : ∀ h1 old, Ext h h1 → Own h h1 2 old xs → Ok PX F (first ++ #[old] ++ cap) h1 fun l h2 => ∃ ys, Sl h2 l ys ∧ ys.all isCell = true ∧ ys.length ≤ 1000000 ∧ Fr (fun y => S y ∨ isAt old y) h1 h2 ∧ R h1 ys h2) :
    Ok PX 25 #[.pointer (some ⟨b, 0, none⟩), .func (.func F) first cap] h fun v h' => ∃ ys h1 h2 nw, v = .int .i64 (ver + 1 : Nat) ∧ BoardS (fun y => h2 y ≠ none ∧ y ≠ b ∧ y ≠ nw) h' b (ver + 1) ys ∧ Ext h h1 ∧ R h1 ys h2 ∧ h nw = none ∧ h1 nw ≠ none ∧ Fr (fun y => S y ∨ h y = none ∧ y ≠ nw) h1 h2 ∧ Fr (fun y => y = b ∨ y = nw) h2 h' := by
  refine c25_ok (args := [_, _]) (by simp) ?_
  simp (disch := omega) only [dm_t, wS, simprocAttr, IntKind.bits]
  refine vc_loop0 (fun h' => h = h') (fun _ => 0) rfl ?_
  rintro _ rfl
  simp (disch := omega) only [dm_t, wS, simprocAttr, IntKind.bits]
  rcases hB with ⟨rfl, rfl, hb⟩ | ⟨pg, l, hb, hp, hne, hl⟩
  · refine (ploadn_ok hb).k ?_
    rintro _ _ ⟨rfl, rfl⟩
    simp (disch := omega) only [dm_t, wS, simprocAttr, IntKind.bits]
    rintro nw hnw
    have hbn : b ≠ nw := ne_of hb hnw
    simp (disch := omega) only [dm_t, wS, simprocAttr, IntKind.bits]
    refine ⟨hF, (hdoes _ _ (Ext.new hnw _) (.inl ⟨rfl, rfl⟩)).k ?_⟩
    rintro l2 h2 ⟨ys, hl2, hc2, hlen2, hf2, hR⟩
    have hn0 : ∀ {y}, ¬ isAt (.slice none 0 0) y := by rintro y ⟨o, n, c, h⟩; simp at h
    simp (disch := omega) only [dm_t, wS, simprocAttr, IntKind.bits]
    refine (clone_ok hl2 hc2 hlen2).k ?_
    rintro l3 h3 ⟨ho3, he3⟩
    have hnw2 : h2 nw = some (pageO 1 (.slice none 0 0)) := hf2 _ _ (hupd_same _ _ _) (fun hs => hs.elim (fun hs => hS nw hs hnw) hn0)
    have hb2 : h2 b = some (boardO none) := hf2 _ _ ((hupd_ne _ _ hbn).trans hb) (fun hs => hs.elim hSb hn0)
    have hnw3 := he3.at hnw2
    have hb3 := he3.at hb2
    obtain ⟨a3, c3, rfl⟩ := ho3.sl.len
    simp (disch := omega) only [dm_t, wS, simprocAttr, IntKind.bits, storeH_0 hnw3]
    refine (pcasn_ok (h := hupd h3 nw (pageO 1 (.slice a3 ys.length c3))) (nw := nw) ((hupd_ne _ _ hbn).trans hb3) (hupd_same _ _ _)).k ?_
    rintro _ _ ⟨rfl, rfl⟩
    have hv : hupd (hupd h3 nw (pageO 1 (.slice a3 ys.length c3))) b (boardO (some ⟨nw, 0, none⟩)) nw = some (pageO 1 (.slice a3 ys.length c3)) := (hupd_ne _ _ hbn.symm).trans (hupd_same _ _ _)
    simp (disch := omega) only [dm_t, wS, simprocAttr, IntKind.bits, cellAt_of hv]
    refine ⟨ys, _, h2, nw, .inr ⟨nw, _, hupd_same _ _ _, hv, hbn, ?_, fun h => h.2.1 rfl, fun h => h.2.2 rfl⟩, Ext.new hnw _, hR, hnw, by rw [hupd_same]; simp, hf2.mono fun y hy => .inl (hy.resolve_right hn0), ?_⟩
    · refine ((ho3.fr fun y o hy hat => ?_).slF).sub fun x hx _ => hx.1
      rw [hupd_ne _ _ (by rintro rfl; exact ho3.notAt hb2 hat), hupd_ne _ _ (by rintro rfl; exact ho3.notAt hnw2 hat)]
      exact hy
    · exact (he3.mono fun _ h => h.elim).trans ((Fr.upd (.inr rfl) _).trans (Fr.upd (.inl rfl) _))
  · refine (pload_ok hb hp).k ?_
    rintro _ _ ⟨rfl, rfl⟩
    simp (disch := omega) only [dm_t, wS, simprocAttr, IntKind.bits]
    rintro nw hnw
    have hbn : b ≠ nw := ne_of hb hnw
    have hpn : pg ≠ nw := ne_of hp hnw
    have hp1 : hupd h nw (.cells #[.int .i64 1, .slice none 0 0] 78) pg = some (pageO ver l) := (hupd_ne _ _ hpn).trans hp
    simp (disch := omega) only [dm_t, wS, simprocAttr, IntKind.bits, cellAt_of hp1, storeH_same]
    have hp2 : hupd h nw (.cells #[.int .i64 ((ver : Int) + 1), .slice none 0 0] 78) pg = some (pageO ver l) := (hupd_ne _ _ hpn).trans hp
    simp (disch := omega) only [dm_t, wS, simprocAttr, IntKind.bits, cellAt_of hp2]
    have hl1 := hl.ext (Ext.new hnw (.cells #[.int .i64 ((ver : Int) + 1), .slice none 0 0] 78))
    refine (clone_ok hl1 hx hxl).k ?_
    rintro old h1 ⟨hold, he1⟩
    simp (disch := omega) only [dm_t, wS, simprocAttr, IntKind.bits]
    have hE : Ext h h1 := (Ext.new hnw _).trans he1
    have hnw1 : h1 nw = some (pageO ((ver : Int) + 1) (.slice none 0 0)) := he1.at (hupd_same _ _ _)
    refine ⟨hF, (hdoes _ _ hE (hold.older (Ext.new hnw _))).k ?_⟩
    rintro l2 h2 ⟨ys, hl2, hc2, hlen2, hf2, hR⟩
    simp (disch := omega) only [dm_t, wS, simprocAttr, IntKind.bits]
    refine (clone_ok hl2 hc2 hlen2).k ?_
    rintro l3 h3 ⟨ho3, he3⟩
    have hnw2 : h2 nw = some (pageO ((ver : Int) + 1) (.slice none 0 0)) := hf2 _ _ hnw1 (fun hs => hs.elim (fun hs => hS nw hs hnw) (hold.notAt (hupd_same _ _ _)))
    have hb2 : h2 b = some (boardO (some ⟨pg, 0, none⟩)) := hf2 _ _ (hE.at hb) (fun hs => hs.elim hSb (hold.notAt ((hupd_ne _ _ hbn).trans hb)))
    have hp2 : h2 pg = some (pageO ver l) := hf2 _ _ (hE.at hp) (fun hs => hs.elim (hSp pg hb) (hold.notAt ((hupd_ne _ _ hpn).trans hp)))
    have hnw3 := he3.at hnw2
    have hb3 := he3.at hb2
    have hp3 := he3.at hp2
    obtain ⟨a3, c3, rfl⟩ := ho3.sl.len
    simp (disch := omega) only [dm_t, wS, simprocAttr, IntKind.bits, storeH_0 hnw3]
    refine (pcas_ok (h := hupd h3 nw (pageO ((ver : Int) + 1) (.slice a3 ys.length c3))) (pg := pg) (nw := nw) ((hupd_ne _ _ hbn).trans hb3) ((hupd_ne _ _ hpn).trans hp3) (hupd_same _ _ _)).k ?_
    rintro _ _ ⟨rfl, rfl⟩
    have hv : hupd (hupd h3 nw (pageO ((ver : Int) + 1) (.slice a3 ys.length c3))) b (boardO (some ⟨nw, 0, none⟩)) nw = some (pageO ((ver : Int) + 1) (.slice a3 ys.length c3)) := (hupd_ne _ _ hbn.symm).trans (hupd_same _ _ _)
    simp (disch := omega) only [dm_t, wS, simprocAttr, IntKind.bits, cellAt_of hv]
    refine ⟨ys, h1, h2, nw, rfl, .inr ⟨nw, _, hupd_same _ _ _, hv, hbn, ?_, fun h => h.2.1 rfl, fun h => h.2.2 rfl⟩, hE, hR, hnw, by rw [hnw1]; simp, hf2.mono fun y hy => hy.imp id fun hy => ⟨(hold.older (Ext.new hnw _)).isNew hy, fun h => hold.notAt (hupd_same _ _ _) (h ▸ hy)⟩, ?_⟩
    · refine ((ho3.fr fun y o hy hat => ?_).slF).sub fun x hx _ => hx.1
      rw [hupd_ne _ _ (by rintro rfl; exact ho3.notAt hb2 hat), hupd_ne _ _ (by rintro rfl; exact ho3.notAt hnw2 hat)]
      exact hy
    · exact (he3.mono fun _ h => h.elim).trans ((Fr.upd (.inr rfl) _).trans (Fr.upd (.inl rfl) _))

theorem pub1_ok {h : H} {c : Nat} {l : Value} (x : Value) (hc : h c = some (.cells #[l] 22)) : Ok PX 26 #[x, .pointer (some ⟨c, 0, none⟩)] h fun v h' => v = l ∧ h = h' := by
  refine c26_ok (args := [_, _]) (by simp) ?_
  simp (disch := omega) only [dm_t, wS, simprocAttr, IntKind.bits, cellAt_of hc]
theorem publish_ok {h : H} {b ver : Nat} {xs ys : List Value} {l : Value} (hB : Board h b ver xs) (hx : xs.all isCell = true) (hxl : xs.length ≤ 1000000) (hl : Sl h l ys) (hy : ys.all isCell = true) (hyl : ys.length ≤ 1000000) (hver : ver ≤ 1000000) :
    Ok PX 13 #[.pointer (some ⟨b, 0, none⟩), l] h fun v h' => v = .tuple #[.int .i64 (ver + 1 : Nat), .int .i64 0] ∧ BoardS (fun y => h y ≠ none ∧ y ≠ b) h' b (ver + 1) ys ∧ Fr (fun y => y = b) h h' := by
  obtain ⟨la, lc, rfl⟩ := hl.len
  refine c13_ok (args := [_, _]) (by simp) ?_
  simp (disch := omega) only [dm_t, wS, simprocAttr, IntKind.bits]
  rintro c hc
  simp (disch := omega) only [dm_t, wS, simprocAttr, IntKind.bits]
  refine (turn_ok (S := fun _ => False) (R := fun h1 zs h2 => zs = ys) (hB.ext (Ext.new hc _)) hx hxl (by kernel_rfl) (fun _ h => h.elim) id (fun _ _ => id) hver ?_).k ?_
  · intro h1 old he ho
    refine Ok.mono (pub1_ok old (he.at (hupd_same _ _ _))) ?_
    rintro _ _ ⟨rfl, rfl⟩
    exact ⟨ys, hl.ext ((Ext.new hc _).trans he), hy, hyl, Fr.refl _ _, rfl⟩
  · rintro _ h' ⟨zs, h1, h2, nw, rfl, hB', he, rfl, hnw, _, f1, f2⟩
    simp (disch := omega) only [dm_t, wS, simprocAttr, IntKind.bits]
    have e1 := (Ext.new hc _).trans he
    have f12 : Fr (fun y => (y = b ∨ y = nw) ∨ h y = none) h h' := ((e1.mono fun _ h => h.elim).trans (f1.mono fun x hx => .inr (hx.elim False.elim fun hx => (Ext.new hc _).bk hx.1))).trans (f2.mono fun x hx => .inl hx)
    refine ⟨hB'.sub ?_, f12.less ?_⟩
    · rintro y ⟨hy, hb⟩
      obtain ⟨o, ho⟩ : ∃ o, h y = some o := by cases hh : h y with | none => exact absurd hh hy | some o => exact ⟨o, rfl⟩
      refine ⟨?_, hb, ?_⟩
      · rw [f1 _ _ (e1.at ho) (fun hz => hz.elim id fun hz => ?_)]
        · simp
        · rw [(Ext.new hc _).at ho] at hz; cases hz.1
      · rintro rfl
        have := (hupd_none.1 hnw).2
        rw [this] at ho; cases ho
    · rintro y ((h | rfl) | hz)
      · exact .inl h
      · exact .inr ((Ext.new hc _).back hnw fun _ h => h.elim)
      · exact .inr hz

theorem bget_ok {h : H} {b ver : Nat} {xs : List Value} (hB : Board h b ver xs) (hx : xs.all isCell = true) (hxl : xs.length ≤ 1000000) :
    Ok PX 14 #[.pointer (some ⟨b, 0, none⟩)] h fun v h' => ∃ l, v = .tuple #[l, .int .i64 ver] ∧ Own h h' 2 l xs ∧ Ext h h' := by
  refine c14_ok (args := [_]) (by simp) ?_
  simp (disch := omega) only [dm_t, wS, simprocAttr, IntKind.bits]
  rcases hB with ⟨rfl, rfl, hb⟩ | ⟨pg, l, hb, hp, hne, hl⟩
  · refine (ploadn_ok hb).k ?_
    rintro _ _ ⟨rfl, rfl⟩
    simp (disch := omega) only [dm_t, wS, simprocAttr, IntKind.bits]
    exact ⟨_, rfl, .inl ⟨rfl, rfl⟩, Fr.refl _ _⟩
  · refine (pload_ok hb hp).k ?_
    rintro _ _ ⟨rfl, rfl⟩
    simp (disch := omega) only [dm_t, wS, simprocAttr, IntKind.bits, cellAt_of hp]
    refine (clone_ok hl hx hxl).k ?_
    rintro l2 h2 ⟨ho, he⟩
    simp (disch := omega) only [dm_t, wS, simprocAttr, IntKind.bits, cellAt_of (he.at hp)]
    exact ⟨_, rfl, ho, he⟩
theorem nboard_ok (h : H) : Ok PX 12 #[] h fun v h' => ∃ b, v = .pointer (some ⟨b, 0, none⟩) ∧ h' = hupd h b (boardO none) ∧ h b = none := by
  refine c12_ok (args := []) (by simp) ?_
  simp (disch := omega) only [dm_t, wS, simprocAttr, IntKind.bits]
  rintro b hb
  exact ⟨b, rfl, rfl, hb⟩
theorem known_ok (h : H) : Ok PX 8 #[] h fun v h' => v = .bool true ∧ Ext h h' := by
  refine c8_ok (args := []) (by simp) ?_
  simp (disch := omega) only [dm_t, wS, simprocAttr, IntKind.bits]
  refine (new_ok h 5).k ?_
  rintro _ _ ⟨m, rfl, hm, rfl⟩
  simp (disch := omega) only [dm_t, wS, simprocAttr, IntKind.bits]
  refine (nboard_ok _).k ?_
  rintro _ _ ⟨b, rfl, rfl, hb⟩
  simp (disch := omega) only [dm_t, wS, simprocAttr, IntKind.bits]
  generalize hh2 : hupd (hupd h m (markO 5)) b (boardO none) = h2
  have hm2 : h2 m = some (markO 5) := by rw [← hh2]; exact (Ext.new hb _).at (hupd_same _ _ _)
  have hB : h2 b = some (boardO none) := by rw [← hh2]; exact hupd_same _ _ _
  have e2 : Ext h h2 := by rw [← hh2]; exact (Ext.new hm _).trans (Ext.new hb _)
  refine (raise_up hm2 (x := 7) (by decide)).k ?_
  rintro _ _ ⟨rfl, rfl⟩
  simp (disch := omega) only [dm_t, wS, simprocAttr, IntKind.bits]
  have hm3 := hupd_same h2 m (markO 7)
  refine (raise_dn hm3 (x := 7) (by decide)).k ?_
  rintro _ _ ⟨rfl, rfl⟩
  simp (disch := omega) only [dm_t, wS, simprocAttr, IntKind.bits]
  refine (raise_dn hm3 (x := 6) (by decide)).k ?_
  rintro _ _ ⟨rfl, rfl⟩
  simp (disch := omega) only [dm_t, wS, simprocAttr, IntKind.bits]
  rintro la hla
  have hbm : b ≠ m := by
    rintro rfl; rw [hupd_same] at hb; cases hb
  have hB3 : Board (hupd (hupd h2 m (markO 7)) la (.cells #[.int .i64 1, .int .i64 2] 2)) b 0 [] :=
    .inl ⟨rfl, rfl, (Ext.new hla _).at ((hupd_ne _ _ hbm).trans hB)⟩
  refine (publish_ok hB3 rfl (by simp) (ys := [.int .i64 1, .int .i64 2]) (SlF.lit (S := fun _ => False) rfl id).sl rfl (by simp) (by simp)).k ?_
  rintro _ h4 ⟨rfl, hB4, f4⟩
  simp (disch := omega) only [dm_t, wS, simprocAttr, IntKind.bits]
  refine (bget_ok hB4.b rfl (by simp)).k ?_
  rintro _ h5 ⟨l, rfl, ho5, e5⟩
  obtain ⟨xa, xc, rfl⟩ := ho5.sl.len
  have hm5 : h5 m = some (markO 7) := e5.at (f4 _ _ ((Ext.new hla _).at hm3) hbm.symm)
  simp (disch := omega) only [dm_t, wS, simprocAttr, IntKind.bits]
  refine (get_ok hm5).k ?_
  rintro _ _ ⟨rfl, rfl⟩
  obtain ⟨p, g1, g2⟩ := ho5.sl.load (k := 1) (by simp) .i64
  have g1' : idxV1 1 (.slice xa 2 xc) (.int .i64 1) = _ := g1
  simp (disch := omega) only [dm_t, wS, simprocAttr, IntKind.bits, g1', g2, List.getElem_cons_succ, List.getElem_cons_zero]
  have hbn : h b = none := (Ext.new hm _).back hb fun _ h => h.elim
  refine Fr.own (S := fun y => y = m ∨ y = b) ?_ (by rintro y (rfl | rfl) <;> assumption)
  exact ((((e2.mono fun _ h => h.elim).trans (Fr.upd (.inl rfl) _)).trans (Fr.new hla _)).trans (f4.mono fun _ h => .inr h)).trans (e5.mono fun _ h => h.elim)

theorem known_k {h : H} {K : Value → H → Prop} {X : List PanicEntry → H → Prop} (hk : ∀ h', Ext h h' → K (.bool true) h') : callK PX 8 #[] h K X :=
  (known_ok h).k fun _ h' ⟨hv, he⟩ => by subst hv; exact hk h' he

end Go.Proofs.Ytojhnclkhiffkaa.mk
