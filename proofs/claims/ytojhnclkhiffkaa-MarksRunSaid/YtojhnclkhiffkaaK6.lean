/-
  Regions whose order the tape draws: one walk, in one order of the effects, serves every order.
-/
import Derived.Test.YtojhnclkhiffkaaK5
namespace Go.Proofs.Ytojhnclkhiffkaa
set_option linter.unusedVariables false

inductive HT where
  | done
  | q (i : Nat) (r : HT)
  | e (i : Nat) (Z : List Nat) (r : HT)
  | al (i : Nat) (Z : List Nat) (r t : HT)

section
variable {Pg : Program} {P : Cx Pg} {ops : Array Oper} {Q : Act → H → Prop}

/-- Operation 'o', taken in state a with h held: K of what follows. -/
def wpZ (P : Cx Pg) (o : Oper) (a : Act) (h : H) (K : Act → H → Prop) : Prop := Does P (execOp a.eval o) h fun v h' => K (a.put o.dst v) h'
/-- It reads this, and does nothing else, wherever 'h' is held. -/
def QY (Pg : Program) (o : Oper) (a : Act) (h : H) (v : Value) : Prop := ∀ w, Hol h w → (execOp a.eval o).run Pg w = .ok (.value v) w ∧ ∀ e ∈ (execOp a.eval o).events Pg w #[], EvO h e
theorem QY.does {o : Oper} {a : Act} {h : H} {v : Value} (hq : QY Pg o a h v) {K : Act → H → Prop} (hk : K (a.put o.dst v) h) : wpZ P o a h K :=
  does_of fun w hh => ⟨v, w, h, .inl (hq w hh).1, Fra.still hh rfl rfl rfl rfl (hq w hh).2, hk⟩
abbrev Sts := List (Nat × (H → Prop))
def stabW (Z : List Nat) (S : Sts) (h : H) : Prop := ∀ p ∈ S, p.1 ∈ Z → p.2 h

def wpT (P : Cx Pg) (ops : Array Oper) (Q : Act → H → Prop) : HT → Sts → Act → H → Prop
  | .done, _, a, w => Q a w
  | .q i r, S, a, w => ∃ o, ops[i]? = some o ∧ ((Region.wanted o (yielded ops a.tmps) = true ∧ ∃ v, QY Pg o a w v ∧ wpT P ops Q r ((i, fun w' => QY Pg o a w' v) :: S) (a.put o.dst v) w) ∨
      (Region.wanted o (yielded ops a.tmps) = false ∧ wpT P ops Q r S (a.put o.dst undef) w))
  | .e i Z r, S, a, w => ∃ o, ops[i]? = some o ∧ ((Region.wanted o (yielded ops a.tmps) = true ∧ wpZ P o a w (fun a' w' => stabW Z S w' ∧ wpT P ops Q r S a' w')) ∨
      (Region.wanted o (yielded ops a.tmps) = false ∧ wpT P ops Q r S (a.put o.dst undef) w))
  | .al i Z r t, S, a, w =>
    (∃ o, ops[i]? = some o ∧ ((Region.wanted o (yielded ops a.tmps) = true ∧ wpZ P o a w (fun a' w' => stabW Z S w' ∧ wpT P ops Q r S a' w')) ∨
      (Region.wanted o (yielded ops a.tmps) = false ∧ wpT P ops Q r S (a.put o.dst undef) w))) ∧ wpT P ops Q t S a w

theorem wpZ_mono {o : Oper} {a : Act} {w : H} {K K' : Act → H → Prop} (h : ∀ a w, K a w → K' a w) (hh : wpZ P o a w K) : wpZ P o a w K' := Does.mono hh fun v h' => h _ _
def Sle (S' S : Sts) : Prop := ∀ p' ∈ S', ∃ p ∈ S, p'.1 = p.1 ∧ ∀ w, p.2 w → p'.2 w
theorem Sle.stab {S' S : Sts} (h : Sle S' S) {Z : List Nat} {w : H} (hs : stabW Z S w) : stabW Z S' w := by
  intro p' hp' hz
  obtain ⟨p, hp, h1, h2⟩ := h p' hp'
  exact h2 w (hs p hp (h1 ▸ hz))
theorem Sle.cons {S' S : Sts} (h : Sle S' S) {i : Nat} {f g : H → Prop} (hfg : ∀ w, g w → f w) : Sle ((i, f) :: S') ((i, g) :: S) := by
  intro p' hp'
  rcases List.mem_cons.1 hp' with rfl | hp'
  · exact ⟨_, List.mem_cons_self, rfl, hfg⟩
  · obtain ⟨p, hp, h⟩ := h p' hp'
    exact ⟨p, List.mem_cons_of_mem _ hp, h⟩
theorem Sle.refl (S : Sts) : Sle S S := fun p hp => ⟨p, hp, rfl, fun _ h => h⟩

theorem wpT_mono : ∀ (t : HT) {S' S : Sts} {a : Act} {w : H}, Sle S' S → wpT P ops Q t S a w → wpT P ops Q t S' a w
  | .done, _, _, _, _, _, h => h
  | .q i r, S', S, a, w, hs, h => by
    obtain ⟨o, ho, h⟩ := h
    refine ⟨o, ho, ?_⟩
    rcases h with ⟨hw, v, hv, h⟩ | ⟨hw, h⟩
    · exact .inl ⟨hw, v, hv, wpT_mono r (hs.cons fun _ h => h) h⟩
    · exact .inr ⟨hw, wpT_mono r hs h⟩
  | .e i Z r, S', S, a, w, hs, h => by
    obtain ⟨o, ho, h⟩ := h
    refine ⟨o, ho, ?_⟩
    rcases h with ⟨hw, h⟩ | ⟨hw, h⟩
    · exact .inl ⟨hw, wpZ_mono (fun a' w' h => ⟨hs.stab h.1, wpT_mono r hs h.2⟩) h⟩
    · exact .inr ⟨hw, wpT_mono r hs h⟩
  | .al i Z r t, S', S, a, w, hs, h => by
    obtain ⟨⟨o, ho, h⟩, h'⟩ := h
    refine ⟨⟨o, ho, ?_⟩, wpT_mono t hs h'⟩
    rcases h with ⟨hw, h⟩ | ⟨hw, h⟩
    · exact .inl ⟨hw, wpZ_mono (fun a' w' h => ⟨hs.stab h.1, wpT_mono r hs h.2⟩) h⟩
    · exact .inr ⟨hw, wpT_mono r hs h⟩

def HT.pre : HT → List Nat
  | .q i r => i :: r.pre
  | _ => []
def HT.all : HT → List Nat
  | .done => []
  | .q i r => i :: r.all
  | .e i _ r => i :: r.all
  | .al i _ r _ => i :: r.all
def HT.del (x : Nat) : HT → HT
  | .q i r => if i = x then r else .q i (r.del x)
  | t => t
/-- What stands behind the leading readers, another tree in its place. -/
def HT.root : HT → HT
  | .q _ r => r.root
  | t => t
def HT.att (t : HT) (r : HT) : HT :=
  match t with
  | .q i t' => .q i (t'.att r)
  | _ => r

/-- 'x' and 'y' touch no slot in common. -/
def apartI (ops : Array Oper) (x y : Nat) : Prop := ∀ ox oy, ops[x]? = some ox → ops[y]? = some oy → ox.apart ops oy = true

def apB (ops : Array Oper) (i : Nat) : HT → Prop
  | .q j r => j = i ∨ (apartI ops j i ∧ apB ops i r)
  | _ => True
theorem apart_symm {x y : Oper} (h : x.apart ops y = true) : (∀ d, y.dst = some d → d ∉ x.looksAt ops) ∧ (∀ d, y.dst = some d → x.dst ≠ some d) ∧ (∀ d, x.dst = some d → d ∉ y.looksAt ops) := by
  obtain ⟨h1, h2, h3⟩ := Oper.apart_spec h
  exact ⟨h3, fun d hd he => h2 d he hd, h1⟩

variable (hsel : ∀ (j : Nat) (o : Oper) cs b, ops[j]? = some o → o.op ≠ .select cs b)
include hsel

theorem first_q {i : Nat} {oi : Oper} (hi : ops[i]? = some oi) : ∀ (t : HT) {S : Sts} {a : Act} {w : H}, i ∈ t.pre → apB ops i t → wpT P ops Q t S a w →
    (Region.wanted oi (yielded ops a.tmps) = true ∧ ∃ v, QY Pg oi a w v ∧ wpT P ops Q (t.del i) ((i, fun w' => QY Pg oi a w' v) :: S) (a.put oi.dst v) w) ∨
    (Region.wanted oi (yielded ops a.tmps) = false ∧ wpT P ops Q (t.del i) S (a.put oi.dst undef) w)
  | .q j r, S, a, w, hm, hap, h => by
    obtain ⟨oj, hj, h⟩ := h
    by_cases hji : j = i
    · subst hji
      have : oj = oi := Option.some.inj (hj.symm.trans hi)
      subst this
      simpa [HT.del] using h
    · have hmr : i ∈ r.pre := by
        rcases List.mem_cons.1 hm with h' | h'
        · exact absurd h'.symm hji
        · exact h'
      obtain ⟨hapj, hap'⟩ := hap.resolve_left hji
      obtain ⟨p1, p2, p3⟩ := Oper.apart_spec (hapj oj oi hj hi)
      have sj := fun cs b => hsel j oj cs b hj
      have si := fun cs b => hsel i oi cs b hi
      have hdel : (HT.q j r).del i = .q j (r.del i) := by simp [HT.del, hji]
      rw [hdel]
      -- facts on the two that touch nothing in common
      have ei : ∀ (a : Act) u, execOp (a.put oj.dst u).eval oi = execOp a.eval oi := fun a u => execOp_put oi si a oj.dst u p1
      have wi : ∀ (a : Act) u, Region.wanted oi (yielded ops (a.put oj.dst u).tmps) = Region.wanted oi (yielded ops a.tmps) := fun a u => wanted_put oi a oj.dst u p1
      have ej : ∀ (a : Act) u, execOp (a.put oi.dst u).eval oj = execOp a.eval oj := fun a u => execOp_put oj sj a oi.dst u p3
      have wj : ∀ (a : Act) u, Region.wanted oj (yielded ops (a.put oi.dst u).tmps) = Region.wanted oj (yielded ops a.tmps) := fun a u => wanted_put oj a oi.dst u p3
      have cm : ∀ (a : Act) u v, (a.put oj.dst u).put oi.dst v = (a.put oi.dst v).put oj.dst u := fun a u v => Act.put_comm a u v p2
      rcases h with ⟨hw, vj, hvj, h⟩ | ⟨hw, h⟩
      · rcases first_q hi r hmr hap' h with ⟨hw', v, hv, h'⟩ | ⟨hw', h'⟩
        · refine .inl ⟨by rw [← wi a vj]; exact hw', v, by unfold QY at *; rw [← ei a vj]; exact hv, oj, hj, .inl ⟨by rw [wj]; exact hw, vj, by unfold QY at *; rw [ej]; exact hvj, ?_⟩⟩
          rw [← cm]
          refine wpT_mono _ ?_ h'
          intro p hp
          rcases List.mem_cons.1 hp with rfl | hp
          · exact ⟨_, List.mem_cons_of_mem _ List.mem_cons_self, rfl, fun w' hq => by unfold QY at *; rw [ej]; exact hq⟩
          · rcases List.mem_cons.1 hp with rfl | hp
            · exact ⟨_, List.mem_cons_self, rfl, fun w' hq => by unfold QY at *; rw [← ei a vj]; exact hq⟩
            · exact ⟨p, List.mem_cons_of_mem _ (List.mem_cons_of_mem _ hp), rfl, fun _ h => h⟩
        · refine .inr ⟨by rw [← wi a vj]; exact hw', oj, hj, .inl ⟨by rw [wj]; exact hw, vj, by unfold QY at *; rw [ej]; exact hvj, ?_⟩⟩
          rw [← cm]
          refine wpT_mono _ (Sle.cons (Sle.refl S) fun w' hq => ?_) h'
          unfold QY at *; rw [ej]; exact hq
      · rcases first_q hi r hmr hap' h with ⟨hw', v, hv, h'⟩ | ⟨hw', h'⟩
        · refine .inl ⟨by rw [← wi a undef]; exact hw', v, by unfold QY at *; rw [← ei a undef]; exact hv, oj, hj, .inr ⟨by rw [wj]; exact hw, ?_⟩⟩
          rw [← cm]
          refine wpT_mono _ (Sle.cons (Sle.refl S) fun w' hq => ?_) h'
          unfold QY at *; rw [← ei a undef]; exact hq
        · refine .inr ⟨by rw [← wi a undef]; exact hw', oj, hj, .inr ⟨by rw [wj]; exact hw, ?_⟩⟩
          rw [← cm]
          exact h'
  | .done, _, _, _, hm, _, _ => by cases hm
  | .e .., _, _, _, hm, _, _ => by cases hm
  | .al .., _, _, _, hm, _, _ => by cases hm

omit hsel in
/-- An operation, carried out ahead of a slot's being written that it does not look at. -/
theorem wp_put {oj : Oper} (sj : ∀ cs b, oj.op ≠ .select cs b) {d : Option Tmp} {v : Value} (h1 : ∀ t, d = some t → t ∉ oj.looksAt ops) (h2 : ∀ t, d = some t → oj.dst ≠ some t)
    {K : Act → H → Prop} {a : Act} {w : H} (h : wpZ P oj (a.put d v) w K) :
    wpZ P oj a w (fun a' w' => (∃ u, a' = a.put oj.dst u) ∧ K (a'.put d v) w') := by
  unfold wpZ at *
  rw [execOp_put oj sj a d v h1] at h
  refine Does.mono h fun u h' hk => ⟨⟨u, rfl⟩, ?_⟩
  rw [← Act.put_comm a v u h2]; exact hk

/-- Is 'i' one of the effects at the root, with 'r' behind it? -/
def Hd (i : Nat) (Z : List Nat) (r : HT) : HT → Prop
  | .e j Zj rj => i = j ∧ Z = Zj ∧ r = rj
  | .al j Zj rj t => (i = j ∧ Z = Zj ∧ r = rj) ∨ Hd i Z r t
  | _ => False
/-- Is 'i' the next effect, behind the leading readers, with 'r' behind it? -/
def Nxt (i : Nat) (Z : List Nat) (r : HT) (t : HT) : Prop := Hd i Z r t.root

def preE (ops : Array Oper) (i : Nat) (Z : List Nat) : HT → Prop
  | .q j r => apartI ops j i ∧ j ∈ Z ∧ preE ops i Z r
  | _ => True

omit hsel in
theorem alt_e {i : Nat} {Z : List Nat} {r0 : HT} {oi : Oper} (hi : ops[i]? = some oi) : ∀ (t : HT) {S : Sts} {a : Act} {w : H}, Hd i Z r0 t → wpT P ops Q t S a w →
    (Region.wanted oi (yielded ops a.tmps) = true ∧ wpZ P oi a w (fun a' w' => stabW Z S w' ∧ wpT P ops Q r0 S a' w')) ∨
    (Region.wanted oi (yielded ops a.tmps) = false ∧ wpT P ops Q r0 S (a.put oi.dst undef) w)
  | .e k Zk rk, S, a, w, hn, h => by
    obtain ⟨rfl, rfl, rfl⟩ := hn
    obtain ⟨o, ho, h⟩ := h
    have : o = oi := Option.some.inj (ho.symm.trans hi)
    subst this
    exact h
  | .al k Zk rk t, S, a, w, hn, h => by
    obtain ⟨⟨o, ho, h⟩, h'⟩ := h
    rcases hn with ⟨rfl, rfl, rfl⟩ | hn
    · have : o = oi := Option.some.inj (ho.symm.trans hi)
      subst this
      exact h
    · exact alt_e hi t hn h'
  | .done, _, _, _, hn, _ => hn.elim
  | .q .., _, _, _, hn, _ => hn.elim
/-- What an operation of a region writes. -/
def DstOk (ops : Array Oper) (d : Option Nat) : Prop := ∃ (j : Nat) (o : Oper), ops[j]? = some o ∧ o.dst = d
theorem first_e {i : Nat} {Z : List Nat} {r0 : HT} {oi : Oper} (hi : ops[i]? = some oi) : ∀ (t : HT) {S : Sts} {a : Act} {w : H}, Nxt i Z r0 t → preE ops i Z t → wpT P ops Q t S a w →
    (Region.wanted oi (yielded ops a.tmps) = true ∧ wpZ P oi a w (fun a' w' => stabW Z S w' ∧ wpT P ops Q (t.att r0) S a' w')) ∨
    (Region.wanted oi (yielded ops a.tmps) = false ∧ wpT P ops Q (t.att r0) S (a.put oi.dst undef) w)
  | .q j r, S, a, w, hn, hp, h => by
    obtain ⟨oj, hj, h⟩ := h
    obtain ⟨hapj, hjz, hp⟩ := hp
    have hn' : Nxt i Z r0 r := hn
    obtain ⟨p1, p2, p3⟩ := Oper.apart_spec (hapj oj oi hj hi)
    have sj := fun cs b => hsel j oj cs b hj
    have si := fun cs b => hsel i oi cs b hi
    have wi : ∀ (a : Act) u, Region.wanted oi (yielded ops (a.put oj.dst u).tmps) = Region.wanted oi (yielded ops a.tmps) := fun a u => wanted_put oi a oj.dst u p1
    have ej : ∀ (a : Act) u, execOp (a.put oi.dst u).eval oj = execOp a.eval oj := fun a u => execOp_put oj sj a oi.dst u p3
    have wj : ∀ (a : Act) u, Region.wanted oj (yielded ops (a.put oi.dst u).tmps) = Region.wanted oj (yielded ops a.tmps) := fun a u => wanted_put oj a oi.dst u p3
    have cm : ∀ (a : Act) u v, (a.put oj.dst u).put oi.dst v = (a.put oi.dst v).put oj.dst u := fun a u v => Act.put_comm a u v p2
    rcases h with ⟨hw, vj, hvj, h⟩ | ⟨hw, h⟩
    · rcases first_e hi r hn' hp h with ⟨hw', h'⟩ | ⟨hw', h'⟩
      · refine .inl ⟨by rw [← wi a vj]; exact hw', ?_⟩
        refine wpZ_mono ?_ (wp_put (d := oj.dst) (v := vj) si p1 p2 h')
        rintro a' w' ⟨⟨u, ha'⟩, hst, hw''⟩
        have hself : QY Pg oj a w' vj := hst (j, fun w' => QY Pg oj a w' vj) List.mem_cons_self hjz
        have he : execOp a'.eval oj = execOp a.eval oj := by rw [ha', ej]
        refine ⟨fun p hp' hz => hst p (List.mem_cons_of_mem _ hp') hz, oj, hj, .inl ⟨?_, vj, ?_, ?_⟩⟩
        · rw [ha']; exact (wj a u).trans hw
        · unfold QY at *; rw [he]; exact hself
        · refine wpT_mono _ (Sle.cons (Sle.refl S) fun w'' hq => ?_) hw''
          unfold QY at *; rw [he]; exact hq
      · refine .inr ⟨by rw [← wi a vj]; exact hw', oj, hj, .inl ⟨by rw [wj]; exact hw, vj, by unfold QY at *; rw [ej]; exact hvj, ?_⟩⟩
        rw [← cm]
        refine wpT_mono _ (Sle.cons (Sle.refl S) fun w' hq => ?_) h'
        unfold QY at *; rw [ej]; exact hq
    · rcases first_e hi r hn' hp h with ⟨hw', h'⟩ | ⟨hw', h'⟩
      · refine .inl ⟨by rw [← wi a undef]; exact hw', ?_⟩
        refine wpZ_mono ?_ (wp_put (d := oj.dst) (v := undef) si p1 p2 h')
        rintro a' w' ⟨⟨u, ha'⟩, hst, hw''⟩
        refine ⟨hst, oj, hj, .inr ⟨?_, hw''⟩⟩
        rw [ha']; exact (wj a u).trans hw
      · refine .inr ⟨by rw [← wi a undef]; exact hw', oj, hj, .inr ⟨by rw [wj]; exact hw, ?_⟩⟩
        rw [← cm]; exact h'
  | .done, S, a, w, hn, hp, h => (show False from hn).elim
  | .e k Zk rk, S, a, w, hn, hp, h => alt_e hi (.e k Zk rk) hn h
  | .al k Zk rk t, S, a, w, hn, hp, h => alt_e hi (.al k Zk rk t) hn h
end
end Go.Proofs.Ytojhnclkhiffkaa
