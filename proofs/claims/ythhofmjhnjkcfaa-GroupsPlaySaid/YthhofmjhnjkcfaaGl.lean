/-
  groups: places compared; All; the law's works.
-/
import Derived.Test.YthhofmjhnjkcfaaGk
namespace Go.Proofs.Ythhofmjhnjkcfaa.gr
open Go.Proofs.Ythhofmjhnjkcfaa wi
set_option linter.unusedVariables false
set_option linter.unusedSimpArgs false
theorem run_eqPl (d : Nat) (x y : Pl) (w : World) : (Op.equalIn (d + 2) 23 (.agg (pCs x).toArray) (.agg (pCs y).toArray)).run Try.prog w = .ok (decide (x = y)) w := by
  obtain ⟨a, m, o, t⟩ := x
  obtain ⟨b, n, p, u⟩ := y
  have hr := run_underlying Try.underlying23 w
  have hs : Try.prog.stoodInHeld 23 = false := by kernel_rfl
  have p1 := fun (x : Pl) (w : World) => partV (P := Try.prog) (w := w) (cs := (pCs x).toArray) (o := 0) (v := sv x.1) Try.underlying9 rfl rfl
  have p2 := fun (x : Pl) (w : World) => partV (P := Try.prog) (w := w) (cs := (pCs x).toArray) (o := 1) (v := .int .i64 x.2.1) Try.underlying3 rfl rfl
  have p3 := fun (x : Pl) (w : World) => partV (P := Try.prog) (w := w) (cs := (pCs x).toArray) (o := 2) (v := .int .i64 x.2.2.1) Try.underlying2 rfl rfl
  have p4 := fun (x : Pl) (w : World) => partV (P := Try.prog) (w := w) (cs := (pCs x).toArray) (o := 3) (v := .int .i64 x.2.2.2) Try.underlying2 rfl rfl
  have q1 := fun w => run_eqStr d ⟨a.toArray⟩ ⟨b.toArray⟩ w
  have q2 := fun w => run_eqI (P := Try.prog) (w := w) (k' := .i64) (a := m) (b := n) d Try.underlying3
  have q3 := fun w => run_eqI (P := Try.prog) (w := w) (k' := .i64) (a := o) (b := p) d Try.underlying2
  have q4 := fun w => run_eqI (P := Try.prog) (w := w) (k' := .i64) (a := t) (b := u) d Try.underlying2
  have hx : decide ((a, m, o, t) = (b, n, p, u)) = (decide (a = b) && (m == n) && (o == p) && (t == u)) := by
    rw [Bool.eq_iff_iff]
    simp only [Bool.and_eq_true, decide_eq_true_eq, beq_iff_eq, Prod.mk.injEq]
    constructor
    · rintro ⟨h1, h2, h3, h4⟩; exact ⟨⟨⟨h1, h2⟩, h3⟩, h4⟩
    · rintro ⟨⟨⟨h1, h2⟩, h3⟩, h4⟩; exact ⟨h1, h2, h3, h4⟩
  rw [hx, ← str_beq]
  have p1a := p1 (a, m, o, t)
  have p1b := p1 (b, n, p, u)
  have p2a := p2 (a, m, o, t)
  have p2b := p2 (b, n, p, u)
  have p3a := p3 (a, m, o, t)
  have p3b := p3 (b, n, p, u)
  have p4a := p4 (a, m, o, t)
  have p4b := p4 (b, n, p, u)
  unfold Op.equalIn
  generalize hab : ((⟨a.toArray⟩ : ByteArray) == ⟨b.toArray⟩) = ab at q1 ⊢
  generalize hmn : (m == n) = mn at q2 ⊢
  generalize hop : (o == p) = op at q3 ⊢
  generalize htu : (t == u) = tu at q4 ⊢
  generalize (pCs (a, m, o, t)).toArray = A at *
  generalize (pCs (b, n, p, u)).toArray = B at *
  cases ab <;> cases mn <;> cases op <;> cases tu <;> simp [hr, hs, p1a, p1b, p2a, p2b, p3a, p3b, p4a, p4b, q1, q2, q3, q4]
section
variable {e : Env} {h : H} {V : Value → H → Prop} {X : List PanicEntry → H → Prop} {d : Option Nat}
theorem eqg : Try.prog.eqGuardType Try.prog.depth 23 = false := by kernel_rfl
theorem raw_eqPl {x y : Operand} {ty yt : TypeId} {a b : Pl} (hx : ev e x = some (.agg (pCs a).toArray)) (hy : ev e y = some (.agg (pCs b).toArray)) (hk : V (.bool (decide (a = b))) h) :
    lM Try.prog (.raw ⟨d, .binOp .eql 23 x y yt, ty, "", #[], none⟩) e h V X := by
  intro ac w ha hw
  have h1 := ev_sound ha hx
  have h2 := ev_sound ha hy
  have hq : (Op.equal 23 (.agg (pCs a).toArray) (.agg (pCs b).toArray)).run Try.prog w = .ok (decide (a = b)) w := run_eqPl 9998 a b w
  refine ⟨_, w, .inl ?_, Kin.refl w, by rw [hw]; exact hk⟩
  unfold execOp
  simp only [h1, h2]
  generalize (pCs a).toArray = A at *
  generalize (pCs b).toArray = B at *
  simp [eqGuard, binOp, hq, eqg]
theorem raw_nePl {x y : Operand} {ty yt : TypeId} {a b : Pl} (hx : ev e x = some (.agg (pCs a).toArray)) (hy : ev e y = some (.agg (pCs b).toArray)) (hk : V (.bool (!decide (a = b))) h) :
    lM Try.prog (.raw ⟨d, .binOp .neq 23 x y yt, ty, "", #[], none⟩) e h V X := by
  intro ac w ha hw
  have h1 := ev_sound ha hx
  have h2 := ev_sound ha hy
  have hq : (Op.equal 23 (.agg (pCs a).toArray) (.agg (pCs b).toArray)).run Try.prog w = .ok (decide (a = b)) w := run_eqPl 9998 a b w
  refine ⟨_, w, .inl ?_, Kin.refl w, by rw [hw]; exact hk⟩
  unfold execOp
  simp only [h1, h2]
  generalize (pCs a).toArray = A at *
  generalize (pCs b).toArray = B at *
  simp [eqGuard, binOp, hq, eqg]
end
end Go.Proofs.Ythhofmjhnjkcfaa.gr
