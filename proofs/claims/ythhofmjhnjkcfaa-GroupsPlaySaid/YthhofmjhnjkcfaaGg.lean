/-
  groups: a map of places.
-/
import Derived.Test.YthhofmjhnjkcfaaGf
namespace Go.Proofs.Ythhofmjhnjkcfaa.gr
open Go.Proofs.Ythhofmjhnjkcfaa wi
set_option linter.unusedVariables false
set_option linter.unusedSimpArgs false
abbrev Ky := List UInt8 × Int
abbrev enk (k : Ky) : Value := .agg #[sv k.1, .int .i64 k.2]
abbrev enx (x : Int × Int) : Value := .agg #[.int .i64 x.1, .int .i64 x.2]
theorem run_eqStr (d : Nat) (a b : ByteArray) (w : World) : (Op.equalIn (d + 1) 9 (.string a) (.string b)).run Try.prog w = .ok (a == b) w := by
  have hr := run_underlying Try.underlying9 w
  simp [Op.equalIn, hr]
theorem run_eqKey (d : Nat) (a b : ByteArray) (m n : Int) (w : World) : (Op.equalIn (d + 2) 98 (.agg #[.string a, .int .i64 m]) (.agg #[.string b, .int .i64 n])).run Try.prog w = .ok (a == b && m == n) w := by
  have hr := run_underlying Try.underlying98 w
  have hs : Try.prog.stoodInHeld 98 = false := by kernel_rfl
  have p1 := fun (s : ByteArray) (k : Int) (w : World) => partV (P := Try.prog) (w := w) (cs := #[.string s, .int .i64 k]) (o := 0) (v := .string s) Try.underlying9 rfl rfl
  have p2 := fun (s : ByteArray) (k : Int) (w : World) => partV (P := Try.prog) (w := w) (cs := #[.string s, .int .i64 k]) (o := 1) (v := .int .i64 k) Try.underlying3 rfl rfl
  have q1 := fun w => run_eqStr d a b w
  have q2 := fun w => run_eqI (P := Try.prog) (w := w) (k' := .i64) (a := m) (b := n) d Try.underlying3
  unfold Op.equalIn
  generalize hab : (a == b) = ab at q1 ⊢
  generalize hmn : (m == n) = mn at q2 ⊢
  cases ab <;> cases mn <;> simp [hr, hs, p1, p2, q1, q2]
theorem str_beq (a b : List UInt8) : ((⟨a.toArray⟩ : ByteArray) == ⟨b.toArray⟩) = decide (a = b) := by
  have h0 : ((⟨a.toArray⟩ : ByteArray) == ⟨b.toArray⟩) = (a.toArray == b.toArray) := rfl
  rw [h0]
  by_cases h : a = b
  · subst h; simp
  · rw [decide_eq_false h, beq_eq_false_iff_ne]
    intro h2
    exact h (by simpa using h2)
theorem chk_str (b : Bool) (d : Nat) (s : ByteArray) (w : World) : (Instr.checkKey b (d + 1) 9 (.string s)).run Try.prog w = .ok () w := by
  have hr := run_underlying Try.underlying9 w
  simp [Instr.checkKey, hr]
theorem chk_int (b : Bool) (d : Nat) (k : IntKind) (n : Int) (w : World) : (Instr.checkKey b (d + 1) 3 (.int k n)).run Try.prog w = .ok () w := by
  have hr := run_underlying Try.underlying3 w
  simp [Instr.checkKey, hr]
theorem chk_at (b : Bool) (d : Nat) (x : Ky) (w : World) : (Instr.checkKey b (d + 1 + 1) 98 (enk x)).run Try.prog w = .ok () w := by
  have hr := run_underlying Try.underlying98 w
  have p1 := partV (P := Try.prog) (w := w) (cs := #[sv x.1, .int .i64 x.2]) (o := 0) (v := sv x.1) Try.underlying9 rfl rfl
  have p2 := partV (P := Try.prog) (w := w) (cs := #[sv x.1, .int .i64 x.2]) (o := 1) (v := .int .i64 x.2) Try.underlying3 rfl rfl
  have q1 := chk_str b d ⟨x.1.toArray⟩ w
  have q2 := chk_int b d .i64 x.2 w
  unfold Instr.checkKey
  simp [hr, p1, p2, q1, q2]
theorem keyT : KeyT Try.prog 98 enk := by
  refine ⟨fun b x w => ?_, fun x y w => ?_, fun x y d hd => ?_, fun x => ?_, ⟨_, Try.underlying98⟩⟩
  · have hr := run_underlying Try.underlying98 w
    have p1 := partV (P := Try.prog) (w := w) (cs := #[sv x.1, .int .i64 x.2]) (o := 0) (v := sv x.1) Try.underlying9 rfl rfl
    have p2 := partV (P := Try.prog) (w := w) (cs := #[sv x.1, .int .i64 x.2]) (o := 1) (v := .int .i64 x.2) Try.underlying3 rfl rfl
    have hk := chk_at b 9998 x w
    exact hk
  · have := run_eqKey 9998 ⟨x.1.toArray⟩ ⟨y.1.toArray⟩ x.2 y.2 w
    show (Op.equalIn (9998 + 2) 98 _ _).run Try.prog w = _
    rw [this, str_beq]
    have hxy : (decide (x.1 = y.1) && x.2 == y.2) = decide (x = y) := by
      obtain ⟨a, m⟩ := x
      obtain ⟨b, n⟩ := y
      rw [Bool.eq_iff_iff]
      simp only [Bool.and_eq_true, decide_eq_true_eq, beq_iff_eq, Prod.mk.injEq]
    rw [hxy]
  · rw [Try.underlying98] at hd
    obtain rfl := Option.some.inj hd
    rfl
  · have h1 := str_beq x.1 x.1
    rw [decide_eq_true rfl] at h1
    have hb : ∀ d, Instr.sameBits (d + 1) (enk x) (enk x) = true := by
      intro d
      unfold Instr.sameBits
      simp [Instr.sameBits, h1]
    exact hb 9999
end Go.Proofs.Ythhofmjhnjkcfaa.gr
