/-
  Numbers as bytes, the lowest first; plain laws.
-/
import Derived.Test.YthhofmjhnjkcfaaK15
namespace Go.Proofs.Ythhofmjhnjkcfaa
set_option linter.unusedVariables false

/-- The n lowest bytes of a number. -/
def low : Nat → Nat → List UInt8
  | 0, _ => []
  | n + 1, x => UInt8.ofNat x :: low n (x / 256)
/-- The number of bytes. -/
def num : List UInt8 → Nat
  | [] => 0
  | b :: r => b.toNat + 256 * num r
theorem low_len (n x : Nat) : (low n x).length = n := by
  induction n generalizing x with
  | zero => rfl
  | succ n ih => simp [low, ih]
theorem low_succ (n x : Nat) : low (n + 1) x = low n x ++ [UInt8.ofNat (x / 256 ^ n)] := by
  induction n generalizing x with
  | zero => simp [low]
  | succ n ih =>
    rw [low, ih, low, List.cons_append, Nat.div_div_eq_div_mul, Nat.pow_succ, Nat.mul_comm 256]
theorem num_append (a b : List UInt8) : num (a ++ b) = num a + 256 ^ a.length * num b := by
  induction a with
  | nil => simp [num]
  | cons x t ih =>
    simp only [List.cons_append, num, ih, List.length_cons, Nat.pow_succ]
    rw [Nat.mul_add, ← Nat.mul_assoc, Nat.mul_comm 256 (256 ^ t.length)]; omega
theorem num_lt (l : List UInt8) : num l < 256 ^ l.length := by
  induction l with
  | nil => simp [num]
  | cons b t ih =>
    have := b.toNat_lt
    simp only [num, List.length_cons, Nat.pow_succ]
    omega
theorem num_low (n x : Nat) : num (low n x) = x % 256 ^ n := by
  induction n generalizing x with
  | zero => simp [low, num, Nat.mod_one]
  | succ n ih =>
    have h : (UInt8.ofNat x).toNat = x % 256 := by simp
    simp only [low, num, ih, h]
    rw [Nat.pow_succ, Nat.mul_comm (256 ^ n) 256, Nat.mod_mul]
theorem low_num (l : List UInt8) : low l.length (num l) = l := by
  induction l with
  | nil => rfl
  | cons b t ih =>
    have hb := b.toNat_lt
    simp only [List.length_cons, low, num]
    rw [show (b.toNat + 256 * num t) / 256 = num t by omega, ih]
    congr 1
    apply UInt8.toNat_inj.1
    simp only [UInt8.toNat_ofNat']
    omega
theorem num_inj {a b : List UInt8} (hl : a.length = b.length) (h : num a = num b) : a = b := by
  rw [← low_num a, ← low_num b, hl, h]
theorem low_inj {n x y : Nat} (hx : x < 256 ^ n) (hy : y < 256 ^ n) (h : low n x = low n y) : x = y := by
  have := congrArg num h
  rwa [num_low, num_low, Nat.mod_eq_of_lt hx, Nat.mod_eq_of_lt hy] at this
theorem wrap8 (x : Int) : IntKind.u8.wrap x = x % 256 := by
  simp only [IntKind.wrap, IntKind.bits, IntKind.signed, Bool.false_and, Bool.false_eq_true, if_false]
  rfl
theorem wrap16 (x : Int) : IntKind.u16.wrap x = x % 65536 := by
  simp only [IntKind.wrap, IntKind.bits, IntKind.signed, Bool.false_and, Bool.false_eq_true, if_false]
  rfl
theorem wrap32 (x : Int) : IntKind.u32.wrap x = x % 4294967296 := by
  simp only [IntKind.wrap, IntKind.bits, IntKind.signed, Bool.false_and, Bool.false_eq_true, if_false]
  rfl
theorem wrap64u (x : Int) : IntKind.u64.wrap x = x % 18446744073709551616 := by
  simp only [IntKind.wrap, IntKind.bits, IntKind.signed, Bool.false_and, Bool.false_eq_true, if_false]
  rfl
theorem wrap64i (x : Int) : IntKind.i64.wrap x = if x % 18446744073709551616 < 9223372036854775808 then x % 18446744073709551616 else x % 18446744073709551616 - 18446744073709551616 := by
  simp only [IntKind.wrap, IntKind.bits, IntKind.signed, Bool.true_and, ge_iff_le, decide_eq_true_eq]
  split <;> split <;> omega
/-- A byte as the number that a conversion yields. -/
theorem byte_of (x : Nat) : ((x : Int) % 256) = ((UInt8.ofNat x).toNat : Int) := by
  simp only [UInt8.toNat_ofNat']; omega
theorem byte_nat (x : Nat) : UInt8.ofNat (x % 256) = UInt8.ofNat x := by
  apply UInt8.toNat_inj.1; simp
/-- The bits of a shifted number and a byte. -/
theorem or_byte (x b : Nat) (hb : b < 256) (hx : x < 256 ^ 7) : (BitVec.ofInt 64 ((x : Int) * 256) ||| BitVec.ofInt 64 (b : Int)).toNat = b + 256 * x := by
  have h2 : (BitVec.ofInt 64 ((x : Int) * 256) ||| BitVec.ofInt 64 (b : Int)).toNat = (BitVec.ofNat 64 (x * 256) ||| BitVec.ofNat 64 b).toNat := by
    rw [show (x : Int) * 256 = ((x * 256 : Nat) : Int) by omega]; rfl
  rw [h2, BitVec.toNat_or, BitVec.toNat_ofNat, BitVec.toNat_ofNat, Nat.mod_eq_of_lt (by omega), Nat.mod_eq_of_lt (by omega)]
  have h3 : x * 2 ^ 8 ||| b = 256 * x + b := by
    rw [← Nat.shiftLeft_eq, ← Nat.shiftLeft_add_eq_or_of_lt (by omega), Nat.shiftLeft_eq]; omega
  have h4 : x * 256 ||| b = 256 * x + b := h3
  rw [h4]; omega
end Go.Proofs.Ythhofmjhnjkcfaa
